/- semi's functions at all six semirings: own, Plus, Times, Star. (printed by gen_sem2.py) -/
import Derived.Test.YtbnhhmejlglbcaaMg36
namespace Go.Proofs.Ytbnhhmejlglbcaa
open Go.RowKit
set_option linter.unusedSimpArgs false
set_option linter.unusedVariables false

theorem clone_nilU (n c : Nat) (w : World) : Calls Try.prog 89 #[.slice none n c] w fun e w' => e = .returned (.slice none 0 0) ∧ w' = w := by
  have q22 : ∀ (w : World) (a : Option Addr) (n c n' c' : Nat), (binOp .eql 34 (.slice a n c) (.slice none n' c')).run Try.prog w = .ok (.bool a.isNone) w := fun w a n c n' c' => Lib.run_eql_slice_nil w _ _ a n c n' c' Try.underlying34
  go_enter Try.func89, Try.ntmps89
  go_wp2_with fail
  go_ret
  exact ⟨rfl, rfl⟩
set_option maxRecDepth 100000 in
/-- A number's digits in memory of its own. -/
theorem nr_clone (i : Bool) (a : Option Addr) (l c : Nat) (x : Option Nat) (w : World) (h : NR w (.agg #[.bool i, .slice a l c]) x) (hl : Sz x) :
    Calls Try.prog 89 #[.slice a l c] w fun e w' => ∃ a' c', e = .returned (.slice a' l c') ∧ NR w' (.agg #[.bool i, .slice a' l c']) x ∧ Frame [] w w' := by
  cases x with
  | none =>
    injection h with h
    simp at h
    obtain ⟨rfl, rfl, rfl, rfl⟩ := h
    exact (clone_nilU 0 0 w).mono fun e w' ⟨h1, h2⟩ => ⟨none, 0, h1, rfl, by rw [h2]; exact Frame.refl _ _⟩
  | some m =>
    obtain ⟨a0, c0, h1, h2⟩ := h
    injection h1 with h1
    simp at h1
    obtain ⟨rfl, rfl, rfl, rfl⟩ := h1
    refine (clone_dr a c (digs m) w h2 (by unfold Sz SZ at hl; omega)).mono ?_
    rintro e w' ⟨a', c', G, rfl, s, n, f⟩
    exact ⟨a', c', rfl, ⟨a', c', rfl, sl_dr s (digs_ok m)⟩, f⟩
theorem putV_frameB {w w1 : World} {b : Nat} (h : Frame [b] w w1) (a0 a1 a2 a3 a4 : Value) : Frame [b] w (((((w1.setCell ⟨b, 0, none⟩ a0).setCell ⟨b, 1, none⟩ a1).setCell ⟨b, 2, none⟩ a2).setCell ⟨b, 3, none⟩ a3).setCell ⟨b, 4, none⟩ a4) := by
  have st : ∀ {x : World} (f : Frame [b] w x) (i : Nat) (v : Value), Frame [b] w (x.setCell ⟨b, i, none⟩ v) := fun f i v => f.trans1 (Frame.setCell (S := [b]) _ _ _ (by simp))
  exact st (st (st (st (st h 0 a0) 1 a1) 2 a2) 3 a3) 4 a4
set_option maxRecDepth 100000 in
theorem own_1 (x : Option Nat) (i : Bool) (a : Option Addr) (l c : Nat) (w : World) (h : NR w (.agg #[.bool i, .slice a l c]) x) (hl : Sz x) : Calls Try.prog 70 #[.agg #[.int .i64 1, .bool i, .slice a l c, .int .i64 0, .float .f64 0]] w (WEnd (IsN 1) x w) := by
  have hst := fun (w : World) (a : Addr) (q : Nat) (m : Mode) => run_store Try.prog w a (.float .f64 q) m rfl
  have NC := Lib.hid (fun w' (f : Frame [] w w') => nr_clone i a l c x w' (h.frame f) hl)
  clear h
  have B0 := Lib.hid ((Blk.new w 39 #[.int .i64 1, .bool i, .slice a l c, .int .i64 0, .float .f64 0]).alloc (.cells #[.int .i64 0, .bool false, .slice none 0 0, .int .i64 0, .float .f64 0] 39))
  have B1 := Blk.new (w.alloc (.cells #[.int .i64 1, .bool i, .slice a l c, .int .i64 0, .float .f64 0] 39)) 39 #[.int .i64 0, .bool false, .slice none 0 0, .int .i64 0, .float .f64 0]
  simp only [World.size_alloc] at B1
  have B1 := Lib.hid B1
  have F0 : Hid (Frame [] w ((w.alloc (.cells #[.int .i64 1, .bool i, .slice a l c, .int .i64 0, .float .f64 0] 39)).alloc (.cells #[.int .i64 0, .bool false, .slice none 0 0, .int .i64 0, .float .f64 0] 39))) := by show Frame [] w _; (repeat first | assumption | exact Frame.refl _ _ | refine Frame.trans1 ?_ (Frame.alloc _ _ _) | refine Frame.trans1 ?_ (Frame.drew _ _) | refine Frame.trans1 ?_ (Frame.drewN _ _ _))
  go_enter Try.func70, Try.ntmps70
  go_upto_region 1 with fail
  generalize (w.alloc (.cells #[.int .i64 1, .bool i, .slice a l c, .int .i64 0, .float .f64 0] 39)).alloc (.cells #[.int .i64 0, .bool false, .slice none 0 0, .int .i64 0, .float .f64 0] 39) = w1 at *
  obtain ⟨b2, hb2⟩ : ∃ b2, w.heap.size + 1 = b2 := ⟨_, rfl⟩
  rw [hb2] at B1 ⊢
  obtain ⟨b1, hb1⟩ : ∃ b1, w.heap.size = b1 := ⟨_, rfl⟩
  rw [hb1] at B0 ⊢
  have hne : b1 ≠ b2 := by omega
  have hbw : w.heap.size ≤ b2 := by omega
  have x0 := B0.out.at 0 rfl
  go_wp2_with fail
  refine (isNat_1 _).mono ?_
  rintro e w2 ⟨rfl, rfl⟩
  have g0 : ∀ w', Frame [b2] w2 w' → w'.cell? ⟨b1, 0, none⟩ = some (.int .i64 1) := fun w' f => f.cell (B0.out.at 0 rfl) (by simpa using hne)
  have g1 : ∀ w', Frame [b2] w2 w' → w'.cell? ⟨b1, 1, none⟩ = some (.bool i) := fun w' f => f.cell (B0.out.at 1 rfl) (by simpa using hne)
  have g2 : ∀ w', Frame [b2] w2 w' → w'.cell? ⟨b1, 2, none⟩ = some (.slice a l c) := fun w' f => f.cell (B0.out.at 2 rfl) (by simpa using hne)
  clear x0
  have S0 : Frame [b2] w2 w2.drew := Frame.drew _ _
  go_wp2_with fail
  refine wp_region_held_drew (S := fun w' => Frame [b2] w2 w') (by kernel_rfl) (by exact S0) ?_
  intro hS
  refine wpAnyH_take (i := 0) (oi := ⟨some 7, _, _, _, _, _⟩) (v := ?_) rfl (by kernel_rfl) (by kernel_rfl) (by kernel_rfl) (fun _ _ _ h => h) (Or.inl ⟨by rfl, ?_⟩) hS ?_
  rotate_left
  · intro w hSw
    go_simp <;> with_reducible rfl
  try simp only [Act.put, List.setIfInBounds_toArray, List.set_cons_zero, List.set_cons_succ]
  refine wpAnyH_take (i := 1) (oi := ⟨some 8, _, _, _, _, _⟩) (v := ?_) rfl (by kernel_rfl) (by kernel_rfl) (by kernel_rfl) (fun _ _ _ h => h) (Or.inl ⟨by rfl, ?_⟩) hS ?_
  rotate_left
  · intro w hSw
    have hm := g0 w hSw
    go_simp <;> with_reducible rfl
  try simp only [Act.put, List.setIfInBounds_toArray, List.set_cons_zero, List.set_cons_succ]
  refine wpAnyH_take (i := 2) (oi := ⟨some 9, _, _, _, _, _⟩) (v := ?_) rfl (by kernel_rfl) (by kernel_rfl) (by kernel_rfl) (fun _ _ _ h => h) (Or.inl ⟨by rfl, ?_⟩) hS ?_
  rotate_left
  · intro w hSw
    go_simp <;> with_reducible rfl
  try simp only [Act.put, List.setIfInBounds_toArray, List.set_cons_zero, List.set_cons_succ]
  refine wpAnyH_take (i := 3) (oi := ⟨some 10, _, _, _, _, _⟩) (v := ?_) rfl (by kernel_rfl) (by kernel_rfl) (by kernel_rfl) (fun _ _ _ h => h) (Or.inl ⟨by rfl, ?_⟩) hS ?_
  rotate_left
  · intro w hSw
    go_simp <;> with_reducible rfl
  try simp only [Act.put, List.setIfInBounds_toArray, List.set_cons_zero, List.set_cons_succ]
  refine wpAnyH_take (i := 4) (oi := ⟨some 11, _, _, _, _, _⟩) (v := ?_) rfl (by kernel_rfl) (by kernel_rfl) (by kernel_rfl) (fun _ _ _ h => h) (Or.inl ⟨by rfl, ?_⟩) hS ?_
  rotate_left
  · intro w hSw
    have hm := g1 w hSw
    go_simp <;> with_reducible rfl
  try simp only [Act.put, List.setIfInBounds_toArray, List.set_cons_zero, List.set_cons_succ]
  refine wpAnyH_take (i := 5) (oi := ⟨some 12, _, _, _, _, _⟩) (v := ?_) rfl (by kernel_rfl) (by kernel_rfl) (by kernel_rfl) (fun _ _ _ h => h) (Or.inl ⟨by rfl, ?_⟩) hS ?_
  rotate_left
  · intro w hSw
    go_simp <;> with_reducible rfl
  try simp only [Act.put, List.setIfInBounds_toArray, List.set_cons_zero, List.set_cons_succ]
  refine wpAnyH_take (i := 6) (oi := ⟨some 13, _, _, _, _, _⟩) (v := ?_) rfl (by kernel_rfl) (by kernel_rfl) (by kernel_rfl) (fun _ _ _ h => h) (Or.inl ⟨by rfl, ?_⟩) hS ?_
  rotate_left
  · intro w hSw
    go_simp <;> with_reducible rfl
  try simp only [Act.put, List.setIfInBounds_toArray, List.set_cons_zero, List.set_cons_succ]
  refine wpAnyH_take (i := 7) (oi := ⟨some 14, _, _, _, _, _⟩) (v := ?_) rfl (by kernel_rfl) (by kernel_rfl) (by kernel_rfl) (fun _ _ _ h => h) (Or.inl ⟨by rfl, ?_⟩) hS ?_
  rotate_left
  · intro w hSw
    have hm := g2 w hSw
    go_simp <;> with_reducible rfl
  try simp only [Act.put, List.setIfInBounds_toArray, List.set_cons_zero, List.set_cons_succ]
  refine wpAnyH_ready (rs := [8]) (by kernel_rfl) (by simp) ?_
  refine AllReadyH.cons (o := ⟨some 15, _, _, _, _, _⟩) rfl (fun K hK => ?_) AllReadyH.nil
  go_simp
  refine (NC.out _ (F0.out.trans1 (show Frame [] w2 _ from by (repeat first | assumption | exact Frame.refl _ _ | refine Frame.trans1 ?_ (Frame.alloc _ _ _) | refine Frame.trans1 ?_ (Frame.drew _ _) | refine Frame.trans1 ?_ (Frame.drewN _ _ _))))).mono ?_
  rintro e w5 ⟨a', c', rfl, nv, f5⟩
  have E5 : Frame [] w2 w5 := (show Frame [] w2 _ from by (repeat first | assumption | exact Frame.refl _ _ | refine Frame.trans1 ?_ (Frame.alloc _ _ _) | refine Frame.trans1 ?_ (Frame.drew _ _) | refine Frame.trans1 ?_ (Frame.drewN _ _ _))).trans1 f5
  have BX := B1.out.frame E5 (by simp)
  have NV := Lib.hid nv
  have FE := Lib.hid (F0.out.trans1 E5)
  clear nv f5
  refine hK.out _ _ (E5.mono (by simp)) (fun hS => ?_)
  clear hK K
  try simp only [Act.put, List.setIfInBounds_toArray, List.set_cons_zero, List.set_cons_succ]
  refine wpAnyH_take (i := 9) (oi := ⟨some 16, _, _, _, _, _⟩) (v := ?_) rfl (by kernel_rfl) (by kernel_rfl) (by kernel_rfl) (fun _ _ _ h => h) (Or.inl ⟨by rfl, ?_⟩) hS ?_
  rotate_left
  · intro w hSw
    go_simp <;> with_reducible rfl
  try simp only [Act.put, List.setIfInBounds_toArray, List.set_cons_zero, List.set_cons_succ]
  refine wpAnyH_take (i := 10) (oi := ⟨some 17, _, _, _, _, _⟩) (v := ?_) rfl (by kernel_rfl) (by kernel_rfl) (by kernel_rfl) (fun _ _ _ h => h) (Or.inl ⟨by rfl, ?_⟩) hS ?_
  rotate_left
  · intro w hSw
    go_simp <;> with_reducible rfl
  try simp only [Act.put, List.setIfInBounds_toArray, List.set_cons_zero, List.set_cons_succ]
  have y0 := BX.at 0 rfl
  have y1 := BX.at 1 rfl
  have y2 := BX.at 2 rfl
  have y3 := BX.at 3 rfl
  have y4 := BX.at 4 rfl
  have zf := BX.frozen
  have B5 := Lib.hid (putV BX (.int .i64 1) (.bool i) (.slice a' l c') (.int .i64 0) (.float .f64 0))
  have F5 := Lib.hid (putV_frame (w := w) (b := b2) (by omega) FE.out (.int .i64 1) (.bool i) (.slice a' l c') (.int .i64 0) (.float .f64 0))
  have KD := Lib.hid (putV_keep BX (.int .i64 1) (.bool i) (.slice a' l c') (.int .i64 0) (.float .f64 0))
  refine wpAnyH_ready (rs := [11]) (by kernel_rfl) (by simp) ?_
  refine AllReadyH.cons (o := ⟨none, _, _, _, _, _⟩) rfl (fun K hK => ?_) AllReadyH.nil
  go_simp
  refine hK.out _ _ (putV_frameB (E5.mono (by simp)) _ _ _ _ _) (fun hS => ?_)
  clear hK K
  refine wpAnyH_done (by kernel_rfl) ?_ _
  have NW := Lib.hid (NV.out.kept KD.out)
  go_wp2_with fail
  refine bodyPost_ret (results_val1 rfl _ _ _ _ _ _ _ _ rfl B5.out) rfl ?_
  exact ⟨_, rfl, ⟨_, _, _, _, rfl, NW.out⟩, F5.out⟩
set_option maxRecDepth 100000 in
theorem own_2 (x : Int) (w : World) (h0 : 0 ≤ x) (h1 : x ≤ lTop 2) : Calls Try.prog 70 #[.agg #[.int .i64 2, .bool false, .slice none 0 0, .int .i64 x, .float .f64 0]] w (WEnd (IsL 2) x w) := by
  have hst := fun (w : World) (a : Addr) (q : Nat) (m : Mode) => run_store Try.prog w a (.float .f64 q) m rfl
  have B0 := Lib.hid ((Blk.new w 39 #[.int .i64 2, .bool false, .slice none 0 0, .int .i64 x, .float .f64 0]).alloc (.cells #[.int .i64 0, .bool false, .slice none 0 0, .int .i64 0, .float .f64 0] 39))
  have B1 := Blk.new (w.alloc (.cells #[.int .i64 2, .bool false, .slice none 0 0, .int .i64 x, .float .f64 0] 39)) 39 #[.int .i64 0, .bool false, .slice none 0 0, .int .i64 0, .float .f64 0]
  simp only [World.size_alloc] at B1
  have B1 := Lib.hid B1
  have F0 : Hid (Frame [] w ((w.alloc (.cells #[.int .i64 2, .bool false, .slice none 0 0, .int .i64 x, .float .f64 0] 39)).alloc (.cells #[.int .i64 0, .bool false, .slice none 0 0, .int .i64 0, .float .f64 0] 39))) := by show Frame [] w _; (repeat first | assumption | exact Frame.refl _ _ | refine Frame.trans1 ?_ (Frame.alloc _ _ _) | refine Frame.trans1 ?_ (Frame.drew _ _) | refine Frame.trans1 ?_ (Frame.drewN _ _ _))
  go_enter Try.func70, Try.ntmps70
  go_upto_region 1 with fail
  generalize (w.alloc (.cells #[.int .i64 2, .bool false, .slice none 0 0, .int .i64 x, .float .f64 0] 39)).alloc (.cells #[.int .i64 0, .bool false, .slice none 0 0, .int .i64 0, .float .f64 0] 39) = w1 at *
  obtain ⟨b2, hb2⟩ : ∃ b2, w.heap.size + 1 = b2 := ⟨_, rfl⟩
  rw [hb2] at B1 ⊢
  obtain ⟨b1, hb1⟩ : ∃ b1, w.heap.size = b1 := ⟨_, rfl⟩
  rw [hb1] at B0 ⊢
  have hne : b1 ≠ b2 := by omega
  have hbw : w.heap.size ≤ b2 := by omega
  have x0 := B0.out.at 0 rfl
  have x3 := B0.out.at 3 rfl
  go_wp2_with fail
  refine (isNat_2 _).mono ?_
  rintro e w2 ⟨rfl, rfl⟩
  go_wp2_with fail
  refine (isLevel_2 _).mono ?_
  rintro e w2 ⟨rfl, rfl⟩
  have y0 := B1.out.at 0 rfl
  have y1 := B1.out.at 1 rfl
  have y2 := B1.out.at 2 rfl
  have y3 := B1.out.at 3 rfl
  have y4 := B1.out.at 4 rfl
  have zf := B1.out.frozen
  have B5 := Lib.hid (putV B1.out (.int .i64 2) (.bool false) (.slice none 0 0) (.int .i64 x) (.float .f64 0))
  have F5 := Lib.hid (putV_frame (w := w) (b := b2) (by omega) F0.out (.int .i64 2) (.bool false) (.slice none 0 0) (.int .i64 x) (.float .f64 0))
  have KD := Lib.hid (putV_keep B1.out (.int .i64 2) (.bool false) (.slice none 0 0) (.int .i64 x) (.float .f64 0))
  go_wp2_with fail
  refine bodyPost_ret (results_val1 rfl _ _ _ _ _ _ _ _ rfl B5.out) rfl ?_
  exact ⟨_, rfl, ⟨rfl, h0, h1⟩, F5.out⟩
set_option maxRecDepth 100000 in
theorem own_3 (x : Option Nat) (i : Bool) (a : Option Addr) (l c : Nat) (w : World) (h : NR w (.agg #[.bool i, .slice a l c]) x) (hl : Sz x) : Calls Try.prog 70 #[.agg #[.int .i64 3, .bool i, .slice a l c, .int .i64 0, .float .f64 0]] w (WEnd (IsN 3) x w) := by
  have hst := fun (w : World) (a : Addr) (q : Nat) (m : Mode) => run_store Try.prog w a (.float .f64 q) m rfl
  have NC := Lib.hid (fun w' (f : Frame [] w w') => nr_clone i a l c x w' (h.frame f) hl)
  clear h
  have B0 := Lib.hid ((Blk.new w 39 #[.int .i64 3, .bool i, .slice a l c, .int .i64 0, .float .f64 0]).alloc (.cells #[.int .i64 0, .bool false, .slice none 0 0, .int .i64 0, .float .f64 0] 39))
  have B1 := Blk.new (w.alloc (.cells #[.int .i64 3, .bool i, .slice a l c, .int .i64 0, .float .f64 0] 39)) 39 #[.int .i64 0, .bool false, .slice none 0 0, .int .i64 0, .float .f64 0]
  simp only [World.size_alloc] at B1
  have B1 := Lib.hid B1
  have F0 : Hid (Frame [] w ((w.alloc (.cells #[.int .i64 3, .bool i, .slice a l c, .int .i64 0, .float .f64 0] 39)).alloc (.cells #[.int .i64 0, .bool false, .slice none 0 0, .int .i64 0, .float .f64 0] 39))) := by show Frame [] w _; (repeat first | assumption | exact Frame.refl _ _ | refine Frame.trans1 ?_ (Frame.alloc _ _ _) | refine Frame.trans1 ?_ (Frame.drew _ _) | refine Frame.trans1 ?_ (Frame.drewN _ _ _))
  go_enter Try.func70, Try.ntmps70
  go_upto_region 1 with fail
  generalize (w.alloc (.cells #[.int .i64 3, .bool i, .slice a l c, .int .i64 0, .float .f64 0] 39)).alloc (.cells #[.int .i64 0, .bool false, .slice none 0 0, .int .i64 0, .float .f64 0] 39) = w1 at *
  obtain ⟨b2, hb2⟩ : ∃ b2, w.heap.size + 1 = b2 := ⟨_, rfl⟩
  rw [hb2] at B1 ⊢
  obtain ⟨b1, hb1⟩ : ∃ b1, w.heap.size = b1 := ⟨_, rfl⟩
  rw [hb1] at B0 ⊢
  have hne : b1 ≠ b2 := by omega
  have hbw : w.heap.size ≤ b2 := by omega
  have x0 := B0.out.at 0 rfl
  go_wp2_with fail
  refine (isNat_3 _).mono ?_
  rintro e w2 ⟨rfl, rfl⟩
  have g0 : ∀ w', Frame [b2] w2 w' → w'.cell? ⟨b1, 0, none⟩ = some (.int .i64 3) := fun w' f => f.cell (B0.out.at 0 rfl) (by simpa using hne)
  have g1 : ∀ w', Frame [b2] w2 w' → w'.cell? ⟨b1, 1, none⟩ = some (.bool i) := fun w' f => f.cell (B0.out.at 1 rfl) (by simpa using hne)
  have g2 : ∀ w', Frame [b2] w2 w' → w'.cell? ⟨b1, 2, none⟩ = some (.slice a l c) := fun w' f => f.cell (B0.out.at 2 rfl) (by simpa using hne)
  clear x0
  have S0 : Frame [b2] w2 w2.drew := Frame.drew _ _
  go_wp2_with fail
  refine wp_region_held_drew (S := fun w' => Frame [b2] w2 w') (by kernel_rfl) (by exact S0) ?_
  intro hS
  refine wpAnyH_take (i := 0) (oi := ⟨some 7, _, _, _, _, _⟩) (v := ?_) rfl (by kernel_rfl) (by kernel_rfl) (by kernel_rfl) (fun _ _ _ h => h) (Or.inl ⟨by rfl, ?_⟩) hS ?_
  rotate_left
  · intro w hSw
    go_simp <;> with_reducible rfl
  try simp only [Act.put, List.setIfInBounds_toArray, List.set_cons_zero, List.set_cons_succ]
  refine wpAnyH_take (i := 1) (oi := ⟨some 8, _, _, _, _, _⟩) (v := ?_) rfl (by kernel_rfl) (by kernel_rfl) (by kernel_rfl) (fun _ _ _ h => h) (Or.inl ⟨by rfl, ?_⟩) hS ?_
  rotate_left
  · intro w hSw
    have hm := g0 w hSw
    go_simp <;> with_reducible rfl
  try simp only [Act.put, List.setIfInBounds_toArray, List.set_cons_zero, List.set_cons_succ]
  refine wpAnyH_take (i := 2) (oi := ⟨some 9, _, _, _, _, _⟩) (v := ?_) rfl (by kernel_rfl) (by kernel_rfl) (by kernel_rfl) (fun _ _ _ h => h) (Or.inl ⟨by rfl, ?_⟩) hS ?_
  rotate_left
  · intro w hSw
    go_simp <;> with_reducible rfl
  try simp only [Act.put, List.setIfInBounds_toArray, List.set_cons_zero, List.set_cons_succ]
  refine wpAnyH_take (i := 3) (oi := ⟨some 10, _, _, _, _, _⟩) (v := ?_) rfl (by kernel_rfl) (by kernel_rfl) (by kernel_rfl) (fun _ _ _ h => h) (Or.inl ⟨by rfl, ?_⟩) hS ?_
  rotate_left
  · intro w hSw
    go_simp <;> with_reducible rfl
  try simp only [Act.put, List.setIfInBounds_toArray, List.set_cons_zero, List.set_cons_succ]
  refine wpAnyH_take (i := 4) (oi := ⟨some 11, _, _, _, _, _⟩) (v := ?_) rfl (by kernel_rfl) (by kernel_rfl) (by kernel_rfl) (fun _ _ _ h => h) (Or.inl ⟨by rfl, ?_⟩) hS ?_
  rotate_left
  · intro w hSw
    have hm := g1 w hSw
    go_simp <;> with_reducible rfl
  try simp only [Act.put, List.setIfInBounds_toArray, List.set_cons_zero, List.set_cons_succ]
  refine wpAnyH_take (i := 5) (oi := ⟨some 12, _, _, _, _, _⟩) (v := ?_) rfl (by kernel_rfl) (by kernel_rfl) (by kernel_rfl) (fun _ _ _ h => h) (Or.inl ⟨by rfl, ?_⟩) hS ?_
  rotate_left
  · intro w hSw
    go_simp <;> with_reducible rfl
  try simp only [Act.put, List.setIfInBounds_toArray, List.set_cons_zero, List.set_cons_succ]
  refine wpAnyH_take (i := 6) (oi := ⟨some 13, _, _, _, _, _⟩) (v := ?_) rfl (by kernel_rfl) (by kernel_rfl) (by kernel_rfl) (fun _ _ _ h => h) (Or.inl ⟨by rfl, ?_⟩) hS ?_
  rotate_left
  · intro w hSw
    go_simp <;> with_reducible rfl
  try simp only [Act.put, List.setIfInBounds_toArray, List.set_cons_zero, List.set_cons_succ]
  refine wpAnyH_take (i := 7) (oi := ⟨some 14, _, _, _, _, _⟩) (v := ?_) rfl (by kernel_rfl) (by kernel_rfl) (by kernel_rfl) (fun _ _ _ h => h) (Or.inl ⟨by rfl, ?_⟩) hS ?_
  rotate_left
  · intro w hSw
    have hm := g2 w hSw
    go_simp <;> with_reducible rfl
  try simp only [Act.put, List.setIfInBounds_toArray, List.set_cons_zero, List.set_cons_succ]
  refine wpAnyH_ready (rs := [8]) (by kernel_rfl) (by simp) ?_
  refine AllReadyH.cons (o := ⟨some 15, _, _, _, _, _⟩) rfl (fun K hK => ?_) AllReadyH.nil
  go_simp
  refine (NC.out _ (F0.out.trans1 (show Frame [] w2 _ from by (repeat first | assumption | exact Frame.refl _ _ | refine Frame.trans1 ?_ (Frame.alloc _ _ _) | refine Frame.trans1 ?_ (Frame.drew _ _) | refine Frame.trans1 ?_ (Frame.drewN _ _ _))))).mono ?_
  rintro e w5 ⟨a', c', rfl, nv, f5⟩
  have E5 : Frame [] w2 w5 := (show Frame [] w2 _ from by (repeat first | assumption | exact Frame.refl _ _ | refine Frame.trans1 ?_ (Frame.alloc _ _ _) | refine Frame.trans1 ?_ (Frame.drew _ _) | refine Frame.trans1 ?_ (Frame.drewN _ _ _))).trans1 f5
  have BX := B1.out.frame E5 (by simp)
  have NV := Lib.hid nv
  have FE := Lib.hid (F0.out.trans1 E5)
  clear nv f5
  refine hK.out _ _ (E5.mono (by simp)) (fun hS => ?_)
  clear hK K
  try simp only [Act.put, List.setIfInBounds_toArray, List.set_cons_zero, List.set_cons_succ]
  refine wpAnyH_take (i := 9) (oi := ⟨some 16, _, _, _, _, _⟩) (v := ?_) rfl (by kernel_rfl) (by kernel_rfl) (by kernel_rfl) (fun _ _ _ h => h) (Or.inl ⟨by rfl, ?_⟩) hS ?_
  rotate_left
  · intro w hSw
    go_simp <;> with_reducible rfl
  try simp only [Act.put, List.setIfInBounds_toArray, List.set_cons_zero, List.set_cons_succ]
  refine wpAnyH_take (i := 10) (oi := ⟨some 17, _, _, _, _, _⟩) (v := ?_) rfl (by kernel_rfl) (by kernel_rfl) (by kernel_rfl) (fun _ _ _ h => h) (Or.inl ⟨by rfl, ?_⟩) hS ?_
  rotate_left
  · intro w hSw
    go_simp <;> with_reducible rfl
  try simp only [Act.put, List.setIfInBounds_toArray, List.set_cons_zero, List.set_cons_succ]
  have y0 := BX.at 0 rfl
  have y1 := BX.at 1 rfl
  have y2 := BX.at 2 rfl
  have y3 := BX.at 3 rfl
  have y4 := BX.at 4 rfl
  have zf := BX.frozen
  have B5 := Lib.hid (putV BX (.int .i64 3) (.bool i) (.slice a' l c') (.int .i64 0) (.float .f64 0))
  have F5 := Lib.hid (putV_frame (w := w) (b := b2) (by omega) FE.out (.int .i64 3) (.bool i) (.slice a' l c') (.int .i64 0) (.float .f64 0))
  have KD := Lib.hid (putV_keep BX (.int .i64 3) (.bool i) (.slice a' l c') (.int .i64 0) (.float .f64 0))
  refine wpAnyH_ready (rs := [11]) (by kernel_rfl) (by simp) ?_
  refine AllReadyH.cons (o := ⟨none, _, _, _, _, _⟩) rfl (fun K hK => ?_) AllReadyH.nil
  go_simp
  refine hK.out _ _ (putV_frameB (E5.mono (by simp)) _ _ _ _ _) (fun hS => ?_)
  clear hK K
  refine wpAnyH_done (by kernel_rfl) ?_ _
  have NW := Lib.hid (NV.out.kept KD.out)
  go_wp2_with fail
  refine bodyPost_ret (results_val1 rfl _ _ _ _ _ _ _ _ rfl B5.out) rfl ?_
  exact ⟨_, rfl, ⟨_, _, _, _, rfl, NW.out⟩, F5.out⟩
set_option maxRecDepth 100000 in
theorem own_4 (x : Int) (w : World) (h0 : 0 ≤ x) (h1 : x ≤ lTop 4) : Calls Try.prog 70 #[.agg #[.int .i64 4, .bool false, .slice none 0 0, .int .i64 x, .float .f64 0]] w (WEnd (IsL 4) x w) := by
  have hst := fun (w : World) (a : Addr) (q : Nat) (m : Mode) => run_store Try.prog w a (.float .f64 q) m rfl
  have B0 := Lib.hid ((Blk.new w 39 #[.int .i64 4, .bool false, .slice none 0 0, .int .i64 x, .float .f64 0]).alloc (.cells #[.int .i64 0, .bool false, .slice none 0 0, .int .i64 0, .float .f64 0] 39))
  have B1 := Blk.new (w.alloc (.cells #[.int .i64 4, .bool false, .slice none 0 0, .int .i64 x, .float .f64 0] 39)) 39 #[.int .i64 0, .bool false, .slice none 0 0, .int .i64 0, .float .f64 0]
  simp only [World.size_alloc] at B1
  have B1 := Lib.hid B1
  have F0 : Hid (Frame [] w ((w.alloc (.cells #[.int .i64 4, .bool false, .slice none 0 0, .int .i64 x, .float .f64 0] 39)).alloc (.cells #[.int .i64 0, .bool false, .slice none 0 0, .int .i64 0, .float .f64 0] 39))) := by show Frame [] w _; (repeat first | assumption | exact Frame.refl _ _ | refine Frame.trans1 ?_ (Frame.alloc _ _ _) | refine Frame.trans1 ?_ (Frame.drew _ _) | refine Frame.trans1 ?_ (Frame.drewN _ _ _))
  go_enter Try.func70, Try.ntmps70
  go_upto_region 1 with fail
  generalize (w.alloc (.cells #[.int .i64 4, .bool false, .slice none 0 0, .int .i64 x, .float .f64 0] 39)).alloc (.cells #[.int .i64 0, .bool false, .slice none 0 0, .int .i64 0, .float .f64 0] 39) = w1 at *
  obtain ⟨b2, hb2⟩ : ∃ b2, w.heap.size + 1 = b2 := ⟨_, rfl⟩
  rw [hb2] at B1 ⊢
  obtain ⟨b1, hb1⟩ : ∃ b1, w.heap.size = b1 := ⟨_, rfl⟩
  rw [hb1] at B0 ⊢
  have hne : b1 ≠ b2 := by omega
  have hbw : w.heap.size ≤ b2 := by omega
  have x0 := B0.out.at 0 rfl
  have x3 := B0.out.at 3 rfl
  go_wp2_with fail
  refine (isNat_4 _).mono ?_
  rintro e w2 ⟨rfl, rfl⟩
  go_wp2_with fail
  refine (isLevel_4 _).mono ?_
  rintro e w2 ⟨rfl, rfl⟩
  have y0 := B1.out.at 0 rfl
  have y1 := B1.out.at 1 rfl
  have y2 := B1.out.at 2 rfl
  have y3 := B1.out.at 3 rfl
  have y4 := B1.out.at 4 rfl
  have zf := B1.out.frozen
  have B5 := Lib.hid (putV B1.out (.int .i64 4) (.bool false) (.slice none 0 0) (.int .i64 x) (.float .f64 0))
  have F5 := Lib.hid (putV_frame (w := w) (b := b2) (by omega) F0.out (.int .i64 4) (.bool false) (.slice none 0 0) (.int .i64 x) (.float .f64 0))
  have KD := Lib.hid (putV_keep B1.out (.int .i64 4) (.bool false) (.slice none 0 0) (.int .i64 x) (.float .f64 0))
  go_wp2_with fail
  refine bodyPost_ret (results_val1 rfl _ _ _ _ _ _ _ _ rfl B5.out) rfl ?_
  exact ⟨_, rfl, ⟨rfl, h0, h1⟩, F5.out⟩
set_option maxRecDepth 100000 in
theorem own_5 (x : Nat) (w : World) (h : x ≤ fTop 5) : Calls Try.prog 70 #[.agg #[.int .i64 5, .bool false, .slice none 0 0, .int .i64 0, .float .f64 x]] w (WEnd (IsF 5) x w) := by
  have hst := fun (w : World) (a : Addr) (q : Nat) (m : Mode) => run_store Try.prog w a (.float .f64 q) m rfl
  have B0 := Lib.hid ((Blk.new w 39 #[.int .i64 5, .bool false, .slice none 0 0, .int .i64 0, .float .f64 x]).alloc (.cells #[.int .i64 0, .bool false, .slice none 0 0, .int .i64 0, .float .f64 0] 39))
  have B1 := Blk.new (w.alloc (.cells #[.int .i64 5, .bool false, .slice none 0 0, .int .i64 0, .float .f64 x] 39)) 39 #[.int .i64 0, .bool false, .slice none 0 0, .int .i64 0, .float .f64 0]
  simp only [World.size_alloc] at B1
  have B1 := Lib.hid B1
  have F0 : Hid (Frame [] w ((w.alloc (.cells #[.int .i64 5, .bool false, .slice none 0 0, .int .i64 0, .float .f64 x] 39)).alloc (.cells #[.int .i64 0, .bool false, .slice none 0 0, .int .i64 0, .float .f64 0] 39))) := by show Frame [] w _; (repeat first | assumption | exact Frame.refl _ _ | refine Frame.trans1 ?_ (Frame.alloc _ _ _) | refine Frame.trans1 ?_ (Frame.drew _ _) | refine Frame.trans1 ?_ (Frame.drewN _ _ _))
  go_enter Try.func70, Try.ntmps70
  go_upto_region 1 with fail
  generalize (w.alloc (.cells #[.int .i64 5, .bool false, .slice none 0 0, .int .i64 0, .float .f64 x] 39)).alloc (.cells #[.int .i64 0, .bool false, .slice none 0 0, .int .i64 0, .float .f64 0] 39) = w1 at *
  obtain ⟨b2, hb2⟩ : ∃ b2, w.heap.size + 1 = b2 := ⟨_, rfl⟩
  rw [hb2] at B1 ⊢
  obtain ⟨b1, hb1⟩ : ∃ b1, w.heap.size = b1 := ⟨_, rfl⟩
  rw [hb1] at B0 ⊢
  have hne : b1 ≠ b2 := by omega
  have hbw : w.heap.size ≤ b2 := by omega
  have x0 := B0.out.at 0 rfl
  have x4 := B0.out.at 4 rfl
  go_wp2_with fail
  refine (isNat_5 _).mono ?_
  rintro e w2 ⟨rfl, rfl⟩
  go_wp2_with fail
  refine (isLevel_5 _).mono ?_
  rintro e w2 ⟨rfl, rfl⟩
  have y0 := B1.out.at 0 rfl
  have y1 := B1.out.at 1 rfl
  have y2 := B1.out.at 2 rfl
  have y3 := B1.out.at 3 rfl
  have y4 := B1.out.at 4 rfl
  have zf := B1.out.frozen
  have B5 := Lib.hid (putV B1.out (.int .i64 5) (.bool false) (.slice none 0 0) (.int .i64 0) (.float .f64 x))
  have F5 := Lib.hid (putV_frame (w := w) (b := b2) (by omega) F0.out (.int .i64 5) (.bool false) (.slice none 0 0) (.int .i64 0) (.float .f64 x))
  have KD := Lib.hid (putV_keep B1.out (.int .i64 5) (.bool false) (.slice none 0 0) (.int .i64 0) (.float .f64 x))
  go_wp2_with fail
  refine bodyPost_ret (results_val1 rfl _ _ _ _ _ _ _ _ rfl B5.out) rfl ?_
  exact ⟨_, rfl, ⟨rfl, h⟩, F5.out⟩
set_option maxRecDepth 100000 in
theorem own_6 (x : Nat) (w : World) (h : x ≤ fTop 6) : Calls Try.prog 70 #[.agg #[.int .i64 6, .bool false, .slice none 0 0, .int .i64 0, .float .f64 x]] w (WEnd (IsF 6) x w) := by
  have hst := fun (w : World) (a : Addr) (q : Nat) (m : Mode) => run_store Try.prog w a (.float .f64 q) m rfl
  have B0 := Lib.hid ((Blk.new w 39 #[.int .i64 6, .bool false, .slice none 0 0, .int .i64 0, .float .f64 x]).alloc (.cells #[.int .i64 0, .bool false, .slice none 0 0, .int .i64 0, .float .f64 0] 39))
  have B1 := Blk.new (w.alloc (.cells #[.int .i64 6, .bool false, .slice none 0 0, .int .i64 0, .float .f64 x] 39)) 39 #[.int .i64 0, .bool false, .slice none 0 0, .int .i64 0, .float .f64 0]
  simp only [World.size_alloc] at B1
  have B1 := Lib.hid B1
  have F0 : Hid (Frame [] w ((w.alloc (.cells #[.int .i64 6, .bool false, .slice none 0 0, .int .i64 0, .float .f64 x] 39)).alloc (.cells #[.int .i64 0, .bool false, .slice none 0 0, .int .i64 0, .float .f64 0] 39))) := by show Frame [] w _; (repeat first | assumption | exact Frame.refl _ _ | refine Frame.trans1 ?_ (Frame.alloc _ _ _) | refine Frame.trans1 ?_ (Frame.drew _ _) | refine Frame.trans1 ?_ (Frame.drewN _ _ _))
  go_enter Try.func70, Try.ntmps70
  go_upto_region 1 with fail
  generalize (w.alloc (.cells #[.int .i64 6, .bool false, .slice none 0 0, .int .i64 0, .float .f64 x] 39)).alloc (.cells #[.int .i64 0, .bool false, .slice none 0 0, .int .i64 0, .float .f64 0] 39) = w1 at *
  obtain ⟨b2, hb2⟩ : ∃ b2, w.heap.size + 1 = b2 := ⟨_, rfl⟩
  rw [hb2] at B1 ⊢
  obtain ⟨b1, hb1⟩ : ∃ b1, w.heap.size = b1 := ⟨_, rfl⟩
  rw [hb1] at B0 ⊢
  have hne : b1 ≠ b2 := by omega
  have hbw : w.heap.size ≤ b2 := by omega
  have x0 := B0.out.at 0 rfl
  have x4 := B0.out.at 4 rfl
  go_wp2_with fail
  refine (isNat_6 _).mono ?_
  rintro e w2 ⟨rfl, rfl⟩
  go_wp2_with fail
  refine (isLevel_6 _).mono ?_
  rintro e w2 ⟨rfl, rfl⟩
  have y0 := B1.out.at 0 rfl
  have y1 := B1.out.at 1 rfl
  have y2 := B1.out.at 2 rfl
  have y3 := B1.out.at 3 rfl
  have y4 := B1.out.at 4 rfl
  have zf := B1.out.frozen
  have B5 := Lib.hid (putV B1.out (.int .i64 6) (.bool false) (.slice none 0 0) (.int .i64 0) (.float .f64 x))
  have F5 := Lib.hid (putV_frame (w := w) (b := b2) (by omega) F0.out (.int .i64 6) (.bool false) (.slice none 0 0) (.int .i64 0) (.float .f64 x))
  have KD := Lib.hid (putV_keep B1.out (.int .i64 6) (.bool false) (.slice none 0 0) (.int .i64 0) (.float .f64 x))
  go_wp2_with fail
  refine bodyPost_ret (results_val1 rfl _ _ _ _ _ _ _ _ rfl B5.out) rfl ?_
  exact ⟨_, rfl, ⟨rfl, h⟩, F5.out⟩
end Go.Proofs.Ytbnhhmejlglbcaa

