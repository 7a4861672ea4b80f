/- semi's functions at all six semirings: Star; all together. (printed by gen_sem4.py) -/
import Derived.Test.YtbnhhmejlglbcaaMg40
namespace Go.Proofs.Ytbnhhmejlglbcaa
open Go.RowKit
set_option linter.unusedSimpArgs false
set_option linter.unusedVariables false

theorem sz_zero : Sz (some 0) := by show (digs 0).length ≤ SZ; rw [digs_zero]; exact Nat.zero_le _
theorem least_1x (w : World) : Calls Try.prog 40 #[.int .i64 1] w fun e w' => e = .returned (.agg #[.int .i64 1, .bool false, .slice none 0 0, .int .i64 0, .float .f64 0]) ∧ Frame [] w w' := by
  have hst := fun (w : World) (a : Addr) (q : Nat) (m : Mode) => run_store Try.prog w a (.float .f64 q) m rfl
  go_enter Try.func40, Try.ntmps40
  go_wp2_with fail
  refine bodyPost_ret (results_val1 rfl _ _ _ _ _ _ _ _ rfl (Blk.new w 39 _)) rfl ?_
  exact ⟨rfl, Frame.alloc _ _ _⟩
set_option maxRecDepth 100000 in
theorem same_1 (x y : Option Nat) (i j : Bool) (a b : Option Addr) (l c m d : Nat) (w : World) (h1 : NR w (.agg #[.bool i, .slice a l c]) x) (h2 : NR w (.agg #[.bool j, .slice b m d]) y) (l1 : Sz x) (l2 : Sz y) :
    Calls Try.prog 91 #[.agg #[.int .i64 1, .bool i, .slice a l c, .int .i64 0, .float .f64 0], .agg #[.int .i64 1, .bool j, .slice b m d, .int .i64 0, .float .f64 0]] w fun e w' => e = .returned (.bool (decide (x = y))) ∧ Frame [] w w' := by
  have hst := fun (w : World) (a : Addr) (q : Nat) (m : Mode) => run_store Try.prog w a (.float .f64 q) m rfl
  have BO := Lib.hid (fun w' (f : Frame [] w w') => both_any 1 i j a b l c m d 0 0 0 0 w' (fun w2 f2 => may_1 x i a l c w2 (h1.frame (f.trans1 f2)) l1) (fun w2 f2 => may_1 y j b m d w2 (h2.frame (f.trans1 f2)) l2))
  have NS := Lib.hid (fun w' (f : Frame [] w w') => nsame_any _ _ x y w' (h1.frame f) (h2.frame f) l1 l2)
  clear h1 h2
  generalize decide (x = y) = r at *
  have B0 := Lib.hid ((Blk.new w 39 #[.int .i64 1, .bool i, .slice a l c, .int .i64 0, .float .f64 0]).alloc (.cells #[.int .i64 1, .bool j, .slice b m d, .int .i64 0, .float .f64 0] 39))
  have B1 := Blk.new (w.alloc (.cells #[.int .i64 1, .bool i, .slice a l c, .int .i64 0, .float .f64 0] 39)) 39 #[.int .i64 1, .bool j, .slice b m d, .int .i64 0, .float .f64 0]
  simp only [World.size_alloc] at B1
  have B1 := Lib.hid B1
  have F0 : Hid (Frame [] w ((w.alloc (.cells #[.int .i64 1, .bool i, .slice a l c, .int .i64 0, .float .f64 0] 39)).alloc (.cells #[.int .i64 1, .bool j, .slice b m d, .int .i64 0, .float .f64 0] 39))) := by show Frame [] w _; (repeat first | assumption | exact Frame.refl _ _ | refine Frame.trans1 ?_ (Frame.alloc _ _ _) | refine Frame.trans1 ?_ (Frame.drew _ _) | refine Frame.trans1 ?_ (Frame.drewN _ _ _))
  go_enter Try.func91, Try.ntmps91
  go_upto_region 1 with fail
  generalize (w.alloc (.cells #[.int .i64 1, .bool i, .slice a l c, .int .i64 0, .float .f64 0] 39)).alloc (.cells #[.int .i64 1, .bool j, .slice b m d, .int .i64 0, .float .f64 0] 39) = w0 at *
  have x0 := B0.out.at 0 rfl
  have x1 := B0.out.at 1 rfl
  have x2 := B0.out.at 2 rfl
  have x3 := B0.out.at 3 rfl
  have x4 := B0.out.at 4 rfl
  have y0 := B1.out.at 0 rfl
  have y1 := B1.out.at 1 rfl
  have y2 := B1.out.at 2 rfl
  have y3 := B1.out.at 3 rfl
  have y4 := B1.out.at 4 rfl
  go_wp2_with fail
  refine (BO.out _ F0.out).mono ?_
  rintro e w1 ⟨rfl, f1⟩
  clear x0 x1 x2 x3 x4 y0 y1 y2 y3 y4
  have x0 := (B0.out.frame f1 (by simp)).at 0 rfl
  have x1 := (B0.out.frame f1 (by simp)).at 1 rfl
  have x2 := (B0.out.frame f1 (by simp)).at 2 rfl
  have y1 := (B1.out.frame f1 (by simp)).at 1 rfl
  have y2 := (B1.out.frame f1 (by simp)).at 2 rfl
  have F1 := Lib.hid (F0.out.trans1 f1)
  clear f1 BO
  go_wp2_with fail
  refine (isNat_1 _).mono ?_
  rintro e w1 ⟨rfl, rfl⟩
  go_wp2_with fail
  refine (NS.out _ F1.out).mono ?_
  rintro e w2 ⟨rfl, f2⟩
  have F2 := Lib.hid (F1.out.trans1 f2)
  clear f2 NS
  go_wp2_with fail
  go_ret
  exact ⟨rfl, F2.out⟩
set_option maxRecDepth 100000 in
theorem isZero_1 (x : Option Nat) (i : Bool) (a : Option Addr) (l c : Nat) (w : World) (h1 : NR w (.agg #[.bool i, .slice a l c]) x) (l1 : Sz x) :
    Calls Try.prog 74 #[.agg #[.int .i64 1, .bool i, .slice a l c, .int .i64 0, .float .f64 0]] w fun e w' => e = .returned (.bool (decide (x = some 0))) ∧ Frame [] w w' := by
  have SM := Lib.hid (fun w' (f : Frame [] w w') => same_1 x (some 0) i false a none l c 0 0 w' (h1.frame f) (nr_zero w') l1 sz_zero)
  clear h1
  generalize decide (x = some 0) = r at *
  have B0 := Blk.new w 39 #[.int .i64 1, .bool i, .slice a l c, .int .i64 0, .float .f64 0]
  have F0 := Lib.hid (Frame.alloc [] w (.cells #[.int .i64 1, .bool i, .slice a l c, .int .i64 0, .float .f64 0] 39))
  go_enter Try.func74, Try.ntmps74
  go_upto_region 1 with fail
  generalize w.alloc (.cells #[.int .i64 1, .bool i, .slice a l c, .int .i64 0, .float .f64 0] 39) = w0 at *
  have x0 := framed_cell (B0.at 0 rfl)
  have x1 := framed_cell (B0.at 1 rfl)
  have x2 := framed_cell (B0.at 2 rfl)
  have x3 := framed_cell (B0.at 3 rfl)
  have x4 := framed_cell (B0.at 4 rfl)
  go_wp2_with fail
  refine wp_region_framed (by kernel_rfl) (by kernel_rfl) ?_
  repeat (go_big_quiet_step (first | exact framed_of (least_1x _) | exact framed_of (SM.out _ (F0.out.trans1 (FramedBy.h _)))))
  refine wpQuiet_nil ?_
  intro w6 hw
  have f6 := framed_out hw
  clear hw
  go_wp2_with fail
  go_ret
  exact ⟨rfl, F0.out.trans1 f6⟩
set_option maxRecDepth 100000 in
theorem star_1 (x : Option Nat) (i : Bool) (a : Option Addr) (l c : Nat) (w : World) (h : NR w (.agg #[.bool i, .slice a l c]) x) (hl : Sz x) : Calls Try.prog 47 #[.agg #[.int .i64 1, .bool i, .slice a l c, .int .i64 0, .float .f64 0]] w (VEnd (IsN 1) ((rgN1).s x) w) := by
  have hst := fun (w : World) (a : Addr) (q : Nat) (m : Mode) => run_store Try.prog w a (.float .f64 q) m rfl
  have MY := Lib.hid (fun w' (f : Frame [] w w') => may_1 x i a l c w' (h.frame f) hl)
  have IZ := Lib.hid (fun w' (f : Frame [] w w') => isZero_1 x i a l c w' (h.frame f) hl)
  clear h
  have B0 := Lib.hid ((Blk.new w 39 #[.int .i64 1, .bool i, .slice a l c, .int .i64 0, .float .f64 0]).alloc (.cells #[.int .i64 0, .bool false, .slice none 0 0, .int .i64 0, .float .f64 0] 39))
  have B1 := Blk.new (w.alloc (.cells #[.int .i64 1, .bool i, .slice a l c, .int .i64 0, .float .f64 0] 39)) 39 #[.int .i64 0, .bool false, .slice none 0 0, .int .i64 0, .float .f64 0]
  simp only [World.size_alloc] at B1
  have B1 := Lib.hid B1
  have F0 : Hid (Frame [] w ((w.alloc (.cells #[.int .i64 1, .bool i, .slice a l c, .int .i64 0, .float .f64 0] 39)).alloc (.cells #[.int .i64 0, .bool false, .slice none 0 0, .int .i64 0, .float .f64 0] 39))) := by show Frame [] w _; (repeat first | assumption | exact Frame.refl _ _ | refine Frame.trans1 ?_ (Frame.alloc _ _ _) | refine Frame.trans1 ?_ (Frame.drew _ _) | refine Frame.trans1 ?_ (Frame.drewN _ _ _))
  go_enter Try.func47, Try.ntmps47
  go_upto_region 1 with fail
  generalize (w.alloc (.cells #[.int .i64 1, .bool i, .slice a l c, .int .i64 0, .float .f64 0] 39)).alloc (.cells #[.int .i64 0, .bool false, .slice none 0 0, .int .i64 0, .float .f64 0] 39) = w0 at *
  obtain ⟨b2, hb2⟩ : ∃ b2, w.heap.size + 1 = b2 := ⟨_, rfl⟩
  rw [hb2] at B1 ⊢
  obtain ⟨b1, hb1⟩ : ∃ b1, w.heap.size = b1 := ⟨_, rfl⟩
  rw [hb1] at B0 ⊢
  have hne : b1 ∉ [b2] := by simp only [List.mem_singleton]; omega
  have hbw : w.heap.size ≤ b2 := by omega
  have x0 := B0.out.at 0 rfl
  have x1 := B0.out.at 1 rfl
  have x2 := B0.out.at 2 rfl
  have x3 := B0.out.at 3 rfl
  have x4 := B0.out.at 4 rfl
  go_wp2_with fail
  refine (MY.out _ F0.out).mono ?_
  rintro e w1 ⟨rfl, f1⟩
  have C0 := Lib.hid (B0.out.frame f1 (by simp))
  have C1 := Lib.hid (B1.out.frame f1 (by simp))
  have F1 := Lib.hid (F0.out.trans1 f1)
  clear f1 x0 x1 x2 x3 x4 B0 B1 F0 MY
  have x0 := C0.out.at 0 rfl
  have x1 := C0.out.at 1 rfl
  have x2 := C0.out.at 2 rfl
  have x3 := C0.out.at 3 rfl
  have x4 := C0.out.at 4 rfl
  by_cases hx : x = some 0
  · have hd : decide (x = some 0) = true := decide_eq_true hx
    have HS : Hid (rgN1.s x = some 1) := by show starO x = some 1; unfold starO; rw [if_pos hx]
    rw [hd] at IZ
    clear hx hd
    go_wp2_with fail
    refine (IZ.out _ F1.out).mono ?_
    rintro e w2 ⟨rfl, f2⟩
    have C2 := Lib.hid (C1.out.frame f2 (by simp))
    have F2 := Lib.hid (F1.out.trans1 f2)
    have x0 := (C0.out.frame f2 (by simp)).at 0 rfl
    clear f2 x1 x2 x3 x4 IZ
    go_wp2_with fail
    refine (whole_1 _).mono ?_
    rintro e w3 ⟨v, rfl, iv, f3⟩
    obtain ⟨i5, a5, l5, c5, rfl, n5⟩ := iv
    have D5 := C2.out.frame f3 (by simp)
    have F6 := Lib.hid (F2.out.trans1 f3)
    clear f3
    have y0 := D5.at 0 rfl
    have y1 := D5.at 1 rfl
    have y2 := D5.at 2 rfl
    have y3 := D5.at 3 rfl
    have y4 := D5.at 4 rfl
    have zf := D5.frozen
    have B5 := Lib.hid (putV D5 (.int .i64 1) (.bool i5) (.slice a5 l5 c5) (.int .i64 0) (.float .f64 0))
    have F5 := Lib.hid (putV_frame (w := w) (b := b2) (by omega) F6.out (.int .i64 1) (.bool i5) (.slice a5 l5 c5) (.int .i64 0) (.float .f64 0))
    have KD := Lib.hid (putV_keep D5 (.int .i64 1) (.bool i5) (.slice a5 l5 c5) (.int .i64 0) (.float .f64 0))
    have NW := Lib.hid (n5.kept KD.out)
    clear n5
    clear D5
    go_wp2_with fail
    refine bodyPost_ret (results_val2 rfl _ _ _ _ _ _ _ _ rfl B5.out) rfl ?_
    exact ⟨_, rfl, ⟨_, _, _, _, rfl, by rw [HS.out]; exact NW.out⟩, F5.out⟩
  · have hd : decide (x = some 0) = false := decide_eq_false hx
    have HS : Hid (rgN1.s x = none) := by show starO x = none; unfold starO; rw [if_neg hx]
    rw [hd] at IZ
    clear hx hd
    go_wp2_with fail
    refine (IZ.out _ F1.out).mono ?_
    rintro e w2 ⟨rfl, f2⟩
    have C2 := Lib.hid (C1.out.frame f2 (by simp))
    have F2 := Lib.hid (F1.out.trans1 f2)
    have D0 := C0.out.frame f2 (by simp)
    have g0 : ∀ w', Frame [b2] w2 w' → w'.cell? ⟨b1, 0, none⟩ = some (.int .i64 1) := fun w' f => f.cell (D0.at 0 rfl) hne
    have S0 : Frame [b2] w2 w2.drew := Frame.drew _ _
    clear f2 x0 x1 x2 x3 x4 IZ
    go_wp2_with fail
    refine wp_region_held_drew (S := fun w' => Frame [b2] w2 w') (by kernel_rfl) (by exact S0) ?_
    intro hS
    refine wpAnyH_take (i := 0) (oi := ⟨some 19, _, _, _, _, _⟩) (v := ?_) rfl (by kernel_rfl) (by kernel_rfl) (by kernel_rfl) (fun _ _ _ h => h) (Or.inl ⟨by rfl, ?_⟩) hS ?_
    rotate_left
    · intro w hSw
      go_simp <;> with_reducible rfl
    try simp only [Act.put, List.setIfInBounds_toArray, List.set_cons_zero, List.set_cons_succ]
    refine wpAnyH_take (i := 1) (oi := ⟨some 20, _, _, _, _, _⟩) (v := ?_) rfl (by kernel_rfl) (by kernel_rfl) (by kernel_rfl) (fun _ _ _ h => h) (Or.inl ⟨by rfl, ?_⟩) hS ?_
    rotate_left
    · intro w hSw
      have hm := g0 w hSw
      go_simp <;> with_reducible rfl
    try simp only [Act.put, List.setIfInBounds_toArray, List.set_cons_zero, List.set_cons_succ]
    refine wpAnyH_ready (rs := [2]) (by kernel_rfl) (by simp) ?_
    refine AllReadyH.cons (o := ⟨some 21, _, _, _, _, _⟩) rfl (fun K hK => ?_) AllReadyH.nil
    go_simp
    refine (natInf_any _).mono ?_
    rintro e w5 ⟨rfl, f5⟩
    have E5 : Frame [] w2 w5 := (show Frame [] w2 _ from by (repeat first | assumption | exact Frame.refl _ _ | refine Frame.trans1 ?_ (Frame.alloc _ _ _) | refine Frame.trans1 ?_ (Frame.drew _ _) | refine Frame.trans1 ?_ (Frame.drewN _ _ _))).trans1 f5
    have BX := C2.out.frame E5 (by simp)
    have FE := Lib.hid (F2.out.trans1 E5)
    clear f5
    refine hK.out _ _ (E5.mono (by simp)) (fun hS => ?_)
    clear hK K
    try simp only [Act.put, List.setIfInBounds_toArray, List.set_cons_zero, List.set_cons_succ]
    refine wpAnyH_take (i := 3) (oi := ⟨some 22, _, _, _, _, _⟩) (v := ?_) rfl (by kernel_rfl) (by kernel_rfl) (by kernel_rfl) (fun _ _ _ h => h) (Or.inl ⟨by rfl, ?_⟩) hS ?_
    rotate_left
    · intro w hSw
      go_simp <;> with_reducible rfl
    try simp only [Act.put, List.setIfInBounds_toArray, List.set_cons_zero, List.set_cons_succ]
    have y0 := BX.at 0 rfl
    have y1 := BX.at 1 rfl
    have y2 := BX.at 2 rfl
    have y3 := BX.at 3 rfl
    have y4 := BX.at 4 rfl
    have zf := BX.frozen
    have B5 := Lib.hid (putV BX (.int .i64 1) (.bool true) (.slice none 0 0) (.int .i64 0) (.float .f64 0))
    have F5 := Lib.hid (putV_frame (w := w) (b := b2) (by omega) FE.out (.int .i64 1) (.bool true) (.slice none 0 0) (.int .i64 0) (.float .f64 0))
    have KD := Lib.hid (putV_keep BX (.int .i64 1) (.bool true) (.slice none 0 0) (.int .i64 0) (.float .f64 0))
    refine wpAnyH_ready (rs := [4]) (by kernel_rfl) (by simp) ?_
    refine AllReadyH.cons (o := ⟨none, _, _, _, _, _⟩) rfl (fun K hK => ?_) AllReadyH.nil
    go_simp
    refine hK.out _ _ (putV_frameB (E5.mono (by simp)) _ _ _ _ _) (fun hS => ?_)
    clear hK K
    try simp only [Act.put, List.setIfInBounds_toArray, List.set_cons_zero, List.set_cons_succ]
    refine wpAnyH_take (i := 5) (oi := ⟨some 3, _, _, _, _, _⟩) (v := ?_) rfl (by kernel_rfl) (by kernel_rfl) (by kernel_rfl) (fun _ _ _ h => h) (Or.inl ⟨by rfl, ?_⟩) hS ?_
    rotate_left
    · intro w hSw
      go_simp <;> with_reducible rfl
    try simp only [Act.put, List.setIfInBounds_toArray, List.set_cons_zero, List.set_cons_succ]
    refine wpAnyH_done (by kernel_rfl) ?_ _
    go_wp2_with fail
    refine bodyPost_ret (results_val2 rfl _ _ _ _ _ _ _ _ rfl B5.out) rfl ?_
    exact ⟨_, rfl, ⟨_, _, _, _, rfl, by rw [HS.out]; rfl⟩, F5.out⟩
set_option maxRecDepth 100000 in
theorem star_2 (x : Int) (w : World) (h0 : 0 ≤ x) (h1 : x ≤ lTop 2) : Calls Try.prog 47 #[.agg #[.int .i64 2, .bool false, .slice none 0 0, .int .i64 x, .float .f64 0]] w (VEnd (IsL 2) ((rgL 2).s x) w) := by
  have hst := fun (w : World) (a : Addr) (q : Nat) (m : Mode) => run_store Try.prog w a (.float .f64 q) m rfl
  have MY := Lib.hid (fun w' (f : Frame [] w w') => may_2 x w' h0 h1)
  have B0 := Lib.hid ((Blk.new w 39 #[.int .i64 2, .bool false, .slice none 0 0, .int .i64 x, .float .f64 0]).alloc (.cells #[.int .i64 0, .bool false, .slice none 0 0, .int .i64 0, .float .f64 0] 39))
  have B1 := Blk.new (w.alloc (.cells #[.int .i64 2, .bool false, .slice none 0 0, .int .i64 x, .float .f64 0] 39)) 39 #[.int .i64 0, .bool false, .slice none 0 0, .int .i64 0, .float .f64 0]
  simp only [World.size_alloc] at B1
  have B1 := Lib.hid B1
  have F0 : Hid (Frame [] w ((w.alloc (.cells #[.int .i64 2, .bool false, .slice none 0 0, .int .i64 x, .float .f64 0] 39)).alloc (.cells #[.int .i64 0, .bool false, .slice none 0 0, .int .i64 0, .float .f64 0] 39))) := by show Frame [] w _; (repeat first | assumption | exact Frame.refl _ _ | refine Frame.trans1 ?_ (Frame.alloc _ _ _) | refine Frame.trans1 ?_ (Frame.drew _ _) | refine Frame.trans1 ?_ (Frame.drewN _ _ _))
  go_enter Try.func47, Try.ntmps47
  go_upto_region 1 with fail
  generalize (w.alloc (.cells #[.int .i64 2, .bool false, .slice none 0 0, .int .i64 x, .float .f64 0] 39)).alloc (.cells #[.int .i64 0, .bool false, .slice none 0 0, .int .i64 0, .float .f64 0] 39) = w0 at *
  obtain ⟨b2, hb2⟩ : ∃ b2, w.heap.size + 1 = b2 := ⟨_, rfl⟩
  rw [hb2] at B1 ⊢
  obtain ⟨b1, hb1⟩ : ∃ b1, w.heap.size = b1 := ⟨_, rfl⟩
  rw [hb1] at B0 ⊢
  have hne : b1 ∉ [b2] := by simp only [List.mem_singleton]; omega
  have hbw : w.heap.size ≤ b2 := by omega
  have x0 := B0.out.at 0 rfl
  have x1 := B0.out.at 1 rfl
  have x2 := B0.out.at 2 rfl
  have x3 := B0.out.at 3 rfl
  have x4 := B0.out.at 4 rfl
  go_wp2_with fail
  refine (MY.out _ F0.out).mono ?_
  rintro e w1 ⟨rfl, f1⟩
  have C0 := Lib.hid (B0.out.frame f1 (by simp))
  have C1 := Lib.hid (B1.out.frame f1 (by simp))
  have F1 := Lib.hid (F0.out.trans1 f1)
  clear f1 x0 x1 x2 x3 x4 B0 B1 F0 MY
  have x0 := C0.out.at 0 rfl
  go_wp2_with fail
  refine (whole_2 _).mono ?_
  rintro e w3 ⟨v, rfl, iv, f3⟩
  obtain ⟨rfl, hz⟩ := iv
  have HZ := Lib.hid hz
  clear hz
  generalize hq : (rgL 2).o = q at *
  have HQ := Lib.hid hq
  clear hq
  have D5 := C1.out.frame f3 (by simp)
  have F6 := Lib.hid (F1.out.trans1 f3)
  clear f3
  have y0 := D5.at 0 rfl
  have y1 := D5.at 1 rfl
  have y2 := D5.at 2 rfl
  have y3 := D5.at 3 rfl
  have y4 := D5.at 4 rfl
  have zf := D5.frozen
  have B5 := Lib.hid (putV D5 (.int .i64 2) (.bool false) (.slice none 0 0) (.int .i64 q) (.float .f64 0))
  have F5 := Lib.hid (putV_frame (w := w) (b := b2) (by omega) F6.out (.int .i64 2) (.bool false) (.slice none 0 0) (.int .i64 q) (.float .f64 0))
  have KD := Lib.hid (putV_keep D5 (.int .i64 2) (.bool false) (.slice none 0 0) (.int .i64 q) (.float .f64 0))
  clear D5
  go_wp2_with fail
  refine bodyPost_ret (results_val2 rfl _ _ _ _ _ _ _ _ rfl B5.out) rfl ?_
  exact ⟨_, rfl, by rw [show (rgL 2).s x = q from HQ.out]; exact ⟨rfl, HZ.out⟩, F5.out⟩
set_option maxRecDepth 100000 in
theorem star_3 (x : Option Nat) (i : Bool) (a : Option Addr) (l c : Nat) (w : World) (h : NR w (.agg #[.bool i, .slice a l c]) x) (hl : Sz x) : Calls Try.prog 47 #[.agg #[.int .i64 3, .bool i, .slice a l c, .int .i64 0, .float .f64 0]] w (VEnd (IsN 3) ((rgT).s x) w) := by
  have hst := fun (w : World) (a : Addr) (q : Nat) (m : Mode) => run_store Try.prog w a (.float .f64 q) m rfl
  have MY := Lib.hid (fun w' (f : Frame [] w w') => may_3 x i a l c w' (h.frame f) hl)
  clear h
  have B0 := Lib.hid ((Blk.new w 39 #[.int .i64 3, .bool i, .slice a l c, .int .i64 0, .float .f64 0]).alloc (.cells #[.int .i64 0, .bool false, .slice none 0 0, .int .i64 0, .float .f64 0] 39))
  have B1 := Blk.new (w.alloc (.cells #[.int .i64 3, .bool i, .slice a l c, .int .i64 0, .float .f64 0] 39)) 39 #[.int .i64 0, .bool false, .slice none 0 0, .int .i64 0, .float .f64 0]
  simp only [World.size_alloc] at B1
  have B1 := Lib.hid B1
  have F0 : Hid (Frame [] w ((w.alloc (.cells #[.int .i64 3, .bool i, .slice a l c, .int .i64 0, .float .f64 0] 39)).alloc (.cells #[.int .i64 0, .bool false, .slice none 0 0, .int .i64 0, .float .f64 0] 39))) := by show Frame [] w _; (repeat first | assumption | exact Frame.refl _ _ | refine Frame.trans1 ?_ (Frame.alloc _ _ _) | refine Frame.trans1 ?_ (Frame.drew _ _) | refine Frame.trans1 ?_ (Frame.drewN _ _ _))
  go_enter Try.func47, Try.ntmps47
  go_upto_region 1 with fail
  generalize (w.alloc (.cells #[.int .i64 3, .bool i, .slice a l c, .int .i64 0, .float .f64 0] 39)).alloc (.cells #[.int .i64 0, .bool false, .slice none 0 0, .int .i64 0, .float .f64 0] 39) = w0 at *
  obtain ⟨b2, hb2⟩ : ∃ b2, w.heap.size + 1 = b2 := ⟨_, rfl⟩
  rw [hb2] at B1 ⊢
  obtain ⟨b1, hb1⟩ : ∃ b1, w.heap.size = b1 := ⟨_, rfl⟩
  rw [hb1] at B0 ⊢
  have hne : b1 ∉ [b2] := by simp only [List.mem_singleton]; omega
  have hbw : w.heap.size ≤ b2 := by omega
  have x0 := B0.out.at 0 rfl
  have x1 := B0.out.at 1 rfl
  have x2 := B0.out.at 2 rfl
  have x3 := B0.out.at 3 rfl
  have x4 := B0.out.at 4 rfl
  go_wp2_with fail
  refine (MY.out _ F0.out).mono ?_
  rintro e w1 ⟨rfl, f1⟩
  have C0 := Lib.hid (B0.out.frame f1 (by simp))
  have C1 := Lib.hid (B1.out.frame f1 (by simp))
  have F1 := Lib.hid (F0.out.trans1 f1)
  clear f1 x0 x1 x2 x3 x4 B0 B1 F0 MY
  have x0 := C0.out.at 0 rfl
  go_wp2_with fail
  refine (whole_3 _).mono ?_
  rintro e w3 ⟨v, rfl, iv, f3⟩
  obtain ⟨i5, a5, l5, c5, rfl, n5⟩ := iv
  have D5 := C1.out.frame f3 (by simp)
  have F6 := Lib.hid (F1.out.trans1 f3)
  clear f3
  have y0 := D5.at 0 rfl
  have y1 := D5.at 1 rfl
  have y2 := D5.at 2 rfl
  have y3 := D5.at 3 rfl
  have y4 := D5.at 4 rfl
  have zf := D5.frozen
  have B5 := Lib.hid (putV D5 (.int .i64 3) (.bool i5) (.slice a5 l5 c5) (.int .i64 0) (.float .f64 0))
  have F5 := Lib.hid (putV_frame (w := w) (b := b2) (by omega) F6.out (.int .i64 3) (.bool i5) (.slice a5 l5 c5) (.int .i64 0) (.float .f64 0))
  have KD := Lib.hid (putV_keep D5 (.int .i64 3) (.bool i5) (.slice a5 l5 c5) (.int .i64 0) (.float .f64 0))
  have NW := Lib.hid (n5.kept KD.out)
  clear n5
  clear D5
  go_wp2_with fail
  refine bodyPost_ret (results_val2 rfl _ _ _ _ _ _ _ _ rfl B5.out) rfl ?_
  exact ⟨_, rfl, ⟨_, _, _, _, rfl, NW.out⟩, F5.out⟩
set_option maxRecDepth 100000 in
theorem star_4 (x : Int) (w : World) (h0 : 0 ≤ x) (h1 : x ≤ lTop 4) : Calls Try.prog 47 #[.agg #[.int .i64 4, .bool false, .slice none 0 0, .int .i64 x, .float .f64 0]] w (VEnd (IsL 4) ((rgL 4).s x) w) := by
  have hst := fun (w : World) (a : Addr) (q : Nat) (m : Mode) => run_store Try.prog w a (.float .f64 q) m rfl
  have MY := Lib.hid (fun w' (f : Frame [] w w') => may_4 x w' h0 h1)
  have B0 := Lib.hid ((Blk.new w 39 #[.int .i64 4, .bool false, .slice none 0 0, .int .i64 x, .float .f64 0]).alloc (.cells #[.int .i64 0, .bool false, .slice none 0 0, .int .i64 0, .float .f64 0] 39))
  have B1 := Blk.new (w.alloc (.cells #[.int .i64 4, .bool false, .slice none 0 0, .int .i64 x, .float .f64 0] 39)) 39 #[.int .i64 0, .bool false, .slice none 0 0, .int .i64 0, .float .f64 0]
  simp only [World.size_alloc] at B1
  have B1 := Lib.hid B1
  have F0 : Hid (Frame [] w ((w.alloc (.cells #[.int .i64 4, .bool false, .slice none 0 0, .int .i64 x, .float .f64 0] 39)).alloc (.cells #[.int .i64 0, .bool false, .slice none 0 0, .int .i64 0, .float .f64 0] 39))) := by show Frame [] w _; (repeat first | assumption | exact Frame.refl _ _ | refine Frame.trans1 ?_ (Frame.alloc _ _ _) | refine Frame.trans1 ?_ (Frame.drew _ _) | refine Frame.trans1 ?_ (Frame.drewN _ _ _))
  go_enter Try.func47, Try.ntmps47
  go_upto_region 1 with fail
  generalize (w.alloc (.cells #[.int .i64 4, .bool false, .slice none 0 0, .int .i64 x, .float .f64 0] 39)).alloc (.cells #[.int .i64 0, .bool false, .slice none 0 0, .int .i64 0, .float .f64 0] 39) = w0 at *
  obtain ⟨b2, hb2⟩ : ∃ b2, w.heap.size + 1 = b2 := ⟨_, rfl⟩
  rw [hb2] at B1 ⊢
  obtain ⟨b1, hb1⟩ : ∃ b1, w.heap.size = b1 := ⟨_, rfl⟩
  rw [hb1] at B0 ⊢
  have hne : b1 ∉ [b2] := by simp only [List.mem_singleton]; omega
  have hbw : w.heap.size ≤ b2 := by omega
  have x0 := B0.out.at 0 rfl
  have x1 := B0.out.at 1 rfl
  have x2 := B0.out.at 2 rfl
  have x3 := B0.out.at 3 rfl
  have x4 := B0.out.at 4 rfl
  go_wp2_with fail
  refine (MY.out _ F0.out).mono ?_
  rintro e w1 ⟨rfl, f1⟩
  have C0 := Lib.hid (B0.out.frame f1 (by simp))
  have C1 := Lib.hid (B1.out.frame f1 (by simp))
  have F1 := Lib.hid (F0.out.trans1 f1)
  clear f1 x0 x1 x2 x3 x4 B0 B1 F0 MY
  have x0 := C0.out.at 0 rfl
  go_wp2_with fail
  refine (whole_4 _).mono ?_
  rintro e w3 ⟨v, rfl, iv, f3⟩
  obtain ⟨rfl, hz⟩ := iv
  have HZ := Lib.hid hz
  clear hz
  generalize hq : (rgL 4).o = q at *
  have HQ := Lib.hid hq
  clear hq
  have D5 := C1.out.frame f3 (by simp)
  have F6 := Lib.hid (F1.out.trans1 f3)
  clear f3
  have y0 := D5.at 0 rfl
  have y1 := D5.at 1 rfl
  have y2 := D5.at 2 rfl
  have y3 := D5.at 3 rfl
  have y4 := D5.at 4 rfl
  have zf := D5.frozen
  have B5 := Lib.hid (putV D5 (.int .i64 4) (.bool false) (.slice none 0 0) (.int .i64 q) (.float .f64 0))
  have F5 := Lib.hid (putV_frame (w := w) (b := b2) (by omega) F6.out (.int .i64 4) (.bool false) (.slice none 0 0) (.int .i64 q) (.float .f64 0))
  have KD := Lib.hid (putV_keep D5 (.int .i64 4) (.bool false) (.slice none 0 0) (.int .i64 q) (.float .f64 0))
  clear D5
  go_wp2_with fail
  refine bodyPost_ret (results_val2 rfl _ _ _ _ _ _ _ _ rfl B5.out) rfl ?_
  exact ⟨_, rfl, by rw [show (rgL 4).s x = q from HQ.out]; exact ⟨rfl, HZ.out⟩, F5.out⟩
set_option maxRecDepth 100000 in
theorem star_5 (x : Nat) (w : World) (h : x ≤ fTop 5) : Calls Try.prog 47 #[.agg #[.int .i64 5, .bool false, .slice none 0 0, .int .i64 0, .float .f64 x]] w (VEnd (IsF 5) ((rgF5).s x) w) := by
  have hst := fun (w : World) (a : Addr) (q : Nat) (m : Mode) => run_store Try.prog w a (.float .f64 q) m rfl
  have MY := Lib.hid (fun w' (f : Frame [] w w') => may_5 x w' h)
  have B0 := Lib.hid ((Blk.new w 39 #[.int .i64 5, .bool false, .slice none 0 0, .int .i64 0, .float .f64 x]).alloc (.cells #[.int .i64 0, .bool false, .slice none 0 0, .int .i64 0, .float .f64 0] 39))
  have B1 := Blk.new (w.alloc (.cells #[.int .i64 5, .bool false, .slice none 0 0, .int .i64 0, .float .f64 x] 39)) 39 #[.int .i64 0, .bool false, .slice none 0 0, .int .i64 0, .float .f64 0]
  simp only [World.size_alloc] at B1
  have B1 := Lib.hid B1
  have F0 : Hid (Frame [] w ((w.alloc (.cells #[.int .i64 5, .bool false, .slice none 0 0, .int .i64 0, .float .f64 x] 39)).alloc (.cells #[.int .i64 0, .bool false, .slice none 0 0, .int .i64 0, .float .f64 0] 39))) := by show Frame [] w _; (repeat first | assumption | exact Frame.refl _ _ | refine Frame.trans1 ?_ (Frame.alloc _ _ _) | refine Frame.trans1 ?_ (Frame.drew _ _) | refine Frame.trans1 ?_ (Frame.drewN _ _ _))
  go_enter Try.func47, Try.ntmps47
  go_upto_region 1 with fail
  generalize (w.alloc (.cells #[.int .i64 5, .bool false, .slice none 0 0, .int .i64 0, .float .f64 x] 39)).alloc (.cells #[.int .i64 0, .bool false, .slice none 0 0, .int .i64 0, .float .f64 0] 39) = w0 at *
  obtain ⟨b2, hb2⟩ : ∃ b2, w.heap.size + 1 = b2 := ⟨_, rfl⟩
  rw [hb2] at B1 ⊢
  obtain ⟨b1, hb1⟩ : ∃ b1, w.heap.size = b1 := ⟨_, rfl⟩
  rw [hb1] at B0 ⊢
  have hne : b1 ∉ [b2] := by simp only [List.mem_singleton]; omega
  have hbw : w.heap.size ≤ b2 := by omega
  have x0 := B0.out.at 0 rfl
  have x1 := B0.out.at 1 rfl
  have x2 := B0.out.at 2 rfl
  have x3 := B0.out.at 3 rfl
  have x4 := B0.out.at 4 rfl
  go_wp2_with fail
  refine (MY.out _ F0.out).mono ?_
  rintro e w1 ⟨rfl, f1⟩
  have C0 := Lib.hid (B0.out.frame f1 (by simp))
  have C1 := Lib.hid (B1.out.frame f1 (by simp))
  have F1 := Lib.hid (F0.out.trans1 f1)
  clear f1 x0 x1 x2 x3 x4 B0 B1 F0 MY
  have x0 := C0.out.at 0 rfl
  go_wp2_with fail
  refine (whole_5 _).mono ?_
  rintro e w3 ⟨v, rfl, iv, f3⟩
  obtain ⟨rfl, hz⟩ := iv
  have HZ := Lib.hid hz
  clear hz
  generalize hq : (rgF5).o = q at *
  have HQ := Lib.hid hq
  clear hq
  have D5 := C1.out.frame f3 (by simp)
  have F6 := Lib.hid (F1.out.trans1 f3)
  clear f3
  have y0 := D5.at 0 rfl
  have y1 := D5.at 1 rfl
  have y2 := D5.at 2 rfl
  have y3 := D5.at 3 rfl
  have y4 := D5.at 4 rfl
  have zf := D5.frozen
  have B5 := Lib.hid (putV D5 (.int .i64 5) (.bool false) (.slice none 0 0) (.int .i64 0) (.float .f64 q))
  have F5 := Lib.hid (putV_frame (w := w) (b := b2) (by omega) F6.out (.int .i64 5) (.bool false) (.slice none 0 0) (.int .i64 0) (.float .f64 q))
  have KD := Lib.hid (putV_keep D5 (.int .i64 5) (.bool false) (.slice none 0 0) (.int .i64 0) (.float .f64 q))
  clear D5
  go_wp2_with fail
  refine bodyPost_ret (results_val2 rfl _ _ _ _ _ _ _ _ rfl B5.out) rfl ?_
  exact ⟨_, rfl, by rw [show (rgF5).s x = q from HQ.out]; exact ⟨rfl, HZ.out⟩, F5.out⟩
set_option maxRecDepth 100000 in
theorem star_6 (x : Nat) (w : World) (h : x ≤ fTop 6) : Calls Try.prog 47 #[.agg #[.int .i64 6, .bool false, .slice none 0 0, .int .i64 0, .float .f64 x]] w (VEnd (IsF 6) ((rgF6).s x) w) := by
  have hst := fun (w : World) (a : Addr) (q : Nat) (m : Mode) => run_store Try.prog w a (.float .f64 q) m rfl
  have MY := Lib.hid (fun w' (f : Frame [] w w') => may_6 x w' h)
  have B0 := Lib.hid ((Blk.new w 39 #[.int .i64 6, .bool false, .slice none 0 0, .int .i64 0, .float .f64 x]).alloc (.cells #[.int .i64 0, .bool false, .slice none 0 0, .int .i64 0, .float .f64 0] 39))
  have B1 := Blk.new (w.alloc (.cells #[.int .i64 6, .bool false, .slice none 0 0, .int .i64 0, .float .f64 x] 39)) 39 #[.int .i64 0, .bool false, .slice none 0 0, .int .i64 0, .float .f64 0]
  simp only [World.size_alloc] at B1
  have B1 := Lib.hid B1
  have F0 : Hid (Frame [] w ((w.alloc (.cells #[.int .i64 6, .bool false, .slice none 0 0, .int .i64 0, .float .f64 x] 39)).alloc (.cells #[.int .i64 0, .bool false, .slice none 0 0, .int .i64 0, .float .f64 0] 39))) := by show Frame [] w _; (repeat first | assumption | exact Frame.refl _ _ | refine Frame.trans1 ?_ (Frame.alloc _ _ _) | refine Frame.trans1 ?_ (Frame.drew _ _) | refine Frame.trans1 ?_ (Frame.drewN _ _ _))
  go_enter Try.func47, Try.ntmps47
  go_upto_region 1 with fail
  generalize (w.alloc (.cells #[.int .i64 6, .bool false, .slice none 0 0, .int .i64 0, .float .f64 x] 39)).alloc (.cells #[.int .i64 0, .bool false, .slice none 0 0, .int .i64 0, .float .f64 0] 39) = w0 at *
  obtain ⟨b2, hb2⟩ : ∃ b2, w.heap.size + 1 = b2 := ⟨_, rfl⟩
  rw [hb2] at B1 ⊢
  obtain ⟨b1, hb1⟩ : ∃ b1, w.heap.size = b1 := ⟨_, rfl⟩
  rw [hb1] at B0 ⊢
  have hne : b1 ∉ [b2] := by simp only [List.mem_singleton]; omega
  have hbw : w.heap.size ≤ b2 := by omega
  have x0 := B0.out.at 0 rfl
  have x1 := B0.out.at 1 rfl
  have x2 := B0.out.at 2 rfl
  have x3 := B0.out.at 3 rfl
  have x4 := B0.out.at 4 rfl
  go_wp2_with fail
  refine (MY.out _ F0.out).mono ?_
  rintro e w1 ⟨rfl, f1⟩
  have C0 := Lib.hid (B0.out.frame f1 (by simp))
  have C1 := Lib.hid (B1.out.frame f1 (by simp))
  have F1 := Lib.hid (F0.out.trans1 f1)
  clear f1 x0 x1 x2 x3 x4 B0 B1 F0 MY
  have x0 := C0.out.at 0 rfl
  go_wp2_with fail
  refine (whole_6 _).mono ?_
  rintro e w3 ⟨v, rfl, iv, f3⟩
  obtain ⟨rfl, hz⟩ := iv
  have HZ := Lib.hid hz
  clear hz
  generalize hq : (rgF6).o = q at *
  have HQ := Lib.hid hq
  clear hq
  have D5 := C1.out.frame f3 (by simp)
  have F6 := Lib.hid (F1.out.trans1 f3)
  clear f3
  have y0 := D5.at 0 rfl
  have y1 := D5.at 1 rfl
  have y2 := D5.at 2 rfl
  have y3 := D5.at 3 rfl
  have y4 := D5.at 4 rfl
  have zf := D5.frozen
  have B5 := Lib.hid (putV D5 (.int .i64 6) (.bool false) (.slice none 0 0) (.int .i64 0) (.float .f64 q))
  have F5 := Lib.hid (putV_frame (w := w) (b := b2) (by omega) F6.out (.int .i64 6) (.bool false) (.slice none 0 0) (.int .i64 0) (.float .f64 q))
  have KD := Lib.hid (putV_keep D5 (.int .i64 6) (.bool false) (.slice none 0 0) (.int .i64 0) (.float .f64 q))
  clear D5
  go_wp2_with fail
  refine bodyPost_ret (results_val2 rfl _ _ _ _ _ _ _ _ rfl B5.out) rfl ?_
  exact ⟨_, rfl, by rw [show (rgF6).s x = q from HQ.out]; exact ⟨rfl, HZ.out⟩, F5.out⟩
/-- What may be put together. -/
def PlC (x y : Option Nat) : Prop := Sz x ∧ Sz y ∧ Sz (addO x y)
def TmC (x y : Option Nat) : Prop := Sz x ∧ Sz y ∧ Sz (mulO x y)
def PlT (x y : Option Nat) : Prop := Sz x ∧ Sz y ∧ Sz (minO x y)
def TmT (x y : Option Nat) : Prop := Sz x ∧ Sz y ∧ Sz (addO x y)
theorem semOk_1 : SemOk 1 rgN1 (IsN 1) PlC TmC Sz where
  form := fun {w v x} ⟨i, a, l, c, e, _⟩ => ⟨i, a, l, c, 0, 0, e⟩
  keep := IsN.kept
  zero := zero_1
  one := one_1
  plus := fun w u v x y ⟨i, a, l, c, e1, h1⟩ ⟨j, b, m, d, e2, h2⟩ ⟨l1, l2, l3⟩ => by subst e1 e2; exact plus_1 x y i j a b l c m d w h1 h2 l1 l2 l3
  times := fun w u v x y ⟨i, a, l, c, e1, h1⟩ ⟨j, b, m, d, e2, h2⟩ ⟨l1, l2, l3⟩ => by subst e1 e2; exact times_1 x y i j a b l c m d w h1 h2 l1 l2 l3
  star := fun w u x ⟨i, a, l, c, e1, h1⟩ hl => by subst e1; exact star_1 x i a l c w h1 hl
theorem semOk_3 : SemOk 3 rgT (IsN 3) PlT TmT Sz where
  form := fun {w v x} ⟨i, a, l, c, e, _⟩ => ⟨i, a, l, c, 0, 0, e⟩
  keep := IsN.kept
  zero := zero_3
  one := one_3
  plus := fun w u v x y ⟨i, a, l, c, e1, h1⟩ ⟨j, b, m, d, e2, h2⟩ ⟨l1, l2, l3⟩ => by subst e1 e2; exact plus_3 x y i j a b l c m d w h1 h2 l1 l2 l3
  times := fun w u v x y ⟨i, a, l, c, e1, h1⟩ ⟨j, b, m, d, e2, h2⟩ ⟨l1, l2, l3⟩ => by subst e1 e2; exact times_3 x y i j a b l c m d w h1 h2 l1 l2 l3
  star := fun w u x ⟨i, a, l, c, e1, h1⟩ hl => by subst e1; exact star_3 x i a l c w h1 hl
theorem semOk_2 : SemOk 2 (rgL 2) (IsL 2) (fun _ _ => True) (fun _ _ => True) (fun _ => True) where
  form := fun {w v x} h => ⟨_, _, _, _, _, _, h.1⟩
  keep := IsL.kept
  zero := zero_2
  one := one_2
  plus := fun w u v x y h1 h2 _ => by obtain ⟨e1, h1⟩ := h1; obtain ⟨e2, h2⟩ := h2; subst e1 e2; exact plus_2 x y w h1 h2
  times := fun w u v x y h1 h2 _ => by obtain ⟨e1, h1⟩ := h1; obtain ⟨e2, h2⟩ := h2; subst e1 e2; exact times_2 x y w h1 h2
  star := fun w u x h1 _ => by obtain ⟨e1, h1⟩ := h1; subst e1; exact star_2 x w h1.1 h1.2
theorem semOk_4 : SemOk 4 (rgL 4) (IsL 4) (fun _ _ => True) (fun _ _ => True) (fun _ => True) where
  form := fun {w v x} h => ⟨_, _, _, _, _, _, h.1⟩
  keep := IsL.kept
  zero := zero_4
  one := one_4
  plus := fun w u v x y h1 h2 _ => by obtain ⟨e1, h1⟩ := h1; obtain ⟨e2, h2⟩ := h2; subst e1 e2; exact plus_4 x y w h1 h2
  times := fun w u v x y h1 h2 _ => by obtain ⟨e1, h1⟩ := h1; obtain ⟨e2, h2⟩ := h2; subst e1 e2; exact times_4 x y w h1 h2
  star := fun w u x h1 _ => by obtain ⟨e1, h1⟩ := h1; subst e1; exact star_4 x w h1.1 h1.2
theorem semOk_5 : SemOk 5 rgF5 (IsF 5) (fun _ _ => True) (fun _ _ => True) (fun _ => True) where
  form := fun {w v x} h => ⟨_, _, _, _, _, _, h.1⟩
  keep := IsF.kept
  zero := zero_5
  one := one_5
  plus := fun w u v x y h1 h2 _ => by obtain ⟨e1, h1⟩ := h1; obtain ⟨e2, h2⟩ := h2; subst e1 e2; exact plus_5 x y w h1 h2
  times := fun w u v x y h1 h2 _ => by obtain ⟨e1, h1⟩ := h1; obtain ⟨e2, h2⟩ := h2; subst e1 e2; exact times_5 x y w h1 h2
  star := fun w u x h1 _ => by obtain ⟨e1, h1⟩ := h1; subst e1; exact star_5 x w h1
theorem semOk_6 : SemOk 6 rgF6 (IsF 6) (fun _ _ => True) (fun _ _ => True) (fun _ => True) where
  form := fun {w v x} h => ⟨_, _, _, _, _, _, h.1⟩
  keep := IsF.kept
  zero := zero_6
  one := one_6
  plus := fun w u v x y h1 h2 _ => by obtain ⟨e1, h1⟩ := h1; obtain ⟨e2, h2⟩ := h2; subst e1 e2; exact plus_6 x y w h1 h2
  times := fun w u v x y h1 h2 _ => by obtain ⟨e1, h1⟩ := h1; obtain ⟨e2, h2⟩ := h2; subst e1 e2; exact times_6 x y w h1 h2
  star := fun w u x h1 _ => by obtain ⟨e1, h1⟩ := h1; subst e1; exact star_6 x w h1
end Go.Proofs.Ytbnhhmejlglbcaa

