/- tansyref1's numbers at whatever digits: clean, May, OfNat. tansyref1's numbers at whatever digits: May, OfNat, Compare. -/
import Derived.Test.YtbnhhmejlglbcaaMg32
import Derived.Test.YtbnhhmejlglbcaaMg36
namespace Go.Proofs.Ytbnhhmejlglbcaa
open Go.RowKit
set_option linter.unusedSimpArgs false
set_option linter.unusedVariables false

set_option maxHeartbeats 2000000 in
set_option maxRecDepth 100000 in
theorem clean_dr (a : Option Addr) (c : Nat) (xs : List Int) (w : World) (h : DR w a c xs) (hl : xs.length ≤ 200000000) :
    Calls Try.prog 33 #[.agg #[.bool false, .slice a xs.length c]] w (NREnd (some (valD xs)) w) := by
  have H := Lib.hid h
  have ok := h.1
  clear h
  obtain ⟨n, hn⟩ : ∃ n, (digW xs).length = n := ⟨_, rfl⟩
  have HN := Lib.hid hn
  have HNV : Hid (digs (valD xs) = digW xs) := rfl
  have OK := Lib.hid ok
  clear hn ok
  have B0 := (Blk.new w 36 #[.bool false, .slice a xs.length c]).alloc (.cells #[.bool false, .slice none 0 0] 36)
  have B1 := Blk.new (w.alloc (.cells #[.bool false, .slice a xs.length c] 36)) 36 #[.bool false, .slice none 0 0]
  have F0 := Lib.hid ((Frame.alloc [] w (.cells #[.bool false, .slice a xs.length c] 36)).trans1 (Frame.alloc [] _ (.cells #[.bool false, .slice none 0 0] 36)))
  simp only [World.size_alloc] at B1
  have B1 := Lib.hid B1
  go_enter Try.func33, Try.ntmps33
  go_upto_region 1 with fail
  generalize (w.alloc (.cells #[.bool false, .slice a xs.length c] 36)).alloc (.cells #[.bool false, .slice none 0 0] 36) = w1 at *
  obtain ⟨b2, hb2⟩ : ∃ b2, w.heap.size + 1 = b2 := ⟨_, rfl⟩
  rw [hb2] at B1 ⊢
  have hbw : w.heap.size ≤ b2 := by omega
  have x0 := B0.at 0 rfl
  have xa : ∀ o, (w1.alloc o).cell? ⟨w.heap.size, 1, none⟩ = some (.slice a xs.length c) := fun o => (B0.alloc o).at 1 rfl
  clear B0
  have SL0 := Lib.hid (sl_empty w1 77 1 encD)
  have B2 := Lib.hid (B1.out.alloc (.cells #[] 77))
  go_wp2_with (at_builtin; refine wpList_append_rf (by rfl) (.tmp 7) (.tmp 9) 34 (by rfl) 77 1 4 _ encD Try.underlying34 infoD rfl (by omega) (.slice (some ⟨w1.heap.size, 0, none⟩) 0 0) [] 0 rfl [w1.heap.size] (by rfl) SL0.out (fun _ => True) a xs.length c xs (by rfl) (dr_rf (H.out.frame (F0.out.trans1 (by (repeat first | assumption | exact Frame.refl _ _ | refine Frame.trans1 ?_ (Frame.alloc _ _ _) | refine Frame.trans1 ?_ (Frame.drew _ _) | refine Frame.trans1 ?_ (Frame.drewN _ _ _)))))) rfl encD_len encD_one xs.length (by omega) (by omega) (by omega) ?_; intro a5 cap5 w5 G5 sl5 f5 hG5; have hF5 : Frame [] w1 w5 := (show Frame [] w1 _ from by (repeat first | assumption | exact Frame.refl _ _ | refine Frame.trans1 ?_ (Frame.alloc _ _ _) | refine Frame.trans1 ?_ (Frame.drew _ _) | refine Frame.trans1 ?_ (Frame.drewN _ _ _))).trans f5 (fun x hx => .inr (by simp at hx; omega)); have hlt5 := B1.out.lt; have B5 : Blk w5 b2 36 #[.bool false, .slice none 0 0] := B2.out.frame f5 (by simp only [List.mem_singleton]; omega); have E5 := Lib.hid (And.intro (sl_dr (by simpa using sl5) OK.out) (And.intro hF5 B5)); have hcp := slCapD sl5; clear sl5 f5 hF5 hG5 B5 hlt5)
  have hcap5 : cap5 ≤ 9223372036854775807 := by have := hcp.2; unfold maxLen at this; omega
  have hcap1 := hcp.1
  clear hcp x0 xa B2 SL0
  go_loopw [3] (fun v wr => ∃ k : Nat, k ≤ xs.length ∧ v = .slice a5 k cap5 ∧ wr = w5 ∧ Hid (∀ j x, k ≤ j → xs[j]? = some x → x = 0)) (fun v _ => lenS v)
  case atStart => exact ⟨xs.length, Nat.le_refl _, rfl, rfl, fun j x hj he => by rw [List.getElem?_eq_none hj] at he; cases he⟩
  case round =>
    obtain ⟨k, hk, rfl, rfl, hz⟩ := hrel
    have fin : ∀ k, k = n → k = n := fun _ h => h
    cases k with
    | zero =>
      have e := (digW_take OK.out hk hz.out (fun x h => by omega)).2
      rw [HN.out] at e
      have B5 := E5.out.2.2
      have y0 := B5.at 0 rfl
      have y1 := B5.at 1 rfl
      have zf := B5.frozen
      have B9 := Lib.hid (putN B5 (.bool false) (.slice a5 0 cap5))
      have F9 := Lib.hid (putN_frame hbw (F0.out.trans1 E5.out.2.1) (.bool false) (.slice a5 0 cap5))
      have KD := Lib.hid (KeepD.blk (show Frame [b2] wr _ from (Frame.setCell (S := [b2]) wr ⟨b2, 0, none⟩ (.bool false) (by simp)).trans1 (Frame.setCell _ ⟨b2, 1, none⟩ (.slice a5 0 cap5) (by simp))) B5 (by decide))
      have DW := Lib.hid (E5.out.1.dig.kept KD.out)
      have HE := Lib.hid e
      clear B5 e
      go_wp2_with fail
      refine bodyPost_ret (results_cell_row rfl _ _ b2 36 #[.bool false, .slice a5 0 cap5] (0, 0) _ rfl B9.out Try.underlying36 rfl (by kernel_rfl)) rfl ?_
      exact ⟨_, rfl, ⟨a5, cap5, by rw [HNV.out, HN.out, ← HE.out], by rw [HNV.out]; exact DW.out⟩, F9.out⟩
    | succ k =>
      have hx : xs[k]? = some xs[k] := List.getElem?_eq_getElem (by omega)
      obtain ⟨b, off, rfl, x0⟩ := E5.out.1.cell hx
      have hW := @digW_take xs OK.out (k + 1) hk hz.out
      rw [Nat.add_sub_cancel, hx] at hW
      have HW := Lib.hid hW
      have hzz : ∀ x, xs[k]? = some x → x = xs[k] := fun x he => by rw [hx] at he; injection he with he; exact he.symm
      have HZ := Lib.hid hzz
      generalize xs[k] = x at *
      clear hW hx hzz
      by_cases h0 : x = 0
      · subst h0
        go_wp2_with fail
        go_roundw
        case rel =>
          refine ⟨k, by omega, by first | trivial | rfl, by first | trivial | rfl, fun j x hj he => ?_⟩
          rcases Nat.eq_or_lt_of_le hj with e | e
          · subst e; exact HZ.out x he
          · exact hz.out j x e he
        case measure => simp [lenS]
      · have e := (HW.out (fun y _ he => by injection he with he; rw [← he]; exact h0)).2
        rw [HN.out] at e
        have hb : (x == 0) = false := by simpa using h0
        have B5 := E5.out.2.2
        have y0 := B5.at 0 rfl
        have y1 := B5.at 1 rfl
        have zf := B5.frozen
        have B9 := Lib.hid (putN B5 (.bool false) (.slice (some ⟨b, off, none⟩) (k + 1 : Nat) cap5))
        have F9 := Lib.hid (putN_frame hbw (F0.out.trans1 E5.out.2.1) (.bool false) (.slice (some ⟨b, off, none⟩) (k + 1 : Nat) cap5))
        have KD := Lib.hid (KeepD.blk (show Frame [b2] wr _ from (Frame.setCell (S := [b2]) wr ⟨b2, 0, none⟩ (.bool false) (by simp)).trans1 (Frame.setCell _ ⟨b2, 1, none⟩ (.slice (some ⟨b, off, none⟩) (k + 1 : Nat) cap5) (by simp))) B5 (by decide))
        have DW := Lib.hid (E5.out.1.dig.kept KD.out)
        have HE := Lib.hid e
        clear h0 HW B5 e
        go_wp2_with fail
        refine bodyPost_ret (results_cell_row rfl _ _ b2 36 #[.bool false, .slice (some ⟨b, off, none⟩) (k + 1 : Nat) cap5] (0, 0) _ rfl B9.out Try.underlying36 rfl (by kernel_rfl)) rfl ?_
        exact ⟨_, rfl, ⟨some ⟨b, off, none⟩, cap5, by rw [HNV.out, HN.out, ← HE.out], by rw [HNV.out]; exact DW.out⟩, F9.out⟩
set_option maxRecDepth 100000 in
theorem clean_inf (w : World) : Calls Try.prog 33 #[.agg #[.bool true, .slice none 0 0]] w (NREnd none w) := by
  have B0 := (Blk.new w 36 #[.bool true, .slice none 0 0]).alloc (.cells #[.bool false, .slice none 0 0] 36)
  have B1 := Blk.new (w.alloc (.cells #[.bool true, .slice none 0 0] 36)) 36 #[.bool false, .slice none 0 0]
  have F0 := Lib.hid ((Frame.alloc [] w (.cells #[.bool true, .slice none 0 0] 36)).trans1 (Frame.alloc [] _ (.cells #[.bool false, .slice none 0 0] 36)))
  simp only [World.size_alloc] at B1
  go_enter Try.func33, Try.ntmps33
  go_upto_region 1 with fail
  generalize (w.alloc (.cells #[.bool true, .slice none 0 0] 36)).alloc (.cells #[.bool false, .slice none 0 0] 36) = w1 at *
  obtain ⟨b2, hb2⟩ : ∃ b2, w.heap.size + 1 = b2 := ⟨_, rfl⟩
  rw [hb2] at B1 ⊢
  have hbw : w.heap.size ≤ b2 := by omega
  have x0 := B0.at 0 rfl
  have y0 := B1.at 0 rfl
  have y1 := B1.at 1 rfl
  have zf := B1.frozen
  have B9 := Lib.hid (putN B1 (.bool true) (.slice none 0 0))
  have F9 := Lib.hid (putN_frame hbw F0.out (.bool true) (.slice none 0 0))
  clear B0 B1
  go_wp2_with fail
  refine bodyPost_ret (results_cell_row rfl _ _ b2 36 #[.bool true, .slice none 0 0] (0, 0) _ rfl B9.out Try.underlying36 rfl (by kernel_rfl)) rfl ?_
  exact ⟨_, rfl, rfl, F9.out⟩
theorem clean_any (v : Value) (x : Option Nat) (w : World) (h : NR w v x) (l : Sz x) : Calls Try.prog 33 #[v] w (NREnd x w) := by
  cases x with
  | none => subst h; exact clean_inf w
  | some m =>
    obtain ⟨a, c, rfl, h⟩ := h
    have := clean_dr a c (digs m) w h (by unfold Sz SZ at l; omega)
    rwa [valD_digs] at this
end Go.Proofs.Ytbnhhmejlglbcaa

namespace Go.Proofs.Ytbnhhmejlglbcaa
open Go.RowKit
set_option linter.unusedSimpArgs false
set_option linter.unusedVariables false

set_option maxRecDepth 100000 in
theorem may1_any (v : Value) (x : Option Nat) (w : World) (h : NR w v x) (l : Sz x) : Calls Try.prog 50 #[v] w fun e w' => e = .returned (.bool true) ∧ Frame [] w w' := by
  cases x with
  | none =>
    subst h
    have BX := Blk.new w 36 #[.bool true, .slice none 0 0]
    have FX := Lib.hid (Frame.alloc [] w (.cells #[.bool true, .slice none 0 0] 36))
    go_enter Try.func50, Try.ntmps50
    go_upto_region 1 with fail
    generalize w.alloc (.cells #[.bool true, .slice none 0 0] 36) = w1 at *
    have x0 := BX.at 0 rfl
    have x1 := BX.at 1 rfl
    clear BX
    go_wp2_with fail
    go_ret
    exact ⟨rfl, FX.out⟩
  | some m =>
    obtain ⟨a, c, rfl, h⟩ := h
    have hc : (digs m).length ≤ c := h.2.1
    have hl : (digs m).length ≤ 100000000 := l
    have H := Lib.hid h
    clear h l
    obtain ⟨n, hn⟩ : ∃ n, (digs m).length = n := ⟨_, rfl⟩
    rw [hn] at hl hc ⊢
    have BX := Blk.new w 36 #[.bool false, .slice a n c]
    have FX := Lib.hid (Frame.alloc [] w (.cells #[.bool false, .slice a n c] 36))
    cases n with
    | zero =>
      go_enter Try.func50, Try.ntmps50
      go_upto_region 1 with fail
      generalize w.alloc (.cells #[.bool false, .slice a 0 c] 36) = w1 at *
      have x0 := BX.at 0 rfl
      have x1 := BX.at 1 rfl
      clear BX
      go_wp2_with fail
      go_ret
      exact ⟨rfl, FX.out⟩
    | succ n =>
      have hx : (digs m)[n]? = some ((digs m)[n]'(by omega)) := List.getElem?_eq_getElem _
      generalize (digs m)[n]'(by omega) = x at hx
      obtain ⟨b, off, rfl, z0⟩ := H.out.cell hx
      have hne : x ≠ 0 := digs_last (n := m) (by rw [List.getLast?_eq_getElem?, hn, Nat.add_sub_cancel]; exact hx)
      have hb : (x == 0) = false := by simpa using hne
      have hb2 : (x != 0) = true := by simp [bne, hb]
      have hnz : (((n : Int) + 1) == 0) = false := by simp; omega
      clear hne hx
      go_enter Try.func50, Try.ntmps50
      go_upto_region 1 with fail
      have z1 := FX.out.cell z0 (by simp)
      generalize w.alloc (.cells #[.bool false, .slice (some ⟨b, off, none⟩) (n + 1) c] 36) = w1 at *
      have x0 := BX.at 0 rfl
      have x1 := BX.at 1 rfl
      clear BX z0
      go_wp2_with fail
      go_ret
      exact ⟨rfl, FX.out⟩
set_option maxRecDepth 100000 in
theorem ofNat1_1 (w : World) : Calls Try.prog 12 #[.int .u64 1] w (NREnd (some 1) w) := by
  go_enter Try.func12, Try.ntmps12
  have B0 := Lib.hid ((Blk.new w 36 #[.bool false, .slice none 0 0]).alloc (.cells #[.int .u32 1, .int .u32 0] 77))
  have B1 := Blk.new (w.alloc (.cells #[.bool false, .slice none 0 0] 36)) 77 #[.int .u32 1, .int .u32 0]
  have F1 : Hid (Frame [] w ((w.alloc (.cells #[.bool false, .slice none 0 0] 36)).alloc (.cells #[.int .u32 1, .int .u32 0] 77))) := by show Frame [] w _; (repeat first | assumption | exact Frame.refl _ _ | refine Frame.trans1 ?_ (Frame.alloc _ _ _) | refine Frame.trans1 ?_ (Frame.drew _ _) | refine Frame.trans1 ?_ (Frame.drewN _ _ _))
  simp only [World.size_alloc] at B1
  go_wp2_with fail
  generalize (w.alloc (.cells #[.bool false, .slice none 0 0] 36)).alloc (.cells #[.int .u32 1, .int .u32 0] 77) = w1 at *
  have D : DR w1 (some ⟨w.heap.size + 1, 0, none⟩) 2 [1, 0] := DR.of_blk (by intro d hd; simp at hd; omega) B1 (by simp) (by unfold maxLen; omega) (fun k x hk => by
    match k, hk with
    | 0, hk => simp at hk; subst hk; rfl
    | 1, hk => simp at hk; subst hk; rfl
    | k + 2, hk => simp at hk)
  refine (clean_dr (some ⟨w.heap.size + 1, 0, none⟩) 2 [1, 0] w1 D (by simp)).mono ?_
  rintro e w2 ⟨v, rfl, nv, f2⟩
  rw [show valD [1, 0] = 1 from rfl] at nv
  obtain ⟨i, a, n, c, rfl⟩ := nv.form
  have C0 := B0.out.frame f2 (by simp)
  have y0 := C0.at 0 rfl
  have y1 := C0.at 1 rfl
  have zf := C0.frozen
  have B5 := Lib.hid (putN C0 (.bool i) (.slice a n c))
  have F5 := Lib.hid (putN_frame (w0 := w) (Nat.le_refl _) (F1.out.trans1 f2) (.bool i) (.slice a n c))
  have KD := Lib.hid (KeepD.blk (show Frame [w.heap.size] w2 _ from (Frame.setCell (S := [w.heap.size]) w2 ⟨w.heap.size, 0, none⟩ (.bool i) (by simp)).trans1 (Frame.setCell _ ⟨w.heap.size, 1, none⟩ (.slice a n c) (by simp))) C0 (by decide))
  have NV := Lib.hid (nv.kept KD.out)
  clear C0 f2 B1 D nv
  go_wp2_with fail
  refine bodyPost_ret (results_cell_row rfl _ _ w.heap.size 36 #[.bool i, .slice a n c] (0, 0) _ rfl B5.out Try.underlying36 rfl (by kernel_rfl)) rfl ?_
  exact ⟨_, rfl, NV.out, F5.out⟩
set_option maxHeartbeats 4000000 in
set_option maxRecDepth 100000 in
theorem cmp1_any (u v : Value) (x y : Option Nat) (w : World) (h1 : NR w u x) (h2 : NR w v y) (l1 : Sz x) (l2 : Sz y) :
    Calls Try.prog 30 #[u, v] w fun e w' => e = .returned (.int .i64 (cmpO x y)) ∧ Frame [] w w' := by
  have C1 := Lib.hid (fun w' (f : Frame [] w w') => clean_any u x w' (h1.frame f) l1)
  have C2 := Lib.hid (fun w' (f : Frame [] w w') => clean_any v y w' (h2.frame f) l2)
  obtain ⟨i, a, n, c, rfl⟩ := h1.form
  obtain ⟨j, b, m, d, rfl⟩ := h2.form
  clear h1 h2
  obtain ⟨B0, B1, F⟩ := boxes2 w #[.bool i, .slice a n c] #[.bool j, .slice b m d]
  have FF := Lib.hid F
  have B1 := Lib.hid B1
  obtain ⟨r, hr⟩ : ∃ r, cmpO x y = r := ⟨_, rfl⟩
  rw [hr]
  have HR := Lib.hid hr
  clear hr F
  go_enter Try.func30, Try.ntmps30
  go_upto_region 1 with fail
  generalize (w.alloc (.cells #[.bool i, .slice a n c] 36)).alloc (.cells #[.bool j, .slice b m d] 36) = w1 at *
  have x0 := B0.at 0 rfl
  have x1 := B0.at 1 rfl
  clear B0
  go_wp2_with fail
  refine (C1.out _ FF.out).mono ?_
  rintro e w2 ⟨v1, rfl, n1, f2⟩
  obtain ⟨i1, a1, k1, c1, rfl⟩ := n1.form
  go_upto_region 2 with fail
  have BX := Lib.hid (Blk.new w2 36 #[.bool i1, .slice a1 k1 c1])
  have f3 := f2.trans1 (Frame.alloc [] w2 (.cells #[.bool i1, .slice a1 k1 c1] 36))
  have N1 := Lib.hid (n1.frame (Frame.alloc [] w2 (.cells #[.bool i1, .slice a1 k1 c1] 36)))
  generalize w2.alloc (.cells #[.bool i1, .slice a1 k1 c1] 36) = w3 at *
  generalize w2.heap.size = b5 at *
  have y0 := (B1.out.frame f3 (by simp)).at 0 rfl
  have y1 := (B1.out.frame f3 (by simp)).at 1 rfl
  have F3 := Lib.hid (FF.out.trans1 f3)
  clear f2 f3 n1 x0 x1
  go_wp2_with fail
  refine (C2.out _ F3.out).mono ?_
  rintro e w4 ⟨v2, rfl, n2, f4⟩
  obtain ⟨i2, a2, k2, c2, rfl⟩ := n2.form
  go_upto_region 3 with fail
  have BY := Lib.hid (Blk.new w4 36 #[.bool i2, .slice a2 k2 c2])
  have f5 := f4.trans1 (Frame.alloc [] w4 (.cells #[.bool i2, .slice a2 k2 c2] 36))
  have N2 := Lib.hid (n2.frame (Frame.alloc [] w4 (.cells #[.bool i2, .slice a2 k2 c2] 36)))
  generalize w4.alloc (.cells #[.bool i2, .slice a2 k2 c2] 36) = w5 at *
  generalize w4.heap.size = b6 at *
  have N1 := Lib.hid (N1.out.frame f5)
  have BX := Lib.hid (BX.out.frame f5 (by simp))
  have F5 := Lib.hid (F3.out.trans1 f5)
  clear f4 f5 n2 y0 y1 C1 C2 B1
  have x0 := BX.out.at 0 rfl
  have x1 := BX.out.at 1 rfl
  have y0 := BY.out.at 0 rfl
  have y1 := BY.out.at 1 rfl
  cases x with
  | none =>
    have e1 : (.agg #[.bool i1, .slice a1 k1 c1] : Value) = .agg #[.bool true, .slice none 0 0] := N1.out
    simp at e1
    obtain ⟨rfl, rfl, rfl, rfl⟩ := e1
    cases y with
    | none =>
      have e1 : (.agg #[.bool i2, .slice a2 k2 c2] : Value) = .agg #[.bool true, .slice none 0 0] := N2.out
      simp at e1
      obtain ⟨rfl, rfl, rfl, rfl⟩ := e1
      have e := HR.out
      simp only [cmpO] at e
      subst e
      go_wp2_with fail
      go_ret
      exact ⟨rfl, F5.out⟩
    | some q =>
      obtain ⟨a9, c9, e1, -⟩ := N2.out
      simp at e1
      obtain ⟨rfl, rfl, rfl, rfl⟩ := e1
      have e := HR.out
      simp only [cmpO] at e
      subst e
      go_wp2_with fail
      go_ret
      exact ⟨rfl, F5.out⟩
  | some p =>
    obtain ⟨a9, c9, e1, d1⟩ := N1.out
    simp at e1
    obtain ⟨rfl, rfl, rfl, rfl⟩ := e1
    cases y with
    | none =>
      have e1 : (.agg #[.bool i2, .slice a2 k2 c2] : Value) = .agg #[.bool true, .slice none 0 0] := N2.out
      simp at e1
      obtain ⟨rfl, rfl, rfl, rfl⟩ := e1
      have e := HR.out
      simp only [cmpO] at e
      subst e
      go_wp2_with fail
      go_ret
      exact ⟨rfl, F5.out⟩
    | some q =>
      obtain ⟨a8, c8, e1, d2⟩ := N2.out
      simp at e1
      obtain ⟨rfl, rfl, rfl, rfl⟩ := e1
      have hR : cmpZ p q = r := HR.out
      have hl1 : (digs p).length ≤ 100000000 := l1
      have hl2 : (digs q).length ≤ 100000000 := l2
      have hc1 : (digs p).length ≤ c1 := d1.2.1
      have hc2 : (digs q).length ≤ c2 := d2.2.1
      have D1 := Lib.hid d1
      have D2 := Lib.hid d2
      have CR := Lib.hid hR
      have LL := Lib.hid (fun (h : (digs p).length < (digs q).length) => digs_len_lt h)
      have LG := Lib.hid (fun (h : (digs q).length < (digs p).length) => digs_len_lt h)
      obtain ⟨P, hP⟩ : ∃ P, (digs p).length = P := ⟨_, rfl⟩
      obtain ⟨Q, hQ⟩ : ∃ Q, (digs q).length = Q := ⟨_, rfl⟩
      rw [hP] at hl1 hc1 LL LG x1 ⊢
      rw [hQ] at hl2 hc2 LL LG y1 ⊢
      have HP := Lib.hid hP
      have HQ := Lib.hid hQ
      clear d1 d2 N1 N2 hR l1 l2 hP hQ BX BY HR
      rcases Nat.lt_trichotomy P Q with hlt | heq | hgt
      · have d1 : decide ((P : Int) < Q) = true := decide_eq_true (by omega)
        have d2 : ((P : Int) == Q) = false := by simp; omega
        have d3 : ((P : Int) != Q) = true := by simp [bne, d2]
        have d4 : decide (P < Q) = true := decide_eq_true (by omega)
        have d5 : (P == Q) = false := by simp; omega
        have d6 : (P != Q) = true := by simp [bne, d5]
        have e : (-1 : Int) = r := by
          rw [← CR.out]
          have := LL.out hlt
          have h2 : (p : Int) < q := by omega
          simp [cmpZ, h2]
        subst e
        clear hlt
        go_wp2_with fail
        go_ret
        exact ⟨rfl, F5.out⟩
      · subst heq
        have d2 : ((P : Int) == P) = true := by simp
        have d3 : ((P : Int) != P) = false := by simp [bne, d2]
        go_wp2_with fail
        go_loopw [7] (fun i wr => ∃ k : Nat, k ≤ P ∧ i = .int .i64 ((k : Int) - 1) ∧ Hid ((digs p).drop k = (digs q).drop k ∧ Frame [] w5 wr)) (fun i _ => ((intOf i) + 1).toNat)
        case atStart => exact ⟨P, Nat.le_refl _, rfl, Lib.hid ⟨by rw [List.drop_eq_nil_of_le (by rw [HP.out]; exact Nat.le_refl _), List.drop_eq_nil_of_le (by rw [HQ.out]; exact Nat.le_refl _)], Frame.refl _ _⟩⟩
        case round =>
          rename World => wr
          obtain ⟨k, hk, rfl, hR⟩ := hrel
          cases k with
          | zero =>
            have e : 0 = r := by
              rw [← CR.out]
              have := hR.out.1
              rw [List.drop_zero, List.drop_zero] at this
              have := digs_inj this
              subst this
              simp [cmpZ]
            subst e
            go_wp2_with fail
            go_ret
            exact ⟨rfl, F5.out.trans1 hR.out.2⟩
          | succ k =>
            have hx : (digs p)[k]? = some ((digs p)[k]'(by rw [HP.out]; omega)) := List.getElem?_eq_getElem _
            have hy : (digs q)[k]? = some ((digs q)[k]'(by rw [HQ.out]; omega)) := List.getElem?_eq_getElem _
            generalize (digs p)[k]'(by rw [HP.out]; omega) = e1 at hx
            generalize (digs q)[k]'(by rw [HQ.out]; omega) = e2 at hy
            obtain ⟨b, off, rfl, z0⟩ := D1.out.cell hx
            obtain ⟨b', off', rfl, z1⟩ := D2.out.cell hy
            have NX := Lib.hid ((show CmpS p q 0 (k + 1) from .inl ⟨rfl, by rw [HP.out, HQ.out], hR.out.1⟩).next hx hy)
            have FR := Lib.hid (F5.out.trans1 hR.out.2)
            have F5R := Lib.hid hR.out.2
            have z0 := hR.out.2.cell z0 (by simp)
            have z1 := hR.out.2.cell z1 (by simp)
            have x1 := hR.out.2.cell x1 (by simp)
            have y1 := hR.out.2.cell y1 (by simp)
            have g1 : decide ((0 : Int) ≤ (k : Int)) = true := by simp
            clear hx hy hR
            rcases Int.lt_trichotomy e1 e2 with h | h | h
            · have q1 : (e1 == e2) = false := by simp; omega
              have q2 : (e1 != e2) = true := by simp [bne, q1]
              have q3 : decide (e1 < e2) = true := decide_eq_true h
              have e : (-1 : Int) = r := by
                rw [← CR.out]
                have hh : cmpZ e1 e2 = -1 := by simp [cmpZ, h]
                rcases NX.out with h0 | h0
                · rw [hh] at h0; exact absurd h0.1 (by decide)
                · rw [← h0.2, hh]
              subst e
              clear h
              go_wp2_with fail
              go_quiet (fail)
              go_wp2_with fail
              go_quiet (fail)
              go_wp2_with fail
              go_ret
              exact ⟨rfl, FR.out.trans1 (by (repeat first | assumption | exact Frame.refl _ _ | refine Frame.trans1 ?_ (Frame.alloc _ _ _) | refine Frame.trans1 ?_ (Frame.drew _ _) | refine Frame.trans1 ?_ (Frame.drewN _ _ _)))⟩
            · subst h
              have q1 : (e1 == e1) = true := by simp
              have q2 : (e1 != e1) = false := by simp [bne]
              have e : CmpS p q 0 k := by
                have hh : cmpZ e1 e1 = 0 := by simp [cmpZ]
                have := NX.out
                rwa [hh] at this
              have E := Lib.hid e
              clear e NX
              go_wp2_with fail
              go_quiet (fail)
              go_wp2_with fail
              go_roundw
              case rel => exact ⟨k, by omega, by first | trivial | rfl | go_num, Lib.hid ⟨by rcases E.out with h | h; exact h.2.2; exact absurd rfl h.1, F5R.out.trans1 (by (repeat first | assumption | exact Frame.refl _ _ | refine Frame.trans1 ?_ (Frame.alloc _ _ _) | refine Frame.trans1 ?_ (Frame.drew _ _) | refine Frame.trans1 ?_ (Frame.drewN _ _ _)))⟩⟩
              case measure => first | (simp [intOf]; done) | (simp [intOf]; omega)
            · have q1 : (e1 == e2) = false := by simp; omega
              have q2 : (e1 != e2) = true := by simp [bne, q1]
              have q3 : decide (e1 < e2) = false := decide_eq_false (by omega)
              have e : (1 : Int) = r := by
                rw [← CR.out]
                have hh : cmpZ e1 e2 = 1 := by
                  have : ¬ e1 < e2 := by omega
                  simp [cmpZ, h, this]
                rcases NX.out with h0 | h0
                · rw [hh] at h0; exact absurd h0.1 (by decide)
                · rw [← h0.2, hh]
              subst e
              clear h
              go_wp2_with fail
              go_quiet (fail)
              go_wp2_with fail
              go_quiet (fail)
              go_wp2_with fail
              go_ret
              exact ⟨rfl, FR.out.trans1 (by (repeat first | assumption | exact Frame.refl _ _ | refine Frame.trans1 ?_ (Frame.alloc _ _ _) | refine Frame.trans1 ?_ (Frame.drew _ _) | refine Frame.trans1 ?_ (Frame.drewN _ _ _)))⟩
      · have d1 : decide ((P : Int) < Q) = false := decide_eq_false (by omega)
        have d2 : ((P : Int) == Q) = false := by simp; omega
        have d3 : ((P : Int) != Q) = true := by simp [bne, d2]
        have d4 : decide (P < Q) = false := decide_eq_false (by omega)
        have d5 : (P == Q) = false := by simp; omega
        have d6 : (P != Q) = true := by simp [bne, d5]
        have e : (1 : Int) = r := by
          rw [← CR.out]
          have := LG.out hgt
          have h2 : ¬ (p : Int) < q := by omega
          have h3 : (q : Int) < p := by omega
          simp [cmpZ, h2, h3]
        subst e
        clear hgt
        go_wp2_with fail
        go_ret
        exact ⟨rfl, F5.out⟩
end Go.Proofs.Ytbnhhmejlglbcaa

