/- tansyref1's values at all six semirings. (printed by gen_ref1.py) -/
import Derived.Test.YtbnhhmejlglbcaaGreatMo40
import Derived.Test.YtbnhhmejlglbcaaGreatMo43
namespace Go.Proofs.YtbnhhmejlglbcaaGreat
open Go.RowKit
set_option linter.unusedSimpArgs false
set_option linter.unusedVariables false

theorem bits1_any {x : Nat} (hx : x ≤ fInf) (w : World) : Calls Tryz.prog 62 #[.float .f64 x] w fun e w' => e = .returned (.int .u64 x) ∧ w' = w := by
  have q1 := ford_self hx
  have q2 := fun w => run_fbits x w
  go_enter Tryz.func62, Tryz.ntmps62
  go_wp2_with fail
  go_ret
  exact ⟨rfl, rfl⟩
theorem fsame1_any {x y : Nat} (hx : x ≤ fInf) (hy : y ≤ fInf) (w : World) : Calls Tryz.prog 70 #[.float .f64 x, .float .f64 y] w fun e w' => e = .returned (.bool (decide (x = y))) ∧ w' = w := by
  go_enter Tryz.func70, Tryz.ntmps70
  go_wp2_with fail
  refine (bits1_any hx _).mono ?_
  rintro e w ⟨rfl, rfl⟩
  go_wp2_with fail
  refine (bits1_any hy _).mono ?_
  rintro e w ⟨rfl, rfl⟩
  go_wp2_with fail
  go_ret
  refine ⟨?_, rfl⟩
  have e1 : ((x : Int) == (y : Int)) = decide (x = y) := by
    by_cases h : x = y
    · subst h; simp
    · have : ¬ (x : Int) = y := by omega
      simp [h, this]
  rw [← e1]; rfl
set_option maxRecDepth 100000 in
theorem of1_inf (w : World) : Calls Tryz.prog 63 #[.int .u64 9218868437227405312] w fun e w' => e = .returned (.float .f64 fInf) ∧ w' = w := by
  have q1 := ford_self (Nat.le_refl fInf)
  have q2 : ∀ w, (callFunc 105 #[.int .u64 9218868437227405312]).run Tryz.prog w = .ok (.value (.float .f64 fInf)) w := fun w => run_ffrom fInf w
  go_enter Tryz.func63, Tryz.ntmps63
  go_wp2_with fail
  go_ret
  exact ⟨rfl, rfl⟩
set_option maxRecDepth 100000 in
theorem mv_1 (x : Option Nat) (i : Bool) (a : Option Addr) (l c : Nat) (w : World) (h : NR w (.agg #[.bool i, .slice a l c]) x) (hl : Sz x) : Calls Tryz.prog 13 #[.agg #[.int .i64 1, .bool i, .slice a l c, .int .i64 0, .float .f64 0]] w fun e w' => e = .returned (.int .i64 0) ∧ Frame [] w w' := by
  have hst := fun (w : World) (a : Addr) (q : Nat) (m : Mode) => run_store Tryz.prog w a (.float .f64 q) m rfl
  have NM := Lib.hid (fun w' (f : Frame [] w w') => may1_any _ x w' (h.frame f) hl)
  clear h
  have BX := Blk.new w 37 #[.int .i64 1, .bool i, .slice a l c, .int .i64 0, .float .f64 0]
  have F1 := Lib.hid (Frame.alloc [] w (.cells #[.int .i64 1, .bool i, .slice a l c, .int .i64 0, .float .f64 0] 37))
  go_enter Tryz.func13, Tryz.ntmps13
  go_upto_region 1 with fail
  generalize w.alloc (.cells #[.int .i64 1, .bool i, .slice a l c, .int .i64 0, .float .f64 0] 37) = w1 at *
  have x0 := BX.at 0 rfl
  have x1 := BX.at 1 rfl
  have x2 := BX.at 2 rfl
  go_wp2_with fail
  refine (NM.out _ F1.out).mono ?_
  rintro e w3 ⟨rfl, f3⟩
  have F3 := Lib.hid (F1.out.trans1 f3)
  clear f3 BX
  go_wp2_with fail
  go_ret
  exact ⟨rfl, F3.out⟩
set_option maxRecDepth 100000 in
theorem mv_2 (x : Int) (w : World) (h0 : 0 ≤ x) (h1 : x ≤ lTop 2) : Calls Tryz.prog 13 #[.agg #[.int .i64 2, .bool false, .slice none 0 0, .int .i64 x, .float .f64 0]] w fun e w' => e = .returned (.int .i64 0) ∧ Frame [] w w' := by
  have hst := fun (w : World) (a : Addr) (q : Nat) (m : Mode) => run_store Tryz.prog w a (.float .f64 q) m rfl
  have hx : x = 0 ∨ x = 1 := by have : x ≤ 1 := h1; omega
  rcases hx with hx | hx
  · have q0 : (x == 0) = true := by simp [hx]
    clear hx
    have BX := Blk.new w 37 #[.int .i64 2, .bool false, .slice none 0 0, .int .i64 x, .float .f64 0]
    have F1 := Lib.hid (Frame.alloc [] w (.cells #[.int .i64 2, .bool false, .slice none 0 0, .int .i64 x, .float .f64 0] 37))
    go_enter Tryz.func13, Tryz.ntmps13
    go_upto_region 1 with fail
    generalize w.alloc (.cells #[.int .i64 2, .bool false, .slice none 0 0, .int .i64 x, .float .f64 0] 37) = w1 at *
    have x0 := BX.at 0 rfl
    have x3 := BX.at 3 rfl
    go_wp2_with fail
    go_ret
    exact ⟨rfl, F1.out⟩
  · have q0 : (x == 0) = false := by simp [hx]
    have q1 : (x == 1) = true := by simp [hx]
    clear hx
    have BX := Blk.new w 37 #[.int .i64 2, .bool false, .slice none 0 0, .int .i64 x, .float .f64 0]
    have F1 := Lib.hid (Frame.alloc [] w (.cells #[.int .i64 2, .bool false, .slice none 0 0, .int .i64 x, .float .f64 0] 37))
    go_enter Tryz.func13, Tryz.ntmps13
    go_upto_region 1 with fail
    generalize w.alloc (.cells #[.int .i64 2, .bool false, .slice none 0 0, .int .i64 x, .float .f64 0] 37) = w1 at *
    have x0 := BX.at 0 rfl
    have x3 := BX.at 3 rfl
    go_wp2_with fail
    go_ret
    exact ⟨rfl, F1.out⟩
set_option maxRecDepth 100000 in
theorem mv_3 (x : Option Nat) (i : Bool) (a : Option Addr) (l c : Nat) (w : World) (h : NR w (.agg #[.bool i, .slice a l c]) x) (hl : Sz x) : Calls Tryz.prog 13 #[.agg #[.int .i64 3, .bool i, .slice a l c, .int .i64 0, .float .f64 0]] w fun e w' => e = .returned (.int .i64 0) ∧ Frame [] w w' := by
  have hst := fun (w : World) (a : Addr) (q : Nat) (m : Mode) => run_store Tryz.prog w a (.float .f64 q) m rfl
  have NM := Lib.hid (fun w' (f : Frame [] w w') => may1_any _ x w' (h.frame f) hl)
  clear h
  have BX := Blk.new w 37 #[.int .i64 3, .bool i, .slice a l c, .int .i64 0, .float .f64 0]
  have F1 := Lib.hid (Frame.alloc [] w (.cells #[.int .i64 3, .bool i, .slice a l c, .int .i64 0, .float .f64 0] 37))
  go_enter Tryz.func13, Tryz.ntmps13
  go_upto_region 1 with fail
  generalize w.alloc (.cells #[.int .i64 3, .bool i, .slice a l c, .int .i64 0, .float .f64 0] 37) = w1 at *
  have x0 := BX.at 0 rfl
  have x1 := BX.at 1 rfl
  have x2 := BX.at 2 rfl
  go_wp2_with fail
  refine (NM.out _ F1.out).mono ?_
  rintro e w3 ⟨rfl, f3⟩
  have F3 := Lib.hid (F1.out.trans1 f3)
  clear f3 BX
  go_wp2_with fail
  go_ret
  exact ⟨rfl, F3.out⟩
set_option maxRecDepth 100000 in
theorem mv_4 (x : Int) (w : World) (h0 : 0 ≤ x) (h1 : x ≤ lTop 4) : Calls Tryz.prog 13 #[.agg #[.int .i64 4, .bool false, .slice none 0 0, .int .i64 x, .float .f64 0]] w fun e w' => e = .returned (.int .i64 0) ∧ Frame [] w w' := by
  have hst := fun (w : World) (a : Addr) (q : Nat) (m : Mode) => run_store Tryz.prog w a (.float .f64 q) m rfl
  have d0 : decide ((0 : Int) ≤ x) = true := decide_eq_true h0
  have d1 : decide (x ≤ 7) = true := decide_eq_true h1
  have BX := Blk.new w 37 #[.int .i64 4, .bool false, .slice none 0 0, .int .i64 x, .float .f64 0]
  have F1 := Lib.hid (Frame.alloc [] w (.cells #[.int .i64 4, .bool false, .slice none 0 0, .int .i64 x, .float .f64 0] 37))
  go_enter Tryz.func13, Tryz.ntmps13
  go_upto_region 1 with fail
  generalize w.alloc (.cells #[.int .i64 4, .bool false, .slice none 0 0, .int .i64 x, .float .f64 0] 37) = w1 at *
  have x0 := BX.at 0 rfl
  have x3 := BX.at 3 rfl
  go_wp2_with fail
  go_ret
  exact ⟨rfl, F1.out⟩
set_option maxRecDepth 100000 in
theorem mv_5 (x : Nat) (w : World) (h : x ≤ fTop 5) : Calls Tryz.prog 13 #[.agg #[.int .i64 5, .bool false, .slice none 0 0, .int .i64 0, .float .f64 x]] w fun e w' => e = .returned (.int .i64 0) ∧ Frame [] w w' := by
  have hst := fun (w : World) (a : Addr) (q : Nat) (m : Mode) => run_store Tryz.prog w a (.float .f64 q) m rfl
  have hx : x ≤ fInf := Nat.le_trans h (by decide)
  have BT := Lib.hid (fun w => bits1_any hx w)
  have d9 : decide ((x : Int) < 9223372036854775808) = true := decide_eq_true (by unfold fInf at hx; omega)
  obtain ⟨o1, p1, c1⟩ := ford hx fzero_le
  have A1 : o1 = .eq ∨ o1 = .gt := by cases c1 <;> first | (exact .inl rfl) | (exact .inr rfl) | omega
  obtain ⟨o2, p2, c2⟩ := ford hx fone_le
  have A2 : o2 = .lt ∨ o2 = .eq := by
    have h5 : x ≤ fOne := h
    cases c2 <;> first | (exact .inl rfl) | (exact .inr rfl) | omega
  have p2 : FloatKind.f64.format.order x 4607182418800017408 = some o2 := p2
  clear c1 c2
  rcases A1 with rfl | rfl <;> rcases A2 with rfl | rfl
  all_goals
    have BX := Blk.new w 37 #[.int .i64 5, .bool false, .slice none 0 0, .int .i64 0, .float .f64 x]
    have F1 := Lib.hid (Frame.alloc [] w (.cells #[.int .i64 5, .bool false, .slice none 0 0, .int .i64 0, .float .f64 x] 37))
    go_enter Tryz.func13, Tryz.ntmps13
    go_upto_region 1 with fail
    generalize w.alloc (.cells #[.int .i64 5, .bool false, .slice none 0 0, .int .i64 0, .float .f64 x] 37) = w1 at *
    have x0 := BX.at 0 rfl
    have x4 := BX.at 4 rfl
    go_wp2_with fail
    refine (BT.out _).mono ?_
    rintro e w3 ⟨rfl, rfl⟩
    go_wp2_with fail
    go_ret
    exact ⟨rfl, F1.out⟩
set_option maxRecDepth 100000 in
theorem mv_6 (x : Nat) (w : World) (h : x ≤ fTop 6) : Calls Tryz.prog 13 #[.agg #[.int .i64 6, .bool false, .slice none 0 0, .int .i64 0, .float .f64 x]] w fun e w' => e = .returned (.int .i64 0) ∧ Frame [] w w' := by
  have hst := fun (w : World) (a : Addr) (q : Nat) (m : Mode) => run_store Tryz.prog w a (.float .f64 q) m rfl
  have hx : x ≤ fInf := Nat.le_trans h (by decide)
  have BT := Lib.hid (fun w => bits1_any hx w)
  have d9 : decide ((x : Int) < 9223372036854775808) = true := decide_eq_true (by unfold fInf at hx; omega)
  obtain ⟨o1, p1, c1⟩ := ford hx fzero_le
  have A1 : o1 = .eq ∨ o1 = .gt := by cases c1 <;> first | (exact .inl rfl) | (exact .inr rfl) | omega
  clear c1
  rcases A1 with rfl | rfl
  all_goals
    have BX := Blk.new w 37 #[.int .i64 6, .bool false, .slice none 0 0, .int .i64 0, .float .f64 x]
    have F1 := Lib.hid (Frame.alloc [] w (.cells #[.int .i64 6, .bool false, .slice none 0 0, .int .i64 0, .float .f64 x] 37))
    go_enter Tryz.func13, Tryz.ntmps13
    go_upto_region 1 with fail
    generalize w.alloc (.cells #[.int .i64 6, .bool false, .slice none 0 0, .int .i64 0, .float .f64 x] 37) = w1 at *
    have x0 := BX.at 0 rfl
    have x4 := BX.at 4 rfl
    go_wp2_with fail
    refine (BT.out _).mono ?_
    rintro e w3 ⟨rfl, rfl⟩
    go_wp2_with fail
    go_ret
    exact ⟨rfl, F1.out⟩
set_option maxRecDepth 100000 in
theorem zero1_1 (w : World) : Calls Tryz.prog 15 #[.int .i64 1] w (VEnd (IsN 1) (rgN1).z w) := by
  have hst := fun (w : World) (a : Addr) (q : Nat) (m : Mode) => run_store Tryz.prog w a (.float .f64 q) m rfl
  go_enter Tryz.func15, Tryz.ntmps15
  go_wp2_with fail
  refine bodyPost_ret (results_val2 rfl _ _ _ _ _ _ _ _ rfl (Blk.new w 37 _)) rfl ?_
  exact ⟨_, rfl, ⟨_, _, _, _, rfl, nr_zero _⟩, Frame.alloc _ _ _⟩
set_option maxRecDepth 100000 in
theorem one1_1 (w : World) : Calls Tryz.prog 19 #[.int .i64 1] w (VEnd (IsN 1) (rgN1).o w) := by
  have hst := fun (w : World) (a : Addr) (q : Nat) (m : Mode) => run_store Tryz.prog w a (.float .f64 q) m rfl
  go_enter Tryz.func19, Tryz.ntmps19
  go_wp2_with fail
  refine (ofNat1_1 _).mono ?_
  rintro e w1 ⟨v, rfl, nv, f1⟩
  obtain ⟨i, a, l, c, rfl⟩ := nv.form
  have BX := (Blk.new w 37 #[.int .i64 0, .bool false, .slice none 0 0, .int .i64 0, .float .f64 0]).frame f1 (by simp)
  have F1 := Lib.hid ((Frame.alloc [] w (.cells #[.int .i64 0, .bool false, .slice none 0 0, .int .i64 0, .float .f64 0] 37)).trans1 f1)
  have y0 := BX.at 0 rfl
  have y1 := BX.at 1 rfl
  have y2 := BX.at 2 rfl
  have y3 := BX.at 3 rfl
  have y4 := BX.at 4 rfl
  have zf := BX.frozen
  have B5 := Lib.hid (putV BX (.int .i64 1) (.bool i) (.slice a l c) (.int .i64 0) (.float .f64 0))
  have F5 := Lib.hid (putV_frame (w := w) (b := w.heap.size) (by omega) F1.out (.int .i64 1) (.bool i) (.slice a l c) (.int .i64 0) (.float .f64 0))
  have KD := Lib.hid (putV_keep BX (.int .i64 1) (.bool i) (.slice a l c) (.int .i64 0) (.float .f64 0))
  have NV := Lib.hid (nv.kept KD.out)
  clear BX f1 nv
  go_wp2_with fail
  refine bodyPost_ret (results_val2 rfl _ _ _ _ _ _ _ _ rfl B5.out) rfl ?_
  exact ⟨_, rfl, ⟨_, _, _, _, rfl, NV.out⟩, F5.out⟩
set_option maxRecDepth 100000 in
theorem zero1_2 (w : World) : Calls Tryz.prog 15 #[.int .i64 2] w (VEnd (IsL 2) (rgL 2).z w) := by
  have hst := fun (w : World) (a : Addr) (q : Nat) (m : Mode) => run_store Tryz.prog w a (.float .f64 q) m rfl
  go_enter Tryz.func15, Tryz.ntmps15
  go_wp2_with fail
  refine bodyPost_ret (results_val2 rfl _ _ _ _ _ _ _ _ rfl (Blk.new w 37 _)) rfl ?_
  exact ⟨_, rfl, ⟨rfl, by decide, by decide⟩, Frame.alloc _ _ _⟩
set_option maxRecDepth 100000 in
theorem one1_2 (w : World) : Calls Tryz.prog 19 #[.int .i64 2] w (VEnd (IsL 2) (rgL 2).o w) := by
  have hst := fun (w : World) (a : Addr) (q : Nat) (m : Mode) => run_store Tryz.prog w a (.float .f64 q) m rfl
  go_enter Tryz.func19, Tryz.ntmps19
  go_wp2_with fail
  refine bodyPost_ret (results_val2 rfl _ _ _ _ _ _ _ _ rfl (Blk.new w 37 _)) rfl ?_
  exact ⟨_, rfl, ⟨rfl, by decide, by decide⟩, Frame.alloc _ _ _⟩
set_option maxRecDepth 100000 in
theorem zero1_3 (w : World) : Calls Tryz.prog 15 #[.int .i64 3] w (VEnd (IsN 3) (rgT).z w) := by
  have hst := fun (w : World) (a : Addr) (q : Nat) (m : Mode) => run_store Tryz.prog w a (.float .f64 q) m rfl
  go_enter Tryz.func15, Tryz.ntmps15
  go_wp2_with fail
  refine bodyPost_ret (results_val2 rfl _ _ _ _ _ _ _ _ rfl (Blk.new w 37 _)) rfl ?_
  exact ⟨_, rfl, ⟨_, _, _, _, rfl, rfl⟩, Frame.alloc _ _ _⟩
set_option maxRecDepth 100000 in
theorem one1_3 (w : World) : Calls Tryz.prog 19 #[.int .i64 3] w (VEnd (IsN 3) (rgT).o w) := by
  have hst := fun (w : World) (a : Addr) (q : Nat) (m : Mode) => run_store Tryz.prog w a (.float .f64 q) m rfl
  go_enter Tryz.func19, Tryz.ntmps19
  go_wp2_with fail
  refine bodyPost_ret (results_val2 rfl _ _ _ _ _ _ _ _ rfl (Blk.new w 37 _)) rfl ?_
  exact ⟨_, rfl, ⟨_, _, _, _, rfl, nr_zero _⟩, Frame.alloc _ _ _⟩
set_option maxRecDepth 100000 in
theorem zero1_4 (w : World) : Calls Tryz.prog 15 #[.int .i64 4] w (VEnd (IsL 4) (rgL 4).z w) := by
  have hst := fun (w : World) (a : Addr) (q : Nat) (m : Mode) => run_store Tryz.prog w a (.float .f64 q) m rfl
  go_enter Tryz.func15, Tryz.ntmps15
  go_wp2_with fail
  refine bodyPost_ret (results_val2 rfl _ _ _ _ _ _ _ _ rfl (Blk.new w 37 _)) rfl ?_
  exact ⟨_, rfl, ⟨rfl, by decide, by decide⟩, Frame.alloc _ _ _⟩
set_option maxRecDepth 100000 in
theorem one1_4 (w : World) : Calls Tryz.prog 19 #[.int .i64 4] w (VEnd (IsL 4) (rgL 4).o w) := by
  have hst := fun (w : World) (a : Addr) (q : Nat) (m : Mode) => run_store Tryz.prog w a (.float .f64 q) m rfl
  go_enter Tryz.func19, Tryz.ntmps19
  go_wp2_with fail
  refine bodyPost_ret (results_val2 rfl _ _ _ _ _ _ _ _ rfl (Blk.new w 37 _)) rfl ?_
  exact ⟨_, rfl, ⟨rfl, by decide, by decide⟩, Frame.alloc _ _ _⟩
set_option maxRecDepth 100000 in
theorem zero1_5 (w : World) : Calls Tryz.prog 15 #[.int .i64 5] w (VEnd (IsF 5) (rgF5).z w) := by
  have hst := fun (w : World) (a : Addr) (q : Nat) (m : Mode) => run_store Tryz.prog w a (.float .f64 q) m rfl
  go_enter Tryz.func15, Tryz.ntmps15
  go_wp2_with fail
  refine bodyPost_ret (results_val2 rfl _ _ _ _ _ _ _ _ rfl (Blk.new w 37 _)) rfl ?_
  exact ⟨_, rfl, ⟨rfl, by decide⟩, Frame.alloc _ _ _⟩
set_option maxRecDepth 100000 in
theorem one1_5 (w : World) : Calls Tryz.prog 19 #[.int .i64 5] w (VEnd (IsF 5) (rgF5).o w) := by
  have hst := fun (w : World) (a : Addr) (q : Nat) (m : Mode) => run_store Tryz.prog w a (.float .f64 q) m rfl
  go_enter Tryz.func19, Tryz.ntmps19
  go_wp2_with fail
  refine bodyPost_ret (results_val2 rfl _ _ _ _ _ _ _ _ rfl (Blk.new w 37 _)) rfl ?_
  exact ⟨_, rfl, ⟨rfl, by decide⟩, Frame.alloc _ _ _⟩
set_option maxRecDepth 100000 in
theorem zero1_6 (w : World) : Calls Tryz.prog 15 #[.int .i64 6] w (VEnd (IsF 6) (rgF6).z w) := by
  have hst := fun (w : World) (a : Addr) (q : Nat) (m : Mode) => run_store Tryz.prog w a (.float .f64 q) m rfl
  go_enter Tryz.func15, Tryz.ntmps15
  go_wp2_with fail
  refine (of1_inf _).mono ?_
  rintro e w1 ⟨rfl, rfl⟩
  go_wp2_with fail
  refine bodyPost_ret (results_val2 rfl _ _ _ _ _ _ _ _ rfl (Blk.new w 37 _)) rfl ?_
  exact ⟨_, rfl, ⟨rfl, by decide⟩, Frame.alloc _ _ _⟩
set_option maxRecDepth 100000 in
theorem one1_6 (w : World) : Calls Tryz.prog 19 #[.int .i64 6] w (VEnd (IsF 6) (rgF6).o w) := by
  have hst := fun (w : World) (a : Addr) (q : Nat) (m : Mode) => run_store Tryz.prog w a (.float .f64 q) m rfl
  go_enter Tryz.func19, Tryz.ntmps19
  go_wp2_with fail
  refine bodyPost_ret (results_val2 rfl _ _ _ _ _ _ _ _ rfl (Blk.new w 37 _)) rfl ?_
  exact ⟨_, rfl, ⟨rfl, by decide⟩, Frame.alloc _ _ _⟩
set_option maxRecDepth 100000 in
theorem alike_1 (x y : Option Nat) (i j : Bool) (a b : Option Addr) (l c m d : Nat) (w : World) (h1 : NR w (.agg #[.bool i, .slice a l c]) x) (h2 : NR w (.agg #[.bool j, .slice b m d]) y) (l1 : Sz x) (l2 : Sz y) : Calls Tryz.prog 21 #[.agg #[.int .i64 1, .bool i, .slice a l c, .int .i64 0, .float .f64 0], .agg #[.int .i64 1, .bool j, .slice b m d, .int .i64 0, .float .f64 0]] w fun e w' => e = .returned (.bool (decide (x = y))) ∧ Frame [] w w' := by
  have hst := fun (w : World) (a : Addr) (q : Nat) (m : Mode) => run_store Tryz.prog w a (.float .f64 q) m rfl
  have M1 := Lib.hid (fun w' (f : Frame [] w w') => mv_1 x i a l c w' (h1.frame f) l1)
  have M2 := Lib.hid (fun w' (f : Frame [] w w') => mv_1 y j b m d w' (h2.frame f) l2)
  have CM := Lib.hid (fun w' (f : Frame [] w w') => cmp1_any _ _ x y w' (h1.frame f) (h2.frame f) l1 l2)
  rw [← cmpO_zero]
  generalize cmpO x y = r at *
  clear h1 h2
  have B0 := Lib.hid ((Blk.new w 37 #[.int .i64 1, .bool i, .slice a l c, .int .i64 0, .float .f64 0]).alloc (.cells #[.int .i64 1, .bool j, .slice b m d, .int .i64 0, .float .f64 0] 37))
  have B1 := Blk.new (w.alloc (.cells #[.int .i64 1, .bool i, .slice a l c, .int .i64 0, .float .f64 0] 37)) 37 #[.int .i64 1, .bool j, .slice b m d, .int .i64 0, .float .f64 0]
  simp only [World.size_alloc] at B1
  have B1 := Lib.hid B1
  have F0 : Hid (Frame [] w ((w.alloc (.cells #[.int .i64 1, .bool i, .slice a l c, .int .i64 0, .float .f64 0] 37)).alloc (.cells #[.int .i64 1, .bool j, .slice b m d, .int .i64 0, .float .f64 0] 37))) := by show Frame [] w _; (repeat first | assumption | exact Frame.refl _ _ | refine Frame.trans1 ?_ (Frame.alloc _ _ _) | refine Frame.trans1 ?_ (Frame.drew _ _) | refine Frame.trans1 ?_ (Frame.drewN _ _ _))
  go_enter Tryz.func21, Tryz.ntmps21
  go_upto_region 1 with fail
  generalize (w.alloc (.cells #[.int .i64 1, .bool i, .slice a l c, .int .i64 0, .float .f64 0] 37)).alloc (.cells #[.int .i64 1, .bool j, .slice b m d, .int .i64 0, .float .f64 0] 37) = w0 at *
  have x0 := B0.out.at 0 rfl
  have x1 := B0.out.at 1 rfl
  have x2 := B0.out.at 2 rfl
  have x3 := B0.out.at 3 rfl
  have x4 := B0.out.at 4 rfl
  go_wp2_with fail
  refine (M1.out _ F0.out).mono ?_
  rintro e w1 ⟨rfl, f1⟩
  clear x0 x1 x2 x3 x4
  have y0 := (B1.out.frame f1 (by simp)).at 0 rfl
  have y1 := (B1.out.frame f1 (by simp)).at 1 rfl
  have y2 := (B1.out.frame f1 (by simp)).at 2 rfl
  have y3 := (B1.out.frame f1 (by simp)).at 3 rfl
  have y4 := (B1.out.frame f1 (by simp)).at 4 rfl
  have F1 := Lib.hid (F0.out.trans1 f1)
  have f1h := Lib.hid f1
  clear f1
  go_wp2_with fail
  refine (M2.out _ F1.out).mono ?_
  rintro e w2 ⟨rfl, f2⟩
  clear y0 y1 y2 y3 y4
  have x0 := (B0.out.frame (f1h.out.trans1 f2) (by simp)).at 0 rfl
  have y0 := (B1.out.frame (f1h.out.trans1 f2) (by simp)).at 0 rfl
  have x1 := (B0.out.frame (f1h.out.trans1 f2) (by simp)).at 1 rfl
  have y1 := (B1.out.frame (f1h.out.trans1 f2) (by simp)).at 1 rfl
  have x2 := (B0.out.frame (f1h.out.trans1 f2) (by simp)).at 2 rfl
  have y2 := (B1.out.frame (f1h.out.trans1 f2) (by simp)).at 2 rfl
  have x3 := (B0.out.frame (f1h.out.trans1 f2) (by simp)).at 3 rfl
  have y3 := (B1.out.frame (f1h.out.trans1 f2) (by simp)).at 3 rfl
  have x4 := (B0.out.frame (f1h.out.trans1 f2) (by simp)).at 4 rfl
  have y4 := (B1.out.frame (f1h.out.trans1 f2) (by simp)).at 4 rfl
  have F2 := Lib.hid (F1.out.trans1 f2)
  clear f2 M1 M2 B0 B1
  go_wp2_with fail
  refine (CM.out _ F2.out).mono ?_
  rintro e w3 ⟨rfl, f3⟩
  have F3 := Lib.hid (F2.out.trans1 f3)
  clear f3
  go_wp2_with fail
  go_ret
  exact ⟨rfl, F3.out⟩
set_option maxRecDepth 100000 in
theorem alike_2 (x y : Int) (w : World) (h1 : 0 ≤ x ∧ x ≤ lTop 2) (h2 : 0 ≤ y ∧ y ≤ lTop 2) : Calls Tryz.prog 21 #[.agg #[.int .i64 2, .bool false, .slice none 0 0, .int .i64 x, .float .f64 0], .agg #[.int .i64 2, .bool false, .slice none 0 0, .int .i64 y, .float .f64 0]] w fun e w' => e = .returned (.bool (decide (x = y))) ∧ Frame [] w w' := by
  have hst := fun (w : World) (a : Addr) (q : Nat) (m : Mode) => run_store Tryz.prog w a (.float .f64 q) m rfl
  have M1 := Lib.hid (fun w' (f : Frame [] w w') => mv_2 x w' h1.1 h1.2)
  have M2 := Lib.hid (fun w' (f : Frame [] w w') => mv_2 y w' h2.1 h2.2)
  have B0 := Lib.hid ((Blk.new w 37 #[.int .i64 2, .bool false, .slice none 0 0, .int .i64 x, .float .f64 0]).alloc (.cells #[.int .i64 2, .bool false, .slice none 0 0, .int .i64 y, .float .f64 0] 37))
  have B1 := Blk.new (w.alloc (.cells #[.int .i64 2, .bool false, .slice none 0 0, .int .i64 x, .float .f64 0] 37)) 37 #[.int .i64 2, .bool false, .slice none 0 0, .int .i64 y, .float .f64 0]
  simp only [World.size_alloc] at B1
  have B1 := Lib.hid B1
  have F0 : Hid (Frame [] w ((w.alloc (.cells #[.int .i64 2, .bool false, .slice none 0 0, .int .i64 x, .float .f64 0] 37)).alloc (.cells #[.int .i64 2, .bool false, .slice none 0 0, .int .i64 y, .float .f64 0] 37))) := by show Frame [] w _; (repeat first | assumption | exact Frame.refl _ _ | refine Frame.trans1 ?_ (Frame.alloc _ _ _) | refine Frame.trans1 ?_ (Frame.drew _ _) | refine Frame.trans1 ?_ (Frame.drewN _ _ _))
  go_enter Tryz.func21, Tryz.ntmps21
  go_upto_region 1 with fail
  generalize (w.alloc (.cells #[.int .i64 2, .bool false, .slice none 0 0, .int .i64 x, .float .f64 0] 37)).alloc (.cells #[.int .i64 2, .bool false, .slice none 0 0, .int .i64 y, .float .f64 0] 37) = w0 at *
  have x0 := B0.out.at 0 rfl
  have x1 := B0.out.at 1 rfl
  have x2 := B0.out.at 2 rfl
  have x3 := B0.out.at 3 rfl
  have x4 := B0.out.at 4 rfl
  go_wp2_with fail
  refine (M1.out _ F0.out).mono ?_
  rintro e w1 ⟨rfl, f1⟩
  clear x0 x1 x2 x3 x4
  have y0 := (B1.out.frame f1 (by simp)).at 0 rfl
  have y1 := (B1.out.frame f1 (by simp)).at 1 rfl
  have y2 := (B1.out.frame f1 (by simp)).at 2 rfl
  have y3 := (B1.out.frame f1 (by simp)).at 3 rfl
  have y4 := (B1.out.frame f1 (by simp)).at 4 rfl
  have F1 := Lib.hid (F0.out.trans1 f1)
  have f1h := Lib.hid f1
  clear f1
  go_wp2_with fail
  refine (M2.out _ F1.out).mono ?_
  rintro e w2 ⟨rfl, f2⟩
  clear y0 y1 y2 y3 y4
  have x0 := (B0.out.frame (f1h.out.trans1 f2) (by simp)).at 0 rfl
  have y0 := (B1.out.frame (f1h.out.trans1 f2) (by simp)).at 0 rfl
  have x1 := (B0.out.frame (f1h.out.trans1 f2) (by simp)).at 1 rfl
  have y1 := (B1.out.frame (f1h.out.trans1 f2) (by simp)).at 1 rfl
  have x2 := (B0.out.frame (f1h.out.trans1 f2) (by simp)).at 2 rfl
  have y2 := (B1.out.frame (f1h.out.trans1 f2) (by simp)).at 2 rfl
  have x3 := (B0.out.frame (f1h.out.trans1 f2) (by simp)).at 3 rfl
  have y3 := (B1.out.frame (f1h.out.trans1 f2) (by simp)).at 3 rfl
  have x4 := (B0.out.frame (f1h.out.trans1 f2) (by simp)).at 4 rfl
  have y4 := (B1.out.frame (f1h.out.trans1 f2) (by simp)).at 4 rfl
  have F2 := Lib.hid (F1.out.trans1 f2)
  clear f2 M1 M2 B0 B1
  go_wp2_with fail
  go_ret
  refine ⟨?_, F2.out⟩
  have e1 : (x == y) = decide (x = y) := by by_cases h : x = y <;> simp [h]
  first | rfl | (rw [← e1]; rfl)
set_option maxRecDepth 100000 in
theorem alike_3 (x y : Option Nat) (i j : Bool) (a b : Option Addr) (l c m d : Nat) (w : World) (h1 : NR w (.agg #[.bool i, .slice a l c]) x) (h2 : NR w (.agg #[.bool j, .slice b m d]) y) (l1 : Sz x) (l2 : Sz y) : Calls Tryz.prog 21 #[.agg #[.int .i64 3, .bool i, .slice a l c, .int .i64 0, .float .f64 0], .agg #[.int .i64 3, .bool j, .slice b m d, .int .i64 0, .float .f64 0]] w fun e w' => e = .returned (.bool (decide (x = y))) ∧ Frame [] w w' := by
  have hst := fun (w : World) (a : Addr) (q : Nat) (m : Mode) => run_store Tryz.prog w a (.float .f64 q) m rfl
  have M1 := Lib.hid (fun w' (f : Frame [] w w') => mv_3 x i a l c w' (h1.frame f) l1)
  have M2 := Lib.hid (fun w' (f : Frame [] w w') => mv_3 y j b m d w' (h2.frame f) l2)
  have CM := Lib.hid (fun w' (f : Frame [] w w') => cmp1_any _ _ x y w' (h1.frame f) (h2.frame f) l1 l2)
  rw [← cmpO_zero]
  generalize cmpO x y = r at *
  clear h1 h2
  have B0 := Lib.hid ((Blk.new w 37 #[.int .i64 3, .bool i, .slice a l c, .int .i64 0, .float .f64 0]).alloc (.cells #[.int .i64 3, .bool j, .slice b m d, .int .i64 0, .float .f64 0] 37))
  have B1 := Blk.new (w.alloc (.cells #[.int .i64 3, .bool i, .slice a l c, .int .i64 0, .float .f64 0] 37)) 37 #[.int .i64 3, .bool j, .slice b m d, .int .i64 0, .float .f64 0]
  simp only [World.size_alloc] at B1
  have B1 := Lib.hid B1
  have F0 : Hid (Frame [] w ((w.alloc (.cells #[.int .i64 3, .bool i, .slice a l c, .int .i64 0, .float .f64 0] 37)).alloc (.cells #[.int .i64 3, .bool j, .slice b m d, .int .i64 0, .float .f64 0] 37))) := by show Frame [] w _; (repeat first | assumption | exact Frame.refl _ _ | refine Frame.trans1 ?_ (Frame.alloc _ _ _) | refine Frame.trans1 ?_ (Frame.drew _ _) | refine Frame.trans1 ?_ (Frame.drewN _ _ _))
  go_enter Tryz.func21, Tryz.ntmps21
  go_upto_region 1 with fail
  generalize (w.alloc (.cells #[.int .i64 3, .bool i, .slice a l c, .int .i64 0, .float .f64 0] 37)).alloc (.cells #[.int .i64 3, .bool j, .slice b m d, .int .i64 0, .float .f64 0] 37) = w0 at *
  have x0 := B0.out.at 0 rfl
  have x1 := B0.out.at 1 rfl
  have x2 := B0.out.at 2 rfl
  have x3 := B0.out.at 3 rfl
  have x4 := B0.out.at 4 rfl
  go_wp2_with fail
  refine (M1.out _ F0.out).mono ?_
  rintro e w1 ⟨rfl, f1⟩
  clear x0 x1 x2 x3 x4
  have y0 := (B1.out.frame f1 (by simp)).at 0 rfl
  have y1 := (B1.out.frame f1 (by simp)).at 1 rfl
  have y2 := (B1.out.frame f1 (by simp)).at 2 rfl
  have y3 := (B1.out.frame f1 (by simp)).at 3 rfl
  have y4 := (B1.out.frame f1 (by simp)).at 4 rfl
  have F1 := Lib.hid (F0.out.trans1 f1)
  have f1h := Lib.hid f1
  clear f1
  go_wp2_with fail
  refine (M2.out _ F1.out).mono ?_
  rintro e w2 ⟨rfl, f2⟩
  clear y0 y1 y2 y3 y4
  have x0 := (B0.out.frame (f1h.out.trans1 f2) (by simp)).at 0 rfl
  have y0 := (B1.out.frame (f1h.out.trans1 f2) (by simp)).at 0 rfl
  have x1 := (B0.out.frame (f1h.out.trans1 f2) (by simp)).at 1 rfl
  have y1 := (B1.out.frame (f1h.out.trans1 f2) (by simp)).at 1 rfl
  have x2 := (B0.out.frame (f1h.out.trans1 f2) (by simp)).at 2 rfl
  have y2 := (B1.out.frame (f1h.out.trans1 f2) (by simp)).at 2 rfl
  have x3 := (B0.out.frame (f1h.out.trans1 f2) (by simp)).at 3 rfl
  have y3 := (B1.out.frame (f1h.out.trans1 f2) (by simp)).at 3 rfl
  have x4 := (B0.out.frame (f1h.out.trans1 f2) (by simp)).at 4 rfl
  have y4 := (B1.out.frame (f1h.out.trans1 f2) (by simp)).at 4 rfl
  have F2 := Lib.hid (F1.out.trans1 f2)
  clear f2 M1 M2 B0 B1
  go_wp2_with fail
  refine (CM.out _ F2.out).mono ?_
  rintro e w3 ⟨rfl, f3⟩
  have F3 := Lib.hid (F2.out.trans1 f3)
  clear f3
  go_wp2_with fail
  go_ret
  exact ⟨rfl, F3.out⟩
set_option maxRecDepth 100000 in
theorem alike_4 (x y : Int) (w : World) (h1 : 0 ≤ x ∧ x ≤ lTop 4) (h2 : 0 ≤ y ∧ y ≤ lTop 4) : Calls Tryz.prog 21 #[.agg #[.int .i64 4, .bool false, .slice none 0 0, .int .i64 x, .float .f64 0], .agg #[.int .i64 4, .bool false, .slice none 0 0, .int .i64 y, .float .f64 0]] w fun e w' => e = .returned (.bool (decide (x = y))) ∧ Frame [] w w' := by
  have hst := fun (w : World) (a : Addr) (q : Nat) (m : Mode) => run_store Tryz.prog w a (.float .f64 q) m rfl
  have M1 := Lib.hid (fun w' (f : Frame [] w w') => mv_4 x w' h1.1 h1.2)
  have M2 := Lib.hid (fun w' (f : Frame [] w w') => mv_4 y w' h2.1 h2.2)
  have B0 := Lib.hid ((Blk.new w 37 #[.int .i64 4, .bool false, .slice none 0 0, .int .i64 x, .float .f64 0]).alloc (.cells #[.int .i64 4, .bool false, .slice none 0 0, .int .i64 y, .float .f64 0] 37))
  have B1 := Blk.new (w.alloc (.cells #[.int .i64 4, .bool false, .slice none 0 0, .int .i64 x, .float .f64 0] 37)) 37 #[.int .i64 4, .bool false, .slice none 0 0, .int .i64 y, .float .f64 0]
  simp only [World.size_alloc] at B1
  have B1 := Lib.hid B1
  have F0 : Hid (Frame [] w ((w.alloc (.cells #[.int .i64 4, .bool false, .slice none 0 0, .int .i64 x, .float .f64 0] 37)).alloc (.cells #[.int .i64 4, .bool false, .slice none 0 0, .int .i64 y, .float .f64 0] 37))) := by show Frame [] w _; (repeat first | assumption | exact Frame.refl _ _ | refine Frame.trans1 ?_ (Frame.alloc _ _ _) | refine Frame.trans1 ?_ (Frame.drew _ _) | refine Frame.trans1 ?_ (Frame.drewN _ _ _))
  go_enter Tryz.func21, Tryz.ntmps21
  go_upto_region 1 with fail
  generalize (w.alloc (.cells #[.int .i64 4, .bool false, .slice none 0 0, .int .i64 x, .float .f64 0] 37)).alloc (.cells #[.int .i64 4, .bool false, .slice none 0 0, .int .i64 y, .float .f64 0] 37) = w0 at *
  have x0 := B0.out.at 0 rfl
  have x1 := B0.out.at 1 rfl
  have x2 := B0.out.at 2 rfl
  have x3 := B0.out.at 3 rfl
  have x4 := B0.out.at 4 rfl
  go_wp2_with fail
  refine (M1.out _ F0.out).mono ?_
  rintro e w1 ⟨rfl, f1⟩
  clear x0 x1 x2 x3 x4
  have y0 := (B1.out.frame f1 (by simp)).at 0 rfl
  have y1 := (B1.out.frame f1 (by simp)).at 1 rfl
  have y2 := (B1.out.frame f1 (by simp)).at 2 rfl
  have y3 := (B1.out.frame f1 (by simp)).at 3 rfl
  have y4 := (B1.out.frame f1 (by simp)).at 4 rfl
  have F1 := Lib.hid (F0.out.trans1 f1)
  have f1h := Lib.hid f1
  clear f1
  go_wp2_with fail
  refine (M2.out _ F1.out).mono ?_
  rintro e w2 ⟨rfl, f2⟩
  clear y0 y1 y2 y3 y4
  have x0 := (B0.out.frame (f1h.out.trans1 f2) (by simp)).at 0 rfl
  have y0 := (B1.out.frame (f1h.out.trans1 f2) (by simp)).at 0 rfl
  have x1 := (B0.out.frame (f1h.out.trans1 f2) (by simp)).at 1 rfl
  have y1 := (B1.out.frame (f1h.out.trans1 f2) (by simp)).at 1 rfl
  have x2 := (B0.out.frame (f1h.out.trans1 f2) (by simp)).at 2 rfl
  have y2 := (B1.out.frame (f1h.out.trans1 f2) (by simp)).at 2 rfl
  have x3 := (B0.out.frame (f1h.out.trans1 f2) (by simp)).at 3 rfl
  have y3 := (B1.out.frame (f1h.out.trans1 f2) (by simp)).at 3 rfl
  have x4 := (B0.out.frame (f1h.out.trans1 f2) (by simp)).at 4 rfl
  have y4 := (B1.out.frame (f1h.out.trans1 f2) (by simp)).at 4 rfl
  have F2 := Lib.hid (F1.out.trans1 f2)
  clear f2 M1 M2 B0 B1
  go_wp2_with fail
  go_ret
  refine ⟨?_, F2.out⟩
  have e1 : (x == y) = decide (x = y) := by by_cases h : x = y <;> simp [h]
  first | rfl | (rw [← e1]; rfl)
set_option maxRecDepth 100000 in
theorem alike_5 (x y : Nat) (w : World) (h1 : x ≤ fTop 5) (h2 : y ≤ fTop 5) : Calls Tryz.prog 21 #[.agg #[.int .i64 5, .bool false, .slice none 0 0, .int .i64 0, .float .f64 x], .agg #[.int .i64 5, .bool false, .slice none 0 0, .int .i64 0, .float .f64 y]] w fun e w' => e = .returned (.bool (decide (x = y))) ∧ Frame [] w w' := by
  have hst := fun (w : World) (a : Addr) (q : Nat) (m : Mode) => run_store Tryz.prog w a (.float .f64 q) m rfl
  have M1 := Lib.hid (fun w' (f : Frame [] w w') => mv_5 x w' h1)
  have M2 := Lib.hid (fun w' (f : Frame [] w w') => mv_5 y w' h2)
  have SM := Lib.hid (fun w : World => fsame1_any (Nat.le_trans h1 (by decide) : x ≤ fInf) (Nat.le_trans h2 (by decide) : y ≤ fInf) w)
  generalize decide (x = y) = r at *
  have B0 := Lib.hid ((Blk.new w 37 #[.int .i64 5, .bool false, .slice none 0 0, .int .i64 0, .float .f64 x]).alloc (.cells #[.int .i64 5, .bool false, .slice none 0 0, .int .i64 0, .float .f64 y] 37))
  have B1 := Blk.new (w.alloc (.cells #[.int .i64 5, .bool false, .slice none 0 0, .int .i64 0, .float .f64 x] 37)) 37 #[.int .i64 5, .bool false, .slice none 0 0, .int .i64 0, .float .f64 y]
  simp only [World.size_alloc] at B1
  have B1 := Lib.hid B1
  have F0 : Hid (Frame [] w ((w.alloc (.cells #[.int .i64 5, .bool false, .slice none 0 0, .int .i64 0, .float .f64 x] 37)).alloc (.cells #[.int .i64 5, .bool false, .slice none 0 0, .int .i64 0, .float .f64 y] 37))) := by show Frame [] w _; (repeat first | assumption | exact Frame.refl _ _ | refine Frame.trans1 ?_ (Frame.alloc _ _ _) | refine Frame.trans1 ?_ (Frame.drew _ _) | refine Frame.trans1 ?_ (Frame.drewN _ _ _))
  go_enter Tryz.func21, Tryz.ntmps21
  go_upto_region 1 with fail
  generalize (w.alloc (.cells #[.int .i64 5, .bool false, .slice none 0 0, .int .i64 0, .float .f64 x] 37)).alloc (.cells #[.int .i64 5, .bool false, .slice none 0 0, .int .i64 0, .float .f64 y] 37) = w0 at *
  have x0 := B0.out.at 0 rfl
  have x1 := B0.out.at 1 rfl
  have x2 := B0.out.at 2 rfl
  have x3 := B0.out.at 3 rfl
  have x4 := B0.out.at 4 rfl
  go_wp2_with fail
  refine (M1.out _ F0.out).mono ?_
  rintro e w1 ⟨rfl, f1⟩
  clear x0 x1 x2 x3 x4
  have y0 := (B1.out.frame f1 (by simp)).at 0 rfl
  have y1 := (B1.out.frame f1 (by simp)).at 1 rfl
  have y2 := (B1.out.frame f1 (by simp)).at 2 rfl
  have y3 := (B1.out.frame f1 (by simp)).at 3 rfl
  have y4 := (B1.out.frame f1 (by simp)).at 4 rfl
  have F1 := Lib.hid (F0.out.trans1 f1)
  have f1h := Lib.hid f1
  clear f1
  go_wp2_with fail
  refine (M2.out _ F1.out).mono ?_
  rintro e w2 ⟨rfl, f2⟩
  clear y0 y1 y2 y3 y4
  have x0 := (B0.out.frame (f1h.out.trans1 f2) (by simp)).at 0 rfl
  have y0 := (B1.out.frame (f1h.out.trans1 f2) (by simp)).at 0 rfl
  have x1 := (B0.out.frame (f1h.out.trans1 f2) (by simp)).at 1 rfl
  have y1 := (B1.out.frame (f1h.out.trans1 f2) (by simp)).at 1 rfl
  have x2 := (B0.out.frame (f1h.out.trans1 f2) (by simp)).at 2 rfl
  have y2 := (B1.out.frame (f1h.out.trans1 f2) (by simp)).at 2 rfl
  have x3 := (B0.out.frame (f1h.out.trans1 f2) (by simp)).at 3 rfl
  have y3 := (B1.out.frame (f1h.out.trans1 f2) (by simp)).at 3 rfl
  have x4 := (B0.out.frame (f1h.out.trans1 f2) (by simp)).at 4 rfl
  have y4 := (B1.out.frame (f1h.out.trans1 f2) (by simp)).at 4 rfl
  have F2 := Lib.hid (F1.out.trans1 f2)
  clear f2 M1 M2 B0 B1
  go_wp2_with fail
  refine (SM.out _).mono ?_
  rintro e w3 ⟨rfl, rfl⟩
  go_wp2_with fail
  go_ret
  exact ⟨rfl, F2.out⟩
set_option maxRecDepth 100000 in
theorem alike_6 (x y : Nat) (w : World) (h1 : x ≤ fTop 6) (h2 : y ≤ fTop 6) : Calls Tryz.prog 21 #[.agg #[.int .i64 6, .bool false, .slice none 0 0, .int .i64 0, .float .f64 x], .agg #[.int .i64 6, .bool false, .slice none 0 0, .int .i64 0, .float .f64 y]] w fun e w' => e = .returned (.bool (decide (x = y))) ∧ Frame [] w w' := by
  have hst := fun (w : World) (a : Addr) (q : Nat) (m : Mode) => run_store Tryz.prog w a (.float .f64 q) m rfl
  have M1 := Lib.hid (fun w' (f : Frame [] w w') => mv_6 x w' h1)
  have M2 := Lib.hid (fun w' (f : Frame [] w w') => mv_6 y w' h2)
  have SM := Lib.hid (fun w : World => fsame1_any (Nat.le_trans h1 (by decide) : x ≤ fInf) (Nat.le_trans h2 (by decide) : y ≤ fInf) w)
  generalize decide (x = y) = r at *
  have B0 := Lib.hid ((Blk.new w 37 #[.int .i64 6, .bool false, .slice none 0 0, .int .i64 0, .float .f64 x]).alloc (.cells #[.int .i64 6, .bool false, .slice none 0 0, .int .i64 0, .float .f64 y] 37))
  have B1 := Blk.new (w.alloc (.cells #[.int .i64 6, .bool false, .slice none 0 0, .int .i64 0, .float .f64 x] 37)) 37 #[.int .i64 6, .bool false, .slice none 0 0, .int .i64 0, .float .f64 y]
  simp only [World.size_alloc] at B1
  have B1 := Lib.hid B1
  have F0 : Hid (Frame [] w ((w.alloc (.cells #[.int .i64 6, .bool false, .slice none 0 0, .int .i64 0, .float .f64 x] 37)).alloc (.cells #[.int .i64 6, .bool false, .slice none 0 0, .int .i64 0, .float .f64 y] 37))) := by show Frame [] w _; (repeat first | assumption | exact Frame.refl _ _ | refine Frame.trans1 ?_ (Frame.alloc _ _ _) | refine Frame.trans1 ?_ (Frame.drew _ _) | refine Frame.trans1 ?_ (Frame.drewN _ _ _))
  go_enter Tryz.func21, Tryz.ntmps21
  go_upto_region 1 with fail
  generalize (w.alloc (.cells #[.int .i64 6, .bool false, .slice none 0 0, .int .i64 0, .float .f64 x] 37)).alloc (.cells #[.int .i64 6, .bool false, .slice none 0 0, .int .i64 0, .float .f64 y] 37) = w0 at *
  have x0 := B0.out.at 0 rfl
  have x1 := B0.out.at 1 rfl
  have x2 := B0.out.at 2 rfl
  have x3 := B0.out.at 3 rfl
  have x4 := B0.out.at 4 rfl
  go_wp2_with fail
  refine (M1.out _ F0.out).mono ?_
  rintro e w1 ⟨rfl, f1⟩
  clear x0 x1 x2 x3 x4
  have y0 := (B1.out.frame f1 (by simp)).at 0 rfl
  have y1 := (B1.out.frame f1 (by simp)).at 1 rfl
  have y2 := (B1.out.frame f1 (by simp)).at 2 rfl
  have y3 := (B1.out.frame f1 (by simp)).at 3 rfl
  have y4 := (B1.out.frame f1 (by simp)).at 4 rfl
  have F1 := Lib.hid (F0.out.trans1 f1)
  have f1h := Lib.hid f1
  clear f1
  go_wp2_with fail
  refine (M2.out _ F1.out).mono ?_
  rintro e w2 ⟨rfl, f2⟩
  clear y0 y1 y2 y3 y4
  have x0 := (B0.out.frame (f1h.out.trans1 f2) (by simp)).at 0 rfl
  have y0 := (B1.out.frame (f1h.out.trans1 f2) (by simp)).at 0 rfl
  have x1 := (B0.out.frame (f1h.out.trans1 f2) (by simp)).at 1 rfl
  have y1 := (B1.out.frame (f1h.out.trans1 f2) (by simp)).at 1 rfl
  have x2 := (B0.out.frame (f1h.out.trans1 f2) (by simp)).at 2 rfl
  have y2 := (B1.out.frame (f1h.out.trans1 f2) (by simp)).at 2 rfl
  have x3 := (B0.out.frame (f1h.out.trans1 f2) (by simp)).at 3 rfl
  have y3 := (B1.out.frame (f1h.out.trans1 f2) (by simp)).at 3 rfl
  have x4 := (B0.out.frame (f1h.out.trans1 f2) (by simp)).at 4 rfl
  have y4 := (B1.out.frame (f1h.out.trans1 f2) (by simp)).at 4 rfl
  have F2 := Lib.hid (F1.out.trans1 f2)
  clear f2 M1 M2 B0 B1
  go_wp2_with fail
  refine (SM.out _).mono ?_
  rintro e w3 ⟨rfl, rfl⟩
  go_wp2_with fail
  go_ret
  exact ⟨rfl, F2.out⟩
set_option maxRecDepth 100000 in
theorem isz1_1 (x : Option Nat) (i : Bool) (a : Option Addr) (l c : Nat) (w : World) (h : NR w (.agg #[.bool i, .slice a l c]) x) (hl : Sz x) : Calls Tryz.prog 27 #[.agg #[.int .i64 1, .bool i, .slice a l c, .int .i64 0, .float .f64 0]] w fun e w' => e = .returned (.bool (decide (x = (rgN1).z))) ∧ Frame [] w w' := by
  have hst := fun (w : World) (a : Addr) (q : Nat) (m : Mode) => run_store Tryz.prog w a (.float .f64 q) m rfl
  have AL := fun w' (f : Frame [] w w') j b m d hj hs => alike_1 x (rgN1).z i j a b l c m d w' (h.frame f) hj hl hs
  clear h
  obtain ⟨r, hr⟩ : ∃ r, decide (x = (rgN1).z) = r := ⟨_, rfl⟩
  simp only [hr] at AL
  rw [hr]
  clear hr
  have AL := Lib.hid AL
  have B0 := Lib.hid (Blk.new w 37 #[.int .i64 1, .bool i, .slice a l c, .int .i64 0, .float .f64 0])
  have F0 := Lib.hid (Frame.alloc [] w (.cells #[.int .i64 1, .bool i, .slice a l c, .int .i64 0, .float .f64 0] 37))
  go_enter Tryz.func27, Tryz.ntmps27
  go_upto_region 1 with fail
  generalize w.alloc (.cells #[.int .i64 1, .bool i, .slice a l c, .int .i64 0, .float .f64 0] 37) = w0 at *
  have x0 := B0.out.at 0 rfl
  go_wp2_with fail
  refine (zero1_1 _).mono ?_
  rintro e w1 ⟨v, rfl, iv, f1⟩
  obtain ⟨j, b, m, d, rfl, nv⟩ := iv
  go_upto_region 2 with fail
  have B1 := Blk.new w1 37 #[.int .i64 1, .bool j, .slice b m d, .int .i64 0, .float .f64 0]
  have f2 := f1.trans1 (Frame.alloc [] w1 (.cells #[.int .i64 1, .bool j, .slice b m d, .int .i64 0, .float .f64 0] 37))
  have NV := nv.frame (Frame.alloc [] w1 (.cells #[.int .i64 1, .bool j, .slice b m d, .int .i64 0, .float .f64 0] 37))
  generalize w1.alloc (.cells #[.int .i64 1, .bool j, .slice b m d, .int .i64 0, .float .f64 0] 37) = w2 at *
  have x0 := (B0.out.frame f2 (by simp)).at 0 rfl
  have y0 := B1.at 0 rfl
  have x1 := (B0.out.frame f2 (by simp)).at 1 rfl
  have y1 := B1.at 1 rfl
  have x2 := (B0.out.frame f2 (by simp)).at 2 rfl
  have y2 := B1.at 2 rfl
  have x3 := (B0.out.frame f2 (by simp)).at 3 rfl
  have y3 := B1.at 3 rfl
  have x4 := (B0.out.frame f2 (by simp)).at 4 rfl
  have y4 := B1.at 4 rfl
  have F2 := Lib.hid (F0.out.trans1 f2)
  have A2 := Lib.hid (AL.out w2 F2.out j b m d NV sz_zero)
  clear NV nv
  clear f1 f2 B1 AL
  go_wp2_with fail
  refine A2.out.mono ?_
  rintro e w3 ⟨rfl, f3⟩
  go_wp2_with fail
  go_ret
  exact ⟨rfl, F2.out.trans1 f3⟩
set_option maxRecDepth 100000 in
theorem isz1_2 (x : Int) (w : World) (h0 : 0 ≤ x) (h1 : x ≤ lTop 2) : Calls Tryz.prog 27 #[.agg #[.int .i64 2, .bool false, .slice none 0 0, .int .i64 x, .float .f64 0]] w fun e w' => e = .returned (.bool (decide (x = (rgL 2).z))) ∧ Frame [] w w' := by
  have hst := fun (w : World) (a : Addr) (q : Nat) (m : Mode) => run_store Tryz.prog w a (.float .f64 q) m rfl
  have AL := fun w' (f : Frame [] w w') hz => alike_2 x (rgL 2).z w' ⟨h0, h1⟩ hz
  obtain ⟨r, hr⟩ : ∃ r, decide (x = (rgL 2).z) = r := ⟨_, rfl⟩
  simp only [hr] at AL
  rw [hr]
  clear hr
  have AL := Lib.hid AL
  have B0 := Lib.hid (Blk.new w 37 #[.int .i64 2, .bool false, .slice none 0 0, .int .i64 x, .float .f64 0])
  have F0 := Lib.hid (Frame.alloc [] w (.cells #[.int .i64 2, .bool false, .slice none 0 0, .int .i64 x, .float .f64 0] 37))
  go_enter Tryz.func27, Tryz.ntmps27
  go_upto_region 1 with fail
  generalize w.alloc (.cells #[.int .i64 2, .bool false, .slice none 0 0, .int .i64 x, .float .f64 0] 37) = w0 at *
  have x0 := B0.out.at 0 rfl
  go_wp2_with fail
  refine (zero1_2 _).mono ?_
  rintro e w1 ⟨v, rfl, iv, f1⟩
  obtain ⟨rfl, hz⟩ := iv
  have AL := Lib.hid (fun w' (f : Frame [] w w') => AL.out w' f hz)
  generalize (rgL 2).z = z at *
  go_upto_region 2 with fail
  have B1 := Blk.new w1 37 #[.int .i64 2, .bool false, .slice none 0 0, .int .i64 z, .float .f64 0]
  have f2 := f1.trans1 (Frame.alloc [] w1 (.cells #[.int .i64 2, .bool false, .slice none 0 0, .int .i64 z, .float .f64 0] 37))
  generalize w1.alloc (.cells #[.int .i64 2, .bool false, .slice none 0 0, .int .i64 z, .float .f64 0] 37) = w2 at *
  have x0 := (B0.out.frame f2 (by simp)).at 0 rfl
  have y0 := B1.at 0 rfl
  have x1 := (B0.out.frame f2 (by simp)).at 1 rfl
  have y1 := B1.at 1 rfl
  have x2 := (B0.out.frame f2 (by simp)).at 2 rfl
  have y2 := B1.at 2 rfl
  have x3 := (B0.out.frame f2 (by simp)).at 3 rfl
  have y3 := B1.at 3 rfl
  have x4 := (B0.out.frame f2 (by simp)).at 4 rfl
  have y4 := B1.at 4 rfl
  have F2 := Lib.hid (F0.out.trans1 f2)
  have A2 := Lib.hid (AL.out w2 F2.out)
  clear f1 f2 B1 AL
  go_wp2_with fail
  refine A2.out.mono ?_
  rintro e w3 ⟨rfl, f3⟩
  go_wp2_with fail
  go_ret
  exact ⟨rfl, F2.out.trans1 f3⟩
set_option maxRecDepth 100000 in
theorem isz1_3 (x : Option Nat) (i : Bool) (a : Option Addr) (l c : Nat) (w : World) (h : NR w (.agg #[.bool i, .slice a l c]) x) (hl : Sz x) : Calls Tryz.prog 27 #[.agg #[.int .i64 3, .bool i, .slice a l c, .int .i64 0, .float .f64 0]] w fun e w' => e = .returned (.bool (decide (x = (rgT).z))) ∧ Frame [] w w' := by
  have hst := fun (w : World) (a : Addr) (q : Nat) (m : Mode) => run_store Tryz.prog w a (.float .f64 q) m rfl
  have AL := fun w' (f : Frame [] w w') j b m d hj hs => alike_3 x (rgT).z i j a b l c m d w' (h.frame f) hj hl hs
  clear h
  obtain ⟨r, hr⟩ : ∃ r, decide (x = (rgT).z) = r := ⟨_, rfl⟩
  simp only [hr] at AL
  rw [hr]
  clear hr
  have AL := Lib.hid AL
  have B0 := Lib.hid (Blk.new w 37 #[.int .i64 3, .bool i, .slice a l c, .int .i64 0, .float .f64 0])
  have F0 := Lib.hid (Frame.alloc [] w (.cells #[.int .i64 3, .bool i, .slice a l c, .int .i64 0, .float .f64 0] 37))
  go_enter Tryz.func27, Tryz.ntmps27
  go_upto_region 1 with fail
  generalize w.alloc (.cells #[.int .i64 3, .bool i, .slice a l c, .int .i64 0, .float .f64 0] 37) = w0 at *
  have x0 := B0.out.at 0 rfl
  go_wp2_with fail
  refine (zero1_3 _).mono ?_
  rintro e w1 ⟨v, rfl, iv, f1⟩
  obtain ⟨j, b, m, d, rfl, nv⟩ := iv
  go_upto_region 2 with fail
  have B1 := Blk.new w1 37 #[.int .i64 3, .bool j, .slice b m d, .int .i64 0, .float .f64 0]
  have f2 := f1.trans1 (Frame.alloc [] w1 (.cells #[.int .i64 3, .bool j, .slice b m d, .int .i64 0, .float .f64 0] 37))
  have NV := nv.frame (Frame.alloc [] w1 (.cells #[.int .i64 3, .bool j, .slice b m d, .int .i64 0, .float .f64 0] 37))
  generalize w1.alloc (.cells #[.int .i64 3, .bool j, .slice b m d, .int .i64 0, .float .f64 0] 37) = w2 at *
  have x0 := (B0.out.frame f2 (by simp)).at 0 rfl
  have y0 := B1.at 0 rfl
  have x1 := (B0.out.frame f2 (by simp)).at 1 rfl
  have y1 := B1.at 1 rfl
  have x2 := (B0.out.frame f2 (by simp)).at 2 rfl
  have y2 := B1.at 2 rfl
  have x3 := (B0.out.frame f2 (by simp)).at 3 rfl
  have y3 := B1.at 3 rfl
  have x4 := (B0.out.frame f2 (by simp)).at 4 rfl
  have y4 := B1.at 4 rfl
  have F2 := Lib.hid (F0.out.trans1 f2)
  have A2 := Lib.hid (AL.out w2 F2.out j b m d NV trivial)
  clear NV nv
  clear f1 f2 B1 AL
  go_wp2_with fail
  refine A2.out.mono ?_
  rintro e w3 ⟨rfl, f3⟩
  go_wp2_with fail
  go_ret
  exact ⟨rfl, F2.out.trans1 f3⟩
set_option maxRecDepth 100000 in
theorem isz1_4 (x : Int) (w : World) (h0 : 0 ≤ x) (h1 : x ≤ lTop 4) : Calls Tryz.prog 27 #[.agg #[.int .i64 4, .bool false, .slice none 0 0, .int .i64 x, .float .f64 0]] w fun e w' => e = .returned (.bool (decide (x = (rgL 4).z))) ∧ Frame [] w w' := by
  have hst := fun (w : World) (a : Addr) (q : Nat) (m : Mode) => run_store Tryz.prog w a (.float .f64 q) m rfl
  have AL := fun w' (f : Frame [] w w') hz => alike_4 x (rgL 4).z w' ⟨h0, h1⟩ hz
  obtain ⟨r, hr⟩ : ∃ r, decide (x = (rgL 4).z) = r := ⟨_, rfl⟩
  simp only [hr] at AL
  rw [hr]
  clear hr
  have AL := Lib.hid AL
  have B0 := Lib.hid (Blk.new w 37 #[.int .i64 4, .bool false, .slice none 0 0, .int .i64 x, .float .f64 0])
  have F0 := Lib.hid (Frame.alloc [] w (.cells #[.int .i64 4, .bool false, .slice none 0 0, .int .i64 x, .float .f64 0] 37))
  go_enter Tryz.func27, Tryz.ntmps27
  go_upto_region 1 with fail
  generalize w.alloc (.cells #[.int .i64 4, .bool false, .slice none 0 0, .int .i64 x, .float .f64 0] 37) = w0 at *
  have x0 := B0.out.at 0 rfl
  go_wp2_with fail
  refine (zero1_4 _).mono ?_
  rintro e w1 ⟨v, rfl, iv, f1⟩
  obtain ⟨rfl, hz⟩ := iv
  have AL := Lib.hid (fun w' (f : Frame [] w w') => AL.out w' f hz)
  generalize (rgL 4).z = z at *
  go_upto_region 2 with fail
  have B1 := Blk.new w1 37 #[.int .i64 4, .bool false, .slice none 0 0, .int .i64 z, .float .f64 0]
  have f2 := f1.trans1 (Frame.alloc [] w1 (.cells #[.int .i64 4, .bool false, .slice none 0 0, .int .i64 z, .float .f64 0] 37))
  generalize w1.alloc (.cells #[.int .i64 4, .bool false, .slice none 0 0, .int .i64 z, .float .f64 0] 37) = w2 at *
  have x0 := (B0.out.frame f2 (by simp)).at 0 rfl
  have y0 := B1.at 0 rfl
  have x1 := (B0.out.frame f2 (by simp)).at 1 rfl
  have y1 := B1.at 1 rfl
  have x2 := (B0.out.frame f2 (by simp)).at 2 rfl
  have y2 := B1.at 2 rfl
  have x3 := (B0.out.frame f2 (by simp)).at 3 rfl
  have y3 := B1.at 3 rfl
  have x4 := (B0.out.frame f2 (by simp)).at 4 rfl
  have y4 := B1.at 4 rfl
  have F2 := Lib.hid (F0.out.trans1 f2)
  have A2 := Lib.hid (AL.out w2 F2.out)
  clear f1 f2 B1 AL
  go_wp2_with fail
  refine A2.out.mono ?_
  rintro e w3 ⟨rfl, f3⟩
  go_wp2_with fail
  go_ret
  exact ⟨rfl, F2.out.trans1 f3⟩
set_option maxRecDepth 100000 in
theorem isz1_5 (x : Nat) (w : World) (h : x ≤ fTop 5) : Calls Tryz.prog 27 #[.agg #[.int .i64 5, .bool false, .slice none 0 0, .int .i64 0, .float .f64 x]] w fun e w' => e = .returned (.bool (decide (x = (rgF5).z))) ∧ Frame [] w w' := by
  have hst := fun (w : World) (a : Addr) (q : Nat) (m : Mode) => run_store Tryz.prog w a (.float .f64 q) m rfl
  have AL := fun w' (f : Frame [] w w') hz => alike_5 x (rgF5).z w' h hz
  obtain ⟨r, hr⟩ : ∃ r, decide (x = (rgF5).z) = r := ⟨_, rfl⟩
  simp only [hr] at AL
  rw [hr]
  clear hr
  have AL := Lib.hid AL
  have B0 := Lib.hid (Blk.new w 37 #[.int .i64 5, .bool false, .slice none 0 0, .int .i64 0, .float .f64 x])
  have F0 := Lib.hid (Frame.alloc [] w (.cells #[.int .i64 5, .bool false, .slice none 0 0, .int .i64 0, .float .f64 x] 37))
  go_enter Tryz.func27, Tryz.ntmps27
  go_upto_region 1 with fail
  generalize w.alloc (.cells #[.int .i64 5, .bool false, .slice none 0 0, .int .i64 0, .float .f64 x] 37) = w0 at *
  have x0 := B0.out.at 0 rfl
  go_wp2_with fail
  refine (zero1_5 _).mono ?_
  rintro e w1 ⟨v, rfl, iv, f1⟩
  obtain ⟨rfl, hz⟩ := iv
  have AL := Lib.hid (fun w' (f : Frame [] w w') => AL.out w' f hz)
  generalize (rgF5).z = z at *
  go_upto_region 2 with fail
  have B1 := Blk.new w1 37 #[.int .i64 5, .bool false, .slice none 0 0, .int .i64 0, .float .f64 z]
  have f2 := f1.trans1 (Frame.alloc [] w1 (.cells #[.int .i64 5, .bool false, .slice none 0 0, .int .i64 0, .float .f64 z] 37))
  generalize w1.alloc (.cells #[.int .i64 5, .bool false, .slice none 0 0, .int .i64 0, .float .f64 z] 37) = w2 at *
  have x0 := (B0.out.frame f2 (by simp)).at 0 rfl
  have y0 := B1.at 0 rfl
  have x1 := (B0.out.frame f2 (by simp)).at 1 rfl
  have y1 := B1.at 1 rfl
  have x2 := (B0.out.frame f2 (by simp)).at 2 rfl
  have y2 := B1.at 2 rfl
  have x3 := (B0.out.frame f2 (by simp)).at 3 rfl
  have y3 := B1.at 3 rfl
  have x4 := (B0.out.frame f2 (by simp)).at 4 rfl
  have y4 := B1.at 4 rfl
  have F2 := Lib.hid (F0.out.trans1 f2)
  have A2 := Lib.hid (AL.out w2 F2.out)
  clear f1 f2 B1 AL
  go_wp2_with fail
  refine A2.out.mono ?_
  rintro e w3 ⟨rfl, f3⟩
  go_wp2_with fail
  go_ret
  exact ⟨rfl, F2.out.trans1 f3⟩
set_option maxRecDepth 100000 in
theorem isz1_6 (x : Nat) (w : World) (h : x ≤ fTop 6) : Calls Tryz.prog 27 #[.agg #[.int .i64 6, .bool false, .slice none 0 0, .int .i64 0, .float .f64 x]] w fun e w' => e = .returned (.bool (decide (x = (rgF6).z))) ∧ Frame [] w w' := by
  have hst := fun (w : World) (a : Addr) (q : Nat) (m : Mode) => run_store Tryz.prog w a (.float .f64 q) m rfl
  have AL := fun w' (f : Frame [] w w') hz => alike_6 x (rgF6).z w' h hz
  obtain ⟨r, hr⟩ : ∃ r, decide (x = (rgF6).z) = r := ⟨_, rfl⟩
  simp only [hr] at AL
  rw [hr]
  clear hr
  have AL := Lib.hid AL
  have B0 := Lib.hid (Blk.new w 37 #[.int .i64 6, .bool false, .slice none 0 0, .int .i64 0, .float .f64 x])
  have F0 := Lib.hid (Frame.alloc [] w (.cells #[.int .i64 6, .bool false, .slice none 0 0, .int .i64 0, .float .f64 x] 37))
  go_enter Tryz.func27, Tryz.ntmps27
  go_upto_region 1 with fail
  generalize w.alloc (.cells #[.int .i64 6, .bool false, .slice none 0 0, .int .i64 0, .float .f64 x] 37) = w0 at *
  have x0 := B0.out.at 0 rfl
  go_wp2_with fail
  refine (zero1_6 _).mono ?_
  rintro e w1 ⟨v, rfl, iv, f1⟩
  obtain ⟨rfl, hz⟩ := iv
  have AL := Lib.hid (fun w' (f : Frame [] w w') => AL.out w' f hz)
  generalize (rgF6).z = z at *
  go_upto_region 2 with fail
  have B1 := Blk.new w1 37 #[.int .i64 6, .bool false, .slice none 0 0, .int .i64 0, .float .f64 z]
  have f2 := f1.trans1 (Frame.alloc [] w1 (.cells #[.int .i64 6, .bool false, .slice none 0 0, .int .i64 0, .float .f64 z] 37))
  generalize w1.alloc (.cells #[.int .i64 6, .bool false, .slice none 0 0, .int .i64 0, .float .f64 z] 37) = w2 at *
  have x0 := (B0.out.frame f2 (by simp)).at 0 rfl
  have y0 := B1.at 0 rfl
  have x1 := (B0.out.frame f2 (by simp)).at 1 rfl
  have y1 := B1.at 1 rfl
  have x2 := (B0.out.frame f2 (by simp)).at 2 rfl
  have y2 := B1.at 2 rfl
  have x3 := (B0.out.frame f2 (by simp)).at 3 rfl
  have y3 := B1.at 3 rfl
  have x4 := (B0.out.frame f2 (by simp)).at 4 rfl
  have y4 := B1.at 4 rfl
  have F2 := Lib.hid (F0.out.trans1 f2)
  have A2 := Lib.hid (AL.out w2 F2.out)
  clear f1 f2 B1 AL
  go_wp2_with fail
  refine A2.out.mono ?_
  rintro e w3 ⟨rfl, f3⟩
  go_wp2_with fail
  go_ret
  exact ⟨rfl, F2.out.trans1 f3⟩
end Go.Proofs.YtbnhhmejlglbcaaGreat

