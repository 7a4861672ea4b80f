/- tansyref1's values at all six semirings. (printed by gen_ref1.py) -/
import Derived.Test.YtbnhhmejlglbcaaMg37
import Derived.Test.YtbnhhmejlglbcaaMg41
namespace Go.Proofs.Ytbnhhmejlglbcaa
open Go.RowKit
set_option linter.unusedSimpArgs false
set_option linter.unusedVariables false

theorem bits1_any {x : Nat} (hx : x ≤ fInf) (w : World) : Calls Try.prog 51 #[.float .f64 x] w fun e w' => e = .returned (.int .u64 x) ∧ w' = w := by
  have q1 := ford_self hx
  have q2 := fun w => run_fbits x w
  go_enter Try.func51, Try.ntmps51
  go_wp2_with fail
  go_ret
  exact ⟨rfl, rfl⟩
theorem fsame1_any {x y : Nat} (hx : x ≤ fInf) (hy : y ≤ fInf) (w : World) : Calls Try.prog 32 #[.float .f64 x, .float .f64 y] w fun e w' => e = .returned (.bool (decide (x = y))) ∧ w' = w := by
  go_enter Try.func32, Try.ntmps32
  go_wp2_with fail
  refine (bits1_any hx _).mono ?_
  rintro e w ⟨rfl, rfl⟩
  go_wp2_with fail
  refine (bits1_any hy _).mono ?_
  rintro e w ⟨rfl, rfl⟩
  go_wp2_with fail
  go_ret
  refine ⟨?_, rfl⟩
  have e1 : ((x : Int) == (y : Int)) = decide (x = y) := by
    by_cases h : x = y
    · subst h; simp
    · have : ¬ (x : Int) = y := by omega
      simp [h, this]
  rw [← e1]; rfl
set_option maxRecDepth 100000 in
theorem mv_1 (x : Option Nat) (i : Bool) (a : Option Addr) (l c : Nat) (w : World) (h : NR w (.agg #[.bool i, .slice a l c]) x) (hl : Sz x) : Calls Try.prog 31 #[.agg #[.int .i64 1, .bool i, .slice a l c, .int .i64 0, .float .f64 0]] w fun e w' => e = .returned (.int .i64 0) ∧ Frame [] w w' := by
  have hst := fun (w : World) (a : Addr) (q : Nat) (m : Mode) => run_store Try.prog w a (.float .f64 q) m rfl
  have NM := Lib.hid (fun w' (f : Frame [] w w') => may1_any _ x w' (h.frame f) hl)
  clear h
  have BX := Blk.new w 39 #[.int .i64 1, .bool i, .slice a l c, .int .i64 0, .float .f64 0]
  have F1 := Lib.hid (Frame.alloc [] w (.cells #[.int .i64 1, .bool i, .slice a l c, .int .i64 0, .float .f64 0] 39))
  go_enter Try.func31, Try.ntmps31
  go_upto_region 1 with fail
  generalize w.alloc (.cells #[.int .i64 1, .bool i, .slice a l c, .int .i64 0, .float .f64 0] 39) = w1 at *
  have x0 := BX.at 0 rfl
  have x1 := BX.at 1 rfl
  have x2 := BX.at 2 rfl
  go_wp2_with fail
  refine (NM.out _ F1.out).mono ?_
  rintro e w3 ⟨rfl, f3⟩
  have F3 := Lib.hid (F1.out.trans1 f3)
  clear f3 BX
  go_wp2_with fail
  go_ret
  exact ⟨rfl, F3.out⟩
set_option maxRecDepth 100000 in
theorem mv_2 (x : Int) (w : World) (h0 : 0 ≤ x) (h1 : x ≤ lTop 2) : Calls Try.prog 31 #[.agg #[.int .i64 2, .bool false, .slice none 0 0, .int .i64 x, .float .f64 0]] w fun e w' => e = .returned (.int .i64 0) ∧ Frame [] w w' := by
  have hst := fun (w : World) (a : Addr) (q : Nat) (m : Mode) => run_store Try.prog w a (.float .f64 q) m rfl
  have hx : x = 0 ∨ x = 1 := by have : x ≤ 1 := h1; omega
  rcases hx with hx | hx
  · have q0 : (x == 0) = true := by simp [hx]
    clear hx
    have BX := Blk.new w 39 #[.int .i64 2, .bool false, .slice none 0 0, .int .i64 x, .float .f64 0]
    have F1 := Lib.hid (Frame.alloc [] w (.cells #[.int .i64 2, .bool false, .slice none 0 0, .int .i64 x, .float .f64 0] 39))
    go_enter Try.func31, Try.ntmps31
    go_upto_region 1 with fail
    generalize w.alloc (.cells #[.int .i64 2, .bool false, .slice none 0 0, .int .i64 x, .float .f64 0] 39) = w1 at *
    have x0 := BX.at 0 rfl
    have x3 := BX.at 3 rfl
    go_wp2_with fail
    go_ret
    exact ⟨rfl, F1.out⟩
  · have q0 : (x == 0) = false := by simp [hx]
    have q1 : (x == 1) = true := by simp [hx]
    clear hx
    have BX := Blk.new w 39 #[.int .i64 2, .bool false, .slice none 0 0, .int .i64 x, .float .f64 0]
    have F1 := Lib.hid (Frame.alloc [] w (.cells #[.int .i64 2, .bool false, .slice none 0 0, .int .i64 x, .float .f64 0] 39))
    go_enter Try.func31, Try.ntmps31
    go_upto_region 1 with fail
    generalize w.alloc (.cells #[.int .i64 2, .bool false, .slice none 0 0, .int .i64 x, .float .f64 0] 39) = w1 at *
    have x0 := BX.at 0 rfl
    have x3 := BX.at 3 rfl
    go_wp2_with fail
    go_ret
    exact ⟨rfl, F1.out⟩
set_option maxRecDepth 100000 in
theorem mv_3 (x : Option Nat) (i : Bool) (a : Option Addr) (l c : Nat) (w : World) (h : NR w (.agg #[.bool i, .slice a l c]) x) (hl : Sz x) : Calls Try.prog 31 #[.agg #[.int .i64 3, .bool i, .slice a l c, .int .i64 0, .float .f64 0]] w fun e w' => e = .returned (.int .i64 0) ∧ Frame [] w w' := by
  have hst := fun (w : World) (a : Addr) (q : Nat) (m : Mode) => run_store Try.prog w a (.float .f64 q) m rfl
  have NM := Lib.hid (fun w' (f : Frame [] w w') => may1_any _ x w' (h.frame f) hl)
  clear h
  have BX := Blk.new w 39 #[.int .i64 3, .bool i, .slice a l c, .int .i64 0, .float .f64 0]
  have F1 := Lib.hid (Frame.alloc [] w (.cells #[.int .i64 3, .bool i, .slice a l c, .int .i64 0, .float .f64 0] 39))
  go_enter Try.func31, Try.ntmps31
  go_upto_region 1 with fail
  generalize w.alloc (.cells #[.int .i64 3, .bool i, .slice a l c, .int .i64 0, .float .f64 0] 39) = w1 at *
  have x0 := BX.at 0 rfl
  have x1 := BX.at 1 rfl
  have x2 := BX.at 2 rfl
  go_wp2_with fail
  refine (NM.out _ F1.out).mono ?_
  rintro e w3 ⟨rfl, f3⟩
  have F3 := Lib.hid (F1.out.trans1 f3)
  clear f3 BX
  go_wp2_with fail
  go_ret
  exact ⟨rfl, F3.out⟩
set_option maxRecDepth 100000 in
theorem mv_4 (x : Int) (w : World) (h0 : 0 ≤ x) (h1 : x ≤ lTop 4) : Calls Try.prog 31 #[.agg #[.int .i64 4, .bool false, .slice none 0 0, .int .i64 x, .float .f64 0]] w fun e w' => e = .returned (.int .i64 0) ∧ Frame [] w w' := by
  have hst := fun (w : World) (a : Addr) (q : Nat) (m : Mode) => run_store Try.prog w a (.float .f64 q) m rfl
  have d0 : decide ((0 : Int) ≤ x) = true := decide_eq_true h0
  have d1 : decide (x ≤ 7) = true := decide_eq_true h1
  have BX := Blk.new w 39 #[.int .i64 4, .bool false, .slice none 0 0, .int .i64 x, .float .f64 0]
  have F1 := Lib.hid (Frame.alloc [] w (.cells #[.int .i64 4, .bool false, .slice none 0 0, .int .i64 x, .float .f64 0] 39))
  go_enter Try.func31, Try.ntmps31
  go_upto_region 1 with fail
  generalize w.alloc (.cells #[.int .i64 4, .bool false, .slice none 0 0, .int .i64 x, .float .f64 0] 39) = w1 at *
  have x0 := BX.at 0 rfl
  have x3 := BX.at 3 rfl
  go_wp2_with fail
  go_ret
  exact ⟨rfl, F1.out⟩
set_option maxRecDepth 100000 in
theorem mv_5 (x : Nat) (w : World) (h : x ≤ fTop 5) : Calls Try.prog 31 #[.agg #[.int .i64 5, .bool false, .slice none 0 0, .int .i64 0, .float .f64 x]] w fun e w' => e = .returned (.int .i64 0) ∧ Frame [] w w' := by
  have hst := fun (w : World) (a : Addr) (q : Nat) (m : Mode) => run_store Try.prog w a (.float .f64 q) m rfl
  have hx : x ≤ fInf := Nat.le_trans h (by decide)
  have BT := Lib.hid (fun w => bits1_any hx w)
  have d9 : decide ((x : Int) < 9223372036854775808) = true := decide_eq_true (by unfold fInf at hx; omega)
  obtain ⟨o1, p1, c1⟩ := ford hx fzero_le
  have A1 : o1 = .eq ∨ o1 = .gt := by cases c1 <;> first | (exact .inl rfl) | (exact .inr rfl) | omega
  obtain ⟨o2, p2, c2⟩ := ford hx fone_le
  have A2 : o2 = .lt ∨ o2 = .eq := by
    have h5 : x ≤ fOne := h
    cases c2 <;> first | (exact .inl rfl) | (exact .inr rfl) | omega
  have p2 : FloatKind.f64.format.order x 4607182418800017408 = some o2 := p2
  clear c1 c2
  rcases A1 with rfl | rfl <;> rcases A2 with rfl | rfl
  all_goals
    have BX := Blk.new w 39 #[.int .i64 5, .bool false, .slice none 0 0, .int .i64 0, .float .f64 x]
    have F1 := Lib.hid (Frame.alloc [] w (.cells #[.int .i64 5, .bool false, .slice none 0 0, .int .i64 0, .float .f64 x] 39))
    go_enter Try.func31, Try.ntmps31
    go_upto_region 1 with fail
    generalize w.alloc (.cells #[.int .i64 5, .bool false, .slice none 0 0, .int .i64 0, .float .f64 x] 39) = w1 at *
    have x0 := BX.at 0 rfl
    have x4 := BX.at 4 rfl
    go_wp2_with fail
    refine (BT.out _).mono ?_
    rintro e w3 ⟨rfl, rfl⟩
    go_wp2_with fail
    go_ret
    exact ⟨rfl, F1.out⟩
set_option maxRecDepth 100000 in
theorem mv_6 (x : Nat) (w : World) (h : x ≤ fTop 6) : Calls Try.prog 31 #[.agg #[.int .i64 6, .bool false, .slice none 0 0, .int .i64 0, .float .f64 x]] w fun e w' => e = .returned (.int .i64 0) ∧ Frame [] w w' := by
  have hst := fun (w : World) (a : Addr) (q : Nat) (m : Mode) => run_store Try.prog w a (.float .f64 q) m rfl
  have hx : x ≤ fInf := Nat.le_trans h (by decide)
  have BT := Lib.hid (fun w => bits1_any hx w)
  have d9 : decide ((x : Int) < 9223372036854775808) = true := decide_eq_true (by unfold fInf at hx; omega)
  obtain ⟨o1, p1, c1⟩ := ford hx fzero_le
  have A1 : o1 = .eq ∨ o1 = .gt := by cases c1 <;> first | (exact .inl rfl) | (exact .inr rfl) | omega
  clear c1
  rcases A1 with rfl | rfl
  all_goals
    have BX := Blk.new w 39 #[.int .i64 6, .bool false, .slice none 0 0, .int .i64 0, .float .f64 x]
    have F1 := Lib.hid (Frame.alloc [] w (.cells #[.int .i64 6, .bool false, .slice none 0 0, .int .i64 0, .float .f64 x] 39))
    go_enter Try.func31, Try.ntmps31
    go_upto_region 1 with fail
    generalize w.alloc (.cells #[.int .i64 6, .bool false, .slice none 0 0, .int .i64 0, .float .f64 x] 39) = w1 at *
    have x0 := BX.at 0 rfl
    have x4 := BX.at 4 rfl
    go_wp2_with fail
    refine (BT.out _).mono ?_
    rintro e w3 ⟨rfl, rfl⟩
    go_wp2_with fail
    go_ret
    exact ⟨rfl, F1.out⟩
set_option maxRecDepth 100000 in
theorem alike_1 (x y : Option Nat) (i j : Bool) (a b : Option Addr) (l c m d : Nat) (w : World) (h1 : NR w (.agg #[.bool i, .slice a l c]) x) (h2 : NR w (.agg #[.bool j, .slice b m d]) y) (l1 : Sz x) (l2 : Sz y) : Calls Try.prog 11 #[.agg #[.int .i64 1, .bool i, .slice a l c, .int .i64 0, .float .f64 0], .agg #[.int .i64 1, .bool j, .slice b m d, .int .i64 0, .float .f64 0]] w fun e w' => e = .returned (.bool (decide (x = y))) ∧ Frame [] w w' := by
  have hst := fun (w : World) (a : Addr) (q : Nat) (m : Mode) => run_store Try.prog w a (.float .f64 q) m rfl
  have M1 := Lib.hid (fun w' (f : Frame [] w w') => mv_1 x i a l c w' (h1.frame f) l1)
  have M2 := Lib.hid (fun w' (f : Frame [] w w') => mv_1 y j b m d w' (h2.frame f) l2)
  have CM := Lib.hid (fun w' (f : Frame [] w w') => cmp1_any _ _ x y w' (h1.frame f) (h2.frame f) l1 l2)
  rw [← cmpO_zero]
  generalize cmpO x y = r at *
  clear h1 h2
  have B0 := Lib.hid ((Blk.new w 39 #[.int .i64 1, .bool i, .slice a l c, .int .i64 0, .float .f64 0]).alloc (.cells #[.int .i64 1, .bool j, .slice b m d, .int .i64 0, .float .f64 0] 39))
  have B1 := Blk.new (w.alloc (.cells #[.int .i64 1, .bool i, .slice a l c, .int .i64 0, .float .f64 0] 39)) 39 #[.int .i64 1, .bool j, .slice b m d, .int .i64 0, .float .f64 0]
  simp only [World.size_alloc] at B1
  have B1 := Lib.hid B1
  have F0 : Hid (Frame [] w ((w.alloc (.cells #[.int .i64 1, .bool i, .slice a l c, .int .i64 0, .float .f64 0] 39)).alloc (.cells #[.int .i64 1, .bool j, .slice b m d, .int .i64 0, .float .f64 0] 39))) := by show Frame [] w _; (repeat first | assumption | exact Frame.refl _ _ | refine Frame.trans1 ?_ (Frame.alloc _ _ _) | refine Frame.trans1 ?_ (Frame.drew _ _) | refine Frame.trans1 ?_ (Frame.drewN _ _ _))
  go_enter Try.func11, Try.ntmps11
  go_upto_region 1 with fail
  generalize (w.alloc (.cells #[.int .i64 1, .bool i, .slice a l c, .int .i64 0, .float .f64 0] 39)).alloc (.cells #[.int .i64 1, .bool j, .slice b m d, .int .i64 0, .float .f64 0] 39) = w0 at *
  have x0 := B0.out.at 0 rfl
  have x1 := B0.out.at 1 rfl
  have x2 := B0.out.at 2 rfl
  have x3 := B0.out.at 3 rfl
  have x4 := B0.out.at 4 rfl
  go_wp2_with fail
  refine (M1.out _ F0.out).mono ?_
  rintro e w1 ⟨rfl, f1⟩
  clear x0 x1 x2 x3 x4
  have y0 := (B1.out.frame f1 (by simp)).at 0 rfl
  have y1 := (B1.out.frame f1 (by simp)).at 1 rfl
  have y2 := (B1.out.frame f1 (by simp)).at 2 rfl
  have y3 := (B1.out.frame f1 (by simp)).at 3 rfl
  have y4 := (B1.out.frame f1 (by simp)).at 4 rfl
  have F1 := Lib.hid (F0.out.trans1 f1)
  have f1h := Lib.hid f1
  clear f1
  go_wp2_with fail
  refine (M2.out _ F1.out).mono ?_
  rintro e w2 ⟨rfl, f2⟩
  clear y0 y1 y2 y3 y4
  have x0 := (B0.out.frame (f1h.out.trans1 f2) (by simp)).at 0 rfl
  have y0 := (B1.out.frame (f1h.out.trans1 f2) (by simp)).at 0 rfl
  have x1 := (B0.out.frame (f1h.out.trans1 f2) (by simp)).at 1 rfl
  have y1 := (B1.out.frame (f1h.out.trans1 f2) (by simp)).at 1 rfl
  have x2 := (B0.out.frame (f1h.out.trans1 f2) (by simp)).at 2 rfl
  have y2 := (B1.out.frame (f1h.out.trans1 f2) (by simp)).at 2 rfl
  have x3 := (B0.out.frame (f1h.out.trans1 f2) (by simp)).at 3 rfl
  have y3 := (B1.out.frame (f1h.out.trans1 f2) (by simp)).at 3 rfl
  have x4 := (B0.out.frame (f1h.out.trans1 f2) (by simp)).at 4 rfl
  have y4 := (B1.out.frame (f1h.out.trans1 f2) (by simp)).at 4 rfl
  have F2 := Lib.hid (F1.out.trans1 f2)
  clear f2 M1 M2 B0 B1
  go_wp2_with fail
  refine (CM.out _ F2.out).mono ?_
  rintro e w3 ⟨rfl, f3⟩
  have F3 := Lib.hid (F2.out.trans1 f3)
  clear f3
  go_wp2_with fail
  go_ret
  exact ⟨rfl, F3.out⟩
set_option maxRecDepth 100000 in
theorem alike_2 (x y : Int) (w : World) (h1 : 0 ≤ x ∧ x ≤ lTop 2) (h2 : 0 ≤ y ∧ y ≤ lTop 2) : Calls Try.prog 11 #[.agg #[.int .i64 2, .bool false, .slice none 0 0, .int .i64 x, .float .f64 0], .agg #[.int .i64 2, .bool false, .slice none 0 0, .int .i64 y, .float .f64 0]] w fun e w' => e = .returned (.bool (decide (x = y))) ∧ Frame [] w w' := by
  have hst := fun (w : World) (a : Addr) (q : Nat) (m : Mode) => run_store Try.prog w a (.float .f64 q) m rfl
  have M1 := Lib.hid (fun w' (f : Frame [] w w') => mv_2 x w' h1.1 h1.2)
  have M2 := Lib.hid (fun w' (f : Frame [] w w') => mv_2 y w' h2.1 h2.2)
  have B0 := Lib.hid ((Blk.new w 39 #[.int .i64 2, .bool false, .slice none 0 0, .int .i64 x, .float .f64 0]).alloc (.cells #[.int .i64 2, .bool false, .slice none 0 0, .int .i64 y, .float .f64 0] 39))
  have B1 := Blk.new (w.alloc (.cells #[.int .i64 2, .bool false, .slice none 0 0, .int .i64 x, .float .f64 0] 39)) 39 #[.int .i64 2, .bool false, .slice none 0 0, .int .i64 y, .float .f64 0]
  simp only [World.size_alloc] at B1
  have B1 := Lib.hid B1
  have F0 : Hid (Frame [] w ((w.alloc (.cells #[.int .i64 2, .bool false, .slice none 0 0, .int .i64 x, .float .f64 0] 39)).alloc (.cells #[.int .i64 2, .bool false, .slice none 0 0, .int .i64 y, .float .f64 0] 39))) := by show Frame [] w _; (repeat first | assumption | exact Frame.refl _ _ | refine Frame.trans1 ?_ (Frame.alloc _ _ _) | refine Frame.trans1 ?_ (Frame.drew _ _) | refine Frame.trans1 ?_ (Frame.drewN _ _ _))
  go_enter Try.func11, Try.ntmps11
  go_upto_region 1 with fail
  generalize (w.alloc (.cells #[.int .i64 2, .bool false, .slice none 0 0, .int .i64 x, .float .f64 0] 39)).alloc (.cells #[.int .i64 2, .bool false, .slice none 0 0, .int .i64 y, .float .f64 0] 39) = w0 at *
  have x0 := B0.out.at 0 rfl
  have x1 := B0.out.at 1 rfl
  have x2 := B0.out.at 2 rfl
  have x3 := B0.out.at 3 rfl
  have x4 := B0.out.at 4 rfl
  go_wp2_with fail
  refine (M1.out _ F0.out).mono ?_
  rintro e w1 ⟨rfl, f1⟩
  clear x0 x1 x2 x3 x4
  have y0 := (B1.out.frame f1 (by simp)).at 0 rfl
  have y1 := (B1.out.frame f1 (by simp)).at 1 rfl
  have y2 := (B1.out.frame f1 (by simp)).at 2 rfl
  have y3 := (B1.out.frame f1 (by simp)).at 3 rfl
  have y4 := (B1.out.frame f1 (by simp)).at 4 rfl
  have F1 := Lib.hid (F0.out.trans1 f1)
  have f1h := Lib.hid f1
  clear f1
  go_wp2_with fail
  refine (M2.out _ F1.out).mono ?_
  rintro e w2 ⟨rfl, f2⟩
  clear y0 y1 y2 y3 y4
  have x0 := (B0.out.frame (f1h.out.trans1 f2) (by simp)).at 0 rfl
  have y0 := (B1.out.frame (f1h.out.trans1 f2) (by simp)).at 0 rfl
  have x1 := (B0.out.frame (f1h.out.trans1 f2) (by simp)).at 1 rfl
  have y1 := (B1.out.frame (f1h.out.trans1 f2) (by simp)).at 1 rfl
  have x2 := (B0.out.frame (f1h.out.trans1 f2) (by simp)).at 2 rfl
  have y2 := (B1.out.frame (f1h.out.trans1 f2) (by simp)).at 2 rfl
  have x3 := (B0.out.frame (f1h.out.trans1 f2) (by simp)).at 3 rfl
  have y3 := (B1.out.frame (f1h.out.trans1 f2) (by simp)).at 3 rfl
  have x4 := (B0.out.frame (f1h.out.trans1 f2) (by simp)).at 4 rfl
  have y4 := (B1.out.frame (f1h.out.trans1 f2) (by simp)).at 4 rfl
  have F2 := Lib.hid (F1.out.trans1 f2)
  clear f2 M1 M2 B0 B1
  go_wp2_with fail
  go_ret
  refine ⟨?_, F2.out⟩
  have e1 : (x == y) = decide (x = y) := by by_cases h : x = y <;> simp [h]
  first | rfl | (rw [← e1]; rfl)
set_option maxRecDepth 100000 in
theorem alike_3 (x y : Option Nat) (i j : Bool) (a b : Option Addr) (l c m d : Nat) (w : World) (h1 : NR w (.agg #[.bool i, .slice a l c]) x) (h2 : NR w (.agg #[.bool j, .slice b m d]) y) (l1 : Sz x) (l2 : Sz y) : Calls Try.prog 11 #[.agg #[.int .i64 3, .bool i, .slice a l c, .int .i64 0, .float .f64 0], .agg #[.int .i64 3, .bool j, .slice b m d, .int .i64 0, .float .f64 0]] w fun e w' => e = .returned (.bool (decide (x = y))) ∧ Frame [] w w' := by
  have hst := fun (w : World) (a : Addr) (q : Nat) (m : Mode) => run_store Try.prog w a (.float .f64 q) m rfl
  have M1 := Lib.hid (fun w' (f : Frame [] w w') => mv_3 x i a l c w' (h1.frame f) l1)
  have M2 := Lib.hid (fun w' (f : Frame [] w w') => mv_3 y j b m d w' (h2.frame f) l2)
  have CM := Lib.hid (fun w' (f : Frame [] w w') => cmp1_any _ _ x y w' (h1.frame f) (h2.frame f) l1 l2)
  rw [← cmpO_zero]
  generalize cmpO x y = r at *
  clear h1 h2
  have B0 := Lib.hid ((Blk.new w 39 #[.int .i64 3, .bool i, .slice a l c, .int .i64 0, .float .f64 0]).alloc (.cells #[.int .i64 3, .bool j, .slice b m d, .int .i64 0, .float .f64 0] 39))
  have B1 := Blk.new (w.alloc (.cells #[.int .i64 3, .bool i, .slice a l c, .int .i64 0, .float .f64 0] 39)) 39 #[.int .i64 3, .bool j, .slice b m d, .int .i64 0, .float .f64 0]
  simp only [World.size_alloc] at B1
  have B1 := Lib.hid B1
  have F0 : Hid (Frame [] w ((w.alloc (.cells #[.int .i64 3, .bool i, .slice a l c, .int .i64 0, .float .f64 0] 39)).alloc (.cells #[.int .i64 3, .bool j, .slice b m d, .int .i64 0, .float .f64 0] 39))) := by show Frame [] w _; (repeat first | assumption | exact Frame.refl _ _ | refine Frame.trans1 ?_ (Frame.alloc _ _ _) | refine Frame.trans1 ?_ (Frame.drew _ _) | refine Frame.trans1 ?_ (Frame.drewN _ _ _))
  go_enter Try.func11, Try.ntmps11
  go_upto_region 1 with fail
  generalize (w.alloc (.cells #[.int .i64 3, .bool i, .slice a l c, .int .i64 0, .float .f64 0] 39)).alloc (.cells #[.int .i64 3, .bool j, .slice b m d, .int .i64 0, .float .f64 0] 39) = w0 at *
  have x0 := B0.out.at 0 rfl
  have x1 := B0.out.at 1 rfl
  have x2 := B0.out.at 2 rfl
  have x3 := B0.out.at 3 rfl
  have x4 := B0.out.at 4 rfl
  go_wp2_with fail
  refine (M1.out _ F0.out).mono ?_
  rintro e w1 ⟨rfl, f1⟩
  clear x0 x1 x2 x3 x4
  have y0 := (B1.out.frame f1 (by simp)).at 0 rfl
  have y1 := (B1.out.frame f1 (by simp)).at 1 rfl
  have y2 := (B1.out.frame f1 (by simp)).at 2 rfl
  have y3 := (B1.out.frame f1 (by simp)).at 3 rfl
  have y4 := (B1.out.frame f1 (by simp)).at 4 rfl
  have F1 := Lib.hid (F0.out.trans1 f1)
  have f1h := Lib.hid f1
  clear f1
  go_wp2_with fail
  refine (M2.out _ F1.out).mono ?_
  rintro e w2 ⟨rfl, f2⟩
  clear y0 y1 y2 y3 y4
  have x0 := (B0.out.frame (f1h.out.trans1 f2) (by simp)).at 0 rfl
  have y0 := (B1.out.frame (f1h.out.trans1 f2) (by simp)).at 0 rfl
  have x1 := (B0.out.frame (f1h.out.trans1 f2) (by simp)).at 1 rfl
  have y1 := (B1.out.frame (f1h.out.trans1 f2) (by simp)).at 1 rfl
  have x2 := (B0.out.frame (f1h.out.trans1 f2) (by simp)).at 2 rfl
  have y2 := (B1.out.frame (f1h.out.trans1 f2) (by simp)).at 2 rfl
  have x3 := (B0.out.frame (f1h.out.trans1 f2) (by simp)).at 3 rfl
  have y3 := (B1.out.frame (f1h.out.trans1 f2) (by simp)).at 3 rfl
  have x4 := (B0.out.frame (f1h.out.trans1 f2) (by simp)).at 4 rfl
  have y4 := (B1.out.frame (f1h.out.trans1 f2) (by simp)).at 4 rfl
  have F2 := Lib.hid (F1.out.trans1 f2)
  clear f2 M1 M2 B0 B1
  go_wp2_with fail
  refine (CM.out _ F2.out).mono ?_
  rintro e w3 ⟨rfl, f3⟩
  have F3 := Lib.hid (F2.out.trans1 f3)
  clear f3
  go_wp2_with fail
  go_ret
  exact ⟨rfl, F3.out⟩
set_option maxRecDepth 100000 in
theorem alike_4 (x y : Int) (w : World) (h1 : 0 ≤ x ∧ x ≤ lTop 4) (h2 : 0 ≤ y ∧ y ≤ lTop 4) : Calls Try.prog 11 #[.agg #[.int .i64 4, .bool false, .slice none 0 0, .int .i64 x, .float .f64 0], .agg #[.int .i64 4, .bool false, .slice none 0 0, .int .i64 y, .float .f64 0]] w fun e w' => e = .returned (.bool (decide (x = y))) ∧ Frame [] w w' := by
  have hst := fun (w : World) (a : Addr) (q : Nat) (m : Mode) => run_store Try.prog w a (.float .f64 q) m rfl
  have M1 := Lib.hid (fun w' (f : Frame [] w w') => mv_4 x w' h1.1 h1.2)
  have M2 := Lib.hid (fun w' (f : Frame [] w w') => mv_4 y w' h2.1 h2.2)
  have B0 := Lib.hid ((Blk.new w 39 #[.int .i64 4, .bool false, .slice none 0 0, .int .i64 x, .float .f64 0]).alloc (.cells #[.int .i64 4, .bool false, .slice none 0 0, .int .i64 y, .float .f64 0] 39))
  have B1 := Blk.new (w.alloc (.cells #[.int .i64 4, .bool false, .slice none 0 0, .int .i64 x, .float .f64 0] 39)) 39 #[.int .i64 4, .bool false, .slice none 0 0, .int .i64 y, .float .f64 0]
  simp only [World.size_alloc] at B1
  have B1 := Lib.hid B1
  have F0 : Hid (Frame [] w ((w.alloc (.cells #[.int .i64 4, .bool false, .slice none 0 0, .int .i64 x, .float .f64 0] 39)).alloc (.cells #[.int .i64 4, .bool false, .slice none 0 0, .int .i64 y, .float .f64 0] 39))) := by show Frame [] w _; (repeat first | assumption | exact Frame.refl _ _ | refine Frame.trans1 ?_ (Frame.alloc _ _ _) | refine Frame.trans1 ?_ (Frame.drew _ _) | refine Frame.trans1 ?_ (Frame.drewN _ _ _))
  go_enter Try.func11, Try.ntmps11
  go_upto_region 1 with fail
  generalize (w.alloc (.cells #[.int .i64 4, .bool false, .slice none 0 0, .int .i64 x, .float .f64 0] 39)).alloc (.cells #[.int .i64 4, .bool false, .slice none 0 0, .int .i64 y, .float .f64 0] 39) = w0 at *
  have x0 := B0.out.at 0 rfl
  have x1 := B0.out.at 1 rfl
  have x2 := B0.out.at 2 rfl
  have x3 := B0.out.at 3 rfl
  have x4 := B0.out.at 4 rfl
  go_wp2_with fail
  refine (M1.out _ F0.out).mono ?_
  rintro e w1 ⟨rfl, f1⟩
  clear x0 x1 x2 x3 x4
  have y0 := (B1.out.frame f1 (by simp)).at 0 rfl
  have y1 := (B1.out.frame f1 (by simp)).at 1 rfl
  have y2 := (B1.out.frame f1 (by simp)).at 2 rfl
  have y3 := (B1.out.frame f1 (by simp)).at 3 rfl
  have y4 := (B1.out.frame f1 (by simp)).at 4 rfl
  have F1 := Lib.hid (F0.out.trans1 f1)
  have f1h := Lib.hid f1
  clear f1
  go_wp2_with fail
  refine (M2.out _ F1.out).mono ?_
  rintro e w2 ⟨rfl, f2⟩
  clear y0 y1 y2 y3 y4
  have x0 := (B0.out.frame (f1h.out.trans1 f2) (by simp)).at 0 rfl
  have y0 := (B1.out.frame (f1h.out.trans1 f2) (by simp)).at 0 rfl
  have x1 := (B0.out.frame (f1h.out.trans1 f2) (by simp)).at 1 rfl
  have y1 := (B1.out.frame (f1h.out.trans1 f2) (by simp)).at 1 rfl
  have x2 := (B0.out.frame (f1h.out.trans1 f2) (by simp)).at 2 rfl
  have y2 := (B1.out.frame (f1h.out.trans1 f2) (by simp)).at 2 rfl
  have x3 := (B0.out.frame (f1h.out.trans1 f2) (by simp)).at 3 rfl
  have y3 := (B1.out.frame (f1h.out.trans1 f2) (by simp)).at 3 rfl
  have x4 := (B0.out.frame (f1h.out.trans1 f2) (by simp)).at 4 rfl
  have y4 := (B1.out.frame (f1h.out.trans1 f2) (by simp)).at 4 rfl
  have F2 := Lib.hid (F1.out.trans1 f2)
  clear f2 M1 M2 B0 B1
  go_wp2_with fail
  go_ret
  refine ⟨?_, F2.out⟩
  have e1 : (x == y) = decide (x = y) := by by_cases h : x = y <;> simp [h]
  first | rfl | (rw [← e1]; rfl)
set_option maxRecDepth 100000 in
theorem alike_5 (x y : Nat) (w : World) (h1 : x ≤ fTop 5) (h2 : y ≤ fTop 5) : Calls Try.prog 11 #[.agg #[.int .i64 5, .bool false, .slice none 0 0, .int .i64 0, .float .f64 x], .agg #[.int .i64 5, .bool false, .slice none 0 0, .int .i64 0, .float .f64 y]] w fun e w' => e = .returned (.bool (decide (x = y))) ∧ Frame [] w w' := by
  have hst := fun (w : World) (a : Addr) (q : Nat) (m : Mode) => run_store Try.prog w a (.float .f64 q) m rfl
  have M1 := Lib.hid (fun w' (f : Frame [] w w') => mv_5 x w' h1)
  have M2 := Lib.hid (fun w' (f : Frame [] w w') => mv_5 y w' h2)
  have SM := Lib.hid (fun w : World => fsame1_any (Nat.le_trans h1 (by decide) : x ≤ fInf) (Nat.le_trans h2 (by decide) : y ≤ fInf) w)
  generalize decide (x = y) = r at *
  have B0 := Lib.hid ((Blk.new w 39 #[.int .i64 5, .bool false, .slice none 0 0, .int .i64 0, .float .f64 x]).alloc (.cells #[.int .i64 5, .bool false, .slice none 0 0, .int .i64 0, .float .f64 y] 39))
  have B1 := Blk.new (w.alloc (.cells #[.int .i64 5, .bool false, .slice none 0 0, .int .i64 0, .float .f64 x] 39)) 39 #[.int .i64 5, .bool false, .slice none 0 0, .int .i64 0, .float .f64 y]
  simp only [World.size_alloc] at B1
  have B1 := Lib.hid B1
  have F0 : Hid (Frame [] w ((w.alloc (.cells #[.int .i64 5, .bool false, .slice none 0 0, .int .i64 0, .float .f64 x] 39)).alloc (.cells #[.int .i64 5, .bool false, .slice none 0 0, .int .i64 0, .float .f64 y] 39))) := by show Frame [] w _; (repeat first | assumption | exact Frame.refl _ _ | refine Frame.trans1 ?_ (Frame.alloc _ _ _) | refine Frame.trans1 ?_ (Frame.drew _ _) | refine Frame.trans1 ?_ (Frame.drewN _ _ _))
  go_enter Try.func11, Try.ntmps11
  go_upto_region 1 with fail
  generalize (w.alloc (.cells #[.int .i64 5, .bool false, .slice none 0 0, .int .i64 0, .float .f64 x] 39)).alloc (.cells #[.int .i64 5, .bool false, .slice none 0 0, .int .i64 0, .float .f64 y] 39) = w0 at *
  have x0 := B0.out.at 0 rfl
  have x1 := B0.out.at 1 rfl
  have x2 := B0.out.at 2 rfl
  have x3 := B0.out.at 3 rfl
  have x4 := B0.out.at 4 rfl
  go_wp2_with fail
  refine (M1.out _ F0.out).mono ?_
  rintro e w1 ⟨rfl, f1⟩
  clear x0 x1 x2 x3 x4
  have y0 := (B1.out.frame f1 (by simp)).at 0 rfl
  have y1 := (B1.out.frame f1 (by simp)).at 1 rfl
  have y2 := (B1.out.frame f1 (by simp)).at 2 rfl
  have y3 := (B1.out.frame f1 (by simp)).at 3 rfl
  have y4 := (B1.out.frame f1 (by simp)).at 4 rfl
  have F1 := Lib.hid (F0.out.trans1 f1)
  have f1h := Lib.hid f1
  clear f1
  go_wp2_with fail
  refine (M2.out _ F1.out).mono ?_
  rintro e w2 ⟨rfl, f2⟩
  clear y0 y1 y2 y3 y4
  have x0 := (B0.out.frame (f1h.out.trans1 f2) (by simp)).at 0 rfl
  have y0 := (B1.out.frame (f1h.out.trans1 f2) (by simp)).at 0 rfl
  have x1 := (B0.out.frame (f1h.out.trans1 f2) (by simp)).at 1 rfl
  have y1 := (B1.out.frame (f1h.out.trans1 f2) (by simp)).at 1 rfl
  have x2 := (B0.out.frame (f1h.out.trans1 f2) (by simp)).at 2 rfl
  have y2 := (B1.out.frame (f1h.out.trans1 f2) (by simp)).at 2 rfl
  have x3 := (B0.out.frame (f1h.out.trans1 f2) (by simp)).at 3 rfl
  have y3 := (B1.out.frame (f1h.out.trans1 f2) (by simp)).at 3 rfl
  have x4 := (B0.out.frame (f1h.out.trans1 f2) (by simp)).at 4 rfl
  have y4 := (B1.out.frame (f1h.out.trans1 f2) (by simp)).at 4 rfl
  have F2 := Lib.hid (F1.out.trans1 f2)
  clear f2 M1 M2 B0 B1
  go_wp2_with fail
  refine (SM.out _).mono ?_
  rintro e w3 ⟨rfl, rfl⟩
  go_wp2_with fail
  go_ret
  exact ⟨rfl, F2.out⟩
set_option maxRecDepth 100000 in
theorem alike_6 (x y : Nat) (w : World) (h1 : x ≤ fTop 6) (h2 : y ≤ fTop 6) : Calls Try.prog 11 #[.agg #[.int .i64 6, .bool false, .slice none 0 0, .int .i64 0, .float .f64 x], .agg #[.int .i64 6, .bool false, .slice none 0 0, .int .i64 0, .float .f64 y]] w fun e w' => e = .returned (.bool (decide (x = y))) ∧ Frame [] w w' := by
  have hst := fun (w : World) (a : Addr) (q : Nat) (m : Mode) => run_store Try.prog w a (.float .f64 q) m rfl
  have M1 := Lib.hid (fun w' (f : Frame [] w w') => mv_6 x w' h1)
  have M2 := Lib.hid (fun w' (f : Frame [] w w') => mv_6 y w' h2)
  have SM := Lib.hid (fun w : World => fsame1_any (Nat.le_trans h1 (by decide) : x ≤ fInf) (Nat.le_trans h2 (by decide) : y ≤ fInf) w)
  generalize decide (x = y) = r at *
  have B0 := Lib.hid ((Blk.new w 39 #[.int .i64 6, .bool false, .slice none 0 0, .int .i64 0, .float .f64 x]).alloc (.cells #[.int .i64 6, .bool false, .slice none 0 0, .int .i64 0, .float .f64 y] 39))
  have B1 := Blk.new (w.alloc (.cells #[.int .i64 6, .bool false, .slice none 0 0, .int .i64 0, .float .f64 x] 39)) 39 #[.int .i64 6, .bool false, .slice none 0 0, .int .i64 0, .float .f64 y]
  simp only [World.size_alloc] at B1
  have B1 := Lib.hid B1
  have F0 : Hid (Frame [] w ((w.alloc (.cells #[.int .i64 6, .bool false, .slice none 0 0, .int .i64 0, .float .f64 x] 39)).alloc (.cells #[.int .i64 6, .bool false, .slice none 0 0, .int .i64 0, .float .f64 y] 39))) := by show Frame [] w _; (repeat first | assumption | exact Frame.refl _ _ | refine Frame.trans1 ?_ (Frame.alloc _ _ _) | refine Frame.trans1 ?_ (Frame.drew _ _) | refine Frame.trans1 ?_ (Frame.drewN _ _ _))
  go_enter Try.func11, Try.ntmps11
  go_upto_region 1 with fail
  generalize (w.alloc (.cells #[.int .i64 6, .bool false, .slice none 0 0, .int .i64 0, .float .f64 x] 39)).alloc (.cells #[.int .i64 6, .bool false, .slice none 0 0, .int .i64 0, .float .f64 y] 39) = w0 at *
  have x0 := B0.out.at 0 rfl
  have x1 := B0.out.at 1 rfl
  have x2 := B0.out.at 2 rfl
  have x3 := B0.out.at 3 rfl
  have x4 := B0.out.at 4 rfl
  go_wp2_with fail
  refine (M1.out _ F0.out).mono ?_
  rintro e w1 ⟨rfl, f1⟩
  clear x0 x1 x2 x3 x4
  have y0 := (B1.out.frame f1 (by simp)).at 0 rfl
  have y1 := (B1.out.frame f1 (by simp)).at 1 rfl
  have y2 := (B1.out.frame f1 (by simp)).at 2 rfl
  have y3 := (B1.out.frame f1 (by simp)).at 3 rfl
  have y4 := (B1.out.frame f1 (by simp)).at 4 rfl
  have F1 := Lib.hid (F0.out.trans1 f1)
  have f1h := Lib.hid f1
  clear f1
  go_wp2_with fail
  refine (M2.out _ F1.out).mono ?_
  rintro e w2 ⟨rfl, f2⟩
  clear y0 y1 y2 y3 y4
  have x0 := (B0.out.frame (f1h.out.trans1 f2) (by simp)).at 0 rfl
  have y0 := (B1.out.frame (f1h.out.trans1 f2) (by simp)).at 0 rfl
  have x1 := (B0.out.frame (f1h.out.trans1 f2) (by simp)).at 1 rfl
  have y1 := (B1.out.frame (f1h.out.trans1 f2) (by simp)).at 1 rfl
  have x2 := (B0.out.frame (f1h.out.trans1 f2) (by simp)).at 2 rfl
  have y2 := (B1.out.frame (f1h.out.trans1 f2) (by simp)).at 2 rfl
  have x3 := (B0.out.frame (f1h.out.trans1 f2) (by simp)).at 3 rfl
  have y3 := (B1.out.frame (f1h.out.trans1 f2) (by simp)).at 3 rfl
  have x4 := (B0.out.frame (f1h.out.trans1 f2) (by simp)).at 4 rfl
  have y4 := (B1.out.frame (f1h.out.trans1 f2) (by simp)).at 4 rfl
  have F2 := Lib.hid (F1.out.trans1 f2)
  clear f2 M1 M2 B0 B1
  go_wp2_with fail
  refine (SM.out _).mono ?_
  rintro e w3 ⟨rfl, rfl⟩
  go_wp2_with fail
  go_ret
  exact ⟨rfl, F2.out⟩
end Go.Proofs.Ytbnhhmejlglbcaa

