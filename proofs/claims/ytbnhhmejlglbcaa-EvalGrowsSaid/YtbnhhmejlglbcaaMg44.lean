/- tansyref1.PlusValue, Better at all six semirings. (printed by gen_better.py) -/
import Derived.Test.YtbnhhmejlglbcaaMg43
namespace Go.Proofs.Ytbnhhmejlglbcaa
open Go.RowKit
set_option linter.unusedSimpArgs false
set_option linter.unusedVariables false

theorem sz_min {x y : Option Nat} (hx : Sz x) (hy : Sz y) : Sz (minO x y) := by
  unfold minO; split
  · exact hy
  · exact hx
/-- One result, a truth, and no error. -/
def BEnd (b : Bool) (w : World) (e : Ending) (w' : World) : Prop := e = .returned (.tuple #[.bool b, .int .i64 0]) ∧ Frame [] w w'
set_option maxRecDepth 100000 in
theorem pv1_1 (x y : Option Nat) (i j : Bool) (a b : Option Addr) (l c m d : Nat) (w : World) (h1 : NR w (.agg #[.bool i, .slice a l c]) x) (h2 : NR w (.agg #[.bool j, .slice b m d]) y) (l1 : Sz x) (l2 : Sz y) : Calls Try.prog 29 #[.agg #[.int .i64 1, .bool i, .slice a l c, .int .i64 0, .float .f64 0], .agg #[.int .i64 1, .bool j, .slice b m d, .int .i64 0, .float .f64 0]] w (VEnd (IsN 1) ((rgN1).p x y) w) := by
  have hst := fun (w : World) (a : Addr) (q : Nat) (m : Mode) => run_store Try.prog w a (.float .f64 q) m rfl
  have OP := Lib.hid (fun w' (f : Frame [] w w') => op1p_1 x y i j a b l c m d w' (h1.frame f) (h2.frame f) l1 l2)
  have B0 := Lib.hid (((Blk.new w 39 #[.int .i64 1, .bool i, .slice a l c, .int .i64 0, .float .f64 0]).alloc (.cells #[.int .i64 1, .bool j, .slice b m d, .int .i64 0, .float .f64 0] 39)).alloc (.cells #[.int .i64 0, .bool false, .slice none 0 0, .int .i64 0, .float .f64 0] 39))
  have B1 := (Blk.new (w.alloc (.cells #[.int .i64 1, .bool i, .slice a l c, .int .i64 0, .float .f64 0] 39)) 39 #[.int .i64 1, .bool j, .slice b m d, .int .i64 0, .float .f64 0]).alloc (.cells #[.int .i64 0, .bool false, .slice none 0 0, .int .i64 0, .float .f64 0] 39)
  have B2 := Blk.new ((w.alloc (.cells #[.int .i64 1, .bool i, .slice a l c, .int .i64 0, .float .f64 0] 39)).alloc (.cells #[.int .i64 1, .bool j, .slice b m d, .int .i64 0, .float .f64 0] 39)) 39 #[.int .i64 0, .bool false, .slice none 0 0, .int .i64 0, .float .f64 0]
  simp only [World.size_alloc] at B1 B2
  have B1 := Lib.hid B1
  have B2 := Lib.hid B2
  have F0 : Hid (Frame [] w (((w.alloc (.cells #[.int .i64 1, .bool i, .slice a l c, .int .i64 0, .float .f64 0] 39)).alloc (.cells #[.int .i64 1, .bool j, .slice b m d, .int .i64 0, .float .f64 0] 39)).alloc (.cells #[.int .i64 0, .bool false, .slice none 0 0, .int .i64 0, .float .f64 0] 39))) := by show Frame [] w _; (repeat first | assumption | exact Frame.refl _ _ | refine Frame.trans1 ?_ (Frame.alloc _ _ _) | refine Frame.trans1 ?_ (Frame.drew _ _) | refine Frame.trans1 ?_ (Frame.drewN _ _ _))
  clear h1 h2
  generalize hres : (rgN1).p x y = r at *
  clear hres
  go_enter Try.func29, Try.ntmps29
  go_upto_region 1 with fail
  generalize ((w.alloc (.cells #[.int .i64 1, .bool i, .slice a l c, .int .i64 0, .float .f64 0] 39)).alloc (.cells #[.int .i64 1, .bool j, .slice b m d, .int .i64 0, .float .f64 0] 39)).alloc (.cells #[.int .i64 0, .bool false, .slice none 0 0, .int .i64 0, .float .f64 0] 39) = w0 at *
  obtain ⟨b2, hb2⟩ : ∃ b2, w.heap.size + 1 + 1 = b2 := ⟨_, rfl⟩
  rw [hb2] at B2 ⊢
  have hbw : w.heap.size ≤ b2 := by omega
  have x0 := B0.out.at 0 rfl
  have x1 := B0.out.at 1 rfl
  have x2 := B0.out.at 2 rfl
  have x3 := B0.out.at 3 rfl
  have x4 := B0.out.at 4 rfl
  have y_0 := B1.out.at 0 rfl
  have y_1 := B1.out.at 1 rfl
  have y_2 := B1.out.at 2 rfl
  have y_3 := B1.out.at 3 rfl
  have y_4 := B1.out.at 4 rfl
  go_wp2_with fail
  refine (OP.out _ F0.out).mono ?_
  rintro e w1 ⟨v, rfl, iv, f1⟩
  obtain ⟨i3, a3, l3, c3, rfl, nv⟩ := iv
  have D2 := B2.out.frame f1 (by simp)
  have F1 := Lib.hid (F0.out.trans1 f1)
  clear f1 x0 x1 x2 x3 x4 y_0 y_1 y_2 y_3 y_4
  have y0 := D2.at 0 rfl
  have y1 := D2.at 1 rfl
  have y2 := D2.at 2 rfl
  have y3 := D2.at 3 rfl
  have y4 := D2.at 4 rfl
  have zf := D2.frozen
  have B5 := Lib.hid (putV D2 (.int .i64 1) (.bool i3) (.slice a3 l3 c3) (.int .i64 0) (.float .f64 0))
  have F5 := Lib.hid (putV_frame (w := w) (b := b2) (by omega) F1.out (.int .i64 1) (.bool i3) (.slice a3 l3 c3) (.int .i64 0) (.float .f64 0))
  have KD := Lib.hid (putV_keep D2 (.int .i64 1) (.bool i3) (.slice a3 l3 c3) (.int .i64 0) (.float .f64 0))
  have NW := Lib.hid (nv.kept KD.out)
  clear nv
  clear D2
  go_wp2_with fail
  refine bodyPost_ret (results_val2 rfl _ _ _ _ _ _ _ _ rfl B5.out) rfl ?_
  exact ⟨_, rfl, ⟨_, _, _, _, rfl, NW.out⟩, F5.out⟩
set_option maxRecDepth 100000 in
theorem pv1_2 (x y : Int) (w : World) (h1 : 0 ≤ x ∧ x ≤ lTop 2) (h2 : 0 ≤ y ∧ y ≤ lTop 2) : Calls Try.prog 29 #[.agg #[.int .i64 2, .bool false, .slice none 0 0, .int .i64 x, .float .f64 0], .agg #[.int .i64 2, .bool false, .slice none 0 0, .int .i64 y, .float .f64 0]] w (VEnd (IsL 2) ((rgL 2).p x y) w) := by
  have hst := fun (w : World) (a : Addr) (q : Nat) (m : Mode) => run_store Try.prog w a (.float .f64 q) m rfl
  have OP := Lib.hid (fun w' (f : Frame [] w w') => op1p_2 x y w' h1 h2)
  have B0 := Lib.hid (((Blk.new w 39 #[.int .i64 2, .bool false, .slice none 0 0, .int .i64 x, .float .f64 0]).alloc (.cells #[.int .i64 2, .bool false, .slice none 0 0, .int .i64 y, .float .f64 0] 39)).alloc (.cells #[.int .i64 0, .bool false, .slice none 0 0, .int .i64 0, .float .f64 0] 39))
  have B1 := (Blk.new (w.alloc (.cells #[.int .i64 2, .bool false, .slice none 0 0, .int .i64 x, .float .f64 0] 39)) 39 #[.int .i64 2, .bool false, .slice none 0 0, .int .i64 y, .float .f64 0]).alloc (.cells #[.int .i64 0, .bool false, .slice none 0 0, .int .i64 0, .float .f64 0] 39)
  have B2 := Blk.new ((w.alloc (.cells #[.int .i64 2, .bool false, .slice none 0 0, .int .i64 x, .float .f64 0] 39)).alloc (.cells #[.int .i64 2, .bool false, .slice none 0 0, .int .i64 y, .float .f64 0] 39)) 39 #[.int .i64 0, .bool false, .slice none 0 0, .int .i64 0, .float .f64 0]
  simp only [World.size_alloc] at B1 B2
  have B1 := Lib.hid B1
  have B2 := Lib.hid B2
  have F0 : Hid (Frame [] w (((w.alloc (.cells #[.int .i64 2, .bool false, .slice none 0 0, .int .i64 x, .float .f64 0] 39)).alloc (.cells #[.int .i64 2, .bool false, .slice none 0 0, .int .i64 y, .float .f64 0] 39)).alloc (.cells #[.int .i64 0, .bool false, .slice none 0 0, .int .i64 0, .float .f64 0] 39))) := by show Frame [] w _; (repeat first | assumption | exact Frame.refl _ _ | refine Frame.trans1 ?_ (Frame.alloc _ _ _) | refine Frame.trans1 ?_ (Frame.drew _ _) | refine Frame.trans1 ?_ (Frame.drewN _ _ _))
  generalize hres : (rgL 2).p x y = r at *
  clear hres
  go_enter Try.func29, Try.ntmps29
  go_upto_region 1 with fail
  generalize ((w.alloc (.cells #[.int .i64 2, .bool false, .slice none 0 0, .int .i64 x, .float .f64 0] 39)).alloc (.cells #[.int .i64 2, .bool false, .slice none 0 0, .int .i64 y, .float .f64 0] 39)).alloc (.cells #[.int .i64 0, .bool false, .slice none 0 0, .int .i64 0, .float .f64 0] 39) = w0 at *
  obtain ⟨b2, hb2⟩ : ∃ b2, w.heap.size + 1 + 1 = b2 := ⟨_, rfl⟩
  rw [hb2] at B2 ⊢
  have hbw : w.heap.size ≤ b2 := by omega
  have x0 := B0.out.at 0 rfl
  have x1 := B0.out.at 1 rfl
  have x2 := B0.out.at 2 rfl
  have x3 := B0.out.at 3 rfl
  have x4 := B0.out.at 4 rfl
  have y_0 := B1.out.at 0 rfl
  have y_1 := B1.out.at 1 rfl
  have y_2 := B1.out.at 2 rfl
  have y_3 := B1.out.at 3 rfl
  have y_4 := B1.out.at 4 rfl
  go_wp2_with fail
  refine (OP.out _ F0.out).mono ?_
  rintro e w1 ⟨v, rfl, iv, f1⟩
  obtain ⟨rfl, hv0, hv1⟩ := iv
  have D2 := B2.out.frame f1 (by simp)
  have F1 := Lib.hid (F0.out.trans1 f1)
  clear f1 x0 x1 x2 x3 x4 y_0 y_1 y_2 y_3 y_4
  have y0 := D2.at 0 rfl
  have y1 := D2.at 1 rfl
  have y2 := D2.at 2 rfl
  have y3 := D2.at 3 rfl
  have y4 := D2.at 4 rfl
  have zf := D2.frozen
  have B5 := Lib.hid (putV D2 (.int .i64 2) (.bool false) (.slice none 0 0) (.int .i64 r) (.float .f64 0))
  have F5 := Lib.hid (putV_frame (w := w) (b := b2) (by omega) F1.out (.int .i64 2) (.bool false) (.slice none 0 0) (.int .i64 r) (.float .f64 0))
  have KD := Lib.hid (putV_keep D2 (.int .i64 2) (.bool false) (.slice none 0 0) (.int .i64 r) (.float .f64 0))
  clear D2
  go_wp2_with fail
  refine bodyPost_ret (results_val2 rfl _ _ _ _ _ _ _ _ rfl B5.out) rfl ?_
  exact ⟨_, rfl, ⟨rfl, hv0, hv1⟩, F5.out⟩
set_option maxRecDepth 100000 in
theorem pv1_3 (x y : Option Nat) (i j : Bool) (a b : Option Addr) (l c m d : Nat) (w : World) (h1 : NR w (.agg #[.bool i, .slice a l c]) x) (h2 : NR w (.agg #[.bool j, .slice b m d]) y) (l1 : Sz x) (l2 : Sz y) : Calls Try.prog 29 #[.agg #[.int .i64 3, .bool i, .slice a l c, .int .i64 0, .float .f64 0], .agg #[.int .i64 3, .bool j, .slice b m d, .int .i64 0, .float .f64 0]] w (VEnd (IsN 3) ((rgT).p x y) w) := by
  have hst := fun (w : World) (a : Addr) (q : Nat) (m : Mode) => run_store Try.prog w a (.float .f64 q) m rfl
  have OP := Lib.hid (fun w' (f : Frame [] w w') => op1p_3 x y i j a b l c m d w' (h1.frame f) (h2.frame f) l1 l2)
  have B0 := Lib.hid (((Blk.new w 39 #[.int .i64 3, .bool i, .slice a l c, .int .i64 0, .float .f64 0]).alloc (.cells #[.int .i64 3, .bool j, .slice b m d, .int .i64 0, .float .f64 0] 39)).alloc (.cells #[.int .i64 0, .bool false, .slice none 0 0, .int .i64 0, .float .f64 0] 39))
  have B1 := (Blk.new (w.alloc (.cells #[.int .i64 3, .bool i, .slice a l c, .int .i64 0, .float .f64 0] 39)) 39 #[.int .i64 3, .bool j, .slice b m d, .int .i64 0, .float .f64 0]).alloc (.cells #[.int .i64 0, .bool false, .slice none 0 0, .int .i64 0, .float .f64 0] 39)
  have B2 := Blk.new ((w.alloc (.cells #[.int .i64 3, .bool i, .slice a l c, .int .i64 0, .float .f64 0] 39)).alloc (.cells #[.int .i64 3, .bool j, .slice b m d, .int .i64 0, .float .f64 0] 39)) 39 #[.int .i64 0, .bool false, .slice none 0 0, .int .i64 0, .float .f64 0]
  simp only [World.size_alloc] at B1 B2
  have B1 := Lib.hid B1
  have B2 := Lib.hid B2
  have F0 : Hid (Frame [] w (((w.alloc (.cells #[.int .i64 3, .bool i, .slice a l c, .int .i64 0, .float .f64 0] 39)).alloc (.cells #[.int .i64 3, .bool j, .slice b m d, .int .i64 0, .float .f64 0] 39)).alloc (.cells #[.int .i64 0, .bool false, .slice none 0 0, .int .i64 0, .float .f64 0] 39))) := by show Frame [] w _; (repeat first | assumption | exact Frame.refl _ _ | refine Frame.trans1 ?_ (Frame.alloc _ _ _) | refine Frame.trans1 ?_ (Frame.drew _ _) | refine Frame.trans1 ?_ (Frame.drewN _ _ _))
  clear h1 h2
  generalize hres : (rgT).p x y = r at *
  clear hres
  go_enter Try.func29, Try.ntmps29
  go_upto_region 1 with fail
  generalize ((w.alloc (.cells #[.int .i64 3, .bool i, .slice a l c, .int .i64 0, .float .f64 0] 39)).alloc (.cells #[.int .i64 3, .bool j, .slice b m d, .int .i64 0, .float .f64 0] 39)).alloc (.cells #[.int .i64 0, .bool false, .slice none 0 0, .int .i64 0, .float .f64 0] 39) = w0 at *
  obtain ⟨b2, hb2⟩ : ∃ b2, w.heap.size + 1 + 1 = b2 := ⟨_, rfl⟩
  rw [hb2] at B2 ⊢
  have hbw : w.heap.size ≤ b2 := by omega
  have x0 := B0.out.at 0 rfl
  have x1 := B0.out.at 1 rfl
  have x2 := B0.out.at 2 rfl
  have x3 := B0.out.at 3 rfl
  have x4 := B0.out.at 4 rfl
  have y_0 := B1.out.at 0 rfl
  have y_1 := B1.out.at 1 rfl
  have y_2 := B1.out.at 2 rfl
  have y_3 := B1.out.at 3 rfl
  have y_4 := B1.out.at 4 rfl
  go_wp2_with fail
  refine (OP.out _ F0.out).mono ?_
  rintro e w1 ⟨v, rfl, iv, f1⟩
  obtain ⟨i3, a3, l3, c3, rfl, nv⟩ := iv
  have D2 := B2.out.frame f1 (by simp)
  have F1 := Lib.hid (F0.out.trans1 f1)
  clear f1 x0 x1 x2 x3 x4 y_0 y_1 y_2 y_3 y_4
  have y0 := D2.at 0 rfl
  have y1 := D2.at 1 rfl
  have y2 := D2.at 2 rfl
  have y3 := D2.at 3 rfl
  have y4 := D2.at 4 rfl
  have zf := D2.frozen
  have B5 := Lib.hid (putV D2 (.int .i64 3) (.bool i3) (.slice a3 l3 c3) (.int .i64 0) (.float .f64 0))
  have F5 := Lib.hid (putV_frame (w := w) (b := b2) (by omega) F1.out (.int .i64 3) (.bool i3) (.slice a3 l3 c3) (.int .i64 0) (.float .f64 0))
  have KD := Lib.hid (putV_keep D2 (.int .i64 3) (.bool i3) (.slice a3 l3 c3) (.int .i64 0) (.float .f64 0))
  have NW := Lib.hid (nv.kept KD.out)
  clear nv
  clear D2
  go_wp2_with fail
  refine bodyPost_ret (results_val2 rfl _ _ _ _ _ _ _ _ rfl B5.out) rfl ?_
  exact ⟨_, rfl, ⟨_, _, _, _, rfl, NW.out⟩, F5.out⟩
set_option maxRecDepth 100000 in
theorem pv1_4 (x y : Int) (w : World) (h1 : 0 ≤ x ∧ x ≤ lTop 4) (h2 : 0 ≤ y ∧ y ≤ lTop 4) : Calls Try.prog 29 #[.agg #[.int .i64 4, .bool false, .slice none 0 0, .int .i64 x, .float .f64 0], .agg #[.int .i64 4, .bool false, .slice none 0 0, .int .i64 y, .float .f64 0]] w (VEnd (IsL 4) ((rgL 4).p x y) w) := by
  have hst := fun (w : World) (a : Addr) (q : Nat) (m : Mode) => run_store Try.prog w a (.float .f64 q) m rfl
  have OP := Lib.hid (fun w' (f : Frame [] w w') => op1p_4 x y w' h1 h2)
  have B0 := Lib.hid (((Blk.new w 39 #[.int .i64 4, .bool false, .slice none 0 0, .int .i64 x, .float .f64 0]).alloc (.cells #[.int .i64 4, .bool false, .slice none 0 0, .int .i64 y, .float .f64 0] 39)).alloc (.cells #[.int .i64 0, .bool false, .slice none 0 0, .int .i64 0, .float .f64 0] 39))
  have B1 := (Blk.new (w.alloc (.cells #[.int .i64 4, .bool false, .slice none 0 0, .int .i64 x, .float .f64 0] 39)) 39 #[.int .i64 4, .bool false, .slice none 0 0, .int .i64 y, .float .f64 0]).alloc (.cells #[.int .i64 0, .bool false, .slice none 0 0, .int .i64 0, .float .f64 0] 39)
  have B2 := Blk.new ((w.alloc (.cells #[.int .i64 4, .bool false, .slice none 0 0, .int .i64 x, .float .f64 0] 39)).alloc (.cells #[.int .i64 4, .bool false, .slice none 0 0, .int .i64 y, .float .f64 0] 39)) 39 #[.int .i64 0, .bool false, .slice none 0 0, .int .i64 0, .float .f64 0]
  simp only [World.size_alloc] at B1 B2
  have B1 := Lib.hid B1
  have B2 := Lib.hid B2
  have F0 : Hid (Frame [] w (((w.alloc (.cells #[.int .i64 4, .bool false, .slice none 0 0, .int .i64 x, .float .f64 0] 39)).alloc (.cells #[.int .i64 4, .bool false, .slice none 0 0, .int .i64 y, .float .f64 0] 39)).alloc (.cells #[.int .i64 0, .bool false, .slice none 0 0, .int .i64 0, .float .f64 0] 39))) := by show Frame [] w _; (repeat first | assumption | exact Frame.refl _ _ | refine Frame.trans1 ?_ (Frame.alloc _ _ _) | refine Frame.trans1 ?_ (Frame.drew _ _) | refine Frame.trans1 ?_ (Frame.drewN _ _ _))
  generalize hres : (rgL 4).p x y = r at *
  clear hres
  go_enter Try.func29, Try.ntmps29
  go_upto_region 1 with fail
  generalize ((w.alloc (.cells #[.int .i64 4, .bool false, .slice none 0 0, .int .i64 x, .float .f64 0] 39)).alloc (.cells #[.int .i64 4, .bool false, .slice none 0 0, .int .i64 y, .float .f64 0] 39)).alloc (.cells #[.int .i64 0, .bool false, .slice none 0 0, .int .i64 0, .float .f64 0] 39) = w0 at *
  obtain ⟨b2, hb2⟩ : ∃ b2, w.heap.size + 1 + 1 = b2 := ⟨_, rfl⟩
  rw [hb2] at B2 ⊢
  have hbw : w.heap.size ≤ b2 := by omega
  have x0 := B0.out.at 0 rfl
  have x1 := B0.out.at 1 rfl
  have x2 := B0.out.at 2 rfl
  have x3 := B0.out.at 3 rfl
  have x4 := B0.out.at 4 rfl
  have y_0 := B1.out.at 0 rfl
  have y_1 := B1.out.at 1 rfl
  have y_2 := B1.out.at 2 rfl
  have y_3 := B1.out.at 3 rfl
  have y_4 := B1.out.at 4 rfl
  go_wp2_with fail
  refine (OP.out _ F0.out).mono ?_
  rintro e w1 ⟨v, rfl, iv, f1⟩
  obtain ⟨rfl, hv0, hv1⟩ := iv
  have D2 := B2.out.frame f1 (by simp)
  have F1 := Lib.hid (F0.out.trans1 f1)
  clear f1 x0 x1 x2 x3 x4 y_0 y_1 y_2 y_3 y_4
  have y0 := D2.at 0 rfl
  have y1 := D2.at 1 rfl
  have y2 := D2.at 2 rfl
  have y3 := D2.at 3 rfl
  have y4 := D2.at 4 rfl
  have zf := D2.frozen
  have B5 := Lib.hid (putV D2 (.int .i64 4) (.bool false) (.slice none 0 0) (.int .i64 r) (.float .f64 0))
  have F5 := Lib.hid (putV_frame (w := w) (b := b2) (by omega) F1.out (.int .i64 4) (.bool false) (.slice none 0 0) (.int .i64 r) (.float .f64 0))
  have KD := Lib.hid (putV_keep D2 (.int .i64 4) (.bool false) (.slice none 0 0) (.int .i64 r) (.float .f64 0))
  clear D2
  go_wp2_with fail
  refine bodyPost_ret (results_val2 rfl _ _ _ _ _ _ _ _ rfl B5.out) rfl ?_
  exact ⟨_, rfl, ⟨rfl, hv0, hv1⟩, F5.out⟩
set_option maxRecDepth 100000 in
theorem pv1_5 (x y : Nat) (w : World) (h1 : x ≤ fTop 5) (h2 : y ≤ fTop 5) : Calls Try.prog 29 #[.agg #[.int .i64 5, .bool false, .slice none 0 0, .int .i64 0, .float .f64 x], .agg #[.int .i64 5, .bool false, .slice none 0 0, .int .i64 0, .float .f64 y]] w (VEnd (IsF 5) ((rgF5).p x y) w) := by
  have hst := fun (w : World) (a : Addr) (q : Nat) (m : Mode) => run_store Try.prog w a (.float .f64 q) m rfl
  have OP := Lib.hid (fun w' (f : Frame [] w w') => op1p_5 x y w' h1 h2)
  have B0 := Lib.hid (((Blk.new w 39 #[.int .i64 5, .bool false, .slice none 0 0, .int .i64 0, .float .f64 x]).alloc (.cells #[.int .i64 5, .bool false, .slice none 0 0, .int .i64 0, .float .f64 y] 39)).alloc (.cells #[.int .i64 0, .bool false, .slice none 0 0, .int .i64 0, .float .f64 0] 39))
  have B1 := (Blk.new (w.alloc (.cells #[.int .i64 5, .bool false, .slice none 0 0, .int .i64 0, .float .f64 x] 39)) 39 #[.int .i64 5, .bool false, .slice none 0 0, .int .i64 0, .float .f64 y]).alloc (.cells #[.int .i64 0, .bool false, .slice none 0 0, .int .i64 0, .float .f64 0] 39)
  have B2 := Blk.new ((w.alloc (.cells #[.int .i64 5, .bool false, .slice none 0 0, .int .i64 0, .float .f64 x] 39)).alloc (.cells #[.int .i64 5, .bool false, .slice none 0 0, .int .i64 0, .float .f64 y] 39)) 39 #[.int .i64 0, .bool false, .slice none 0 0, .int .i64 0, .float .f64 0]
  simp only [World.size_alloc] at B1 B2
  have B1 := Lib.hid B1
  have B2 := Lib.hid B2
  have F0 : Hid (Frame [] w (((w.alloc (.cells #[.int .i64 5, .bool false, .slice none 0 0, .int .i64 0, .float .f64 x] 39)).alloc (.cells #[.int .i64 5, .bool false, .slice none 0 0, .int .i64 0, .float .f64 y] 39)).alloc (.cells #[.int .i64 0, .bool false, .slice none 0 0, .int .i64 0, .float .f64 0] 39))) := by show Frame [] w _; (repeat first | assumption | exact Frame.refl _ _ | refine Frame.trans1 ?_ (Frame.alloc _ _ _) | refine Frame.trans1 ?_ (Frame.drew _ _) | refine Frame.trans1 ?_ (Frame.drewN _ _ _))
  generalize hres : (rgF5).p x y = r at *
  clear hres
  go_enter Try.func29, Try.ntmps29
  go_upto_region 1 with fail
  generalize ((w.alloc (.cells #[.int .i64 5, .bool false, .slice none 0 0, .int .i64 0, .float .f64 x] 39)).alloc (.cells #[.int .i64 5, .bool false, .slice none 0 0, .int .i64 0, .float .f64 y] 39)).alloc (.cells #[.int .i64 0, .bool false, .slice none 0 0, .int .i64 0, .float .f64 0] 39) = w0 at *
  obtain ⟨b2, hb2⟩ : ∃ b2, w.heap.size + 1 + 1 = b2 := ⟨_, rfl⟩
  rw [hb2] at B2 ⊢
  have hbw : w.heap.size ≤ b2 := by omega
  have x0 := B0.out.at 0 rfl
  have x1 := B0.out.at 1 rfl
  have x2 := B0.out.at 2 rfl
  have x3 := B0.out.at 3 rfl
  have x4 := B0.out.at 4 rfl
  have y_0 := B1.out.at 0 rfl
  have y_1 := B1.out.at 1 rfl
  have y_2 := B1.out.at 2 rfl
  have y_3 := B1.out.at 3 rfl
  have y_4 := B1.out.at 4 rfl
  go_wp2_with fail
  refine (OP.out _ F0.out).mono ?_
  rintro e w1 ⟨v, rfl, iv, f1⟩
  obtain ⟨rfl, hv⟩ := iv
  have D2 := B2.out.frame f1 (by simp)
  have F1 := Lib.hid (F0.out.trans1 f1)
  clear f1 x0 x1 x2 x3 x4 y_0 y_1 y_2 y_3 y_4
  have y0 := D2.at 0 rfl
  have y1 := D2.at 1 rfl
  have y2 := D2.at 2 rfl
  have y3 := D2.at 3 rfl
  have y4 := D2.at 4 rfl
  have zf := D2.frozen
  have B5 := Lib.hid (putV D2 (.int .i64 5) (.bool false) (.slice none 0 0) (.int .i64 0) (.float .f64 r))
  have F5 := Lib.hid (putV_frame (w := w) (b := b2) (by omega) F1.out (.int .i64 5) (.bool false) (.slice none 0 0) (.int .i64 0) (.float .f64 r))
  have KD := Lib.hid (putV_keep D2 (.int .i64 5) (.bool false) (.slice none 0 0) (.int .i64 0) (.float .f64 r))
  clear D2
  go_wp2_with fail
  refine bodyPost_ret (results_val2 rfl _ _ _ _ _ _ _ _ rfl B5.out) rfl ?_
  exact ⟨_, rfl, ⟨rfl, hv⟩, F5.out⟩
set_option maxRecDepth 100000 in
theorem pv1_6 (x y : Nat) (w : World) (h1 : x ≤ fTop 6) (h2 : y ≤ fTop 6) : Calls Try.prog 29 #[.agg #[.int .i64 6, .bool false, .slice none 0 0, .int .i64 0, .float .f64 x], .agg #[.int .i64 6, .bool false, .slice none 0 0, .int .i64 0, .float .f64 y]] w (VEnd (IsF 6) ((rgF6).p x y) w) := by
  have hst := fun (w : World) (a : Addr) (q : Nat) (m : Mode) => run_store Try.prog w a (.float .f64 q) m rfl
  have OP := Lib.hid (fun w' (f : Frame [] w w') => op1p_6 x y w' h1 h2)
  have B0 := Lib.hid (((Blk.new w 39 #[.int .i64 6, .bool false, .slice none 0 0, .int .i64 0, .float .f64 x]).alloc (.cells #[.int .i64 6, .bool false, .slice none 0 0, .int .i64 0, .float .f64 y] 39)).alloc (.cells #[.int .i64 0, .bool false, .slice none 0 0, .int .i64 0, .float .f64 0] 39))
  have B1 := (Blk.new (w.alloc (.cells #[.int .i64 6, .bool false, .slice none 0 0, .int .i64 0, .float .f64 x] 39)) 39 #[.int .i64 6, .bool false, .slice none 0 0, .int .i64 0, .float .f64 y]).alloc (.cells #[.int .i64 0, .bool false, .slice none 0 0, .int .i64 0, .float .f64 0] 39)
  have B2 := Blk.new ((w.alloc (.cells #[.int .i64 6, .bool false, .slice none 0 0, .int .i64 0, .float .f64 x] 39)).alloc (.cells #[.int .i64 6, .bool false, .slice none 0 0, .int .i64 0, .float .f64 y] 39)) 39 #[.int .i64 0, .bool false, .slice none 0 0, .int .i64 0, .float .f64 0]
  simp only [World.size_alloc] at B1 B2
  have B1 := Lib.hid B1
  have B2 := Lib.hid B2
  have F0 : Hid (Frame [] w (((w.alloc (.cells #[.int .i64 6, .bool false, .slice none 0 0, .int .i64 0, .float .f64 x] 39)).alloc (.cells #[.int .i64 6, .bool false, .slice none 0 0, .int .i64 0, .float .f64 y] 39)).alloc (.cells #[.int .i64 0, .bool false, .slice none 0 0, .int .i64 0, .float .f64 0] 39))) := by show Frame [] w _; (repeat first | assumption | exact Frame.refl _ _ | refine Frame.trans1 ?_ (Frame.alloc _ _ _) | refine Frame.trans1 ?_ (Frame.drew _ _) | refine Frame.trans1 ?_ (Frame.drewN _ _ _))
  generalize hres : (rgF6).p x y = r at *
  clear hres
  go_enter Try.func29, Try.ntmps29
  go_upto_region 1 with fail
  generalize ((w.alloc (.cells #[.int .i64 6, .bool false, .slice none 0 0, .int .i64 0, .float .f64 x] 39)).alloc (.cells #[.int .i64 6, .bool false, .slice none 0 0, .int .i64 0, .float .f64 y] 39)).alloc (.cells #[.int .i64 0, .bool false, .slice none 0 0, .int .i64 0, .float .f64 0] 39) = w0 at *
  obtain ⟨b2, hb2⟩ : ∃ b2, w.heap.size + 1 + 1 = b2 := ⟨_, rfl⟩
  rw [hb2] at B2 ⊢
  have hbw : w.heap.size ≤ b2 := by omega
  have x0 := B0.out.at 0 rfl
  have x1 := B0.out.at 1 rfl
  have x2 := B0.out.at 2 rfl
  have x3 := B0.out.at 3 rfl
  have x4 := B0.out.at 4 rfl
  have y_0 := B1.out.at 0 rfl
  have y_1 := B1.out.at 1 rfl
  have y_2 := B1.out.at 2 rfl
  have y_3 := B1.out.at 3 rfl
  have y_4 := B1.out.at 4 rfl
  go_wp2_with fail
  refine (OP.out _ F0.out).mono ?_
  rintro e w1 ⟨v, rfl, iv, f1⟩
  obtain ⟨rfl, hv⟩ := iv
  have D2 := B2.out.frame f1 (by simp)
  have F1 := Lib.hid (F0.out.trans1 f1)
  clear f1 x0 x1 x2 x3 x4 y_0 y_1 y_2 y_3 y_4
  have y0 := D2.at 0 rfl
  have y1 := D2.at 1 rfl
  have y2 := D2.at 2 rfl
  have y3 := D2.at 3 rfl
  have y4 := D2.at 4 rfl
  have zf := D2.frozen
  have B5 := Lib.hid (putV D2 (.int .i64 6) (.bool false) (.slice none 0 0) (.int .i64 0) (.float .f64 r))
  have F5 := Lib.hid (putV_frame (w := w) (b := b2) (by omega) F1.out (.int .i64 6) (.bool false) (.slice none 0 0) (.int .i64 0) (.float .f64 r))
  have KD := Lib.hid (putV_keep D2 (.int .i64 6) (.bool false) (.slice none 0 0) (.int .i64 0) (.float .f64 r))
  clear D2
  go_wp2_with fail
  refine bodyPost_ret (results_val2 rfl _ _ _ _ _ _ _ _ rfl B5.out) rfl ?_
  exact ⟨_, rfl, ⟨rfl, hv⟩, F5.out⟩
set_option maxRecDepth 100000 in
theorem better_1 (x y : Option Nat) (i j : Bool) (a b : Option Addr) (l c m d : Nat) (w : World) (h1 : NR w (.agg #[.bool i, .slice a l c]) x) (h2 : NR w (.agg #[.bool j, .slice b m d]) y) (l1 : Sz x) (l2 : Sz y) : Calls Try.prog 10 #[.agg #[.int .i64 1, .bool i, .slice a l c, .int .i64 0, .float .f64 0], .agg #[.int .i64 1, .bool j, .slice b m d, .int .i64 0, .float .f64 0]] w (BEnd (decide (0 ≤ cmpO x y)) w) := by
  have hst := fun (w : World) (a : Addr) (q : Nat) (m : Mode) => run_store Try.prog w a (.float .f64 q) m rfl
  have PV := Lib.hid (fun w' (f : Frame [] w w') => pv1_1 x y i j a b l c m d w' (h1.frame f) (h2.frame f) l1 l2)
  have B0 := Lib.hid ((Blk.new w 39 #[.int .i64 1, .bool i, .slice a l c, .int .i64 0, .float .f64 0]).alloc (.cells #[.int .i64 1, .bool j, .slice b m d, .int .i64 0, .float .f64 0] 39))
  have B1 := Blk.new (w.alloc (.cells #[.int .i64 1, .bool i, .slice a l c, .int .i64 0, .float .f64 0] 39)) 39 #[.int .i64 1, .bool j, .slice b m d, .int .i64 0, .float .f64 0]
  simp only [World.size_alloc] at B1
  have B1 := Lib.hid B1
  have F0 : Hid (Frame [] w ((w.alloc (.cells #[.int .i64 1, .bool i, .slice a l c, .int .i64 0, .float .f64 0] 39)).alloc (.cells #[.int .i64 1, .bool j, .slice b m d, .int .i64 0, .float .f64 0] 39))) := by show Frame [] w _; (repeat first | assumption | exact Frame.refl _ _ | refine Frame.trans1 ?_ (Frame.alloc _ _ _) | refine Frame.trans1 ?_ (Frame.drew _ _) | refine Frame.trans1 ?_ (Frame.drewN _ _ _))
  have H := Lib.hid (And.intro h1 h2)
  clear h1 h2
  obtain ⟨r, hr⟩ : ∃ r, decide (0 ≤ cmpO x y) = r := ⟨_, rfl⟩
  rw [hr]
  have HR := Lib.hid hr
  clear hr
  go_enter Try.func10, Try.ntmps10
  go_upto_region 1 with fail
  generalize (w.alloc (.cells #[.int .i64 1, .bool i, .slice a l c, .int .i64 0, .float .f64 0] 39)).alloc (.cells #[.int .i64 1, .bool j, .slice b m d, .int .i64 0, .float .f64 0] 39) = w0 at *
  have x0 := B0.out.at 0 rfl
  have x1 := B0.out.at 1 rfl
  have x2 := B0.out.at 2 rfl
  have x3 := B0.out.at 3 rfl
  have x4 := B0.out.at 4 rfl
  have y_0 := B1.out.at 0 rfl
  have y_1 := B1.out.at 1 rfl
  have y_2 := B1.out.at 2 rfl
  have y_3 := B1.out.at 3 rfl
  have y_4 := B1.out.at 4 rfl
  go_wp2_with fail
  refine (PV.out _ F0.out).mono ?_
  rintro e w1 ⟨v, rfl, iv, f1⟩
  obtain ⟨i3, a3, l3, c3, rfl, nv⟩ := iv
  go_upto_region 2 with fail
  have B2 := Blk.new w1 39 #[.int .i64 1, .bool i3, .slice a3 l3 c3, .int .i64 0, .float .f64 0]
  have f2 := f1.trans1 (Frame.alloc [] w1 (.cells #[.int .i64 1, .bool i3, .slice a3 l3 c3, .int .i64 0, .float .f64 0] 39))
  have NV := Lib.hid (nv.frame (Frame.alloc [] w1 (.cells #[.int .i64 1, .bool i3, .slice a3 l3 c3, .int .i64 0, .float .f64 0] 39)))
  clear nv
  generalize w1.alloc (.cells #[.int .i64 1, .bool i3, .slice a3 l3 c3, .int .i64 0, .float .f64 0] 39) = w2 at *
  generalize w1.heap.size = b2 at *
  have F2 := Lib.hid (F0.out.trans1 f2)
  clear x0 x1 x2 x3 x4 y_0 y_1 y_2 y_3 y_4
  have x0 := (B0.out.frame f2 (by simp)).at 0 rfl
  have x1 := (B0.out.frame f2 (by simp)).at 1 rfl
  have x2 := (B0.out.frame f2 (by simp)).at 2 rfl
  have x3 := (B0.out.frame f2 (by simp)).at 3 rfl
  have x4 := (B0.out.frame f2 (by simp)).at 4 rfl
  have y1 := (B1.out.frame f2 (by simp)).at 1 rfl
  have y2 := (B1.out.frame f2 (by simp)).at 2 rfl
  have CM := Lib.hid (cmp1_any _ _ x y w2 (H.out.1.frame F2.out) (H.out.2.frame F2.out) l1 l2)
  generalize cmpO x y = oo at *
  have HR9 := HR.out
  subst HR9
  clear f1 f2 B2
  go_wp2_with fail
  refine CM.out.mono ?_
  rintro e w3 ⟨rfl, f3⟩
  have F3 := Lib.hid (F2.out.trans1 f3)
  clear f3
  go_wp2_with fail
  refine bodyPost_ret (v := .tuple #[.bool (decide (0 ≤ oo)), .int .i64 0]) (by simp [results, Try.results10, go_sem]) rfl ⟨rfl, F3.out⟩
set_option maxRecDepth 100000 in
theorem better_2 (x y : Int) (w : World) (h1 : 0 ≤ x ∧ x ≤ lTop 2) (h2 : 0 ≤ y ∧ y ≤ lTop 2) : Calls Try.prog 10 #[.agg #[.int .i64 2, .bool false, .slice none 0 0, .int .i64 x, .float .f64 0], .agg #[.int .i64 2, .bool false, .slice none 0 0, .int .i64 y, .float .f64 0]] w (BEnd (decide ((rgL 2).p x y = x)) w) := by
  have hst := fun (w : World) (a : Addr) (q : Nat) (m : Mode) => run_store Try.prog w a (.float .f64 q) m rfl
  have PV := Lib.hid (fun w' (f : Frame [] w w') => pv1_2 x y w' h1 h2)
  have B0 := Lib.hid ((Blk.new w 39 #[.int .i64 2, .bool false, .slice none 0 0, .int .i64 x, .float .f64 0]).alloc (.cells #[.int .i64 2, .bool false, .slice none 0 0, .int .i64 y, .float .f64 0] 39))
  have B1 := Blk.new (w.alloc (.cells #[.int .i64 2, .bool false, .slice none 0 0, .int .i64 x, .float .f64 0] 39)) 39 #[.int .i64 2, .bool false, .slice none 0 0, .int .i64 y, .float .f64 0]
  simp only [World.size_alloc] at B1
  have B1 := Lib.hid B1
  have F0 : Hid (Frame [] w ((w.alloc (.cells #[.int .i64 2, .bool false, .slice none 0 0, .int .i64 x, .float .f64 0] 39)).alloc (.cells #[.int .i64 2, .bool false, .slice none 0 0, .int .i64 y, .float .f64 0] 39))) := by show Frame [] w _; (repeat first | assumption | exact Frame.refl _ _ | refine Frame.trans1 ?_ (Frame.alloc _ _ _) | refine Frame.trans1 ?_ (Frame.drew _ _) | refine Frame.trans1 ?_ (Frame.drewN _ _ _))
  have H := Lib.hid (And.intro h1 h2)
  clear h1 h2
  obtain ⟨r, hr⟩ : ∃ r, decide ((rgL 2).p x y = x) = r := ⟨_, rfl⟩
  rw [hr]
  have HR := Lib.hid hr
  clear hr
  go_enter Try.func10, Try.ntmps10
  go_upto_region 1 with fail
  generalize (w.alloc (.cells #[.int .i64 2, .bool false, .slice none 0 0, .int .i64 x, .float .f64 0] 39)).alloc (.cells #[.int .i64 2, .bool false, .slice none 0 0, .int .i64 y, .float .f64 0] 39) = w0 at *
  have x0 := B0.out.at 0 rfl
  have x1 := B0.out.at 1 rfl
  have x2 := B0.out.at 2 rfl
  have x3 := B0.out.at 3 rfl
  have x4 := B0.out.at 4 rfl
  have y_0 := B1.out.at 0 rfl
  have y_1 := B1.out.at 1 rfl
  have y_2 := B1.out.at 2 rfl
  have y_3 := B1.out.at 3 rfl
  have y_4 := B1.out.at 4 rfl
  go_wp2_with fail
  refine (PV.out _ F0.out).mono ?_
  rintro e w1 ⟨v, rfl, iv, f1⟩
  obtain ⟨rfl, hv⟩ := iv
  obtain ⟨s, hs⟩ : ∃ s, (rgL 2).p x y = s := ⟨_, rfl⟩
  rw [hs] at hv HR ⊢
  go_upto_region 2 with fail
  have B2 := Blk.new w1 39 #[.int .i64 2, .bool false, .slice none 0 0, .int .i64 s, .float .f64 0]
  have f2 := f1.trans1 (Frame.alloc [] w1 (.cells #[.int .i64 2, .bool false, .slice none 0 0, .int .i64 s, .float .f64 0] 39))
  generalize w1.alloc (.cells #[.int .i64 2, .bool false, .slice none 0 0, .int .i64 s, .float .f64 0] 39) = w2 at *
  generalize w1.heap.size = b2 at *
  have F2 := Lib.hid (F0.out.trans1 f2)
  clear x0 x1 x2 x3 x4 y_0 y_1 y_2 y_3 y_4
  have x0 := (B0.out.frame f2 (by simp)).at 0 rfl
  have x1 := (B0.out.frame f2 (by simp)).at 1 rfl
  have x2 := (B0.out.frame f2 (by simp)).at 2 rfl
  have x3 := (B0.out.frame f2 (by simp)).at 3 rfl
  have x4 := (B0.out.frame f2 (by simp)).at 4 rfl
  have z0 := B2.at 0 rfl
  have z1 := B2.at 1 rfl
  have z2 := B2.at 2 rfl
  have z3 := B2.at 3 rfl
  have z4 := B2.at 4 rfl
  have AL := alike_2 s x w2 hv H.out.1
  rw [HR.out] at AL
  have AL := Lib.hid AL
  clear f1 f2 B2
  go_wp2_with fail
  refine AL.out.mono ?_
  rintro e w3 ⟨rfl, f3⟩
  have F3 := Lib.hid (F2.out.trans1 f3)
  clear f3
  go_wp2_with fail
  refine bodyPost_ret (v := .tuple #[.bool r, .int .i64 0]) (by simp [results, Try.results10, go_sem]) rfl ⟨rfl, F3.out⟩
set_option maxRecDepth 100000 in
theorem better_3 (x y : Option Nat) (i j : Bool) (a b : Option Addr) (l c m d : Nat) (w : World) (h1 : NR w (.agg #[.bool i, .slice a l c]) x) (h2 : NR w (.agg #[.bool j, .slice b m d]) y) (l1 : Sz x) (l2 : Sz y) : Calls Try.prog 10 #[.agg #[.int .i64 3, .bool i, .slice a l c, .int .i64 0, .float .f64 0], .agg #[.int .i64 3, .bool j, .slice b m d, .int .i64 0, .float .f64 0]] w (BEnd (decide ((rgT).p x y = x)) w) := by
  have hst := fun (w : World) (a : Addr) (q : Nat) (m : Mode) => run_store Try.prog w a (.float .f64 q) m rfl
  have PV := Lib.hid (fun w' (f : Frame [] w w') => pv1_3 x y i j a b l c m d w' (h1.frame f) (h2.frame f) l1 l2)
  have B0 := Lib.hid ((Blk.new w 39 #[.int .i64 3, .bool i, .slice a l c, .int .i64 0, .float .f64 0]).alloc (.cells #[.int .i64 3, .bool j, .slice b m d, .int .i64 0, .float .f64 0] 39))
  have B1 := Blk.new (w.alloc (.cells #[.int .i64 3, .bool i, .slice a l c, .int .i64 0, .float .f64 0] 39)) 39 #[.int .i64 3, .bool j, .slice b m d, .int .i64 0, .float .f64 0]
  simp only [World.size_alloc] at B1
  have B1 := Lib.hid B1
  have F0 : Hid (Frame [] w ((w.alloc (.cells #[.int .i64 3, .bool i, .slice a l c, .int .i64 0, .float .f64 0] 39)).alloc (.cells #[.int .i64 3, .bool j, .slice b m d, .int .i64 0, .float .f64 0] 39))) := by show Frame [] w _; (repeat first | assumption | exact Frame.refl _ _ | refine Frame.trans1 ?_ (Frame.alloc _ _ _) | refine Frame.trans1 ?_ (Frame.drew _ _) | refine Frame.trans1 ?_ (Frame.drewN _ _ _))
  have H := Lib.hid (And.intro h1 h2)
  clear h1 h2
  obtain ⟨r, hr⟩ : ∃ r, decide ((rgT).p x y = x) = r := ⟨_, rfl⟩
  rw [hr]
  have HR := Lib.hid hr
  clear hr
  go_enter Try.func10, Try.ntmps10
  go_upto_region 1 with fail
  generalize (w.alloc (.cells #[.int .i64 3, .bool i, .slice a l c, .int .i64 0, .float .f64 0] 39)).alloc (.cells #[.int .i64 3, .bool j, .slice b m d, .int .i64 0, .float .f64 0] 39) = w0 at *
  have x0 := B0.out.at 0 rfl
  have x1 := B0.out.at 1 rfl
  have x2 := B0.out.at 2 rfl
  have x3 := B0.out.at 3 rfl
  have x4 := B0.out.at 4 rfl
  have y_0 := B1.out.at 0 rfl
  have y_1 := B1.out.at 1 rfl
  have y_2 := B1.out.at 2 rfl
  have y_3 := B1.out.at 3 rfl
  have y_4 := B1.out.at 4 rfl
  go_wp2_with fail
  refine (PV.out _ F0.out).mono ?_
  rintro e w1 ⟨v, rfl, iv, f1⟩
  obtain ⟨i3, a3, l3, c3, rfl, nv⟩ := iv
  go_upto_region 2 with fail
  have B2 := Blk.new w1 39 #[.int .i64 3, .bool i3, .slice a3 l3 c3, .int .i64 0, .float .f64 0]
  have f2 := f1.trans1 (Frame.alloc [] w1 (.cells #[.int .i64 3, .bool i3, .slice a3 l3 c3, .int .i64 0, .float .f64 0] 39))
  have NV := Lib.hid (nv.frame (Frame.alloc [] w1 (.cells #[.int .i64 3, .bool i3, .slice a3 l3 c3, .int .i64 0, .float .f64 0] 39)))
  clear nv
  generalize w1.alloc (.cells #[.int .i64 3, .bool i3, .slice a3 l3 c3, .int .i64 0, .float .f64 0] 39) = w2 at *
  generalize w1.heap.size = b2 at *
  have F2 := Lib.hid (F0.out.trans1 f2)
  clear x0 x1 x2 x3 x4 y_0 y_1 y_2 y_3 y_4
  have x0 := (B0.out.frame f2 (by simp)).at 0 rfl
  have x1 := (B0.out.frame f2 (by simp)).at 1 rfl
  have x2 := (B0.out.frame f2 (by simp)).at 2 rfl
  have x3 := (B0.out.frame f2 (by simp)).at 3 rfl
  have x4 := (B0.out.frame f2 (by simp)).at 4 rfl
  have z0 := B2.at 0 rfl
  have z1 := B2.at 1 rfl
  have z2 := B2.at 2 rfl
  have z3 := B2.at 3 rfl
  have z4 := B2.at 4 rfl
  have AL := alike_3 ((rgT).p x y) x i3 i a3 a l3 c3 l c w2 NV.out (H.out.1.frame F2.out) (sz_min l1 l2) l1
  rw [HR.out] at AL
  have AL := Lib.hid AL
  clear f1 f2 B2
  go_wp2_with fail
  refine AL.out.mono ?_
  rintro e w3 ⟨rfl, f3⟩
  have F3 := Lib.hid (F2.out.trans1 f3)
  clear f3
  go_wp2_with fail
  refine bodyPost_ret (v := .tuple #[.bool r, .int .i64 0]) (by simp [results, Try.results10, go_sem]) rfl ⟨rfl, F3.out⟩
set_option maxRecDepth 100000 in
theorem better_4 (x y : Int) (w : World) (h1 : 0 ≤ x ∧ x ≤ lTop 4) (h2 : 0 ≤ y ∧ y ≤ lTop 4) : Calls Try.prog 10 #[.agg #[.int .i64 4, .bool false, .slice none 0 0, .int .i64 x, .float .f64 0], .agg #[.int .i64 4, .bool false, .slice none 0 0, .int .i64 y, .float .f64 0]] w (BEnd (decide ((rgL 4).p x y = x)) w) := by
  have hst := fun (w : World) (a : Addr) (q : Nat) (m : Mode) => run_store Try.prog w a (.float .f64 q) m rfl
  have PV := Lib.hid (fun w' (f : Frame [] w w') => pv1_4 x y w' h1 h2)
  have B0 := Lib.hid ((Blk.new w 39 #[.int .i64 4, .bool false, .slice none 0 0, .int .i64 x, .float .f64 0]).alloc (.cells #[.int .i64 4, .bool false, .slice none 0 0, .int .i64 y, .float .f64 0] 39))
  have B1 := Blk.new (w.alloc (.cells #[.int .i64 4, .bool false, .slice none 0 0, .int .i64 x, .float .f64 0] 39)) 39 #[.int .i64 4, .bool false, .slice none 0 0, .int .i64 y, .float .f64 0]
  simp only [World.size_alloc] at B1
  have B1 := Lib.hid B1
  have F0 : Hid (Frame [] w ((w.alloc (.cells #[.int .i64 4, .bool false, .slice none 0 0, .int .i64 x, .float .f64 0] 39)).alloc (.cells #[.int .i64 4, .bool false, .slice none 0 0, .int .i64 y, .float .f64 0] 39))) := by show Frame [] w _; (repeat first | assumption | exact Frame.refl _ _ | refine Frame.trans1 ?_ (Frame.alloc _ _ _) | refine Frame.trans1 ?_ (Frame.drew _ _) | refine Frame.trans1 ?_ (Frame.drewN _ _ _))
  have H := Lib.hid (And.intro h1 h2)
  clear h1 h2
  obtain ⟨r, hr⟩ : ∃ r, decide ((rgL 4).p x y = x) = r := ⟨_, rfl⟩
  rw [hr]
  have HR := Lib.hid hr
  clear hr
  go_enter Try.func10, Try.ntmps10
  go_upto_region 1 with fail
  generalize (w.alloc (.cells #[.int .i64 4, .bool false, .slice none 0 0, .int .i64 x, .float .f64 0] 39)).alloc (.cells #[.int .i64 4, .bool false, .slice none 0 0, .int .i64 y, .float .f64 0] 39) = w0 at *
  have x0 := B0.out.at 0 rfl
  have x1 := B0.out.at 1 rfl
  have x2 := B0.out.at 2 rfl
  have x3 := B0.out.at 3 rfl
  have x4 := B0.out.at 4 rfl
  have y_0 := B1.out.at 0 rfl
  have y_1 := B1.out.at 1 rfl
  have y_2 := B1.out.at 2 rfl
  have y_3 := B1.out.at 3 rfl
  have y_4 := B1.out.at 4 rfl
  go_wp2_with fail
  refine (PV.out _ F0.out).mono ?_
  rintro e w1 ⟨v, rfl, iv, f1⟩
  obtain ⟨rfl, hv⟩ := iv
  obtain ⟨s, hs⟩ : ∃ s, (rgL 4).p x y = s := ⟨_, rfl⟩
  rw [hs] at hv HR ⊢
  go_upto_region 2 with fail
  have B2 := Blk.new w1 39 #[.int .i64 4, .bool false, .slice none 0 0, .int .i64 s, .float .f64 0]
  have f2 := f1.trans1 (Frame.alloc [] w1 (.cells #[.int .i64 4, .bool false, .slice none 0 0, .int .i64 s, .float .f64 0] 39))
  generalize w1.alloc (.cells #[.int .i64 4, .bool false, .slice none 0 0, .int .i64 s, .float .f64 0] 39) = w2 at *
  generalize w1.heap.size = b2 at *
  have F2 := Lib.hid (F0.out.trans1 f2)
  clear x0 x1 x2 x3 x4 y_0 y_1 y_2 y_3 y_4
  have x0 := (B0.out.frame f2 (by simp)).at 0 rfl
  have x1 := (B0.out.frame f2 (by simp)).at 1 rfl
  have x2 := (B0.out.frame f2 (by simp)).at 2 rfl
  have x3 := (B0.out.frame f2 (by simp)).at 3 rfl
  have x4 := (B0.out.frame f2 (by simp)).at 4 rfl
  have z0 := B2.at 0 rfl
  have z1 := B2.at 1 rfl
  have z2 := B2.at 2 rfl
  have z3 := B2.at 3 rfl
  have z4 := B2.at 4 rfl
  have AL := alike_4 s x w2 hv H.out.1
  rw [HR.out] at AL
  have AL := Lib.hid AL
  clear f1 f2 B2
  go_wp2_with fail
  refine AL.out.mono ?_
  rintro e w3 ⟨rfl, f3⟩
  have F3 := Lib.hid (F2.out.trans1 f3)
  clear f3
  go_wp2_with fail
  refine bodyPost_ret (v := .tuple #[.bool r, .int .i64 0]) (by simp [results, Try.results10, go_sem]) rfl ⟨rfl, F3.out⟩
set_option maxRecDepth 100000 in
theorem better_5 (x y : Nat) (w : World) (h1 : x ≤ fTop 5) (h2 : y ≤ fTop 5) : Calls Try.prog 10 #[.agg #[.int .i64 5, .bool false, .slice none 0 0, .int .i64 0, .float .f64 x], .agg #[.int .i64 5, .bool false, .slice none 0 0, .int .i64 0, .float .f64 y]] w (BEnd (decide ((rgF5).p x y = x)) w) := by
  have hst := fun (w : World) (a : Addr) (q : Nat) (m : Mode) => run_store Try.prog w a (.float .f64 q) m rfl
  have PV := Lib.hid (fun w' (f : Frame [] w w') => pv1_5 x y w' h1 h2)
  have B0 := Lib.hid ((Blk.new w 39 #[.int .i64 5, .bool false, .slice none 0 0, .int .i64 0, .float .f64 x]).alloc (.cells #[.int .i64 5, .bool false, .slice none 0 0, .int .i64 0, .float .f64 y] 39))
  have B1 := Blk.new (w.alloc (.cells #[.int .i64 5, .bool false, .slice none 0 0, .int .i64 0, .float .f64 x] 39)) 39 #[.int .i64 5, .bool false, .slice none 0 0, .int .i64 0, .float .f64 y]
  simp only [World.size_alloc] at B1
  have B1 := Lib.hid B1
  have F0 : Hid (Frame [] w ((w.alloc (.cells #[.int .i64 5, .bool false, .slice none 0 0, .int .i64 0, .float .f64 x] 39)).alloc (.cells #[.int .i64 5, .bool false, .slice none 0 0, .int .i64 0, .float .f64 y] 39))) := by show Frame [] w _; (repeat first | assumption | exact Frame.refl _ _ | refine Frame.trans1 ?_ (Frame.alloc _ _ _) | refine Frame.trans1 ?_ (Frame.drew _ _) | refine Frame.trans1 ?_ (Frame.drewN _ _ _))
  have H := Lib.hid (And.intro h1 h2)
  clear h1 h2
  obtain ⟨r, hr⟩ : ∃ r, decide ((rgF5).p x y = x) = r := ⟨_, rfl⟩
  rw [hr]
  have HR := Lib.hid hr
  clear hr
  go_enter Try.func10, Try.ntmps10
  go_upto_region 1 with fail
  generalize (w.alloc (.cells #[.int .i64 5, .bool false, .slice none 0 0, .int .i64 0, .float .f64 x] 39)).alloc (.cells #[.int .i64 5, .bool false, .slice none 0 0, .int .i64 0, .float .f64 y] 39) = w0 at *
  have x0 := B0.out.at 0 rfl
  have x1 := B0.out.at 1 rfl
  have x2 := B0.out.at 2 rfl
  have x3 := B0.out.at 3 rfl
  have x4 := B0.out.at 4 rfl
  have y_0 := B1.out.at 0 rfl
  have y_1 := B1.out.at 1 rfl
  have y_2 := B1.out.at 2 rfl
  have y_3 := B1.out.at 3 rfl
  have y_4 := B1.out.at 4 rfl
  go_wp2_with fail
  refine (PV.out _ F0.out).mono ?_
  rintro e w1 ⟨v, rfl, iv, f1⟩
  obtain ⟨rfl, hv⟩ := iv
  obtain ⟨s, hs⟩ : ∃ s, (rgF5).p x y = s := ⟨_, rfl⟩
  rw [hs] at hv HR ⊢
  go_upto_region 2 with fail
  have B2 := Blk.new w1 39 #[.int .i64 5, .bool false, .slice none 0 0, .int .i64 0, .float .f64 s]
  have f2 := f1.trans1 (Frame.alloc [] w1 (.cells #[.int .i64 5, .bool false, .slice none 0 0, .int .i64 0, .float .f64 s] 39))
  generalize w1.alloc (.cells #[.int .i64 5, .bool false, .slice none 0 0, .int .i64 0, .float .f64 s] 39) = w2 at *
  generalize w1.heap.size = b2 at *
  have F2 := Lib.hid (F0.out.trans1 f2)
  clear x0 x1 x2 x3 x4 y_0 y_1 y_2 y_3 y_4
  have x0 := (B0.out.frame f2 (by simp)).at 0 rfl
  have x1 := (B0.out.frame f2 (by simp)).at 1 rfl
  have x2 := (B0.out.frame f2 (by simp)).at 2 rfl
  have x3 := (B0.out.frame f2 (by simp)).at 3 rfl
  have x4 := (B0.out.frame f2 (by simp)).at 4 rfl
  have z0 := B2.at 0 rfl
  have z1 := B2.at 1 rfl
  have z2 := B2.at 2 rfl
  have z3 := B2.at 3 rfl
  have z4 := B2.at 4 rfl
  have AL := alike_5 s x w2 hv H.out.1
  rw [HR.out] at AL
  have AL := Lib.hid AL
  clear f1 f2 B2
  go_wp2_with fail
  refine AL.out.mono ?_
  rintro e w3 ⟨rfl, f3⟩
  have F3 := Lib.hid (F2.out.trans1 f3)
  clear f3
  go_wp2_with fail
  refine bodyPost_ret (v := .tuple #[.bool r, .int .i64 0]) (by simp [results, Try.results10, go_sem]) rfl ⟨rfl, F3.out⟩
set_option maxRecDepth 100000 in
theorem better_6 (x y : Nat) (w : World) (h1 : x ≤ fTop 6) (h2 : y ≤ fTop 6) : Calls Try.prog 10 #[.agg #[.int .i64 6, .bool false, .slice none 0 0, .int .i64 0, .float .f64 x], .agg #[.int .i64 6, .bool false, .slice none 0 0, .int .i64 0, .float .f64 y]] w (BEnd (decide ((rgF6).p x y = x)) w) := by
  have hst := fun (w : World) (a : Addr) (q : Nat) (m : Mode) => run_store Try.prog w a (.float .f64 q) m rfl
  have PV := Lib.hid (fun w' (f : Frame [] w w') => pv1_6 x y w' h1 h2)
  have B0 := Lib.hid ((Blk.new w 39 #[.int .i64 6, .bool false, .slice none 0 0, .int .i64 0, .float .f64 x]).alloc (.cells #[.int .i64 6, .bool false, .slice none 0 0, .int .i64 0, .float .f64 y] 39))
  have B1 := Blk.new (w.alloc (.cells #[.int .i64 6, .bool false, .slice none 0 0, .int .i64 0, .float .f64 x] 39)) 39 #[.int .i64 6, .bool false, .slice none 0 0, .int .i64 0, .float .f64 y]
  simp only [World.size_alloc] at B1
  have B1 := Lib.hid B1
  have F0 : Hid (Frame [] w ((w.alloc (.cells #[.int .i64 6, .bool false, .slice none 0 0, .int .i64 0, .float .f64 x] 39)).alloc (.cells #[.int .i64 6, .bool false, .slice none 0 0, .int .i64 0, .float .f64 y] 39))) := by show Frame [] w _; (repeat first | assumption | exact Frame.refl _ _ | refine Frame.trans1 ?_ (Frame.alloc _ _ _) | refine Frame.trans1 ?_ (Frame.drew _ _) | refine Frame.trans1 ?_ (Frame.drewN _ _ _))
  have H := Lib.hid (And.intro h1 h2)
  clear h1 h2
  obtain ⟨r, hr⟩ : ∃ r, decide ((rgF6).p x y = x) = r := ⟨_, rfl⟩
  rw [hr]
  have HR := Lib.hid hr
  clear hr
  go_enter Try.func10, Try.ntmps10
  go_upto_region 1 with fail
  generalize (w.alloc (.cells #[.int .i64 6, .bool false, .slice none 0 0, .int .i64 0, .float .f64 x] 39)).alloc (.cells #[.int .i64 6, .bool false, .slice none 0 0, .int .i64 0, .float .f64 y] 39) = w0 at *
  have x0 := B0.out.at 0 rfl
  have x1 := B0.out.at 1 rfl
  have x2 := B0.out.at 2 rfl
  have x3 := B0.out.at 3 rfl
  have x4 := B0.out.at 4 rfl
  have y_0 := B1.out.at 0 rfl
  have y_1 := B1.out.at 1 rfl
  have y_2 := B1.out.at 2 rfl
  have y_3 := B1.out.at 3 rfl
  have y_4 := B1.out.at 4 rfl
  go_wp2_with fail
  refine (PV.out _ F0.out).mono ?_
  rintro e w1 ⟨v, rfl, iv, f1⟩
  obtain ⟨rfl, hv⟩ := iv
  obtain ⟨s, hs⟩ : ∃ s, (rgF6).p x y = s := ⟨_, rfl⟩
  rw [hs] at hv HR ⊢
  go_upto_region 2 with fail
  have B2 := Blk.new w1 39 #[.int .i64 6, .bool false, .slice none 0 0, .int .i64 0, .float .f64 s]
  have f2 := f1.trans1 (Frame.alloc [] w1 (.cells #[.int .i64 6, .bool false, .slice none 0 0, .int .i64 0, .float .f64 s] 39))
  generalize w1.alloc (.cells #[.int .i64 6, .bool false, .slice none 0 0, .int .i64 0, .float .f64 s] 39) = w2 at *
  generalize w1.heap.size = b2 at *
  have F2 := Lib.hid (F0.out.trans1 f2)
  clear x0 x1 x2 x3 x4 y_0 y_1 y_2 y_3 y_4
  have x0 := (B0.out.frame f2 (by simp)).at 0 rfl
  have x1 := (B0.out.frame f2 (by simp)).at 1 rfl
  have x2 := (B0.out.frame f2 (by simp)).at 2 rfl
  have x3 := (B0.out.frame f2 (by simp)).at 3 rfl
  have x4 := (B0.out.frame f2 (by simp)).at 4 rfl
  have z0 := B2.at 0 rfl
  have z1 := B2.at 1 rfl
  have z2 := B2.at 2 rfl
  have z3 := B2.at 3 rfl
  have z4 := B2.at 4 rfl
  have AL := alike_6 s x w2 hv H.out.1
  rw [HR.out] at AL
  have AL := Lib.hid AL
  clear f1 f2 B2
  go_wp2_with fail
  refine AL.out.mono ?_
  rintro e w3 ⟨rfl, f3⟩
  have F3 := Lib.hid (F2.out.trans1 f3)
  clear f3
  go_wp2_with fail
  refine bodyPost_ret (v := .tuple #[.bool r, .int .i64 0]) (by simp [results, Try.results10, go_sem]) rfl ⟨rfl, F3.out⟩
end Go.Proofs.Ytbnhhmejlglbcaa

