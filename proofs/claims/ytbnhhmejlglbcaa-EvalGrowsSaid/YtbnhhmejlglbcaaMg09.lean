/- semi's Plus and Times at Bool. (printed by gen_semb.py) semi.Star at Bool; Bool's functions as a semiring's. -/
import Derived.Test.YtbnhhmejlglbcaaMg02
import Derived.Test.YtbnhhmejlglbcaaMg08
namespace Go.Proofs.Ytbnhhmejlglbcaa
open Go.RowKit
set_option linter.unusedSimpArgs false
set_option linter.unusedVariables false

set_option maxRecDepth 100000 in
theorem semPlus_00 (w : World) : Calls Try.prog 45 #[vB 0, vB 0] w fun e w' => e = .returned (.tuple #[vB 0, .int .i64 0]) ∧ Frame [] w w' := by
  have hst := fun (w : World) (a : Addr) (m : Mode) => run_store Try.prog w a (.float .f64 0) m rfl
  have BO := Lib.hid (semBoth_bool 0 0 (by decide) (by decide))
  have OW := Lib.hid (semown_bool 0)
  have B0 := ((Blk.new w 39 #[.int .i64 2, .bool false, .slice none 0 0, .int .i64 0, .float .f64 0]).alloc (.cells #[.int .i64 2, .bool false, .slice none 0 0, .int .i64 0, .float .f64 0] 39)).alloc (.cells #[.int .i64 0, .bool false, .slice none 0 0, .int .i64 0, .float .f64 0] 39)
  have B1 := (Blk.new (w.alloc (.cells #[.int .i64 2, .bool false, .slice none 0 0, .int .i64 0, .float .f64 0] 39)) 39 #[.int .i64 2, .bool false, .slice none 0 0, .int .i64 0, .float .f64 0]).alloc (.cells #[.int .i64 0, .bool false, .slice none 0 0, .int .i64 0, .float .f64 0] 39)
  have B2 := Blk.new ((w.alloc (.cells #[.int .i64 2, .bool false, .slice none 0 0, .int .i64 0, .float .f64 0] 39)).alloc (.cells #[.int .i64 2, .bool false, .slice none 0 0, .int .i64 0, .float .f64 0] 39)) 39 #[.int .i64 0, .bool false, .slice none 0 0, .int .i64 0, .float .f64 0]
  simp only [World.size_alloc] at B1 B2
  have F0 : Hid (Frame [] w (((w.alloc (.cells #[.int .i64 2, .bool false, .slice none 0 0, .int .i64 0, .float .f64 0] 39)).alloc (.cells #[.int .i64 2, .bool false, .slice none 0 0, .int .i64 0, .float .f64 0] 39)).alloc (.cells #[.int .i64 0, .bool false, .slice none 0 0, .int .i64 0, .float .f64 0] 39))) := by show Frame [] w _; (repeat first | assumption | exact Frame.refl _ _ | refine Frame.trans1 ?_ (Frame.alloc _ _ _) | refine Frame.trans1 ?_ (Frame.drew _ _) | refine Frame.trans1 ?_ (Frame.drewN _ _ _))
  unfold vB at *
  go_enter Try.func45, Try.ntmps45
  go_wp2_with fail
  generalize (((w.alloc (.cells #[.int .i64 2, .bool false, .slice none 0 0, .int .i64 0, .float .f64 0] 39)).alloc (.cells #[.int .i64 2, .bool false, .slice none 0 0, .int .i64 0, .float .f64 0] 39)).alloc (.cells #[.int .i64 0, .bool false, .slice none 0 0, .int .i64 0, .float .f64 0] 39)) = w0 at *
  refine (BO.out _).mono ?_
  rintro e w1 ⟨rfl, f1⟩
  have C0 := B0.frame f1 (by simp)
  have C1 := B1.frame f1 (by simp)
  have C2 := Lib.hid (B2.frame f1 (by simp))
  have F1 := Lib.hid (F0.out.trans1 f1)
  have x00 := C0.at 0 rfl
  have x03 := C0.at 3 rfl
  have x13 := C1.at 3 rfl
  have xa0 := (C0.alloc (.cells #[.int .i64 2, .bool false, .slice none 0 0, .int .i64 0, .float .f64 0] 39)).at 0 rfl
  have xa3 := (C0.alloc (.cells #[.int .i64 2, .bool false, .slice none 0 0, .int .i64 0, .float .f64 0] 39)).at 3 rfl
  have xb3 := (C1.alloc (.cells #[.int .i64 2, .bool false, .slice none 0 0, .int .i64 0, .float .f64 0] 39)).at 3 rfl
  clear B0 B1 B2 C0 C1 f1 F0 BO
  go_wp2_with fail
  refine (OW.out _).mono ?_
  rintro e w2 ⟨rfl, f2⟩
  have D2 := (C2.out.alloc (.cells #[.int .i64 2, .bool false, .slice none 0 0, .int .i64 0, .float .f64 0] 39)).frame f2 (by simp)
  have F2 := Lib.hid ((F1.out.trans1 (Frame.alloc [] w1 (.cells #[.int .i64 2, .bool false, .slice none 0 0, .int .i64 0, .float .f64 0] 39))).trans1 f2)
  have y0 := D2.at 0 rfl
  have y1 := D2.at 1 rfl
  have y2 := D2.at 2 rfl
  have y3 := D2.at 3 rfl
  have y4 := D2.at 4 rfl
  have z0 := D2.frozen
  have B5 := Lib.hid (putV D2 (.int .i64 2) (.bool false) (.slice none 0 0) (.int .i64 0) (.float .f64 0))
  have F5 := Lib.hid (putV_frame (w := w) (b := w.heap.size + 1 + 1) (by omega) F2.out (.int .i64 2) (.bool false) (.slice none 0 0) (.int .i64 0) (.float .f64 0))
  clear D2 f2 F2
  go_wp2_with fail
  refine bodyPost_ret (results_val2 rfl _ _ _ _ _ _ _ _ rfl B5.out) rfl ?_
  exact ⟨rfl, F5.out⟩
set_option maxRecDepth 100000 in
theorem semPlus_01 (w : World) : Calls Try.prog 45 #[vB 0, vB 1] w fun e w' => e = .returned (.tuple #[vB 1, .int .i64 0]) ∧ Frame [] w w' := by
  have hst := fun (w : World) (a : Addr) (m : Mode) => run_store Try.prog w a (.float .f64 0) m rfl
  have BO := Lib.hid (semBoth_bool 0 1 (by decide) (by decide))
  have OW := Lib.hid (semown_bool 1)
  have B0 := ((Blk.new w 39 #[.int .i64 2, .bool false, .slice none 0 0, .int .i64 0, .float .f64 0]).alloc (.cells #[.int .i64 2, .bool false, .slice none 0 0, .int .i64 1, .float .f64 0] 39)).alloc (.cells #[.int .i64 0, .bool false, .slice none 0 0, .int .i64 0, .float .f64 0] 39)
  have B1 := (Blk.new (w.alloc (.cells #[.int .i64 2, .bool false, .slice none 0 0, .int .i64 0, .float .f64 0] 39)) 39 #[.int .i64 2, .bool false, .slice none 0 0, .int .i64 1, .float .f64 0]).alloc (.cells #[.int .i64 0, .bool false, .slice none 0 0, .int .i64 0, .float .f64 0] 39)
  have B2 := Blk.new ((w.alloc (.cells #[.int .i64 2, .bool false, .slice none 0 0, .int .i64 0, .float .f64 0] 39)).alloc (.cells #[.int .i64 2, .bool false, .slice none 0 0, .int .i64 1, .float .f64 0] 39)) 39 #[.int .i64 0, .bool false, .slice none 0 0, .int .i64 0, .float .f64 0]
  simp only [World.size_alloc] at B1 B2
  have F0 : Hid (Frame [] w (((w.alloc (.cells #[.int .i64 2, .bool false, .slice none 0 0, .int .i64 0, .float .f64 0] 39)).alloc (.cells #[.int .i64 2, .bool false, .slice none 0 0, .int .i64 1, .float .f64 0] 39)).alloc (.cells #[.int .i64 0, .bool false, .slice none 0 0, .int .i64 0, .float .f64 0] 39))) := by show Frame [] w _; (repeat first | assumption | exact Frame.refl _ _ | refine Frame.trans1 ?_ (Frame.alloc _ _ _) | refine Frame.trans1 ?_ (Frame.drew _ _) | refine Frame.trans1 ?_ (Frame.drewN _ _ _))
  unfold vB at *
  go_enter Try.func45, Try.ntmps45
  go_wp2_with fail
  generalize (((w.alloc (.cells #[.int .i64 2, .bool false, .slice none 0 0, .int .i64 0, .float .f64 0] 39)).alloc (.cells #[.int .i64 2, .bool false, .slice none 0 0, .int .i64 1, .float .f64 0] 39)).alloc (.cells #[.int .i64 0, .bool false, .slice none 0 0, .int .i64 0, .float .f64 0] 39)) = w0 at *
  refine (BO.out _).mono ?_
  rintro e w1 ⟨rfl, f1⟩
  have C0 := B0.frame f1 (by simp)
  have C1 := B1.frame f1 (by simp)
  have C2 := Lib.hid (B2.frame f1 (by simp))
  have F1 := Lib.hid (F0.out.trans1 f1)
  have x00 := C0.at 0 rfl
  have x03 := C0.at 3 rfl
  have x13 := C1.at 3 rfl
  have xa0 := (C0.alloc (.cells #[.int .i64 2, .bool false, .slice none 0 0, .int .i64 0, .float .f64 0] 39)).at 0 rfl
  have xa3 := (C0.alloc (.cells #[.int .i64 2, .bool false, .slice none 0 0, .int .i64 0, .float .f64 0] 39)).at 3 rfl
  have xb3 := (C1.alloc (.cells #[.int .i64 2, .bool false, .slice none 0 0, .int .i64 0, .float .f64 0] 39)).at 3 rfl
  clear B0 B1 B2 C0 C1 f1 F0 BO
  go_wp2_with fail
  refine (OW.out _).mono ?_
  rintro e w2 ⟨rfl, f2⟩
  have D2 := (C2.out.alloc (.cells #[.int .i64 2, .bool false, .slice none 0 0, .int .i64 1, .float .f64 0] 39)).frame f2 (by simp)
  have F2 := Lib.hid ((F1.out.trans1 (Frame.alloc [] w1 (.cells #[.int .i64 2, .bool false, .slice none 0 0, .int .i64 1, .float .f64 0] 39))).trans1 f2)
  have y0 := D2.at 0 rfl
  have y1 := D2.at 1 rfl
  have y2 := D2.at 2 rfl
  have y3 := D2.at 3 rfl
  have y4 := D2.at 4 rfl
  have z0 := D2.frozen
  have B5 := Lib.hid (putV D2 (.int .i64 2) (.bool false) (.slice none 0 0) (.int .i64 1) (.float .f64 0))
  have F5 := Lib.hid (putV_frame (w := w) (b := w.heap.size + 1 + 1) (by omega) F2.out (.int .i64 2) (.bool false) (.slice none 0 0) (.int .i64 1) (.float .f64 0))
  clear D2 f2 F2
  go_wp2_with fail
  refine bodyPost_ret (results_val2 rfl _ _ _ _ _ _ _ _ rfl B5.out) rfl ?_
  exact ⟨rfl, F5.out⟩
set_option maxRecDepth 100000 in
theorem semPlus_10 (w : World) : Calls Try.prog 45 #[vB 1, vB 0] w fun e w' => e = .returned (.tuple #[vB 1, .int .i64 0]) ∧ Frame [] w w' := by
  have hst := fun (w : World) (a : Addr) (m : Mode) => run_store Try.prog w a (.float .f64 0) m rfl
  have BO := Lib.hid (semBoth_bool 1 0 (by decide) (by decide))
  have OW := Lib.hid (semown_bool 1)
  have B0 := ((Blk.new w 39 #[.int .i64 2, .bool false, .slice none 0 0, .int .i64 1, .float .f64 0]).alloc (.cells #[.int .i64 2, .bool false, .slice none 0 0, .int .i64 0, .float .f64 0] 39)).alloc (.cells #[.int .i64 0, .bool false, .slice none 0 0, .int .i64 0, .float .f64 0] 39)
  have B1 := (Blk.new (w.alloc (.cells #[.int .i64 2, .bool false, .slice none 0 0, .int .i64 1, .float .f64 0] 39)) 39 #[.int .i64 2, .bool false, .slice none 0 0, .int .i64 0, .float .f64 0]).alloc (.cells #[.int .i64 0, .bool false, .slice none 0 0, .int .i64 0, .float .f64 0] 39)
  have B2 := Blk.new ((w.alloc (.cells #[.int .i64 2, .bool false, .slice none 0 0, .int .i64 1, .float .f64 0] 39)).alloc (.cells #[.int .i64 2, .bool false, .slice none 0 0, .int .i64 0, .float .f64 0] 39)) 39 #[.int .i64 0, .bool false, .slice none 0 0, .int .i64 0, .float .f64 0]
  simp only [World.size_alloc] at B1 B2
  have F0 : Hid (Frame [] w (((w.alloc (.cells #[.int .i64 2, .bool false, .slice none 0 0, .int .i64 1, .float .f64 0] 39)).alloc (.cells #[.int .i64 2, .bool false, .slice none 0 0, .int .i64 0, .float .f64 0] 39)).alloc (.cells #[.int .i64 0, .bool false, .slice none 0 0, .int .i64 0, .float .f64 0] 39))) := by show Frame [] w _; (repeat first | assumption | exact Frame.refl _ _ | refine Frame.trans1 ?_ (Frame.alloc _ _ _) | refine Frame.trans1 ?_ (Frame.drew _ _) | refine Frame.trans1 ?_ (Frame.drewN _ _ _))
  unfold vB at *
  go_enter Try.func45, Try.ntmps45
  go_wp2_with fail
  generalize (((w.alloc (.cells #[.int .i64 2, .bool false, .slice none 0 0, .int .i64 1, .float .f64 0] 39)).alloc (.cells #[.int .i64 2, .bool false, .slice none 0 0, .int .i64 0, .float .f64 0] 39)).alloc (.cells #[.int .i64 0, .bool false, .slice none 0 0, .int .i64 0, .float .f64 0] 39)) = w0 at *
  refine (BO.out _).mono ?_
  rintro e w1 ⟨rfl, f1⟩
  have C0 := B0.frame f1 (by simp)
  have C1 := B1.frame f1 (by simp)
  have C2 := Lib.hid (B2.frame f1 (by simp))
  have F1 := Lib.hid (F0.out.trans1 f1)
  have x00 := C0.at 0 rfl
  have x03 := C0.at 3 rfl
  have x13 := C1.at 3 rfl
  have xa0 := (C0.alloc (.cells #[.int .i64 2, .bool false, .slice none 0 0, .int .i64 0, .float .f64 0] 39)).at 0 rfl
  have xa3 := (C0.alloc (.cells #[.int .i64 2, .bool false, .slice none 0 0, .int .i64 0, .float .f64 0] 39)).at 3 rfl
  have xb3 := (C1.alloc (.cells #[.int .i64 2, .bool false, .slice none 0 0, .int .i64 0, .float .f64 0] 39)).at 3 rfl
  clear B0 B1 B2 C0 C1 f1 F0 BO
  go_wp2_with fail
  refine (OW.out _).mono ?_
  rintro e w2 ⟨rfl, f2⟩
  have D2 := (C2.out.alloc (.cells #[.int .i64 2, .bool false, .slice none 0 0, .int .i64 1, .float .f64 0] 39)).frame f2 (by simp)
  have F2 := Lib.hid ((F1.out.trans1 (Frame.alloc [] w1 (.cells #[.int .i64 2, .bool false, .slice none 0 0, .int .i64 1, .float .f64 0] 39))).trans1 f2)
  have y0 := D2.at 0 rfl
  have y1 := D2.at 1 rfl
  have y2 := D2.at 2 rfl
  have y3 := D2.at 3 rfl
  have y4 := D2.at 4 rfl
  have z0 := D2.frozen
  have B5 := Lib.hid (putV D2 (.int .i64 2) (.bool false) (.slice none 0 0) (.int .i64 1) (.float .f64 0))
  have F5 := Lib.hid (putV_frame (w := w) (b := w.heap.size + 1 + 1) (by omega) F2.out (.int .i64 2) (.bool false) (.slice none 0 0) (.int .i64 1) (.float .f64 0))
  clear D2 f2 F2
  go_wp2_with fail
  refine bodyPost_ret (results_val2 rfl _ _ _ _ _ _ _ _ rfl B5.out) rfl ?_
  exact ⟨rfl, F5.out⟩
set_option maxRecDepth 100000 in
theorem semPlus_11 (w : World) : Calls Try.prog 45 #[vB 1, vB 1] w fun e w' => e = .returned (.tuple #[vB 1, .int .i64 0]) ∧ Frame [] w w' := by
  have hst := fun (w : World) (a : Addr) (m : Mode) => run_store Try.prog w a (.float .f64 0) m rfl
  have BO := Lib.hid (semBoth_bool 1 1 (by decide) (by decide))
  have OW := Lib.hid (semown_bool 1)
  have B0 := ((Blk.new w 39 #[.int .i64 2, .bool false, .slice none 0 0, .int .i64 1, .float .f64 0]).alloc (.cells #[.int .i64 2, .bool false, .slice none 0 0, .int .i64 1, .float .f64 0] 39)).alloc (.cells #[.int .i64 0, .bool false, .slice none 0 0, .int .i64 0, .float .f64 0] 39)
  have B1 := (Blk.new (w.alloc (.cells #[.int .i64 2, .bool false, .slice none 0 0, .int .i64 1, .float .f64 0] 39)) 39 #[.int .i64 2, .bool false, .slice none 0 0, .int .i64 1, .float .f64 0]).alloc (.cells #[.int .i64 0, .bool false, .slice none 0 0, .int .i64 0, .float .f64 0] 39)
  have B2 := Blk.new ((w.alloc (.cells #[.int .i64 2, .bool false, .slice none 0 0, .int .i64 1, .float .f64 0] 39)).alloc (.cells #[.int .i64 2, .bool false, .slice none 0 0, .int .i64 1, .float .f64 0] 39)) 39 #[.int .i64 0, .bool false, .slice none 0 0, .int .i64 0, .float .f64 0]
  simp only [World.size_alloc] at B1 B2
  have F0 : Hid (Frame [] w (((w.alloc (.cells #[.int .i64 2, .bool false, .slice none 0 0, .int .i64 1, .float .f64 0] 39)).alloc (.cells #[.int .i64 2, .bool false, .slice none 0 0, .int .i64 1, .float .f64 0] 39)).alloc (.cells #[.int .i64 0, .bool false, .slice none 0 0, .int .i64 0, .float .f64 0] 39))) := by show Frame [] w _; (repeat first | assumption | exact Frame.refl _ _ | refine Frame.trans1 ?_ (Frame.alloc _ _ _) | refine Frame.trans1 ?_ (Frame.drew _ _) | refine Frame.trans1 ?_ (Frame.drewN _ _ _))
  unfold vB at *
  go_enter Try.func45, Try.ntmps45
  go_wp2_with fail
  generalize (((w.alloc (.cells #[.int .i64 2, .bool false, .slice none 0 0, .int .i64 1, .float .f64 0] 39)).alloc (.cells #[.int .i64 2, .bool false, .slice none 0 0, .int .i64 1, .float .f64 0] 39)).alloc (.cells #[.int .i64 0, .bool false, .slice none 0 0, .int .i64 0, .float .f64 0] 39)) = w0 at *
  refine (BO.out _).mono ?_
  rintro e w1 ⟨rfl, f1⟩
  have C0 := B0.frame f1 (by simp)
  have C1 := B1.frame f1 (by simp)
  have C2 := Lib.hid (B2.frame f1 (by simp))
  have F1 := Lib.hid (F0.out.trans1 f1)
  have x00 := C0.at 0 rfl
  have x03 := C0.at 3 rfl
  have x13 := C1.at 3 rfl
  have xa0 := (C0.alloc (.cells #[.int .i64 2, .bool false, .slice none 0 0, .int .i64 0, .float .f64 0] 39)).at 0 rfl
  have xa3 := (C0.alloc (.cells #[.int .i64 2, .bool false, .slice none 0 0, .int .i64 0, .float .f64 0] 39)).at 3 rfl
  have xb3 := (C1.alloc (.cells #[.int .i64 2, .bool false, .slice none 0 0, .int .i64 0, .float .f64 0] 39)).at 3 rfl
  clear B0 B1 B2 C0 C1 f1 F0 BO
  go_wp2_with fail
  refine (OW.out _).mono ?_
  rintro e w2 ⟨rfl, f2⟩
  have D2 := (C2.out.alloc (.cells #[.int .i64 2, .bool false, .slice none 0 0, .int .i64 1, .float .f64 0] 39)).frame f2 (by simp)
  have F2 := Lib.hid ((F1.out.trans1 (Frame.alloc [] w1 (.cells #[.int .i64 2, .bool false, .slice none 0 0, .int .i64 1, .float .f64 0] 39))).trans1 f2)
  have y0 := D2.at 0 rfl
  have y1 := D2.at 1 rfl
  have y2 := D2.at 2 rfl
  have y3 := D2.at 3 rfl
  have y4 := D2.at 4 rfl
  have z0 := D2.frozen
  have B5 := Lib.hid (putV D2 (.int .i64 2) (.bool false) (.slice none 0 0) (.int .i64 1) (.float .f64 0))
  have F5 := Lib.hid (putV_frame (w := w) (b := w.heap.size + 1 + 1) (by omega) F2.out (.int .i64 2) (.bool false) (.slice none 0 0) (.int .i64 1) (.float .f64 0))
  clear D2 f2 F2
  go_wp2_with fail
  refine bodyPost_ret (results_val2 rfl _ _ _ _ _ _ _ _ rfl B5.out) rfl ?_
  exact ⟨rfl, F5.out⟩
set_option maxRecDepth 100000 in
theorem semTimes_00 (w : World) : Calls Try.prog 46 #[vB 0, vB 0] w fun e w' => e = .returned (.tuple #[vB 0, .int .i64 0]) ∧ Frame [] w w' := by
  have hst := fun (w : World) (a : Addr) (m : Mode) => run_store Try.prog w a (.float .f64 0) m rfl
  have BO := Lib.hid (semBoth_bool 0 0 (by decide) (by decide))
  have B0 := ((Blk.new w 39 #[.int .i64 2, .bool false, .slice none 0 0, .int .i64 0, .float .f64 0]).alloc (.cells #[.int .i64 2, .bool false, .slice none 0 0, .int .i64 0, .float .f64 0] 39)).alloc (.cells #[.int .i64 0, .bool false, .slice none 0 0, .int .i64 0, .float .f64 0] 39)
  have B1 := (Blk.new (w.alloc (.cells #[.int .i64 2, .bool false, .slice none 0 0, .int .i64 0, .float .f64 0] 39)) 39 #[.int .i64 2, .bool false, .slice none 0 0, .int .i64 0, .float .f64 0]).alloc (.cells #[.int .i64 0, .bool false, .slice none 0 0, .int .i64 0, .float .f64 0] 39)
  have B2 := Blk.new ((w.alloc (.cells #[.int .i64 2, .bool false, .slice none 0 0, .int .i64 0, .float .f64 0] 39)).alloc (.cells #[.int .i64 2, .bool false, .slice none 0 0, .int .i64 0, .float .f64 0] 39)) 39 #[.int .i64 0, .bool false, .slice none 0 0, .int .i64 0, .float .f64 0]
  simp only [World.size_alloc] at B1 B2
  have F0 : Hid (Frame [] w (((w.alloc (.cells #[.int .i64 2, .bool false, .slice none 0 0, .int .i64 0, .float .f64 0] 39)).alloc (.cells #[.int .i64 2, .bool false, .slice none 0 0, .int .i64 0, .float .f64 0] 39)).alloc (.cells #[.int .i64 0, .bool false, .slice none 0 0, .int .i64 0, .float .f64 0] 39))) := by show Frame [] w _; (repeat first | assumption | exact Frame.refl _ _ | refine Frame.trans1 ?_ (Frame.alloc _ _ _) | refine Frame.trans1 ?_ (Frame.drew _ _) | refine Frame.trans1 ?_ (Frame.drewN _ _ _))
  unfold vB at *
  go_enter Try.func46, Try.ntmps46
  go_wp2_with fail
  generalize (((w.alloc (.cells #[.int .i64 2, .bool false, .slice none 0 0, .int .i64 0, .float .f64 0] 39)).alloc (.cells #[.int .i64 2, .bool false, .slice none 0 0, .int .i64 0, .float .f64 0] 39)).alloc (.cells #[.int .i64 0, .bool false, .slice none 0 0, .int .i64 0, .float .f64 0] 39)) = w0 at *
  refine (BO.out _).mono ?_
  rintro e w1 ⟨rfl, f1⟩
  have C0 := B0.frame f1 (by simp)
  have C1 := B1.frame f1 (by simp)
  have C2 := Lib.hid (B2.frame f1 (by simp))
  have F1 := Lib.hid (F0.out.trans1 f1)
  have x00 := C0.at 0 rfl
  have x03 := C0.at 3 rfl
  have x13 := C1.at 3 rfl
  have xa0 := (C0.alloc (.cells #[.int .i64 2, .bool false, .slice none 0 0, .int .i64 0, .float .f64 0] 39)).at 0 rfl
  have xa3 := (C0.alloc (.cells #[.int .i64 2, .bool false, .slice none 0 0, .int .i64 0, .float .f64 0] 39)).at 3 rfl
  have xb3 := (C1.alloc (.cells #[.int .i64 2, .bool false, .slice none 0 0, .int .i64 0, .float .f64 0] 39)).at 3 rfl
  clear B0 B1 B2 C0 C1 f1 F0 BO
  go_upto_region 15 with fail
  have hlt := C2.out.lt
  have D2 := C2.out.alloc (.cells #[.int .i64 2, .bool false, .slice none 0 0, .int .i64 0, .float .f64 0] 39)
  have E2 := Blk.new w1 39 #[.int .i64 2, .bool false, .slice none 0 0, .int .i64 0, .float .f64 0]
  have F2 := Lib.hid (F1.out.trans1 (Frame.alloc [] w1 (.cells #[.int .i64 2, .bool false, .slice none 0 0, .int .i64 0, .float .f64 0] 39)))
  clear x00 x03 x13 xa0 xa3 xb3
  generalize w1.alloc (.cells #[.int .i64 2, .bool false, .slice none 0 0, .int .i64 0, .float .f64 0] 39) = w2 at *
  generalize w1.heap.size = q1 at *
  have e0 := E2.at 0 rfl
  have e1 := E2.at 1 rfl
  have e2 := E2.at 2 rfl
  have e3 := E2.at 3 rfl
  have e4 := E2.at 4 rfl
  have y0 := D2.at 0 rfl
  have y1 := D2.at 1 rfl
  have y2 := D2.at 2 rfl
  have y3 := D2.at 3 rfl
  have y4 := D2.at 4 rfl
  have z0 := D2.frozen
  have B5 := Lib.hid (putV D2 (.int .i64 2) (.bool false) (.slice none 0 0) (.int .i64 0) (.float .f64 0))
  have F5 := Lib.hid (putV_frame (w := w) (b := w.heap.size + 1 + 1) (by omega) F2.out (.int .i64 2) (.bool false) (.slice none 0 0) (.int .i64 0) (.float .f64 0))
  clear D2 F2 E2 hlt C2
  go_wp2_with fail
  refine bodyPost_ret (results_val2 rfl _ _ _ _ _ _ _ _ rfl B5.out) rfl ?_
  exact ⟨rfl, F5.out⟩
set_option maxRecDepth 100000 in
theorem semTimes_01 (w : World) : Calls Try.prog 46 #[vB 0, vB 1] w fun e w' => e = .returned (.tuple #[vB 0, .int .i64 0]) ∧ Frame [] w w' := by
  have hst := fun (w : World) (a : Addr) (m : Mode) => run_store Try.prog w a (.float .f64 0) m rfl
  have BO := Lib.hid (semBoth_bool 0 1 (by decide) (by decide))
  have B0 := ((Blk.new w 39 #[.int .i64 2, .bool false, .slice none 0 0, .int .i64 0, .float .f64 0]).alloc (.cells #[.int .i64 2, .bool false, .slice none 0 0, .int .i64 1, .float .f64 0] 39)).alloc (.cells #[.int .i64 0, .bool false, .slice none 0 0, .int .i64 0, .float .f64 0] 39)
  have B1 := (Blk.new (w.alloc (.cells #[.int .i64 2, .bool false, .slice none 0 0, .int .i64 0, .float .f64 0] 39)) 39 #[.int .i64 2, .bool false, .slice none 0 0, .int .i64 1, .float .f64 0]).alloc (.cells #[.int .i64 0, .bool false, .slice none 0 0, .int .i64 0, .float .f64 0] 39)
  have B2 := Blk.new ((w.alloc (.cells #[.int .i64 2, .bool false, .slice none 0 0, .int .i64 0, .float .f64 0] 39)).alloc (.cells #[.int .i64 2, .bool false, .slice none 0 0, .int .i64 1, .float .f64 0] 39)) 39 #[.int .i64 0, .bool false, .slice none 0 0, .int .i64 0, .float .f64 0]
  simp only [World.size_alloc] at B1 B2
  have F0 : Hid (Frame [] w (((w.alloc (.cells #[.int .i64 2, .bool false, .slice none 0 0, .int .i64 0, .float .f64 0] 39)).alloc (.cells #[.int .i64 2, .bool false, .slice none 0 0, .int .i64 1, .float .f64 0] 39)).alloc (.cells #[.int .i64 0, .bool false, .slice none 0 0, .int .i64 0, .float .f64 0] 39))) := by show Frame [] w _; (repeat first | assumption | exact Frame.refl _ _ | refine Frame.trans1 ?_ (Frame.alloc _ _ _) | refine Frame.trans1 ?_ (Frame.drew _ _) | refine Frame.trans1 ?_ (Frame.drewN _ _ _))
  unfold vB at *
  go_enter Try.func46, Try.ntmps46
  go_wp2_with fail
  generalize (((w.alloc (.cells #[.int .i64 2, .bool false, .slice none 0 0, .int .i64 0, .float .f64 0] 39)).alloc (.cells #[.int .i64 2, .bool false, .slice none 0 0, .int .i64 1, .float .f64 0] 39)).alloc (.cells #[.int .i64 0, .bool false, .slice none 0 0, .int .i64 0, .float .f64 0] 39)) = w0 at *
  refine (BO.out _).mono ?_
  rintro e w1 ⟨rfl, f1⟩
  have C0 := B0.frame f1 (by simp)
  have C1 := B1.frame f1 (by simp)
  have C2 := Lib.hid (B2.frame f1 (by simp))
  have F1 := Lib.hid (F0.out.trans1 f1)
  have x00 := C0.at 0 rfl
  have x03 := C0.at 3 rfl
  have x13 := C1.at 3 rfl
  have xa0 := (C0.alloc (.cells #[.int .i64 2, .bool false, .slice none 0 0, .int .i64 0, .float .f64 0] 39)).at 0 rfl
  have xa3 := (C0.alloc (.cells #[.int .i64 2, .bool false, .slice none 0 0, .int .i64 0, .float .f64 0] 39)).at 3 rfl
  have xb3 := (C1.alloc (.cells #[.int .i64 2, .bool false, .slice none 0 0, .int .i64 0, .float .f64 0] 39)).at 3 rfl
  clear B0 B1 B2 C0 C1 f1 F0 BO
  go_upto_region 15 with fail
  have hlt := C2.out.lt
  have D2 := C2.out.alloc (.cells #[.int .i64 2, .bool false, .slice none 0 0, .int .i64 0, .float .f64 0] 39)
  have E2 := Blk.new w1 39 #[.int .i64 2, .bool false, .slice none 0 0, .int .i64 0, .float .f64 0]
  have F2 := Lib.hid (F1.out.trans1 (Frame.alloc [] w1 (.cells #[.int .i64 2, .bool false, .slice none 0 0, .int .i64 0, .float .f64 0] 39)))
  clear x00 x03 x13 xa0 xa3 xb3
  generalize w1.alloc (.cells #[.int .i64 2, .bool false, .slice none 0 0, .int .i64 0, .float .f64 0] 39) = w2 at *
  generalize w1.heap.size = q1 at *
  have e0 := E2.at 0 rfl
  have e1 := E2.at 1 rfl
  have e2 := E2.at 2 rfl
  have e3 := E2.at 3 rfl
  have e4 := E2.at 4 rfl
  have y0 := D2.at 0 rfl
  have y1 := D2.at 1 rfl
  have y2 := D2.at 2 rfl
  have y3 := D2.at 3 rfl
  have y4 := D2.at 4 rfl
  have z0 := D2.frozen
  have B5 := Lib.hid (putV D2 (.int .i64 2) (.bool false) (.slice none 0 0) (.int .i64 0) (.float .f64 0))
  have F5 := Lib.hid (putV_frame (w := w) (b := w.heap.size + 1 + 1) (by omega) F2.out (.int .i64 2) (.bool false) (.slice none 0 0) (.int .i64 0) (.float .f64 0))
  clear D2 F2 E2 hlt C2
  go_wp2_with fail
  refine bodyPost_ret (results_val2 rfl _ _ _ _ _ _ _ _ rfl B5.out) rfl ?_
  exact ⟨rfl, F5.out⟩
set_option maxRecDepth 100000 in
theorem semTimes_10 (w : World) : Calls Try.prog 46 #[vB 1, vB 0] w fun e w' => e = .returned (.tuple #[vB 0, .int .i64 0]) ∧ Frame [] w w' := by
  have hst := fun (w : World) (a : Addr) (m : Mode) => run_store Try.prog w a (.float .f64 0) m rfl
  have BO := Lib.hid (semBoth_bool 1 0 (by decide) (by decide))
  have B0 := ((Blk.new w 39 #[.int .i64 2, .bool false, .slice none 0 0, .int .i64 1, .float .f64 0]).alloc (.cells #[.int .i64 2, .bool false, .slice none 0 0, .int .i64 0, .float .f64 0] 39)).alloc (.cells #[.int .i64 0, .bool false, .slice none 0 0, .int .i64 0, .float .f64 0] 39)
  have B1 := (Blk.new (w.alloc (.cells #[.int .i64 2, .bool false, .slice none 0 0, .int .i64 1, .float .f64 0] 39)) 39 #[.int .i64 2, .bool false, .slice none 0 0, .int .i64 0, .float .f64 0]).alloc (.cells #[.int .i64 0, .bool false, .slice none 0 0, .int .i64 0, .float .f64 0] 39)
  have B2 := Blk.new ((w.alloc (.cells #[.int .i64 2, .bool false, .slice none 0 0, .int .i64 1, .float .f64 0] 39)).alloc (.cells #[.int .i64 2, .bool false, .slice none 0 0, .int .i64 0, .float .f64 0] 39)) 39 #[.int .i64 0, .bool false, .slice none 0 0, .int .i64 0, .float .f64 0]
  simp only [World.size_alloc] at B1 B2
  have F0 : Hid (Frame [] w (((w.alloc (.cells #[.int .i64 2, .bool false, .slice none 0 0, .int .i64 1, .float .f64 0] 39)).alloc (.cells #[.int .i64 2, .bool false, .slice none 0 0, .int .i64 0, .float .f64 0] 39)).alloc (.cells #[.int .i64 0, .bool false, .slice none 0 0, .int .i64 0, .float .f64 0] 39))) := by show Frame [] w _; (repeat first | assumption | exact Frame.refl _ _ | refine Frame.trans1 ?_ (Frame.alloc _ _ _) | refine Frame.trans1 ?_ (Frame.drew _ _) | refine Frame.trans1 ?_ (Frame.drewN _ _ _))
  unfold vB at *
  go_enter Try.func46, Try.ntmps46
  go_wp2_with fail
  generalize (((w.alloc (.cells #[.int .i64 2, .bool false, .slice none 0 0, .int .i64 1, .float .f64 0] 39)).alloc (.cells #[.int .i64 2, .bool false, .slice none 0 0, .int .i64 0, .float .f64 0] 39)).alloc (.cells #[.int .i64 0, .bool false, .slice none 0 0, .int .i64 0, .float .f64 0] 39)) = w0 at *
  refine (BO.out _).mono ?_
  rintro e w1 ⟨rfl, f1⟩
  have C0 := B0.frame f1 (by simp)
  have C1 := B1.frame f1 (by simp)
  have C2 := Lib.hid (B2.frame f1 (by simp))
  have F1 := Lib.hid (F0.out.trans1 f1)
  have x00 := C0.at 0 rfl
  have x03 := C0.at 3 rfl
  have x13 := C1.at 3 rfl
  have xa0 := (C0.alloc (.cells #[.int .i64 2, .bool false, .slice none 0 0, .int .i64 0, .float .f64 0] 39)).at 0 rfl
  have xa3 := (C0.alloc (.cells #[.int .i64 2, .bool false, .slice none 0 0, .int .i64 0, .float .f64 0] 39)).at 3 rfl
  have xb3 := (C1.alloc (.cells #[.int .i64 2, .bool false, .slice none 0 0, .int .i64 0, .float .f64 0] 39)).at 3 rfl
  clear B0 B1 B2 C0 C1 f1 F0 BO
  go_upto_region 15 with fail
  have hlt := C2.out.lt
  have D2 := C2.out.alloc (.cells #[.int .i64 2, .bool false, .slice none 0 0, .int .i64 0, .float .f64 0] 39)
  have E2 := Blk.new w1 39 #[.int .i64 2, .bool false, .slice none 0 0, .int .i64 0, .float .f64 0]
  have F2 := Lib.hid (F1.out.trans1 (Frame.alloc [] w1 (.cells #[.int .i64 2, .bool false, .slice none 0 0, .int .i64 0, .float .f64 0] 39)))
  clear x00 x03 x13 xa0 xa3 xb3
  generalize w1.alloc (.cells #[.int .i64 2, .bool false, .slice none 0 0, .int .i64 0, .float .f64 0] 39) = w2 at *
  generalize w1.heap.size = q1 at *
  have e0 := E2.at 0 rfl
  have e1 := E2.at 1 rfl
  have e2 := E2.at 2 rfl
  have e3 := E2.at 3 rfl
  have e4 := E2.at 4 rfl
  have y0 := D2.at 0 rfl
  have y1 := D2.at 1 rfl
  have y2 := D2.at 2 rfl
  have y3 := D2.at 3 rfl
  have y4 := D2.at 4 rfl
  have z0 := D2.frozen
  have B5 := Lib.hid (putV D2 (.int .i64 2) (.bool false) (.slice none 0 0) (.int .i64 0) (.float .f64 0))
  have F5 := Lib.hid (putV_frame (w := w) (b := w.heap.size + 1 + 1) (by omega) F2.out (.int .i64 2) (.bool false) (.slice none 0 0) (.int .i64 0) (.float .f64 0))
  clear D2 F2 E2 hlt C2
  go_wp2_with fail
  refine bodyPost_ret (results_val2 rfl _ _ _ _ _ _ _ _ rfl B5.out) rfl ?_
  exact ⟨rfl, F5.out⟩
set_option maxRecDepth 100000 in
theorem semTimes_11 (w : World) : Calls Try.prog 46 #[vB 1, vB 1] w fun e w' => e = .returned (.tuple #[vB 1, .int .i64 0]) ∧ Frame [] w w' := by
  have hst := fun (w : World) (a : Addr) (m : Mode) => run_store Try.prog w a (.float .f64 0) m rfl
  have BO := Lib.hid (semBoth_bool 1 1 (by decide) (by decide))
  have B0 := ((Blk.new w 39 #[.int .i64 2, .bool false, .slice none 0 0, .int .i64 1, .float .f64 0]).alloc (.cells #[.int .i64 2, .bool false, .slice none 0 0, .int .i64 1, .float .f64 0] 39)).alloc (.cells #[.int .i64 0, .bool false, .slice none 0 0, .int .i64 0, .float .f64 0] 39)
  have B1 := (Blk.new (w.alloc (.cells #[.int .i64 2, .bool false, .slice none 0 0, .int .i64 1, .float .f64 0] 39)) 39 #[.int .i64 2, .bool false, .slice none 0 0, .int .i64 1, .float .f64 0]).alloc (.cells #[.int .i64 0, .bool false, .slice none 0 0, .int .i64 0, .float .f64 0] 39)
  have B2 := Blk.new ((w.alloc (.cells #[.int .i64 2, .bool false, .slice none 0 0, .int .i64 1, .float .f64 0] 39)).alloc (.cells #[.int .i64 2, .bool false, .slice none 0 0, .int .i64 1, .float .f64 0] 39)) 39 #[.int .i64 0, .bool false, .slice none 0 0, .int .i64 0, .float .f64 0]
  simp only [World.size_alloc] at B1 B2
  have F0 : Hid (Frame [] w (((w.alloc (.cells #[.int .i64 2, .bool false, .slice none 0 0, .int .i64 1, .float .f64 0] 39)).alloc (.cells #[.int .i64 2, .bool false, .slice none 0 0, .int .i64 1, .float .f64 0] 39)).alloc (.cells #[.int .i64 0, .bool false, .slice none 0 0, .int .i64 0, .float .f64 0] 39))) := by show Frame [] w _; (repeat first | assumption | exact Frame.refl _ _ | refine Frame.trans1 ?_ (Frame.alloc _ _ _) | refine Frame.trans1 ?_ (Frame.drew _ _) | refine Frame.trans1 ?_ (Frame.drewN _ _ _))
  unfold vB at *
  go_enter Try.func46, Try.ntmps46
  go_wp2_with fail
  generalize (((w.alloc (.cells #[.int .i64 2, .bool false, .slice none 0 0, .int .i64 1, .float .f64 0] 39)).alloc (.cells #[.int .i64 2, .bool false, .slice none 0 0, .int .i64 1, .float .f64 0] 39)).alloc (.cells #[.int .i64 0, .bool false, .slice none 0 0, .int .i64 0, .float .f64 0] 39)) = w0 at *
  refine (BO.out _).mono ?_
  rintro e w1 ⟨rfl, f1⟩
  have C0 := B0.frame f1 (by simp)
  have C1 := B1.frame f1 (by simp)
  have C2 := Lib.hid (B2.frame f1 (by simp))
  have F1 := Lib.hid (F0.out.trans1 f1)
  have x00 := C0.at 0 rfl
  have x03 := C0.at 3 rfl
  have x13 := C1.at 3 rfl
  have xa0 := (C0.alloc (.cells #[.int .i64 2, .bool false, .slice none 0 0, .int .i64 0, .float .f64 0] 39)).at 0 rfl
  have xa3 := (C0.alloc (.cells #[.int .i64 2, .bool false, .slice none 0 0, .int .i64 0, .float .f64 0] 39)).at 3 rfl
  have xb3 := (C1.alloc (.cells #[.int .i64 2, .bool false, .slice none 0 0, .int .i64 0, .float .f64 0] 39)).at 3 rfl
  clear B0 B1 B2 C0 C1 f1 F0 BO
  go_upto_region 15 with fail
  have hlt := C2.out.lt
  have D2 := C2.out.alloc (.cells #[.int .i64 2, .bool false, .slice none 0 0, .int .i64 1, .float .f64 0] 39)
  have E2 := Blk.new w1 39 #[.int .i64 2, .bool false, .slice none 0 0, .int .i64 1, .float .f64 0]
  have F2 := Lib.hid (F1.out.trans1 (Frame.alloc [] w1 (.cells #[.int .i64 2, .bool false, .slice none 0 0, .int .i64 1, .float .f64 0] 39)))
  clear x00 x03 x13 xa0 xa3 xb3
  generalize w1.alloc (.cells #[.int .i64 2, .bool false, .slice none 0 0, .int .i64 1, .float .f64 0] 39) = w2 at *
  generalize w1.heap.size = q1 at *
  have e0 := E2.at 0 rfl
  have e1 := E2.at 1 rfl
  have e2 := E2.at 2 rfl
  have e3 := E2.at 3 rfl
  have e4 := E2.at 4 rfl
  have y0 := D2.at 0 rfl
  have y1 := D2.at 1 rfl
  have y2 := D2.at 2 rfl
  have y3 := D2.at 3 rfl
  have y4 := D2.at 4 rfl
  have z0 := D2.frozen
  have B5 := Lib.hid (putV D2 (.int .i64 2) (.bool false) (.slice none 0 0) (.int .i64 1) (.float .f64 0))
  have F5 := Lib.hid (putV_frame (w := w) (b := w.heap.size + 1 + 1) (by omega) F2.out (.int .i64 2) (.bool false) (.slice none 0 0) (.int .i64 1) (.float .f64 0))
  clear D2 F2 E2 hlt C2
  go_wp2_with fail
  refine bodyPost_ret (results_val2 rfl _ _ _ _ _ _ _ _ rfl B5.out) rfl ?_
  exact ⟨rfl, F5.out⟩
end Go.Proofs.Ytbnhhmejlglbcaa

namespace Go.Proofs.Ytbnhhmejlglbcaa
open Go.RowKit
set_option linter.unusedSimpArgs false
set_option linter.unusedVariables false

set_option maxRecDepth 100000 in
theorem semStar_bool (n : Int) (hn : n = 0 ∨ n = 1) (w : World) : Calls Try.prog 47 #[vB n] w fun e w' => e = .returned (.tuple #[vB 1, .int .i64 0]) ∧ Frame [] w w' := by
  have hst := fun (w : World) (a : Addr) (m : Mode) => run_store Try.prog w a (.float .f64 0) m rfl
  have MM := Lib.hid (semMay_bool n hn)
  have WW := Lib.hid whole_bool
  clear hn
  unfold vB at *
  go_enter Try.func47, Try.ntmps47
  have hb0 := (Blk.new w 39 #[.int .i64 2, .bool false, .slice none 0 0, .int .i64 n, .float .f64 0]).alloc (.cells #[.int .i64 0, .bool false, .slice none 0 0, .int .i64 0, .float .f64 0] 39)
  have hb1 := Blk.new (w.alloc (.cells #[.int .i64 2, .bool false, .slice none 0 0, .int .i64 n, .float .f64 0] 39)) 39 #[.int .i64 0, .bool false, .slice none 0 0, .int .i64 0, .float .f64 0]
  simp only [World.size_alloc] at hb1
  have F0 : Hid (Frame [] w ((w.alloc (.cells #[.int .i64 2, .bool false, .slice none 0 0, .int .i64 n, .float .f64 0] 39)).alloc (.cells #[.int .i64 0, .bool false, .slice none 0 0, .int .i64 0, .float .f64 0] 39))) := by show Frame [] w _; (repeat first | assumption | exact Frame.refl _ _ | refine Frame.trans1 ?_ (Frame.alloc _ _ _) | refine Frame.trans1 ?_ (Frame.drew _ _) | refine Frame.trans1 ?_ (Frame.drewN _ _ _))
  have B0 := Lib.hid hb0
  have B1 := Lib.hid hb1
  clear hb0 hb1
  go_wp2_with fail
  generalize (w.alloc (.cells #[.int .i64 2, .bool false, .slice none 0 0, .int .i64 n, .float .f64 0] 39)).alloc (.cells #[.int .i64 0, .bool false, .slice none 0 0, .int .i64 0, .float .f64 0] 39) = w0 at *
  refine (MM.out _).mono ?_
  rintro e w1 ⟨rfl, f1⟩
  have x0 := (B0.out.frame f1 (by simp)).at 0 rfl
  have C1 := Lib.hid (B1.out.frame f1 (by simp))
  have F1 := Lib.hid (F0.out.trans1 f1)
  clear f1 B0 B1 F0
  go_wp2_with fail
  refine (WW.out _).mono ?_
  rintro e w2 ⟨rfl, f2⟩
  have D2 := C1.out.frame f2 (by simp)
  have F2 := Lib.hid (F1.out.trans1 f2)
  have y0 := D2.at 0 rfl
  have y1 := D2.at 1 rfl
  have y2 := D2.at 2 rfl
  have y3 := D2.at 3 rfl
  have y4 := D2.at 4 rfl
  have z0 := D2.frozen
  have B5 := Lib.hid (putV D2 (.int .i64 2) (.bool false) (.slice none 0 0) (.int .i64 1) (.float .f64 0))
  have F5 := Lib.hid (putV_frame (w := w) (b := w.heap.size + 1) (by omega) F2.out (.int .i64 2) (.bool false) (.slice none 0 0) (.int .i64 1) (.float .f64 0))
  clear D2 f2 F2 C1 F1 x0
  go_wp2_with fail
  refine bodyPost_ret (results_val2 rfl _ _ _ _ _ _ _ _ rfl B5.out) rfl ?_
  exact ⟨rfl, F5.out⟩
/-- A value of Bool that tells a truth. -/
def IsB (w : World) (v : Value) (b : Bool) : Prop := v = vB (if b = true then 1 else 0)
theorem semOk_bool : SemOk 2 rgB IsB (fun _ _ => True) (fun _ _ => True) (fun _ => True) where
  form := fun {w v x} h => ⟨false, none, 0, 0, _, 0, h⟩
  keep := fun _ _ _ _ h _ => h
  zero := fun w => (semZero_bool w).mono fun e w' ⟨h1, h2⟩ => ⟨_, h1, rfl, h2⟩
  one := fun w => (semOne_bool w).mono fun e w' ⟨h1, h2⟩ => ⟨_, h1, rfl, h2⟩
  plus := fun w u v x y hu hv _ => by
    unfold IsB at hu hv; subst hu hv
    cases x <;> cases y
    · exact (semPlus_00 w).mono fun e w' ⟨h1, h2⟩ => ⟨_, h1, rfl, h2⟩
    · exact (semPlus_01 w).mono fun e w' ⟨h1, h2⟩ => ⟨_, h1, rfl, h2⟩
    · exact (semPlus_10 w).mono fun e w' ⟨h1, h2⟩ => ⟨_, h1, rfl, h2⟩
    · exact (semPlus_11 w).mono fun e w' ⟨h1, h2⟩ => ⟨_, h1, rfl, h2⟩
  times := fun w u v x y hu hv _ => by
    unfold IsB at hu hv; subst hu hv
    cases x <;> cases y
    · exact (semTimes_00 w).mono fun e w' ⟨h1, h2⟩ => ⟨_, h1, rfl, h2⟩
    · exact (semTimes_01 w).mono fun e w' ⟨h1, h2⟩ => ⟨_, h1, rfl, h2⟩
    · exact (semTimes_10 w).mono fun e w' ⟨h1, h2⟩ => ⟨_, h1, rfl, h2⟩
    · exact (semTimes_11 w).mono fun e w' ⟨h1, h2⟩ => ⟨_, h1, rfl, h2⟩
  star := fun w u x hu _ => by
    unfold IsB at hu; subst hu
    exact (semStar_bool _ (by cases x <;> simp) w).mono fun e w' ⟨h1, h2⟩ => ⟨_, h1, rfl, h2⟩
end Go.Proofs.Ytbnhhmejlglbcaa

