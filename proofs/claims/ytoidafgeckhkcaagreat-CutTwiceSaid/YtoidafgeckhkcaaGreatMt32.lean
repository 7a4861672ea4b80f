/- semi's Plus and Times at Bool. (printed by gen_semb.py) -/
import Derived.Test.YtoidafgeckhkcaaGreatMt28
namespace Go.Proofs.YtoidafgeckhkcaaGreat
open Go.RowKit
set_option linter.unusedSimpArgs false
set_option linter.unusedVariables false

set_option maxRecDepth 100000 in
theorem semPlus_00 (w : World) : Calls Tryz.prog 77 #[vB 0, vB 0] w fun e w' => e = .returned (.tuple #[vB 0, .int .i64 0]) ∧ Frame [] w w' := by
  have hst := fun (w : World) (a : Addr) (m : Mode) => run_store Tryz.prog w a (.float .f64 0) m rfl
  have BO := Lib.hid (semBoth_bool 0 0 (by decide) (by decide))
  have OW := Lib.hid (semown_bool 0)
  have B0 := ((Blk.new w 50 #[.int .i64 2, .bool false, .slice none 0 0, .int .i64 0, .float .f64 0]).alloc (.cells #[.int .i64 2, .bool false, .slice none 0 0, .int .i64 0, .float .f64 0] 50)).alloc (.cells #[.int .i64 0, .bool false, .slice none 0 0, .int .i64 0, .float .f64 0] 50)
  have B1 := (Blk.new (w.alloc (.cells #[.int .i64 2, .bool false, .slice none 0 0, .int .i64 0, .float .f64 0] 50)) 50 #[.int .i64 2, .bool false, .slice none 0 0, .int .i64 0, .float .f64 0]).alloc (.cells #[.int .i64 0, .bool false, .slice none 0 0, .int .i64 0, .float .f64 0] 50)
  have B2 := Blk.new ((w.alloc (.cells #[.int .i64 2, .bool false, .slice none 0 0, .int .i64 0, .float .f64 0] 50)).alloc (.cells #[.int .i64 2, .bool false, .slice none 0 0, .int .i64 0, .float .f64 0] 50)) 50 #[.int .i64 0, .bool false, .slice none 0 0, .int .i64 0, .float .f64 0]
  simp only [World.size_alloc] at B1 B2
  have F0 : Hid (Frame [] w (((w.alloc (.cells #[.int .i64 2, .bool false, .slice none 0 0, .int .i64 0, .float .f64 0] 50)).alloc (.cells #[.int .i64 2, .bool false, .slice none 0 0, .int .i64 0, .float .f64 0] 50)).alloc (.cells #[.int .i64 0, .bool false, .slice none 0 0, .int .i64 0, .float .f64 0] 50))) := by show Frame [] w _; (repeat first | assumption | exact Frame.refl _ _ | refine Frame.trans1 ?_ (Frame.alloc _ _ _) | refine Frame.trans1 ?_ (Frame.drew _ _) | refine Frame.trans1 ?_ (Frame.drewN _ _ _))
  unfold vB at *
  go_enter Tryz.func77, Tryz.ntmps77
  go_wp2_with fail
  generalize (((w.alloc (.cells #[.int .i64 2, .bool false, .slice none 0 0, .int .i64 0, .float .f64 0] 50)).alloc (.cells #[.int .i64 2, .bool false, .slice none 0 0, .int .i64 0, .float .f64 0] 50)).alloc (.cells #[.int .i64 0, .bool false, .slice none 0 0, .int .i64 0, .float .f64 0] 50)) = w0 at *
  refine (BO.out _).mono ?_
  rintro e w1 ⟨rfl, f1⟩
  have C0 := B0.frame f1 (by simp)
  have C1 := B1.frame f1 (by simp)
  have C2 := Lib.hid (B2.frame f1 (by simp))
  have F1 := Lib.hid (F0.out.trans1 f1)
  have x00 := C0.at 0 rfl
  have x03 := C0.at 3 rfl
  have x13 := C1.at 3 rfl
  have xa0 := (C0.alloc (.cells #[.int .i64 2, .bool false, .slice none 0 0, .int .i64 0, .float .f64 0] 50)).at 0 rfl
  have xa3 := (C0.alloc (.cells #[.int .i64 2, .bool false, .slice none 0 0, .int .i64 0, .float .f64 0] 50)).at 3 rfl
  have xb3 := (C1.alloc (.cells #[.int .i64 2, .bool false, .slice none 0 0, .int .i64 0, .float .f64 0] 50)).at 3 rfl
  clear B0 B1 B2 C0 C1 f1 F0 BO
  go_wp2_with fail
  refine (OW.out _).mono ?_
  rintro e w2 ⟨rfl, f2⟩
  have D2 := (C2.out.alloc (.cells #[.int .i64 2, .bool false, .slice none 0 0, .int .i64 0, .float .f64 0] 50)).frame f2 (by simp)
  have F2 := Lib.hid ((F1.out.trans1 (Frame.alloc [] w1 (.cells #[.int .i64 2, .bool false, .slice none 0 0, .int .i64 0, .float .f64 0] 50))).trans1 f2)
  have y0 := D2.at 0 rfl
  have y1 := D2.at 1 rfl
  have y2 := D2.at 2 rfl
  have y3 := D2.at 3 rfl
  have y4 := D2.at 4 rfl
  have z0 := D2.frozen
  have B5 := Lib.hid (putV D2 (.int .i64 2) (.bool false) (.slice none 0 0) (.int .i64 0) (.float .f64 0))
  have F5 := Lib.hid (putV_frame (w := w) (b := w.heap.size + 1 + 1) (by omega) F2.out (.int .i64 2) (.bool false) (.slice none 0 0) (.int .i64 0) (.float .f64 0))
  clear D2 f2 F2
  go_wp2_with fail
  refine bodyPost_ret (results_val2 rfl _ _ _ _ _ _ _ _ rfl B5.out) rfl ?_
  exact ⟨rfl, F5.out⟩
set_option maxRecDepth 100000 in
theorem semPlus_01 (w : World) : Calls Tryz.prog 77 #[vB 0, vB 1] w fun e w' => e = .returned (.tuple #[vB 1, .int .i64 0]) ∧ Frame [] w w' := by
  have hst := fun (w : World) (a : Addr) (m : Mode) => run_store Tryz.prog w a (.float .f64 0) m rfl
  have BO := Lib.hid (semBoth_bool 0 1 (by decide) (by decide))
  have OW := Lib.hid (semown_bool 1)
  have B0 := ((Blk.new w 50 #[.int .i64 2, .bool false, .slice none 0 0, .int .i64 0, .float .f64 0]).alloc (.cells #[.int .i64 2, .bool false, .slice none 0 0, .int .i64 1, .float .f64 0] 50)).alloc (.cells #[.int .i64 0, .bool false, .slice none 0 0, .int .i64 0, .float .f64 0] 50)
  have B1 := (Blk.new (w.alloc (.cells #[.int .i64 2, .bool false, .slice none 0 0, .int .i64 0, .float .f64 0] 50)) 50 #[.int .i64 2, .bool false, .slice none 0 0, .int .i64 1, .float .f64 0]).alloc (.cells #[.int .i64 0, .bool false, .slice none 0 0, .int .i64 0, .float .f64 0] 50)
  have B2 := Blk.new ((w.alloc (.cells #[.int .i64 2, .bool false, .slice none 0 0, .int .i64 0, .float .f64 0] 50)).alloc (.cells #[.int .i64 2, .bool false, .slice none 0 0, .int .i64 1, .float .f64 0] 50)) 50 #[.int .i64 0, .bool false, .slice none 0 0, .int .i64 0, .float .f64 0]
  simp only [World.size_alloc] at B1 B2
  have F0 : Hid (Frame [] w (((w.alloc (.cells #[.int .i64 2, .bool false, .slice none 0 0, .int .i64 0, .float .f64 0] 50)).alloc (.cells #[.int .i64 2, .bool false, .slice none 0 0, .int .i64 1, .float .f64 0] 50)).alloc (.cells #[.int .i64 0, .bool false, .slice none 0 0, .int .i64 0, .float .f64 0] 50))) := by show Frame [] w _; (repeat first | assumption | exact Frame.refl _ _ | refine Frame.trans1 ?_ (Frame.alloc _ _ _) | refine Frame.trans1 ?_ (Frame.drew _ _) | refine Frame.trans1 ?_ (Frame.drewN _ _ _))
  unfold vB at *
  go_enter Tryz.func77, Tryz.ntmps77
  go_wp2_with fail
  generalize (((w.alloc (.cells #[.int .i64 2, .bool false, .slice none 0 0, .int .i64 0, .float .f64 0] 50)).alloc (.cells #[.int .i64 2, .bool false, .slice none 0 0, .int .i64 1, .float .f64 0] 50)).alloc (.cells #[.int .i64 0, .bool false, .slice none 0 0, .int .i64 0, .float .f64 0] 50)) = w0 at *
  refine (BO.out _).mono ?_
  rintro e w1 ⟨rfl, f1⟩
  have C0 := B0.frame f1 (by simp)
  have C1 := B1.frame f1 (by simp)
  have C2 := Lib.hid (B2.frame f1 (by simp))
  have F1 := Lib.hid (F0.out.trans1 f1)
  have x00 := C0.at 0 rfl
  have x03 := C0.at 3 rfl
  have x13 := C1.at 3 rfl
  have xa0 := (C0.alloc (.cells #[.int .i64 2, .bool false, .slice none 0 0, .int .i64 0, .float .f64 0] 50)).at 0 rfl
  have xa3 := (C0.alloc (.cells #[.int .i64 2, .bool false, .slice none 0 0, .int .i64 0, .float .f64 0] 50)).at 3 rfl
  have xb3 := (C1.alloc (.cells #[.int .i64 2, .bool false, .slice none 0 0, .int .i64 0, .float .f64 0] 50)).at 3 rfl
  clear B0 B1 B2 C0 C1 f1 F0 BO
  go_wp2_with fail
  refine (OW.out _).mono ?_
  rintro e w2 ⟨rfl, f2⟩
  have D2 := (C2.out.alloc (.cells #[.int .i64 2, .bool false, .slice none 0 0, .int .i64 1, .float .f64 0] 50)).frame f2 (by simp)
  have F2 := Lib.hid ((F1.out.trans1 (Frame.alloc [] w1 (.cells #[.int .i64 2, .bool false, .slice none 0 0, .int .i64 1, .float .f64 0] 50))).trans1 f2)
  have y0 := D2.at 0 rfl
  have y1 := D2.at 1 rfl
  have y2 := D2.at 2 rfl
  have y3 := D2.at 3 rfl
  have y4 := D2.at 4 rfl
  have z0 := D2.frozen
  have B5 := Lib.hid (putV D2 (.int .i64 2) (.bool false) (.slice none 0 0) (.int .i64 1) (.float .f64 0))
  have F5 := Lib.hid (putV_frame (w := w) (b := w.heap.size + 1 + 1) (by omega) F2.out (.int .i64 2) (.bool false) (.slice none 0 0) (.int .i64 1) (.float .f64 0))
  clear D2 f2 F2
  go_wp2_with fail
  refine bodyPost_ret (results_val2 rfl _ _ _ _ _ _ _ _ rfl B5.out) rfl ?_
  exact ⟨rfl, F5.out⟩
set_option maxRecDepth 100000 in
theorem semPlus_10 (w : World) : Calls Tryz.prog 77 #[vB 1, vB 0] w fun e w' => e = .returned (.tuple #[vB 1, .int .i64 0]) ∧ Frame [] w w' := by
  have hst := fun (w : World) (a : Addr) (m : Mode) => run_store Tryz.prog w a (.float .f64 0) m rfl
  have BO := Lib.hid (semBoth_bool 1 0 (by decide) (by decide))
  have OW := Lib.hid (semown_bool 1)
  have B0 := ((Blk.new w 50 #[.int .i64 2, .bool false, .slice none 0 0, .int .i64 1, .float .f64 0]).alloc (.cells #[.int .i64 2, .bool false, .slice none 0 0, .int .i64 0, .float .f64 0] 50)).alloc (.cells #[.int .i64 0, .bool false, .slice none 0 0, .int .i64 0, .float .f64 0] 50)
  have B1 := (Blk.new (w.alloc (.cells #[.int .i64 2, .bool false, .slice none 0 0, .int .i64 1, .float .f64 0] 50)) 50 #[.int .i64 2, .bool false, .slice none 0 0, .int .i64 0, .float .f64 0]).alloc (.cells #[.int .i64 0, .bool false, .slice none 0 0, .int .i64 0, .float .f64 0] 50)
  have B2 := Blk.new ((w.alloc (.cells #[.int .i64 2, .bool false, .slice none 0 0, .int .i64 1, .float .f64 0] 50)).alloc (.cells #[.int .i64 2, .bool false, .slice none 0 0, .int .i64 0, .float .f64 0] 50)) 50 #[.int .i64 0, .bool false, .slice none 0 0, .int .i64 0, .float .f64 0]
  simp only [World.size_alloc] at B1 B2
  have F0 : Hid (Frame [] w (((w.alloc (.cells #[.int .i64 2, .bool false, .slice none 0 0, .int .i64 1, .float .f64 0] 50)).alloc (.cells #[.int .i64 2, .bool false, .slice none 0 0, .int .i64 0, .float .f64 0] 50)).alloc (.cells #[.int .i64 0, .bool false, .slice none 0 0, .int .i64 0, .float .f64 0] 50))) := by show Frame [] w _; (repeat first | assumption | exact Frame.refl _ _ | refine Frame.trans1 ?_ (Frame.alloc _ _ _) | refine Frame.trans1 ?_ (Frame.drew _ _) | refine Frame.trans1 ?_ (Frame.drewN _ _ _))
  unfold vB at *
  go_enter Tryz.func77, Tryz.ntmps77
  go_wp2_with fail
  generalize (((w.alloc (.cells #[.int .i64 2, .bool false, .slice none 0 0, .int .i64 1, .float .f64 0] 50)).alloc (.cells #[.int .i64 2, .bool false, .slice none 0 0, .int .i64 0, .float .f64 0] 50)).alloc (.cells #[.int .i64 0, .bool false, .slice none 0 0, .int .i64 0, .float .f64 0] 50)) = w0 at *
  refine (BO.out _).mono ?_
  rintro e w1 ⟨rfl, f1⟩
  have C0 := B0.frame f1 (by simp)
  have C1 := B1.frame f1 (by simp)
  have C2 := Lib.hid (B2.frame f1 (by simp))
  have F1 := Lib.hid (F0.out.trans1 f1)
  have x00 := C0.at 0 rfl
  have x03 := C0.at 3 rfl
  have x13 := C1.at 3 rfl
  have xa0 := (C0.alloc (.cells #[.int .i64 2, .bool false, .slice none 0 0, .int .i64 0, .float .f64 0] 50)).at 0 rfl
  have xa3 := (C0.alloc (.cells #[.int .i64 2, .bool false, .slice none 0 0, .int .i64 0, .float .f64 0] 50)).at 3 rfl
  have xb3 := (C1.alloc (.cells #[.int .i64 2, .bool false, .slice none 0 0, .int .i64 0, .float .f64 0] 50)).at 3 rfl
  clear B0 B1 B2 C0 C1 f1 F0 BO
  go_wp2_with fail
  refine (OW.out _).mono ?_
  rintro e w2 ⟨rfl, f2⟩
  have D2 := (C2.out.alloc (.cells #[.int .i64 2, .bool false, .slice none 0 0, .int .i64 1, .float .f64 0] 50)).frame f2 (by simp)
  have F2 := Lib.hid ((F1.out.trans1 (Frame.alloc [] w1 (.cells #[.int .i64 2, .bool false, .slice none 0 0, .int .i64 1, .float .f64 0] 50))).trans1 f2)
  have y0 := D2.at 0 rfl
  have y1 := D2.at 1 rfl
  have y2 := D2.at 2 rfl
  have y3 := D2.at 3 rfl
  have y4 := D2.at 4 rfl
  have z0 := D2.frozen
  have B5 := Lib.hid (putV D2 (.int .i64 2) (.bool false) (.slice none 0 0) (.int .i64 1) (.float .f64 0))
  have F5 := Lib.hid (putV_frame (w := w) (b := w.heap.size + 1 + 1) (by omega) F2.out (.int .i64 2) (.bool false) (.slice none 0 0) (.int .i64 1) (.float .f64 0))
  clear D2 f2 F2
  go_wp2_with fail
  refine bodyPost_ret (results_val2 rfl _ _ _ _ _ _ _ _ rfl B5.out) rfl ?_
  exact ⟨rfl, F5.out⟩
set_option maxRecDepth 100000 in
theorem semPlus_11 (w : World) : Calls Tryz.prog 77 #[vB 1, vB 1] w fun e w' => e = .returned (.tuple #[vB 1, .int .i64 0]) ∧ Frame [] w w' := by
  have hst := fun (w : World) (a : Addr) (m : Mode) => run_store Tryz.prog w a (.float .f64 0) m rfl
  have BO := Lib.hid (semBoth_bool 1 1 (by decide) (by decide))
  have OW := Lib.hid (semown_bool 1)
  have B0 := ((Blk.new w 50 #[.int .i64 2, .bool false, .slice none 0 0, .int .i64 1, .float .f64 0]).alloc (.cells #[.int .i64 2, .bool false, .slice none 0 0, .int .i64 1, .float .f64 0] 50)).alloc (.cells #[.int .i64 0, .bool false, .slice none 0 0, .int .i64 0, .float .f64 0] 50)
  have B1 := (Blk.new (w.alloc (.cells #[.int .i64 2, .bool false, .slice none 0 0, .int .i64 1, .float .f64 0] 50)) 50 #[.int .i64 2, .bool false, .slice none 0 0, .int .i64 1, .float .f64 0]).alloc (.cells #[.int .i64 0, .bool false, .slice none 0 0, .int .i64 0, .float .f64 0] 50)
  have B2 := Blk.new ((w.alloc (.cells #[.int .i64 2, .bool false, .slice none 0 0, .int .i64 1, .float .f64 0] 50)).alloc (.cells #[.int .i64 2, .bool false, .slice none 0 0, .int .i64 1, .float .f64 0] 50)) 50 #[.int .i64 0, .bool false, .slice none 0 0, .int .i64 0, .float .f64 0]
  simp only [World.size_alloc] at B1 B2
  have F0 : Hid (Frame [] w (((w.alloc (.cells #[.int .i64 2, .bool false, .slice none 0 0, .int .i64 1, .float .f64 0] 50)).alloc (.cells #[.int .i64 2, .bool false, .slice none 0 0, .int .i64 1, .float .f64 0] 50)).alloc (.cells #[.int .i64 0, .bool false, .slice none 0 0, .int .i64 0, .float .f64 0] 50))) := by show Frame [] w _; (repeat first | assumption | exact Frame.refl _ _ | refine Frame.trans1 ?_ (Frame.alloc _ _ _) | refine Frame.trans1 ?_ (Frame.drew _ _) | refine Frame.trans1 ?_ (Frame.drewN _ _ _))
  unfold vB at *
  go_enter Tryz.func77, Tryz.ntmps77
  go_wp2_with fail
  generalize (((w.alloc (.cells #[.int .i64 2, .bool false, .slice none 0 0, .int .i64 1, .float .f64 0] 50)).alloc (.cells #[.int .i64 2, .bool false, .slice none 0 0, .int .i64 1, .float .f64 0] 50)).alloc (.cells #[.int .i64 0, .bool false, .slice none 0 0, .int .i64 0, .float .f64 0] 50)) = w0 at *
  refine (BO.out _).mono ?_
  rintro e w1 ⟨rfl, f1⟩
  have C0 := B0.frame f1 (by simp)
  have C1 := B1.frame f1 (by simp)
  have C2 := Lib.hid (B2.frame f1 (by simp))
  have F1 := Lib.hid (F0.out.trans1 f1)
  have x00 := C0.at 0 rfl
  have x03 := C0.at 3 rfl
  have x13 := C1.at 3 rfl
  have xa0 := (C0.alloc (.cells #[.int .i64 2, .bool false, .slice none 0 0, .int .i64 0, .float .f64 0] 50)).at 0 rfl
  have xa3 := (C0.alloc (.cells #[.int .i64 2, .bool false, .slice none 0 0, .int .i64 0, .float .f64 0] 50)).at 3 rfl
  have xb3 := (C1.alloc (.cells #[.int .i64 2, .bool false, .slice none 0 0, .int .i64 0, .float .f64 0] 50)).at 3 rfl
  clear B0 B1 B2 C0 C1 f1 F0 BO
  go_wp2_with fail
  refine (OW.out _).mono ?_
  rintro e w2 ⟨rfl, f2⟩
  have D2 := (C2.out.alloc (.cells #[.int .i64 2, .bool false, .slice none 0 0, .int .i64 1, .float .f64 0] 50)).frame f2 (by simp)
  have F2 := Lib.hid ((F1.out.trans1 (Frame.alloc [] w1 (.cells #[.int .i64 2, .bool false, .slice none 0 0, .int .i64 1, .float .f64 0] 50))).trans1 f2)
  have y0 := D2.at 0 rfl
  have y1 := D2.at 1 rfl
  have y2 := D2.at 2 rfl
  have y3 := D2.at 3 rfl
  have y4 := D2.at 4 rfl
  have z0 := D2.frozen
  have B5 := Lib.hid (putV D2 (.int .i64 2) (.bool false) (.slice none 0 0) (.int .i64 1) (.float .f64 0))
  have F5 := Lib.hid (putV_frame (w := w) (b := w.heap.size + 1 + 1) (by omega) F2.out (.int .i64 2) (.bool false) (.slice none 0 0) (.int .i64 1) (.float .f64 0))
  clear D2 f2 F2
  go_wp2_with fail
  refine bodyPost_ret (results_val2 rfl _ _ _ _ _ _ _ _ rfl B5.out) rfl ?_
  exact ⟨rfl, F5.out⟩
set_option maxRecDepth 100000 in
theorem semTimes_00 (w : World) : Calls Tryz.prog 78 #[vB 0, vB 0] w fun e w' => e = .returned (.tuple #[vB 0, .int .i64 0]) ∧ Frame [] w w' := by
  have hst := fun (w : World) (a : Addr) (m : Mode) => run_store Tryz.prog w a (.float .f64 0) m rfl
  have BO := Lib.hid (semBoth_bool 0 0 (by decide) (by decide))
  have B0 := ((Blk.new w 50 #[.int .i64 2, .bool false, .slice none 0 0, .int .i64 0, .float .f64 0]).alloc (.cells #[.int .i64 2, .bool false, .slice none 0 0, .int .i64 0, .float .f64 0] 50)).alloc (.cells #[.int .i64 0, .bool false, .slice none 0 0, .int .i64 0, .float .f64 0] 50)
  have B1 := (Blk.new (w.alloc (.cells #[.int .i64 2, .bool false, .slice none 0 0, .int .i64 0, .float .f64 0] 50)) 50 #[.int .i64 2, .bool false, .slice none 0 0, .int .i64 0, .float .f64 0]).alloc (.cells #[.int .i64 0, .bool false, .slice none 0 0, .int .i64 0, .float .f64 0] 50)
  have B2 := Blk.new ((w.alloc (.cells #[.int .i64 2, .bool false, .slice none 0 0, .int .i64 0, .float .f64 0] 50)).alloc (.cells #[.int .i64 2, .bool false, .slice none 0 0, .int .i64 0, .float .f64 0] 50)) 50 #[.int .i64 0, .bool false, .slice none 0 0, .int .i64 0, .float .f64 0]
  simp only [World.size_alloc] at B1 B2
  have F0 : Hid (Frame [] w (((w.alloc (.cells #[.int .i64 2, .bool false, .slice none 0 0, .int .i64 0, .float .f64 0] 50)).alloc (.cells #[.int .i64 2, .bool false, .slice none 0 0, .int .i64 0, .float .f64 0] 50)).alloc (.cells #[.int .i64 0, .bool false, .slice none 0 0, .int .i64 0, .float .f64 0] 50))) := by show Frame [] w _; (repeat first | assumption | exact Frame.refl _ _ | refine Frame.trans1 ?_ (Frame.alloc _ _ _) | refine Frame.trans1 ?_ (Frame.drew _ _) | refine Frame.trans1 ?_ (Frame.drewN _ _ _))
  unfold vB at *
  go_enter Tryz.func78, Tryz.ntmps78
  go_wp2_with fail
  generalize (((w.alloc (.cells #[.int .i64 2, .bool false, .slice none 0 0, .int .i64 0, .float .f64 0] 50)).alloc (.cells #[.int .i64 2, .bool false, .slice none 0 0, .int .i64 0, .float .f64 0] 50)).alloc (.cells #[.int .i64 0, .bool false, .slice none 0 0, .int .i64 0, .float .f64 0] 50)) = w0 at *
  refine (BO.out _).mono ?_
  rintro e w1 ⟨rfl, f1⟩
  have C0 := B0.frame f1 (by simp)
  have C1 := B1.frame f1 (by simp)
  have C2 := Lib.hid (B2.frame f1 (by simp))
  have F1 := Lib.hid (F0.out.trans1 f1)
  have x00 := C0.at 0 rfl
  have x03 := C0.at 3 rfl
  have x13 := C1.at 3 rfl
  have xa0 := (C0.alloc (.cells #[.int .i64 2, .bool false, .slice none 0 0, .int .i64 0, .float .f64 0] 50)).at 0 rfl
  have xa3 := (C0.alloc (.cells #[.int .i64 2, .bool false, .slice none 0 0, .int .i64 0, .float .f64 0] 50)).at 3 rfl
  have xb3 := (C1.alloc (.cells #[.int .i64 2, .bool false, .slice none 0 0, .int .i64 0, .float .f64 0] 50)).at 3 rfl
  clear B0 B1 B2 C0 C1 f1 F0 BO
  go_upto_region 15 with fail
  have hlt := C2.out.lt
  have D2 := C2.out.alloc (.cells #[.int .i64 2, .bool false, .slice none 0 0, .int .i64 0, .float .f64 0] 50)
  have E2 := Blk.new w1 50 #[.int .i64 2, .bool false, .slice none 0 0, .int .i64 0, .float .f64 0]
  have F2 := Lib.hid (F1.out.trans1 (Frame.alloc [] w1 (.cells #[.int .i64 2, .bool false, .slice none 0 0, .int .i64 0, .float .f64 0] 50)))
  clear x00 x03 x13 xa0 xa3 xb3
  generalize w1.alloc (.cells #[.int .i64 2, .bool false, .slice none 0 0, .int .i64 0, .float .f64 0] 50) = w2 at *
  generalize w1.heap.size = q1 at *
  have e0 := E2.at 0 rfl
  have e1 := E2.at 1 rfl
  have e2 := E2.at 2 rfl
  have e3 := E2.at 3 rfl
  have e4 := E2.at 4 rfl
  have y0 := D2.at 0 rfl
  have y1 := D2.at 1 rfl
  have y2 := D2.at 2 rfl
  have y3 := D2.at 3 rfl
  have y4 := D2.at 4 rfl
  have z0 := D2.frozen
  have B5 := Lib.hid (putV D2 (.int .i64 2) (.bool false) (.slice none 0 0) (.int .i64 0) (.float .f64 0))
  have F5 := Lib.hid (putV_frame (w := w) (b := w.heap.size + 1 + 1) (by omega) F2.out (.int .i64 2) (.bool false) (.slice none 0 0) (.int .i64 0) (.float .f64 0))
  clear D2 F2 E2 hlt C2
  go_wp2_with fail
  refine bodyPost_ret (results_val2 rfl _ _ _ _ _ _ _ _ rfl B5.out) rfl ?_
  exact ⟨rfl, F5.out⟩
set_option maxRecDepth 100000 in
theorem semTimes_01 (w : World) : Calls Tryz.prog 78 #[vB 0, vB 1] w fun e w' => e = .returned (.tuple #[vB 0, .int .i64 0]) ∧ Frame [] w w' := by
  have hst := fun (w : World) (a : Addr) (m : Mode) => run_store Tryz.prog w a (.float .f64 0) m rfl
  have BO := Lib.hid (semBoth_bool 0 1 (by decide) (by decide))
  have B0 := ((Blk.new w 50 #[.int .i64 2, .bool false, .slice none 0 0, .int .i64 0, .float .f64 0]).alloc (.cells #[.int .i64 2, .bool false, .slice none 0 0, .int .i64 1, .float .f64 0] 50)).alloc (.cells #[.int .i64 0, .bool false, .slice none 0 0, .int .i64 0, .float .f64 0] 50)
  have B1 := (Blk.new (w.alloc (.cells #[.int .i64 2, .bool false, .slice none 0 0, .int .i64 0, .float .f64 0] 50)) 50 #[.int .i64 2, .bool false, .slice none 0 0, .int .i64 1, .float .f64 0]).alloc (.cells #[.int .i64 0, .bool false, .slice none 0 0, .int .i64 0, .float .f64 0] 50)
  have B2 := Blk.new ((w.alloc (.cells #[.int .i64 2, .bool false, .slice none 0 0, .int .i64 0, .float .f64 0] 50)).alloc (.cells #[.int .i64 2, .bool false, .slice none 0 0, .int .i64 1, .float .f64 0] 50)) 50 #[.int .i64 0, .bool false, .slice none 0 0, .int .i64 0, .float .f64 0]
  simp only [World.size_alloc] at B1 B2
  have F0 : Hid (Frame [] w (((w.alloc (.cells #[.int .i64 2, .bool false, .slice none 0 0, .int .i64 0, .float .f64 0] 50)).alloc (.cells #[.int .i64 2, .bool false, .slice none 0 0, .int .i64 1, .float .f64 0] 50)).alloc (.cells #[.int .i64 0, .bool false, .slice none 0 0, .int .i64 0, .float .f64 0] 50))) := by show Frame [] w _; (repeat first | assumption | exact Frame.refl _ _ | refine Frame.trans1 ?_ (Frame.alloc _ _ _) | refine Frame.trans1 ?_ (Frame.drew _ _) | refine Frame.trans1 ?_ (Frame.drewN _ _ _))
  unfold vB at *
  go_enter Tryz.func78, Tryz.ntmps78
  go_wp2_with fail
  generalize (((w.alloc (.cells #[.int .i64 2, .bool false, .slice none 0 0, .int .i64 0, .float .f64 0] 50)).alloc (.cells #[.int .i64 2, .bool false, .slice none 0 0, .int .i64 1, .float .f64 0] 50)).alloc (.cells #[.int .i64 0, .bool false, .slice none 0 0, .int .i64 0, .float .f64 0] 50)) = w0 at *
  refine (BO.out _).mono ?_
  rintro e w1 ⟨rfl, f1⟩
  have C0 := B0.frame f1 (by simp)
  have C1 := B1.frame f1 (by simp)
  have C2 := Lib.hid (B2.frame f1 (by simp))
  have F1 := Lib.hid (F0.out.trans1 f1)
  have x00 := C0.at 0 rfl
  have x03 := C0.at 3 rfl
  have x13 := C1.at 3 rfl
  have xa0 := (C0.alloc (.cells #[.int .i64 2, .bool false, .slice none 0 0, .int .i64 0, .float .f64 0] 50)).at 0 rfl
  have xa3 := (C0.alloc (.cells #[.int .i64 2, .bool false, .slice none 0 0, .int .i64 0, .float .f64 0] 50)).at 3 rfl
  have xb3 := (C1.alloc (.cells #[.int .i64 2, .bool false, .slice none 0 0, .int .i64 0, .float .f64 0] 50)).at 3 rfl
  clear B0 B1 B2 C0 C1 f1 F0 BO
  go_upto_region 15 with fail
  have hlt := C2.out.lt
  have D2 := C2.out.alloc (.cells #[.int .i64 2, .bool false, .slice none 0 0, .int .i64 0, .float .f64 0] 50)
  have E2 := Blk.new w1 50 #[.int .i64 2, .bool false, .slice none 0 0, .int .i64 0, .float .f64 0]
  have F2 := Lib.hid (F1.out.trans1 (Frame.alloc [] w1 (.cells #[.int .i64 2, .bool false, .slice none 0 0, .int .i64 0, .float .f64 0] 50)))
  clear x00 x03 x13 xa0 xa3 xb3
  generalize w1.alloc (.cells #[.int .i64 2, .bool false, .slice none 0 0, .int .i64 0, .float .f64 0] 50) = w2 at *
  generalize w1.heap.size = q1 at *
  have e0 := E2.at 0 rfl
  have e1 := E2.at 1 rfl
  have e2 := E2.at 2 rfl
  have e3 := E2.at 3 rfl
  have e4 := E2.at 4 rfl
  have y0 := D2.at 0 rfl
  have y1 := D2.at 1 rfl
  have y2 := D2.at 2 rfl
  have y3 := D2.at 3 rfl
  have y4 := D2.at 4 rfl
  have z0 := D2.frozen
  have B5 := Lib.hid (putV D2 (.int .i64 2) (.bool false) (.slice none 0 0) (.int .i64 0) (.float .f64 0))
  have F5 := Lib.hid (putV_frame (w := w) (b := w.heap.size + 1 + 1) (by omega) F2.out (.int .i64 2) (.bool false) (.slice none 0 0) (.int .i64 0) (.float .f64 0))
  clear D2 F2 E2 hlt C2
  go_wp2_with fail
  refine bodyPost_ret (results_val2 rfl _ _ _ _ _ _ _ _ rfl B5.out) rfl ?_
  exact ⟨rfl, F5.out⟩
set_option maxRecDepth 100000 in
theorem semTimes_10 (w : World) : Calls Tryz.prog 78 #[vB 1, vB 0] w fun e w' => e = .returned (.tuple #[vB 0, .int .i64 0]) ∧ Frame [] w w' := by
  have hst := fun (w : World) (a : Addr) (m : Mode) => run_store Tryz.prog w a (.float .f64 0) m rfl
  have BO := Lib.hid (semBoth_bool 1 0 (by decide) (by decide))
  have B0 := ((Blk.new w 50 #[.int .i64 2, .bool false, .slice none 0 0, .int .i64 1, .float .f64 0]).alloc (.cells #[.int .i64 2, .bool false, .slice none 0 0, .int .i64 0, .float .f64 0] 50)).alloc (.cells #[.int .i64 0, .bool false, .slice none 0 0, .int .i64 0, .float .f64 0] 50)
  have B1 := (Blk.new (w.alloc (.cells #[.int .i64 2, .bool false, .slice none 0 0, .int .i64 1, .float .f64 0] 50)) 50 #[.int .i64 2, .bool false, .slice none 0 0, .int .i64 0, .float .f64 0]).alloc (.cells #[.int .i64 0, .bool false, .slice none 0 0, .int .i64 0, .float .f64 0] 50)
  have B2 := Blk.new ((w.alloc (.cells #[.int .i64 2, .bool false, .slice none 0 0, .int .i64 1, .float .f64 0] 50)).alloc (.cells #[.int .i64 2, .bool false, .slice none 0 0, .int .i64 0, .float .f64 0] 50)) 50 #[.int .i64 0, .bool false, .slice none 0 0, .int .i64 0, .float .f64 0]
  simp only [World.size_alloc] at B1 B2
  have F0 : Hid (Frame [] w (((w.alloc (.cells #[.int .i64 2, .bool false, .slice none 0 0, .int .i64 1, .float .f64 0] 50)).alloc (.cells #[.int .i64 2, .bool false, .slice none 0 0, .int .i64 0, .float .f64 0] 50)).alloc (.cells #[.int .i64 0, .bool false, .slice none 0 0, .int .i64 0, .float .f64 0] 50))) := by show Frame [] w _; (repeat first | assumption | exact Frame.refl _ _ | refine Frame.trans1 ?_ (Frame.alloc _ _ _) | refine Frame.trans1 ?_ (Frame.drew _ _) | refine Frame.trans1 ?_ (Frame.drewN _ _ _))
  unfold vB at *
  go_enter Tryz.func78, Tryz.ntmps78
  go_wp2_with fail
  generalize (((w.alloc (.cells #[.int .i64 2, .bool false, .slice none 0 0, .int .i64 1, .float .f64 0] 50)).alloc (.cells #[.int .i64 2, .bool false, .slice none 0 0, .int .i64 0, .float .f64 0] 50)).alloc (.cells #[.int .i64 0, .bool false, .slice none 0 0, .int .i64 0, .float .f64 0] 50)) = w0 at *
  refine (BO.out _).mono ?_
  rintro e w1 ⟨rfl, f1⟩
  have C0 := B0.frame f1 (by simp)
  have C1 := B1.frame f1 (by simp)
  have C2 := Lib.hid (B2.frame f1 (by simp))
  have F1 := Lib.hid (F0.out.trans1 f1)
  have x00 := C0.at 0 rfl
  have x03 := C0.at 3 rfl
  have x13 := C1.at 3 rfl
  have xa0 := (C0.alloc (.cells #[.int .i64 2, .bool false, .slice none 0 0, .int .i64 0, .float .f64 0] 50)).at 0 rfl
  have xa3 := (C0.alloc (.cells #[.int .i64 2, .bool false, .slice none 0 0, .int .i64 0, .float .f64 0] 50)).at 3 rfl
  have xb3 := (C1.alloc (.cells #[.int .i64 2, .bool false, .slice none 0 0, .int .i64 0, .float .f64 0] 50)).at 3 rfl
  clear B0 B1 B2 C0 C1 f1 F0 BO
  go_upto_region 15 with fail
  have hlt := C2.out.lt
  have D2 := C2.out.alloc (.cells #[.int .i64 2, .bool false, .slice none 0 0, .int .i64 0, .float .f64 0] 50)
  have E2 := Blk.new w1 50 #[.int .i64 2, .bool false, .slice none 0 0, .int .i64 0, .float .f64 0]
  have F2 := Lib.hid (F1.out.trans1 (Frame.alloc [] w1 (.cells #[.int .i64 2, .bool false, .slice none 0 0, .int .i64 0, .float .f64 0] 50)))
  clear x00 x03 x13 xa0 xa3 xb3
  generalize w1.alloc (.cells #[.int .i64 2, .bool false, .slice none 0 0, .int .i64 0, .float .f64 0] 50) = w2 at *
  generalize w1.heap.size = q1 at *
  have e0 := E2.at 0 rfl
  have e1 := E2.at 1 rfl
  have e2 := E2.at 2 rfl
  have e3 := E2.at 3 rfl
  have e4 := E2.at 4 rfl
  have y0 := D2.at 0 rfl
  have y1 := D2.at 1 rfl
  have y2 := D2.at 2 rfl
  have y3 := D2.at 3 rfl
  have y4 := D2.at 4 rfl
  have z0 := D2.frozen
  have B5 := Lib.hid (putV D2 (.int .i64 2) (.bool false) (.slice none 0 0) (.int .i64 0) (.float .f64 0))
  have F5 := Lib.hid (putV_frame (w := w) (b := w.heap.size + 1 + 1) (by omega) F2.out (.int .i64 2) (.bool false) (.slice none 0 0) (.int .i64 0) (.float .f64 0))
  clear D2 F2 E2 hlt C2
  go_wp2_with fail
  refine bodyPost_ret (results_val2 rfl _ _ _ _ _ _ _ _ rfl B5.out) rfl ?_
  exact ⟨rfl, F5.out⟩
set_option maxRecDepth 100000 in
theorem semTimes_11 (w : World) : Calls Tryz.prog 78 #[vB 1, vB 1] w fun e w' => e = .returned (.tuple #[vB 1, .int .i64 0]) ∧ Frame [] w w' := by
  have hst := fun (w : World) (a : Addr) (m : Mode) => run_store Tryz.prog w a (.float .f64 0) m rfl
  have BO := Lib.hid (semBoth_bool 1 1 (by decide) (by decide))
  have B0 := ((Blk.new w 50 #[.int .i64 2, .bool false, .slice none 0 0, .int .i64 1, .float .f64 0]).alloc (.cells #[.int .i64 2, .bool false, .slice none 0 0, .int .i64 1, .float .f64 0] 50)).alloc (.cells #[.int .i64 0, .bool false, .slice none 0 0, .int .i64 0, .float .f64 0] 50)
  have B1 := (Blk.new (w.alloc (.cells #[.int .i64 2, .bool false, .slice none 0 0, .int .i64 1, .float .f64 0] 50)) 50 #[.int .i64 2, .bool false, .slice none 0 0, .int .i64 1, .float .f64 0]).alloc (.cells #[.int .i64 0, .bool false, .slice none 0 0, .int .i64 0, .float .f64 0] 50)
  have B2 := Blk.new ((w.alloc (.cells #[.int .i64 2, .bool false, .slice none 0 0, .int .i64 1, .float .f64 0] 50)).alloc (.cells #[.int .i64 2, .bool false, .slice none 0 0, .int .i64 1, .float .f64 0] 50)) 50 #[.int .i64 0, .bool false, .slice none 0 0, .int .i64 0, .float .f64 0]
  simp only [World.size_alloc] at B1 B2
  have F0 : Hid (Frame [] w (((w.alloc (.cells #[.int .i64 2, .bool false, .slice none 0 0, .int .i64 1, .float .f64 0] 50)).alloc (.cells #[.int .i64 2, .bool false, .slice none 0 0, .int .i64 1, .float .f64 0] 50)).alloc (.cells #[.int .i64 0, .bool false, .slice none 0 0, .int .i64 0, .float .f64 0] 50))) := by show Frame [] w _; (repeat first | assumption | exact Frame.refl _ _ | refine Frame.trans1 ?_ (Frame.alloc _ _ _) | refine Frame.trans1 ?_ (Frame.drew _ _) | refine Frame.trans1 ?_ (Frame.drewN _ _ _))
  unfold vB at *
  go_enter Tryz.func78, Tryz.ntmps78
  go_wp2_with fail
  generalize (((w.alloc (.cells #[.int .i64 2, .bool false, .slice none 0 0, .int .i64 1, .float .f64 0] 50)).alloc (.cells #[.int .i64 2, .bool false, .slice none 0 0, .int .i64 1, .float .f64 0] 50)).alloc (.cells #[.int .i64 0, .bool false, .slice none 0 0, .int .i64 0, .float .f64 0] 50)) = w0 at *
  refine (BO.out _).mono ?_
  rintro e w1 ⟨rfl, f1⟩
  have C0 := B0.frame f1 (by simp)
  have C1 := B1.frame f1 (by simp)
  have C2 := Lib.hid (B2.frame f1 (by simp))
  have F1 := Lib.hid (F0.out.trans1 f1)
  have x00 := C0.at 0 rfl
  have x03 := C0.at 3 rfl
  have x13 := C1.at 3 rfl
  have xa0 := (C0.alloc (.cells #[.int .i64 2, .bool false, .slice none 0 0, .int .i64 0, .float .f64 0] 50)).at 0 rfl
  have xa3 := (C0.alloc (.cells #[.int .i64 2, .bool false, .slice none 0 0, .int .i64 0, .float .f64 0] 50)).at 3 rfl
  have xb3 := (C1.alloc (.cells #[.int .i64 2, .bool false, .slice none 0 0, .int .i64 0, .float .f64 0] 50)).at 3 rfl
  clear B0 B1 B2 C0 C1 f1 F0 BO
  go_upto_region 15 with fail
  have hlt := C2.out.lt
  have D2 := C2.out.alloc (.cells #[.int .i64 2, .bool false, .slice none 0 0, .int .i64 1, .float .f64 0] 50)
  have E2 := Blk.new w1 50 #[.int .i64 2, .bool false, .slice none 0 0, .int .i64 1, .float .f64 0]
  have F2 := Lib.hid (F1.out.trans1 (Frame.alloc [] w1 (.cells #[.int .i64 2, .bool false, .slice none 0 0, .int .i64 1, .float .f64 0] 50)))
  clear x00 x03 x13 xa0 xa3 xb3
  generalize w1.alloc (.cells #[.int .i64 2, .bool false, .slice none 0 0, .int .i64 1, .float .f64 0] 50) = w2 at *
  generalize w1.heap.size = q1 at *
  have e0 := E2.at 0 rfl
  have e1 := E2.at 1 rfl
  have e2 := E2.at 2 rfl
  have e3 := E2.at 3 rfl
  have e4 := E2.at 4 rfl
  have y0 := D2.at 0 rfl
  have y1 := D2.at 1 rfl
  have y2 := D2.at 2 rfl
  have y3 := D2.at 3 rfl
  have y4 := D2.at 4 rfl
  have z0 := D2.frozen
  have B5 := Lib.hid (putV D2 (.int .i64 2) (.bool false) (.slice none 0 0) (.int .i64 1) (.float .f64 0))
  have F5 := Lib.hid (putV_frame (w := w) (b := w.heap.size + 1 + 1) (by omega) F2.out (.int .i64 2) (.bool false) (.slice none 0 0) (.int .i64 1) (.float .f64 0))
  clear D2 F2 E2 hlt C2
  go_wp2_with fail
  refine bodyPost_ret (results_val2 rfl _ _ _ _ _ _ _ _ rfl B5.out) rfl ?_
  exact ⟨rfl, F5.out⟩
end Go.Proofs.YtoidafgeckhkcaaGreat

