/- Count at 0, 1 and infinity: semi's functions. (printed by gen_count2.py) Count at 0, 1 and infinity: Star; a semiring's functions. -/
import Derived.Test.YtbnhhmejlglbcaaMg10
import Derived.Test.YtbnhhmejlglbcaaMg22
namespace Go.Proofs.Ytbnhhmejlglbcaa
open Go.RowKit
set_option linter.unusedSimpArgs false
set_option linter.unusedVariables false

set_option maxRecDepth 100000 in
theorem may_c0 (w : World) : Calls Try.prog 41 #[.agg #[.int .i64 1, .bool false, .slice none 0 0, .int .i64 0, .float .f64 0]] w fun e w' => e = .returned (.int .i64 0) ∧ Frame [] w w' := by
  have B0 := Blk.new w 39 #[.int .i64 1, .bool false, .slice none 0 0, .int .i64 0, .float .f64 0]
  have F0 := Lib.hid (Frame.alloc [] w (.cells #[.int .i64 1, .bool false, .slice none 0 0, .int .i64 0, .float .f64 0] 39))
  go_enter Try.func41, Try.ntmps41
  go_wp2_with fail
  generalize (w.alloc (.cells #[.int .i64 1, .bool false, .slice none 0 0, .int .i64 0, .float .f64 0] 39)) = w1 at *
  have x0 := B0.at 0 rfl
  have x1 := B0.at 1 rfl
  have x2 := B0.at 2 rfl
  clear B0
  refine (known_cnt _).mono ?_
  rintro e wa ⟨rfl, rfl⟩
  go_wp2_with fail
  refine (isNat_cnt _).mono ?_
  rintro e wb ⟨rfl, rfl⟩
  go_wp2_with fail
  refine (nmay_nil _).mono ?_
  rintro e wc ⟨rfl, fc⟩
  go_wp2_with fail
  go_ret
  exact ⟨rfl, F0.out.trans1 fc⟩
set_option maxRecDepth 100000 in
theorem may_c1 (b : Nat) (w : World) (hb : Blk w b 77 #[.int .u32 1, .int .u32 0]) : Calls Try.prog 41 #[.agg #[.int .i64 1, .bool false, .slice (some ⟨b, 0, none⟩) 1 2, .int .i64 0, .float .f64 0]] w fun e w' => e = .returned (.int .i64 0) ∧ Frame [] w w' := by
  have HB := Lib.hid hb
  clear hb
  have B0 := Blk.new w 39 #[.int .i64 1, .bool false, .slice (some ⟨b, 0, none⟩) 1 2, .int .i64 0, .float .f64 0]
  have F0 := Lib.hid (Frame.alloc [] w (.cells #[.int .i64 1, .bool false, .slice (some ⟨b, 0, none⟩) 1 2, .int .i64 0, .float .f64 0] 39))
  go_enter Try.func41, Try.ntmps41
  go_wp2_with fail
  generalize (w.alloc (.cells #[.int .i64 1, .bool false, .slice (some ⟨b, 0, none⟩) 1 2, .int .i64 0, .float .f64 0] 39)) = w1 at *
  have x0 := B0.at 0 rfl
  have x1 := B0.at 1 rfl
  have x2 := B0.at 2 rfl
  clear B0
  refine (known_cnt _).mono ?_
  rintro e wa ⟨rfl, rfl⟩
  go_wp2_with fail
  refine (isNat_cnt _).mono ?_
  rintro e wb ⟨rfl, rfl⟩
  go_wp2_with fail
  refine (nmay_one b _ (HB.out.frame F0.out (by simp))).mono ?_
  rintro e wc ⟨rfl, fc⟩
  go_wp2_with fail
  go_ret
  exact ⟨rfl, F0.out.trans1 fc⟩
theorem least_cnt (w : World) : Calls Try.prog 40 #[.int .i64 1] w fun e w' => e = .returned (.agg #[.int .i64 1, .bool false, .slice none 0 0, .int .i64 0, .float .f64 0]) ∧ Frame [] w w' := by
  have hst := fun (w : World) (a : Addr) (q : Nat) (m : Mode) => run_store Try.prog w a (.float .f64 q) m rfl
  go_enter Try.func40, Try.ntmps40
  go_wp2_with fail
  refine bodyPost_ret (results_val1 rfl _ _ _ _ _ _ _ _ rfl (Blk.new w 39 _)) rfl ?_
  exact ⟨rfl, Frame.alloc _ _ _⟩
def WholeC (w : World) (e : Ending) (w' : World) : Prop := ∃ b, e = .returned (.agg #[.int .i64 1, .bool false, .slice (some ⟨b, 0, none⟩) 1 2, .int .i64 0, .float .f64 0]) ∧ Blk w' b 77 #[.int .u32 1, .int .u32 0] ∧ Frame [] w w'
set_option maxRecDepth 100000 in
theorem whole_cnt (w : World) : Calls Try.prog 64 #[.int .i64 1] w (WholeC w) := by
  have hst := fun (w : World) (a : Addr) (q : Nat) (m : Mode) => run_store Try.prog w a (.float .f64 q) m rfl
  go_enter Try.func64, Try.ntmps64
  have B0 := Blk.new w 39 #[.int .i64 0, .bool false, .slice none 0 0, .int .i64 0, .float .f64 0]
  have F0 := Lib.hid (Frame.alloc [] w (.cells #[.int .i64 0, .bool false, .slice none 0 0, .int .i64 0, .float .f64 0] 39))
  go_wp2_with fail
  generalize (w.alloc (.cells #[.int .i64 0, .bool false, .slice none 0 0, .int .i64 0, .float .f64 0] 39)) = w1 at *
  refine (natOf_one _).mono ?_
  rintro e w2 ⟨b, rfl, b2, f2⟩
  have B1 := Lib.hid (B0.frame f2 (by simp))
  have y0 := B1.out.at 0 rfl
  have y1 := B1.out.at 1 rfl
  have y2 := B1.out.at 2 rfl
  have y3 := B1.out.at 3 rfl
  have y4 := B1.out.at 4 rfl
  have z0 := B1.out.frozen
  have E2 := Lib.hid (And.intro b2 (F0.out.trans1 f2))
  have hbw : b ≠ w.heap.size := by rintro rfl; have h1 := B1.out; unfold Blk at h1 b2; rw [b2] at h1; simp at h1
  have B5 := Lib.hid (putV B1.out (.int .i64 1) (.bool false) (.slice (some ⟨b, 0, none⟩) 1 2) (.int .i64 0) (.float .f64 0))
  have F5 := Lib.hid (putV_frame (w := w) (b := w.heap.size) (Nat.le_refl _) E2.out.2 (.int .i64 1) (.bool false) (.slice (some ⟨b, 0, none⟩) 1 2) (.int .i64 0) (.float .f64 0))
  have G5 : Hid (Blk (((((w2.setCell ⟨w.heap.size, 0, none⟩ (.int .i64 1)).setCell ⟨w.heap.size, 1, none⟩ (.bool false)).setCell ⟨w.heap.size, 2, none⟩ (.slice (some ⟨b, 0, none⟩) 1 2)).setCell ⟨w.heap.size, 3, none⟩ (.int .i64 0)).setCell ⟨w.heap.size, 4, none⟩ (.float .f64 0)) b 77 #[.int .u32 1, .int .u32 0]) := ((((E2.out.1.set_ne _ hbw).set_ne _ hbw).set_ne _ hbw).set_ne _ hbw).set_ne _ hbw
  clear b2 f2 B0
  go_wp2_with fail
  refine bodyPost_ret (results_val1 rfl _ _ _ _ _ _ _ _ rfl B5.out) rfl ?_
  exact ⟨b, rfl, G5.out, F5.out⟩
set_option maxRecDepth 100000 in
theorem semZero_cnt (w : World) : Calls Try.prog 24 #[.int .i64 1] w fun e w' => e = .returned (.tuple #[.agg #[.int .i64 1, .bool false, .slice none 0 0, .int .i64 0, .float .f64 0], .int .i64 0]) ∧ Frame [] w w' := by
  have hst := fun (w : World) (a : Addr) (q : Nat) (m : Mode) => run_store Try.prog w a (.float .f64 q) m rfl
  go_enter Try.func24, Try.ntmps24
  go_wp2_with fail
  refine (known_cnt _).mono ?_
  rintro e w1 ⟨rfl, rfl⟩
  go_wp2_with fail
  refine (least_cnt _).mono ?_
  rintro e w1 ⟨rfl, f1⟩
  have BX := (Blk.new w 39 #[.int .i64 0, .bool false, .slice none 0 0, .int .i64 0, .float .f64 0]).frame f1 (by simp)
  have F1 := Lib.hid ((Frame.alloc [] w (.cells #[.int .i64 0, .bool false, .slice none 0 0, .int .i64 0, .float .f64 0] 39)).trans1 f1)
  have x0 := BX.at 0 rfl
  have x1 := BX.at 1 rfl
  have x2 := BX.at 2 rfl
  have x3 := BX.at 3 rfl
  have x4 := BX.at 4 rfl
  have z0 := BX.frozen
  have B5 := Lib.hid (putV BX (.int .i64 1) (.bool false) (.slice none 0 0) (.int .i64 0) (.float .f64 0))
  have F5 := Lib.hid (putV_frame (w := w) (b := w.heap.size) (Nat.le_refl _) F1.out (.int .i64 1) (.bool false) (.slice none 0 0) (.int .i64 0) (.float .f64 0))
  clear BX f1 F1
  go_wp2_with fail
  refine bodyPost_ret (results_val2 rfl _ _ _ _ _ _ _ _ rfl B5.out) rfl ?_
  exact ⟨rfl, F5.out⟩
def OneC (w : World) (e : Ending) (w' : World) : Prop := ∃ b, e = .returned (.tuple #[.agg #[.int .i64 1, .bool false, .slice (some ⟨b, 0, none⟩) 1 2, .int .i64 0, .float .f64 0], .int .i64 0]) ∧ Blk w' b 77 #[.int .u32 1, .int .u32 0] ∧ Frame [] w w'
set_option maxRecDepth 100000 in
theorem semOne_cnt (w : World) : Calls Try.prog 42 #[.int .i64 1] w (OneC w) := by
  have hst := fun (w : World) (a : Addr) (q : Nat) (m : Mode) => run_store Try.prog w a (.float .f64 q) m rfl
  go_enter Try.func42, Try.ntmps42
  go_wp2_with fail
  refine (known_cnt _).mono ?_
  rintro e w1 ⟨rfl, rfl⟩
  go_wp2_with fail
  refine (whole_cnt _).mono ?_
  rintro e w2 ⟨b2, rfl, k2, f2⟩
  have B1 := Lib.hid ((Blk.new w 39 #[.int .i64 0, .bool false, .slice none 0 0, .int .i64 0, .float .f64 0]).frame f2 (by simp))
  have E2 := Lib.hid (And.intro k2 ((Frame.alloc [] w (.cells #[.int .i64 0, .bool false, .slice none 0 0, .int .i64 0, .float .f64 0] 39)).trans1 f2))
  clear k2 f2
  have y0 := B1.out.at 0 rfl
  have y1 := B1.out.at 1 rfl
  have y2 := B1.out.at 2 rfl
  have y3 := B1.out.at 3 rfl
  have y4 := B1.out.at 4 rfl
  have z0 := B1.out.frozen
  have hbw : b2 ≠ w.heap.size := by rintro rfl; have h1 := B1.out; have h2 := E2.out.1; unfold Blk at h1 h2; rw [h2] at h1; simp at h1
  have B5 := Lib.hid (putV B1.out (.int .i64 1) (.bool false) (.slice (some ⟨b2, 0, none⟩) 1 2) (.int .i64 0) (.float .f64 0))
  have F5 := Lib.hid (putV_frame (w := w) (b := w.heap.size) (by omega) E2.out.2 (.int .i64 1) (.bool false) (.slice (some ⟨b2, 0, none⟩) 1 2) (.int .i64 0) (.float .f64 0))
  have G5 : Hid (Blk (((((w2.setCell ⟨w.heap.size, 0, none⟩ (.int .i64 1)).setCell ⟨w.heap.size, 1, none⟩ (.bool false)).setCell ⟨w.heap.size, 2, none⟩ (.slice (some ⟨b2, 0, none⟩) 1 2)).setCell ⟨w.heap.size, 3, none⟩ (.int .i64 0)).setCell ⟨w.heap.size, 4, none⟩ (.float .f64 0)) b2 77 #[.int .u32 1, .int .u32 0]) := ((((E2.out.1.set_ne _ hbw).set_ne _ hbw).set_ne _ hbw).set_ne _ hbw).set_ne _ hbw
  go_wp2_with fail
  refine bodyPost_ret (results_val2 rfl _ _ _ _ _ _ _ _ rfl B5.out) rfl ?_
  exact ⟨b2, rfl, G5.out, F5.out⟩
set_option maxRecDepth 100000 in
theorem both_c0 (w : World) : Calls Try.prog 67 #[.agg #[.int .i64 1, .bool false, .slice none 0 0, .int .i64 0, .float .f64 0], .agg #[.int .i64 1, .bool false, .slice none 0 0, .int .i64 0, .float .f64 0]] w fun e w' => e = .returned (.int .i64 0) ∧ Frame [] w w' := by
  have B0 := (Blk.new w 39 #[.int .i64 1, .bool false, .slice none 0 0, .int .i64 0, .float .f64 0]).alloc (.cells #[.int .i64 1, .bool false, .slice none 0 0, .int .i64 0, .float .f64 0] 39)
  have B1 := Blk.new (w.alloc (.cells #[.int .i64 1, .bool false, .slice none 0 0, .int .i64 0, .float .f64 0] 39)) 39 #[.int .i64 1, .bool false, .slice none 0 0, .int .i64 0, .float .f64 0]
  simp only [World.size_alloc] at B1
  have F0 : Hid (Frame [] w ((w.alloc (.cells #[.int .i64 1, .bool false, .slice none 0 0, .int .i64 0, .float .f64 0] 39)).alloc (.cells #[.int .i64 1, .bool false, .slice none 0 0, .int .i64 0, .float .f64 0] 39))) := by show Frame [] w _; (repeat first | assumption | exact Frame.refl _ _ | refine Frame.trans1 ?_ (Frame.alloc _ _ _) | refine Frame.trans1 ?_ (Frame.drew _ _) | refine Frame.trans1 ?_ (Frame.drewN _ _ _))
  go_enter Try.func67, Try.ntmps67
  go_wp2_with fail
  generalize ((w.alloc (.cells #[.int .i64 1, .bool false, .slice none 0 0, .int .i64 0, .float .f64 0] 39)).alloc (.cells #[.int .i64 1, .bool false, .slice none 0 0, .int .i64 0, .float .f64 0] 39)) = w1 at *
  refine (may_c0 _).mono ?_
  rintro e w2 ⟨rfl, f2⟩
  have C0 := B0.frame f2 (by simp)
  have C1 := B1.frame f2 (by simp)
  have x0 := C1.at 0 rfl
  have x1 := C1.at 1 rfl
  have x2 := C1.at 2 rfl
  have x3 := C1.at 3 rfl
  have x4 := C1.at 4 rfl
  have HC0 := Lib.hid C0
  have HC1 := Lib.hid C1
  have F2 := Lib.hid (F0.out.trans1 f2)
  clear B0 B1 C0 C1 f2
  go_wp2_with fail
  refine (may_c0 _).mono ?_
  rintro e w3 ⟨rfl, f3⟩
  have x0 := (HC1.out.frame f3 (by simp)).at 0 rfl
  have y0 := (HC0.out.frame f3 (by simp)).at 0 rfl
  have F3 := Lib.hid (F2.out.trans1 f3)
  clear f3
  go_wp2_with fail
  go_ret
  exact ⟨rfl, F3.out⟩
set_option maxRecDepth 100000 in
theorem nsame_c0 (w : World) : Calls Try.prog 98 #[.agg #[.bool false, .slice none 0 0], .agg #[.bool false, .slice none 0 0]] w fun e w' => e = .returned (.bool true) ∧ Frame [] w w' := by
  have F0 : Hid (Frame [] w ((w.alloc (.cells #[.bool false, .slice none 0 0] 36)).alloc (.cells #[.bool false, .slice none 0 0] 36))) := by show Frame [] w _; (repeat first | assumption | exact Frame.refl _ _ | refine Frame.trans1 ?_ (Frame.alloc _ _ _) | refine Frame.trans1 ?_ (Frame.drew _ _) | refine Frame.trans1 ?_ (Frame.drewN _ _ _))
  go_enter Try.func98, Try.ntmps98
  go_wp2_with fail
  refine (ncmp_zero _).mono ?_
  rintro e w2 ⟨rfl, f2⟩
  go_wp2_with fail
  go_ret
  exact ⟨rfl, F0.out.trans1 f2⟩
set_option maxRecDepth 100000 in
theorem same_c0 (w : World) : Calls Try.prog 91 #[.agg #[.int .i64 1, .bool false, .slice none 0 0, .int .i64 0, .float .f64 0], .agg #[.int .i64 1, .bool false, .slice none 0 0, .int .i64 0, .float .f64 0]] w fun e w' => e = .returned (.bool true) ∧ Frame [] w w' := by
  have B0 := (Blk.new w 39 #[.int .i64 1, .bool false, .slice none 0 0, .int .i64 0, .float .f64 0]).alloc (.cells #[.int .i64 1, .bool false, .slice none 0 0, .int .i64 0, .float .f64 0] 39)
  have B1 := Blk.new (w.alloc (.cells #[.int .i64 1, .bool false, .slice none 0 0, .int .i64 0, .float .f64 0] 39)) 39 #[.int .i64 1, .bool false, .slice none 0 0, .int .i64 0, .float .f64 0]
  simp only [World.size_alloc] at B1
  have F0 : Hid (Frame [] w ((w.alloc (.cells #[.int .i64 1, .bool false, .slice none 0 0, .int .i64 0, .float .f64 0] 39)).alloc (.cells #[.int .i64 1, .bool false, .slice none 0 0, .int .i64 0, .float .f64 0] 39))) := by show Frame [] w _; (repeat first | assumption | exact Frame.refl _ _ | refine Frame.trans1 ?_ (Frame.alloc _ _ _) | refine Frame.trans1 ?_ (Frame.drew _ _) | refine Frame.trans1 ?_ (Frame.drewN _ _ _))
  go_enter Try.func91, Try.ntmps91
  go_wp2_with fail
  generalize ((w.alloc (.cells #[.int .i64 1, .bool false, .slice none 0 0, .int .i64 0, .float .f64 0] 39)).alloc (.cells #[.int .i64 1, .bool false, .slice none 0 0, .int .i64 0, .float .f64 0] 39)) = w1 at *
  refine (both_c0 _).mono ?_
  rintro e w2 ⟨rfl, f2⟩
  have C0 := B0.frame f2 (by simp)
  have C1 := B1.frame f2 (by simp)
  have x0 := C0.at 0 rfl
  have x1 := C0.at 1 rfl
  have x2 := C0.at 2 rfl
  have y1 := C1.at 1 rfl
  have y2 := C1.at 2 rfl
  have F2 := Lib.hid (F0.out.trans1 f2)
  clear B0 B1 C0 C1 f2
  go_wp2_with fail
  refine (isNat_cnt _).mono ?_
  rintro e wa ⟨rfl, rfl⟩
  go_wp2_with fail
  refine (nsame_c0 _).mono ?_
  rintro e w3 ⟨rfl, f3⟩
  go_wp2_with fail
  go_ret
  exact ⟨rfl, F2.out.trans1 f3⟩
set_option maxRecDepth 100000 in
theorem isZero_c0 (w : World) : Calls Try.prog 74 #[.agg #[.int .i64 1, .bool false, .slice none 0 0, .int .i64 0, .float .f64 0]] w fun e w' => e = .returned (.bool true) ∧ Frame [] w w' := by
  have B0 := Blk.new w 39 #[.int .i64 1, .bool false, .slice none 0 0, .int .i64 0, .float .f64 0]
  have F0 := Lib.hid (Frame.alloc [] w (.cells #[.int .i64 1, .bool false, .slice none 0 0, .int .i64 0, .float .f64 0] 39))
  go_enter Try.func74, Try.ntmps74
  go_upto_region 1 with fail
  generalize (w.alloc (.cells #[.int .i64 1, .bool false, .slice none 0 0, .int .i64 0, .float .f64 0] 39)) = w1 at *
  have y0 := framed_cell (B0.at 0 rfl)
  have y1 := framed_cell (B0.at 1 rfl)
  have y2 := framed_cell (B0.at 2 rfl)
  have y3 := framed_cell (B0.at 3 rfl)
  have y4 := framed_cell (B0.at 4 rfl)
  clear B0
  refine wp_region_framed (by kernel_rfl) (by kernel_rfl) ?_
  repeat (go_big_quiet_step (first | (go_at_call 40; exact framed_of (least_cnt _)) | exact framed_of (same_c0 _)))
  refine wpQuiet_nil ?_
  intro w6 hw
  have f6 := framed_out hw
  clear hw
  go_wp2_with fail
  go_ret
  exact ⟨rfl, F0.out.trans1 f6⟩
set_option maxRecDepth 100000 in
theorem both_c1 (b : Nat) (w : World) (hb : Blk w b 77 #[.int .u32 1, .int .u32 0]) : Calls Try.prog 67 #[.agg #[.int .i64 1, .bool false, .slice (some ⟨b, 0, none⟩) 1 2, .int .i64 0, .float .f64 0], .agg #[.int .i64 1, .bool false, .slice none 0 0, .int .i64 0, .float .f64 0]] w fun e w' => e = .returned (.int .i64 0) ∧ Frame [] w w' := by
  have HB := Lib.hid hb
  clear hb
  have B0 := (Blk.new w 39 #[.int .i64 1, .bool false, .slice (some ⟨b, 0, none⟩) 1 2, .int .i64 0, .float .f64 0]).alloc (.cells #[.int .i64 1, .bool false, .slice none 0 0, .int .i64 0, .float .f64 0] 39)
  have B1 := Blk.new (w.alloc (.cells #[.int .i64 1, .bool false, .slice (some ⟨b, 0, none⟩) 1 2, .int .i64 0, .float .f64 0] 39)) 39 #[.int .i64 1, .bool false, .slice none 0 0, .int .i64 0, .float .f64 0]
  simp only [World.size_alloc] at B1
  have F0 : Hid (Frame [] w ((w.alloc (.cells #[.int .i64 1, .bool false, .slice (some ⟨b, 0, none⟩) 1 2, .int .i64 0, .float .f64 0] 39)).alloc (.cells #[.int .i64 1, .bool false, .slice none 0 0, .int .i64 0, .float .f64 0] 39))) := by show Frame [] w _; (repeat first | assumption | exact Frame.refl _ _ | refine Frame.trans1 ?_ (Frame.alloc _ _ _) | refine Frame.trans1 ?_ (Frame.drew _ _) | refine Frame.trans1 ?_ (Frame.drewN _ _ _))
  go_enter Try.func67, Try.ntmps67
  go_wp2_with fail
  generalize ((w.alloc (.cells #[.int .i64 1, .bool false, .slice (some ⟨b, 0, none⟩) 1 2, .int .i64 0, .float .f64 0] 39)).alloc (.cells #[.int .i64 1, .bool false, .slice none 0 0, .int .i64 0, .float .f64 0] 39)) = w1 at *
  refine (may_c1 b _ (HB.out.frame F0.out (by simp))).mono ?_
  rintro e w2 ⟨rfl, f2⟩
  have C0 := B0.frame f2 (by simp)
  have C1 := B1.frame f2 (by simp)
  have x0 := C1.at 0 rfl
  have x1 := C1.at 1 rfl
  have x2 := C1.at 2 rfl
  have x3 := C1.at 3 rfl
  have x4 := C1.at 4 rfl
  have HC0 := Lib.hid C0
  have HC1 := Lib.hid C1
  have F2 := Lib.hid (F0.out.trans1 f2)
  clear B0 B1 C0 C1 f2
  go_wp2_with fail
  refine (may_c0 _).mono ?_
  rintro e w3 ⟨rfl, f3⟩
  have x0 := (HC1.out.frame f3 (by simp)).at 0 rfl
  have y0 := (HC0.out.frame f3 (by simp)).at 0 rfl
  have F3 := Lib.hid (F2.out.trans1 f3)
  clear f3
  go_wp2_with fail
  go_ret
  exact ⟨rfl, F3.out⟩
set_option maxRecDepth 100000 in
theorem nsame_c1 (b : Nat) (w : World) (hb : Blk w b 77 #[.int .u32 1, .int .u32 0]) : Calls Try.prog 98 #[.agg #[.bool false, .slice (some ⟨b, 0, none⟩) 1 2], .agg #[.bool false, .slice none 0 0]] w fun e w' => e = .returned (.bool false) ∧ Frame [] w w' := by
  have HB := Lib.hid hb
  clear hb
  have F0 : Hid (Frame [] w ((w.alloc (.cells #[.bool false, .slice (some ⟨b, 0, none⟩) 1 2] 36)).alloc (.cells #[.bool false, .slice none 0 0] 36))) := by show Frame [] w _; (repeat first | assumption | exact Frame.refl _ _ | refine Frame.trans1 ?_ (Frame.alloc _ _ _) | refine Frame.trans1 ?_ (Frame.drew _ _) | refine Frame.trans1 ?_ (Frame.drewN _ _ _))
  go_enter Try.func98, Try.ntmps98
  go_wp2_with fail
  refine (ncmp_one b _ (HB.out.frame F0.out (by simp))).mono ?_
  rintro e w2 ⟨rfl, f2⟩
  go_wp2_with fail
  go_ret
  exact ⟨rfl, F0.out.trans1 f2⟩
set_option maxRecDepth 100000 in
theorem same_c1 (b : Nat) (w : World) (hb : Blk w b 77 #[.int .u32 1, .int .u32 0]) : Calls Try.prog 91 #[.agg #[.int .i64 1, .bool false, .slice (some ⟨b, 0, none⟩) 1 2, .int .i64 0, .float .f64 0], .agg #[.int .i64 1, .bool false, .slice none 0 0, .int .i64 0, .float .f64 0]] w fun e w' => e = .returned (.bool false) ∧ Frame [] w w' := by
  have HB := Lib.hid hb
  clear hb
  have B0 := (Blk.new w 39 #[.int .i64 1, .bool false, .slice (some ⟨b, 0, none⟩) 1 2, .int .i64 0, .float .f64 0]).alloc (.cells #[.int .i64 1, .bool false, .slice none 0 0, .int .i64 0, .float .f64 0] 39)
  have B1 := Blk.new (w.alloc (.cells #[.int .i64 1, .bool false, .slice (some ⟨b, 0, none⟩) 1 2, .int .i64 0, .float .f64 0] 39)) 39 #[.int .i64 1, .bool false, .slice none 0 0, .int .i64 0, .float .f64 0]
  simp only [World.size_alloc] at B1
  have F0 : Hid (Frame [] w ((w.alloc (.cells #[.int .i64 1, .bool false, .slice (some ⟨b, 0, none⟩) 1 2, .int .i64 0, .float .f64 0] 39)).alloc (.cells #[.int .i64 1, .bool false, .slice none 0 0, .int .i64 0, .float .f64 0] 39))) := by show Frame [] w _; (repeat first | assumption | exact Frame.refl _ _ | refine Frame.trans1 ?_ (Frame.alloc _ _ _) | refine Frame.trans1 ?_ (Frame.drew _ _) | refine Frame.trans1 ?_ (Frame.drewN _ _ _))
  go_enter Try.func91, Try.ntmps91
  go_wp2_with fail
  generalize ((w.alloc (.cells #[.int .i64 1, .bool false, .slice (some ⟨b, 0, none⟩) 1 2, .int .i64 0, .float .f64 0] 39)).alloc (.cells #[.int .i64 1, .bool false, .slice none 0 0, .int .i64 0, .float .f64 0] 39)) = w1 at *
  refine (both_c1 b _ (HB.out.frame F0.out (by simp))).mono ?_
  rintro e w2 ⟨rfl, f2⟩
  have C0 := B0.frame f2 (by simp)
  have C1 := B1.frame f2 (by simp)
  have x0 := C0.at 0 rfl
  have x1 := C0.at 1 rfl
  have x2 := C0.at 2 rfl
  have y1 := C1.at 1 rfl
  have y2 := C1.at 2 rfl
  have F2 := Lib.hid (F0.out.trans1 f2)
  clear B0 B1 C0 C1 f2
  go_wp2_with fail
  refine (isNat_cnt _).mono ?_
  rintro e wa ⟨rfl, rfl⟩
  go_wp2_with fail
  refine (nsame_c1 b _ (HB.out.frame F2.out (by simp))).mono ?_
  rintro e w3 ⟨rfl, f3⟩
  go_wp2_with fail
  go_ret
  exact ⟨rfl, F2.out.trans1 f3⟩
set_option maxRecDepth 100000 in
theorem isZero_c1 (b : Nat) (w : World) (hb : Blk w b 77 #[.int .u32 1, .int .u32 0]) : Calls Try.prog 74 #[.agg #[.int .i64 1, .bool false, .slice (some ⟨b, 0, none⟩) 1 2, .int .i64 0, .float .f64 0]] w fun e w' => e = .returned (.bool false) ∧ Frame [] w w' := by
  have HB := Lib.hid hb
  clear hb
  have B0 := Blk.new w 39 #[.int .i64 1, .bool false, .slice (some ⟨b, 0, none⟩) 1 2, .int .i64 0, .float .f64 0]
  have F0 := Lib.hid (Frame.alloc [] w (.cells #[.int .i64 1, .bool false, .slice (some ⟨b, 0, none⟩) 1 2, .int .i64 0, .float .f64 0] 39))
  go_enter Try.func74, Try.ntmps74
  go_upto_region 1 with fail
  generalize (w.alloc (.cells #[.int .i64 1, .bool false, .slice (some ⟨b, 0, none⟩) 1 2, .int .i64 0, .float .f64 0] 39)) = w1 at *
  have y0 := framed_cell (B0.at 0 rfl)
  have y1 := framed_cell (B0.at 1 rfl)
  have y2 := framed_cell (B0.at 2 rfl)
  have y3 := framed_cell (B0.at 3 rfl)
  have y4 := framed_cell (B0.at 4 rfl)
  clear B0
  refine wp_region_framed (by kernel_rfl) (by kernel_rfl) ?_
  repeat (go_big_quiet_step (first | (go_at_call 40; exact framed_of (least_cnt _)) | exact framed_of (same_c1 b _ (HB.out.frame (F0.out.trans1 (FramedBy.h _)) (by simp)))))
  refine wpQuiet_nil ?_
  intro w6 hw
  have f6 := framed_out hw
  clear hw
  go_wp2_with fail
  go_ret
  exact ⟨rfl, F0.out.trans1 f6⟩
end Go.Proofs.Ytbnhhmejlglbcaa

namespace Go.Proofs.Ytbnhhmejlglbcaa
open Go.RowKit
set_option linter.unusedSimpArgs false
set_option linter.unusedVariables false

set_option maxRecDepth 100000 in
theorem star_c0 (w : World) : Calls Try.prog 47 #[.agg #[.int .i64 1, .bool false, .slice none 0 0, .int .i64 0, .float .f64 0]] w (OneC w) := by
  have hst := fun (w : World) (a : Addr) (q : Nat) (m : Mode) => run_store Try.prog w a (.float .f64 q) m rfl
  have hb0 := (Blk.new w 39 #[.int .i64 1, .bool false, .slice none 0 0, .int .i64 0, .float .f64 0]).alloc (.cells #[.int .i64 0, .bool false, .slice none 0 0, .int .i64 0, .float .f64 0] 39)
  have hb1 := Blk.new (w.alloc (.cells #[.int .i64 1, .bool false, .slice none 0 0, .int .i64 0, .float .f64 0] 39)) 39 #[.int .i64 0, .bool false, .slice none 0 0, .int .i64 0, .float .f64 0]
  simp only [World.size_alloc] at hb1
  have F0 : Hid (Frame [] w ((w.alloc (.cells #[.int .i64 1, .bool false, .slice none 0 0, .int .i64 0, .float .f64 0] 39)).alloc (.cells #[.int .i64 0, .bool false, .slice none 0 0, .int .i64 0, .float .f64 0] 39))) := by show Frame [] w _; (repeat first | assumption | exact Frame.refl _ _ | refine Frame.trans1 ?_ (Frame.alloc _ _ _) | refine Frame.trans1 ?_ (Frame.drew _ _) | refine Frame.trans1 ?_ (Frame.drewN _ _ _))
  have B0 := Lib.hid hb0
  have B1 := Lib.hid hb1
  clear hb0 hb1
  go_enter Try.func47, Try.ntmps47
  go_wp2_with fail
  generalize (w.alloc (.cells #[.int .i64 1, .bool false, .slice none 0 0, .int .i64 0, .float .f64 0] 39)).alloc (.cells #[.int .i64 0, .bool false, .slice none 0 0, .int .i64 0, .float .f64 0] 39) = w0 at *
  refine (may_c0 _).mono ?_
  rintro e w1 ⟨rfl, f1⟩
  have C0 := B0.out.frame f1 (by simp)
  have x0 := C0.at 0 rfl
  have x1 := C0.at 1 rfl
  have x2 := C0.at 2 rfl
  have x3 := C0.at 3 rfl
  have x4 := C0.at 4 rfl
  have HC0 := Lib.hid C0
  have C1 := Lib.hid (B1.out.frame f1 (by simp))
  have F1 := Lib.hid (F0.out.trans1 f1)
  clear f1 B0 B1 F0 C0
  go_wp2_with fail
  refine (isZero_c0 _).mono ?_
  rintro e wz ⟨rfl, fz⟩
  have x0 := (HC0.out.frame fz (by simp)).at 0 rfl
  have D1 := Lib.hid (C1.out.frame fz (by simp))
  have G1 := Lib.hid (F1.out.trans1 fz)
  clear fz C1 F1 HC0
  go_wp2_with fail
  refine (whole_cnt _).mono ?_
  rintro e w2 ⟨b2, rfl, k2, f2⟩
  have B1 := Lib.hid (D1.out.frame f2 (by simp))
  have E2 := Lib.hid (And.intro k2 (G1.out.trans1 f2))
  clear k2 f2 D1 G1 x0
  have y0 := B1.out.at 0 rfl
  have y1 := B1.out.at 1 rfl
  have y2 := B1.out.at 2 rfl
  have y3 := B1.out.at 3 rfl
  have y4 := B1.out.at 4 rfl
  have z0 := B1.out.frozen
  have hbw : b2 ≠ w.heap.size + 1 := by rintro rfl; have h1 := B1.out; have h2 := E2.out.1; unfold Blk at h1 h2; rw [h2] at h1; simp at h1
  have B5 := Lib.hid (putV B1.out (.int .i64 1) (.bool false) (.slice (some ⟨b2, 0, none⟩) 1 2) (.int .i64 0) (.float .f64 0))
  have F5 := Lib.hid (putV_frame (w := w) (b := w.heap.size + 1) (by omega) E2.out.2 (.int .i64 1) (.bool false) (.slice (some ⟨b2, 0, none⟩) 1 2) (.int .i64 0) (.float .f64 0))
  have G5 : Hid (Blk (((((w2.setCell ⟨w.heap.size + 1, 0, none⟩ (.int .i64 1)).setCell ⟨w.heap.size + 1, 1, none⟩ (.bool false)).setCell ⟨w.heap.size + 1, 2, none⟩ (.slice (some ⟨b2, 0, none⟩) 1 2)).setCell ⟨w.heap.size + 1, 3, none⟩ (.int .i64 0)).setCell ⟨w.heap.size + 1, 4, none⟩ (.float .f64 0)) b2 77 #[.int .u32 1, .int .u32 0]) := ((((E2.out.1.set_ne _ hbw).set_ne _ hbw).set_ne _ hbw).set_ne _ hbw).set_ne _ hbw
  go_wp2_with fail
  refine bodyPost_ret (results_val2 rfl _ _ _ _ _ _ _ _ rfl B5.out) rfl ?_
  exact ⟨b2, rfl, G5.out, F5.out⟩
set_option maxRecDepth 100000 in
theorem star_c1 (b : Nat) (w : World) (hb : Blk w b 77 #[.int .u32 1, .int .u32 0]) : Calls Try.prog 47 #[.agg #[.int .i64 1, .bool false, .slice (some ⟨b, 0, none⟩) 1 2, .int .i64 0, .float .f64 0]] w fun e w' => e = .returned (.tuple #[.agg #[.int .i64 1, .bool true, .slice none 0 0, .int .i64 0, .float .f64 0], .int .i64 0]) ∧ Frame [] w w' := by
  have hst := fun (w : World) (a : Addr) (q : Nat) (m : Mode) => run_store Try.prog w a (.float .f64 q) m rfl
  have HB := Lib.hid hb
  clear hb
  have hb0 := (Blk.new w 39 #[.int .i64 1, .bool false, .slice (some ⟨b, 0, none⟩) 1 2, .int .i64 0, .float .f64 0]).alloc (.cells #[.int .i64 0, .bool false, .slice none 0 0, .int .i64 0, .float .f64 0] 39)
  have hb1 := Blk.new (w.alloc (.cells #[.int .i64 1, .bool false, .slice (some ⟨b, 0, none⟩) 1 2, .int .i64 0, .float .f64 0] 39)) 39 #[.int .i64 0, .bool false, .slice none 0 0, .int .i64 0, .float .f64 0]
  simp only [World.size_alloc] at hb1
  have F0 : Hid (Frame [] w ((w.alloc (.cells #[.int .i64 1, .bool false, .slice (some ⟨b, 0, none⟩) 1 2, .int .i64 0, .float .f64 0] 39)).alloc (.cells #[.int .i64 0, .bool false, .slice none 0 0, .int .i64 0, .float .f64 0] 39))) := by show Frame [] w _; (repeat first | assumption | exact Frame.refl _ _ | refine Frame.trans1 ?_ (Frame.alloc _ _ _) | refine Frame.trans1 ?_ (Frame.drew _ _) | refine Frame.trans1 ?_ (Frame.drewN _ _ _))
  have B0 := Lib.hid hb0
  have B1 := Lib.hid hb1
  clear hb0 hb1
  go_enter Try.func47, Try.ntmps47
  go_wp2_with fail
  generalize (w.alloc (.cells #[.int .i64 1, .bool false, .slice (some ⟨b, 0, none⟩) 1 2, .int .i64 0, .float .f64 0] 39)).alloc (.cells #[.int .i64 0, .bool false, .slice none 0 0, .int .i64 0, .float .f64 0] 39) = w0 at *
  refine (may_c1 b _ (HB.out.frame F0.out (by simp))).mono ?_
  rintro e w1 ⟨rfl, f1⟩
  have C0 := B0.out.frame f1 (by simp)
  have x0 := C0.at 0 rfl
  have x1 := C0.at 1 rfl
  have x2 := C0.at 2 rfl
  have x3 := C0.at 3 rfl
  have x4 := C0.at 4 rfl
  have HC0 := Lib.hid C0
  have C1 := Lib.hid (B1.out.frame f1 (by simp))
  have F1 := Lib.hid (F0.out.trans1 f1)
  clear f1 B0 B1 F0 C0
  go_wp2_with fail
  refine (isZero_c1 b _ (HB.out.frame F1.out (by simp))).mono ?_
  rintro e wz ⟨rfl, fz⟩
  have D0 := HC0.out.frame fz (by simp)
  have D1 := C1.out.frame fz (by simp)
  have G1 := Lib.hid (F1.out.trans1 fz)
  have M0 : ∀ w', Frame [w.heap.size + 1] wz w' → w'.cell? ⟨w.heap.size, 0, none⟩ = some (.int .i64 1) := fun w' q => (D0.frame q (by simp)).at 0 rfl
  have HD1 := Lib.hid D1
  clear fz C1 F1 HC0 x0 x1 x2 x3 x4 D0 D1
  go_upto_region 5 with fail
  refine wp_region_held_drew (S := fun w' => Frame [w.heap.size + 1] wz w') (by kernel_rfl) (Frame.drew _ _) ?_
  intro hS
  refine wpAnyH_take (i := 0) (oi := ⟨some 19, _, _, _, _, _⟩) (v := ?_) rfl (by kernel_rfl) (by kernel_rfl) (by kernel_rfl) (fun _ _ _ h => h) (Or.inl ⟨by rfl, ?_⟩) hS ?_
  rotate_left
  · intro w hSw
    go_simp <;> with_reducible rfl
  try simp only [Act.put, List.setIfInBounds_toArray, List.set_cons_zero, List.set_cons_succ]
  refine wpAnyH_take (i := 1) (oi := ⟨some 20, _, _, _, _, _⟩) (v := ?_) rfl (by kernel_rfl) (by kernel_rfl) (by kernel_rfl) (fun _ _ _ h => h) (Or.inl ⟨by rfl, ?_⟩) hS ?_
  rotate_left
  · intro w hSw
    have hm0 := M0 w hSw
    go_simp <;> with_reducible rfl
  try simp only [Act.put, List.setIfInBounds_toArray, List.set_cons_zero, List.set_cons_succ]
  refine wpAnyH_ready (rs := [2]) (by kernel_rfl) (by simp) ?_
  refine AllReadyH.cons (o := ⟨some 21, _, _, _, _, _⟩) rfl (fun K hK => ?_) AllReadyH.nil
  go_simp
  refine (natInf_any _).mono ?_
  rintro e w3 ⟨rfl, f3⟩
  have f3w : Frame [] wz w3 := (show Frame [] wz _ from by (repeat first | assumption | exact Frame.refl _ _ | refine Frame.trans1 ?_ (Frame.alloc _ _ _) | refine Frame.trans1 ?_ (Frame.drew _ _) | refine Frame.trans1 ?_ (Frame.drewN _ _ _))).trans1 f3
  have F3 := Lib.hid f3w
  refine hK.out _ _ (f3w.mono (by simp)) (fun hS => ?_)
  clear hK K f3 f3w
  try simp only [Act.put, List.setIfInBounds_toArray, List.set_cons_zero, List.set_cons_succ]
  refine wpAnyH_take (i := 3) (oi := ⟨some 22, _, _, _, _, _⟩) (v := ?_) rfl (by kernel_rfl) (by kernel_rfl) (by kernel_rfl) (fun _ _ _ h => h) (Or.inl ⟨by rfl, ?_⟩) hS ?_
  rotate_left
  · intro w hSw
    go_simp <;> with_reducible rfl
  try simp only [Act.put, List.setIfInBounds_toArray, List.set_cons_zero, List.set_cons_succ]
  have B1 := Lib.hid (HD1.out.frame F3.out (by simp))
  have y0 := B1.out.at 0 rfl
  have y1 := B1.out.at 1 rfl
  have y2 := B1.out.at 2 rfl
  have y3 := B1.out.at 3 rfl
  have y4 := B1.out.at 4 rfl
  have z0 := B1.out.frozen
  have B5 := Lib.hid (putV B1.out (.int .i64 1) (.bool true) (.slice none 0 0) (.int .i64 0) (.float .f64 0))
  have F5 := Lib.hid (putV_frame (w := w) (b := w.heap.size + 1) (by omega) (G1.out.trans1 F3.out) (.int .i64 1) (.bool true) (.slice none 0 0) (.int .i64 0) (.float .f64 0))
  have H5 : Hid (Frame [w.heap.size + 1] wz (((((w3.setCell ⟨w.heap.size + 1, 0, none⟩ (.int .i64 1)).setCell ⟨w.heap.size + 1, 1, none⟩ (.bool true)).setCell ⟨w.heap.size + 1, 2, none⟩ (.slice none 0 0)).setCell ⟨w.heap.size + 1, 3, none⟩ (.int .i64 0)).setCell ⟨w.heap.size + 1, 4, none⟩ (.float .f64 0))) := by
    show Frame _ _ _
    have st : ∀ {x : World} (f : Frame [w.heap.size + 1] wz x) (i : Nat) (v : Value), Frame [w.heap.size + 1] wz (x.setCell ⟨w.heap.size + 1, i, none⟩ v) := fun f i v => f.trans1 (Frame.setCell (S := [w.heap.size + 1]) _ _ _ (by simp))
    exact st (st (st (st (st hS 0 _) 1 _) 2 _) 3 _) 4 _
  refine wpAnyH_ready (rs := [4]) (by kernel_rfl) (by simp) ?_
  refine AllReadyH.cons (o := ⟨none, _, _, _, _, _⟩) rfl (fun K hK => ?_) AllReadyH.nil
  go_simp
  refine hK.out _ _ H5.out (fun hS => ?_)
  clear hK K y0 y1 y2 y3 y4 z0
  try simp only [Act.put, List.setIfInBounds_toArray, List.set_cons_zero, List.set_cons_succ]
  refine wpAnyH_ready (rs := [5]) (by kernel_rfl) (by simp) ?_
  refine AllReadyH.cons (o := ⟨some 3, _, _, _, _, _⟩) rfl (fun K hK => ?_) AllReadyH.nil
  go_simp
  refine hK.out _ _ H5.out (fun hS => ?_)
  clear hK K
  try simp only [Act.put, List.setIfInBounds_toArray, List.set_cons_zero, List.set_cons_succ]
  refine wpAnyH_done (by kernel_rfl) ?_ _
  go_wp2_with fail
  refine bodyPost_ret (results_val2 rfl _ _ _ _ _ _ _ _ rfl B5.out) rfl ?_
  exact ⟨rfl, F5.out⟩
/-- Count's values 0, 1, infinity. -/
inductive C3 where | zero | one | inf
  deriving DecidableEq
def rgC : Rg C3 := ⟨.zero, .one, fun x _ => x, fun x _ => x, fun x => match x with | .zero => .one | _ => .inf⟩
def IsC (w : World) (v : Value) (x : C3) : Prop := match x with
  | .zero => v = .agg #[.int .i64 1, .bool false, .slice none 0 0, .int .i64 0, .float .f64 0]
  | .one => ∃ b, v = .agg #[.int .i64 1, .bool false, .slice (some ⟨b, 0, none⟩) 1 2, .int .i64 0, .float .f64 0] ∧ Blk w b 77 #[.int .u32 1, .int .u32 0]
  | .inf => v = .agg #[.int .i64 1, .bool true, .slice none 0 0, .int .i64 0, .float .f64 0]
theorem semOk_cnt : SemOk 1 rgC IsC (fun _ _ => False) (fun _ _ => False) (fun x => x ≠ .inf) where
  form := fun {w v x} h => by
    cases x with
    | zero => exact ⟨false, none, 0, 0, 0, 0, h⟩
    | one => obtain ⟨b, h, _⟩ := h; exact ⟨false, some ⟨b, 0, none⟩, 1, 2, 0, 0, h⟩
    | inf => exact ⟨true, none, 0, 0, 0, 0, h⟩
  keep := fun w w' v x h k => by
    cases x with
    | zero => exact h
    | one =>
      obtain ⟨b, h1, h2⟩ := h
      exact ⟨b, h1, (k b _ _ h2).trans h2⟩
    | inf => exact h
  zero := fun w => (semZero_cnt w).mono fun e w' ⟨h1, h2⟩ => ⟨_, h1, rfl, h2⟩
  one := fun w => (semOne_cnt w).mono fun e w' ⟨b, h1, h2, h3⟩ => ⟨_, h1, ⟨b, rfl, h2⟩, h3⟩
  plus := fun _ _ _ _ _ _ _ h => h.elim
  times := fun _ _ _ _ _ _ _ h => h.elim
  star := fun w u x hu hx => by
    cases x with
    | zero =>
      have hu' : u = _ := hu
      subst hu'
      exact (star_c0 w).mono fun e w' ⟨b, h1, h2, h3⟩ => ⟨_, h1, ⟨b, rfl, h2⟩, h3⟩
    | one =>
      obtain ⟨b, h1, h2⟩ := hu
      subst h1
      exact (star_c1 b w h2).mono fun e w' ⟨h1, h2⟩ => ⟨_, h1, rfl, h2⟩
    | inf => exact absurd rfl hx
/-- eval.At, without weights. -/
theorem evAt_nil {V : Type} {n : Int} {R : Rg V} {Is : World → Value → V → Prop} {Pl Tm : V → V → Prop} {Sr : V → Prop} (hS : SemOk n R Is Pl Tm Sr)
    (pb : Nat) (root : Int) (x : V) (a : Option Addr) (m c : Nat) (w : World)
    (h : ∀ w', Frame [] w w' → Calls Try.prog 9 #[.pointer (some ⟨pb, 0, none⟩), .int .i64 root, .int .i64 n, .slice a m c, .slice none 0 0] w' fun e w'' => VEnd Is x w' e w'') :
    Calls Try.prog 8 #[.pointer (some ⟨pb, 0, none⟩), .int .i64 root, .int .i64 n, .slice a m c] w fun e w' => VEnd Is x w e w' := by
  have hst := fun (w : World) (a : Addr) (q : Nat) (m : Mode) => run_store Try.prog w a (.float .f64 q) m rfl
  have S := Lib.hid hS
  have H := Lib.hid h
  clear hS h
  go_enter Try.func8, Try.ntmps8
  have B0 := Lib.hid (Blk.new w 39 #[.int .i64 0, .bool false, .slice none 0 0, .int .i64 0, .float .f64 0])
  have F0 := Lib.hid (Frame.alloc [] w (.cells #[.int .i64 0, .bool false, .slice none 0 0, .int .i64 0, .float .f64 0] 39))
  go_wp2_with fail
  refine (H.out _ F0.out).mono ?_
  rintro e w1 ⟨u, rfl, is, f1⟩
  obtain ⟨ui, ua, ul, uc, uv, uf, rfl⟩ := S.out.form is
  have IS := Lib.hid is
  have B1 := Lib.hid (B0.out.frame f1 (by simp))
  have F1 := Lib.hid (F0.out.trans1 f1)
  have y0 := B1.out.at 0 rfl
  have y1 := B1.out.at 1 rfl
  have y2 := B1.out.at 2 rfl
  have y3 := B1.out.at 3 rfl
  have y4 := B1.out.at 4 rfl
  have z0 := B1.out.frozen
  clear is f1
  have hB9 := Lib.hid (putV B1.out (.int .i64 n) (.bool ui) (.slice ua ul uc) (.int .i64 uv) (.float .f64 uf))
  have hF9 := Lib.hid (putV_frame (w := w) (b := w.heap.size) (Nat.le_refl _) F1.out (.int .i64 n) (.bool ui) (.slice ua ul uc) (.int .i64 uv) (.float .f64 uf))
  have hG9 : Hid (Frame [w.heap.size] w1 (((((w1.setCell ⟨w.heap.size, 0, none⟩ (.int .i64 n)).setCell ⟨w.heap.size, 1, none⟩ (.bool ui)).setCell ⟨w.heap.size, 2, none⟩ (.slice ua ul uc)).setCell ⟨w.heap.size, 3, none⟩ (.int .i64 uv)).setCell ⟨w.heap.size, 4, none⟩ (.float .f64 uf))) := by
    show Frame _ _ _
    have st : ∀ {x : World} (f : Frame [w.heap.size] w1 x) (i : Nat) (v : Value), Frame [w.heap.size] w1 (x.setCell ⟨w.heap.size, i, none⟩ v) := fun f i v => f.trans1 (Frame.setCell (S := [w.heap.size]) _ _ _ (by simp))
    exact st (st (st (st (st (Frame.refl _ _) 0 _) 1 _) 2 _) 3 _) 4 _
  go_wp2_with fail
  refine bodyPost_ret (results_val2 rfl _ _ _ _ _ _ _ _ rfl hB9.out) rfl ?_
  exact ⟨_, rfl, S.out.keep _ _ _ _ IS.out (KeepD.blk hG9.out B1.out (by decide)), hF9.out⟩
end Go.Proofs.Ytbnhhmejlglbcaa

