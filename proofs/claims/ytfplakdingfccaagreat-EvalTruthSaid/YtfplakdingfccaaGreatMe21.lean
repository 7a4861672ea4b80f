/- Count at 0, 1 and infinity: semi's functions. (printed by gen_count2.py) -/
import Derived.Test.YtfplakdingfccaaGreatMe20
namespace Go.Proofs.YtfplakdingfccaaGreat
open Go.RowKit
set_option linter.unusedSimpArgs false
set_option linter.unusedVariables false

set_option maxRecDepth 100000 in
theorem may_c0 (w : World) : Calls Tryz.prog 91 #[.agg #[.int .i64 1, .bool false, .slice none 0 0, .int .i64 0, .float .f64 0]] w fun e w' => e = .returned (.int .i64 0) ∧ Frame [] w w' := by
  have B0 := Blk.new w 37 #[.int .i64 1, .bool false, .slice none 0 0, .int .i64 0, .float .f64 0]
  have F0 := Lib.hid (Frame.alloc [] w (.cells #[.int .i64 1, .bool false, .slice none 0 0, .int .i64 0, .float .f64 0] 37))
  go_enter Tryz.func91, Tryz.ntmps91
  go_wp2_with fail
  generalize (w.alloc (.cells #[.int .i64 1, .bool false, .slice none 0 0, .int .i64 0, .float .f64 0] 37)) = w1 at *
  have x0 := B0.at 0 rfl
  have x1 := B0.at 1 rfl
  have x2 := B0.at 2 rfl
  clear B0
  refine (known_cnt _).mono ?_
  rintro e wa ⟨rfl, rfl⟩
  go_wp2_with fail
  refine (isNat_cnt _).mono ?_
  rintro e wb ⟨rfl, rfl⟩
  go_wp2_with fail
  refine (nmay_nil _).mono ?_
  rintro e wc ⟨rfl, fc⟩
  go_wp2_with fail
  go_ret
  exact ⟨rfl, F0.out.trans1 fc⟩
set_option maxRecDepth 100000 in
theorem may_c1 (b : Nat) (w : World) (hb : Blk w b 107 #[.int .u32 1, .int .u32 0]) : Calls Tryz.prog 91 #[.agg #[.int .i64 1, .bool false, .slice (some ⟨b, 0, none⟩) 1 2, .int .i64 0, .float .f64 0]] w fun e w' => e = .returned (.int .i64 0) ∧ Frame [] w w' := by
  have HB := Lib.hid hb
  clear hb
  have B0 := Blk.new w 37 #[.int .i64 1, .bool false, .slice (some ⟨b, 0, none⟩) 1 2, .int .i64 0, .float .f64 0]
  have F0 := Lib.hid (Frame.alloc [] w (.cells #[.int .i64 1, .bool false, .slice (some ⟨b, 0, none⟩) 1 2, .int .i64 0, .float .f64 0] 37))
  go_enter Tryz.func91, Tryz.ntmps91
  go_wp2_with fail
  generalize (w.alloc (.cells #[.int .i64 1, .bool false, .slice (some ⟨b, 0, none⟩) 1 2, .int .i64 0, .float .f64 0] 37)) = w1 at *
  have x0 := B0.at 0 rfl
  have x1 := B0.at 1 rfl
  have x2 := B0.at 2 rfl
  clear B0
  refine (known_cnt _).mono ?_
  rintro e wa ⟨rfl, rfl⟩
  go_wp2_with fail
  refine (isNat_cnt _).mono ?_
  rintro e wb ⟨rfl, rfl⟩
  go_wp2_with fail
  refine (nmay_one b _ (HB.out.frame F0.out (by simp))).mono ?_
  rintro e wc ⟨rfl, fc⟩
  go_wp2_with fail
  go_ret
  exact ⟨rfl, F0.out.trans1 fc⟩
theorem least_cnt (w : World) : Calls Tryz.prog 90 #[.int .i64 1] w fun e w' => e = .returned (.agg #[.int .i64 1, .bool false, .slice none 0 0, .int .i64 0, .float .f64 0]) ∧ Frame [] w w' := by
  have hst := fun (w : World) (a : Addr) (q : Nat) (m : Mode) => run_store Tryz.prog w a (.float .f64 q) m rfl
  go_enter Tryz.func90, Tryz.ntmps90
  go_wp2_with fail
  refine bodyPost_ret (results_val1 rfl _ _ _ _ _ _ _ _ rfl (Blk.new w 37 _)) rfl ?_
  exact ⟨rfl, Frame.alloc _ _ _⟩
def WholeC (w : World) (e : Ending) (w' : World) : Prop := ∃ b, e = .returned (.agg #[.int .i64 1, .bool false, .slice (some ⟨b, 0, none⟩) 1 2, .int .i64 0, .float .f64 0]) ∧ Blk w' b 107 #[.int .u32 1, .int .u32 0] ∧ Frame [] w w'
set_option maxRecDepth 100000 in
theorem whole_cnt (w : World) : Calls Tryz.prog 128 #[.int .i64 1] w (WholeC w) := by
  have hst := fun (w : World) (a : Addr) (q : Nat) (m : Mode) => run_store Tryz.prog w a (.float .f64 q) m rfl
  go_enter Tryz.func128, Tryz.ntmps128
  have B0 := Blk.new w 37 #[.int .i64 0, .bool false, .slice none 0 0, .int .i64 0, .float .f64 0]
  have F0 := Lib.hid (Frame.alloc [] w (.cells #[.int .i64 0, .bool false, .slice none 0 0, .int .i64 0, .float .f64 0] 37))
  go_wp2_with fail
  generalize (w.alloc (.cells #[.int .i64 0, .bool false, .slice none 0 0, .int .i64 0, .float .f64 0] 37)) = w1 at *
  refine (natOf_one _).mono ?_
  rintro e w2 ⟨b, rfl, b2, f2⟩
  have B1 := Lib.hid (B0.frame f2 (by simp))
  have y0 := B1.out.at 0 rfl
  have y1 := B1.out.at 1 rfl
  have y2 := B1.out.at 2 rfl
  have y3 := B1.out.at 3 rfl
  have y4 := B1.out.at 4 rfl
  have z0 := B1.out.frozen
  have E2 := Lib.hid (And.intro b2 (F0.out.trans1 f2))
  have hbw : b ≠ w.heap.size := by rintro rfl; have h1 := B1.out; unfold Blk at h1 b2; rw [b2] at h1; simp at h1
  have B5 := Lib.hid (putV B1.out (.int .i64 1) (.bool false) (.slice (some ⟨b, 0, none⟩) 1 2) (.int .i64 0) (.float .f64 0))
  have F5 := Lib.hid (putV_frame (w := w) (b := w.heap.size) (Nat.le_refl _) E2.out.2 (.int .i64 1) (.bool false) (.slice (some ⟨b, 0, none⟩) 1 2) (.int .i64 0) (.float .f64 0))
  have G5 : Hid (Blk (((((w2.setCell ⟨w.heap.size, 0, none⟩ (.int .i64 1)).setCell ⟨w.heap.size, 1, none⟩ (.bool false)).setCell ⟨w.heap.size, 2, none⟩ (.slice (some ⟨b, 0, none⟩) 1 2)).setCell ⟨w.heap.size, 3, none⟩ (.int .i64 0)).setCell ⟨w.heap.size, 4, none⟩ (.float .f64 0)) b 107 #[.int .u32 1, .int .u32 0]) := ((((E2.out.1.set_ne _ hbw).set_ne _ hbw).set_ne _ hbw).set_ne _ hbw).set_ne _ hbw
  clear b2 f2 B0
  go_wp2_with fail
  refine bodyPost_ret (results_val1 rfl _ _ _ _ _ _ _ _ rfl B5.out) rfl ?_
  exact ⟨b, rfl, G5.out, F5.out⟩
set_option maxRecDepth 100000 in
theorem semZero_cnt (w : World) : Calls Tryz.prog 51 #[.int .i64 1] w fun e w' => e = .returned (.tuple #[.agg #[.int .i64 1, .bool false, .slice none 0 0, .int .i64 0, .float .f64 0], .int .i64 0]) ∧ Frame [] w w' := by
  have hst := fun (w : World) (a : Addr) (q : Nat) (m : Mode) => run_store Tryz.prog w a (.float .f64 q) m rfl
  go_enter Tryz.func51, Tryz.ntmps51
  go_wp2_with fail
  refine (known_cnt _).mono ?_
  rintro e w1 ⟨rfl, rfl⟩
  go_wp2_with fail
  refine (least_cnt _).mono ?_
  rintro e w1 ⟨rfl, f1⟩
  have BX := (Blk.new w 37 #[.int .i64 0, .bool false, .slice none 0 0, .int .i64 0, .float .f64 0]).frame f1 (by simp)
  have F1 := Lib.hid ((Frame.alloc [] w (.cells #[.int .i64 0, .bool false, .slice none 0 0, .int .i64 0, .float .f64 0] 37)).trans1 f1)
  have x0 := BX.at 0 rfl
  have x1 := BX.at 1 rfl
  have x2 := BX.at 2 rfl
  have x3 := BX.at 3 rfl
  have x4 := BX.at 4 rfl
  have z0 := BX.frozen
  have B5 := Lib.hid (putV BX (.int .i64 1) (.bool false) (.slice none 0 0) (.int .i64 0) (.float .f64 0))
  have F5 := Lib.hid (putV_frame (w := w) (b := w.heap.size) (Nat.le_refl _) F1.out (.int .i64 1) (.bool false) (.slice none 0 0) (.int .i64 0) (.float .f64 0))
  clear BX f1 F1
  go_wp2_with fail
  refine bodyPost_ret (results_val2 rfl _ _ _ _ _ _ _ _ rfl B5.out) rfl ?_
  exact ⟨rfl, F5.out⟩
def OneC (w : World) (e : Ending) (w' : World) : Prop := ∃ b, e = .returned (.tuple #[.agg #[.int .i64 1, .bool false, .slice (some ⟨b, 0, none⟩) 1 2, .int .i64 0, .float .f64 0], .int .i64 0]) ∧ Blk w' b 107 #[.int .u32 1, .int .u32 0] ∧ Frame [] w w'
set_option maxRecDepth 100000 in
theorem semOne_cnt (w : World) : Calls Tryz.prog 92 #[.int .i64 1] w (OneC w) := by
  have hst := fun (w : World) (a : Addr) (q : Nat) (m : Mode) => run_store Tryz.prog w a (.float .f64 q) m rfl
  go_enter Tryz.func92, Tryz.ntmps92
  go_wp2_with fail
  refine (known_cnt _).mono ?_
  rintro e w1 ⟨rfl, rfl⟩
  go_wp2_with fail
  refine (whole_cnt _).mono ?_
  rintro e w2 ⟨b2, rfl, k2, f2⟩
  have B1 := Lib.hid ((Blk.new w 37 #[.int .i64 0, .bool false, .slice none 0 0, .int .i64 0, .float .f64 0]).frame f2 (by simp))
  have E2 := Lib.hid (And.intro k2 ((Frame.alloc [] w (.cells #[.int .i64 0, .bool false, .slice none 0 0, .int .i64 0, .float .f64 0] 37)).trans1 f2))
  clear k2 f2
  have y0 := B1.out.at 0 rfl
  have y1 := B1.out.at 1 rfl
  have y2 := B1.out.at 2 rfl
  have y3 := B1.out.at 3 rfl
  have y4 := B1.out.at 4 rfl
  have z0 := B1.out.frozen
  have hbw : b2 ≠ w.heap.size := by rintro rfl; have h1 := B1.out; have h2 := E2.out.1; unfold Blk at h1 h2; rw [h2] at h1; simp at h1
  have B5 := Lib.hid (putV B1.out (.int .i64 1) (.bool false) (.slice (some ⟨b2, 0, none⟩) 1 2) (.int .i64 0) (.float .f64 0))
  have F5 := Lib.hid (putV_frame (w := w) (b := w.heap.size) (by omega) E2.out.2 (.int .i64 1) (.bool false) (.slice (some ⟨b2, 0, none⟩) 1 2) (.int .i64 0) (.float .f64 0))
  have G5 : Hid (Blk (((((w2.setCell ⟨w.heap.size, 0, none⟩ (.int .i64 1)).setCell ⟨w.heap.size, 1, none⟩ (.bool false)).setCell ⟨w.heap.size, 2, none⟩ (.slice (some ⟨b2, 0, none⟩) 1 2)).setCell ⟨w.heap.size, 3, none⟩ (.int .i64 0)).setCell ⟨w.heap.size, 4, none⟩ (.float .f64 0)) b2 107 #[.int .u32 1, .int .u32 0]) := ((((E2.out.1.set_ne _ hbw).set_ne _ hbw).set_ne _ hbw).set_ne _ hbw).set_ne _ hbw
  go_wp2_with fail
  refine bodyPost_ret (results_val2 rfl _ _ _ _ _ _ _ _ rfl B5.out) rfl ?_
  exact ⟨b2, rfl, G5.out, F5.out⟩
set_option maxRecDepth 100000 in
theorem both_c0 (w : World) : Calls Tryz.prog 97 #[.agg #[.int .i64 1, .bool false, .slice none 0 0, .int .i64 0, .float .f64 0], .agg #[.int .i64 1, .bool false, .slice none 0 0, .int .i64 0, .float .f64 0]] w fun e w' => e = .returned (.int .i64 0) ∧ Frame [] w w' := by
  have B0 := (Blk.new w 37 #[.int .i64 1, .bool false, .slice none 0 0, .int .i64 0, .float .f64 0]).alloc (.cells #[.int .i64 1, .bool false, .slice none 0 0, .int .i64 0, .float .f64 0] 37)
  have B1 := Blk.new (w.alloc (.cells #[.int .i64 1, .bool false, .slice none 0 0, .int .i64 0, .float .f64 0] 37)) 37 #[.int .i64 1, .bool false, .slice none 0 0, .int .i64 0, .float .f64 0]
  simp only [World.size_alloc] at B1
  have F0 : Hid (Frame [] w ((w.alloc (.cells #[.int .i64 1, .bool false, .slice none 0 0, .int .i64 0, .float .f64 0] 37)).alloc (.cells #[.int .i64 1, .bool false, .slice none 0 0, .int .i64 0, .float .f64 0] 37))) := by show Frame [] w _; (repeat first | assumption | exact Frame.refl _ _ | refine Frame.trans1 ?_ (Frame.alloc _ _ _) | refine Frame.trans1 ?_ (Frame.drew _ _) | refine Frame.trans1 ?_ (Frame.drewN _ _ _))
  go_enter Tryz.func97, Tryz.ntmps97
  go_wp2_with fail
  generalize ((w.alloc (.cells #[.int .i64 1, .bool false, .slice none 0 0, .int .i64 0, .float .f64 0] 37)).alloc (.cells #[.int .i64 1, .bool false, .slice none 0 0, .int .i64 0, .float .f64 0] 37)) = w1 at *
  refine (may_c0 _).mono ?_
  rintro e w2 ⟨rfl, f2⟩
  have C0 := B0.frame f2 (by simp)
  have C1 := B1.frame f2 (by simp)
  have x0 := C1.at 0 rfl
  have x1 := C1.at 1 rfl
  have x2 := C1.at 2 rfl
  have x3 := C1.at 3 rfl
  have x4 := C1.at 4 rfl
  have HC0 := Lib.hid C0
  have HC1 := Lib.hid C1
  have F2 := Lib.hid (F0.out.trans1 f2)
  clear B0 B1 C0 C1 f2
  go_wp2_with fail
  refine (may_c0 _).mono ?_
  rintro e w3 ⟨rfl, f3⟩
  have x0 := (HC1.out.frame f3 (by simp)).at 0 rfl
  have y0 := (HC0.out.frame f3 (by simp)).at 0 rfl
  have F3 := Lib.hid (F2.out.trans1 f3)
  clear f3
  go_wp2_with fail
  go_ret
  exact ⟨rfl, F3.out⟩
set_option maxRecDepth 100000 in
theorem nsame_c0 (w : World) : Calls Tryz.prog 177 #[.agg #[.bool false, .slice none 0 0], .agg #[.bool false, .slice none 0 0]] w fun e w' => e = .returned (.bool true) ∧ Frame [] w w' := by
  have F0 : Hid (Frame [] w ((w.alloc (.cells #[.bool false, .slice none 0 0] 34)).alloc (.cells #[.bool false, .slice none 0 0] 34))) := by show Frame [] w _; (repeat first | assumption | exact Frame.refl _ _ | refine Frame.trans1 ?_ (Frame.alloc _ _ _) | refine Frame.trans1 ?_ (Frame.drew _ _) | refine Frame.trans1 ?_ (Frame.drewN _ _ _))
  go_enter Tryz.func177, Tryz.ntmps177
  go_wp2_with fail
  refine (ncmp_zero _).mono ?_
  rintro e w2 ⟨rfl, f2⟩
  go_wp2_with fail
  go_ret
  exact ⟨rfl, F0.out.trans1 f2⟩
set_option maxRecDepth 100000 in
theorem same_c0 (w : World) : Calls Tryz.prog 153 #[.agg #[.int .i64 1, .bool false, .slice none 0 0, .int .i64 0, .float .f64 0], .agg #[.int .i64 1, .bool false, .slice none 0 0, .int .i64 0, .float .f64 0]] w fun e w' => e = .returned (.bool true) ∧ Frame [] w w' := by
  have B0 := (Blk.new w 37 #[.int .i64 1, .bool false, .slice none 0 0, .int .i64 0, .float .f64 0]).alloc (.cells #[.int .i64 1, .bool false, .slice none 0 0, .int .i64 0, .float .f64 0] 37)
  have B1 := Blk.new (w.alloc (.cells #[.int .i64 1, .bool false, .slice none 0 0, .int .i64 0, .float .f64 0] 37)) 37 #[.int .i64 1, .bool false, .slice none 0 0, .int .i64 0, .float .f64 0]
  simp only [World.size_alloc] at B1
  have F0 : Hid (Frame [] w ((w.alloc (.cells #[.int .i64 1, .bool false, .slice none 0 0, .int .i64 0, .float .f64 0] 37)).alloc (.cells #[.int .i64 1, .bool false, .slice none 0 0, .int .i64 0, .float .f64 0] 37))) := by show Frame [] w _; (repeat first | assumption | exact Frame.refl _ _ | refine Frame.trans1 ?_ (Frame.alloc _ _ _) | refine Frame.trans1 ?_ (Frame.drew _ _) | refine Frame.trans1 ?_ (Frame.drewN _ _ _))
  go_enter Tryz.func153, Tryz.ntmps153
  go_wp2_with fail
  generalize ((w.alloc (.cells #[.int .i64 1, .bool false, .slice none 0 0, .int .i64 0, .float .f64 0] 37)).alloc (.cells #[.int .i64 1, .bool false, .slice none 0 0, .int .i64 0, .float .f64 0] 37)) = w1 at *
  refine (both_c0 _).mono ?_
  rintro e w2 ⟨rfl, f2⟩
  have C0 := B0.frame f2 (by simp)
  have C1 := B1.frame f2 (by simp)
  have x0 := C0.at 0 rfl
  have x1 := C0.at 1 rfl
  have x2 := C0.at 2 rfl
  have y1 := C1.at 1 rfl
  have y2 := C1.at 2 rfl
  have F2 := Lib.hid (F0.out.trans1 f2)
  clear B0 B1 C0 C1 f2
  go_wp2_with fail
  refine (isNat_cnt _).mono ?_
  rintro e wa ⟨rfl, rfl⟩
  go_wp2_with fail
  refine (nsame_c0 _).mono ?_
  rintro e w3 ⟨rfl, f3⟩
  go_wp2_with fail
  go_ret
  exact ⟨rfl, F2.out.trans1 f3⟩
set_option maxRecDepth 100000 in
theorem isZero_c0 (w : World) : Calls Tryz.prog 131 #[.agg #[.int .i64 1, .bool false, .slice none 0 0, .int .i64 0, .float .f64 0]] w fun e w' => e = .returned (.bool true) ∧ Frame [] w w' := by
  have B0 := Blk.new w 37 #[.int .i64 1, .bool false, .slice none 0 0, .int .i64 0, .float .f64 0]
  have F0 := Lib.hid (Frame.alloc [] w (.cells #[.int .i64 1, .bool false, .slice none 0 0, .int .i64 0, .float .f64 0] 37))
  go_enter Tryz.func131, Tryz.ntmps131
  go_upto_region 1 with fail
  generalize (w.alloc (.cells #[.int .i64 1, .bool false, .slice none 0 0, .int .i64 0, .float .f64 0] 37)) = w1 at *
  have y0 := framed_cell (B0.at 0 rfl)
  have y1 := framed_cell (B0.at 1 rfl)
  have y2 := framed_cell (B0.at 2 rfl)
  have y3 := framed_cell (B0.at 3 rfl)
  have y4 := framed_cell (B0.at 4 rfl)
  clear B0
  refine wp_region_framed (by kernel_rfl) (by kernel_rfl) ?_
  repeat (go_big_quiet_step (first | (go_at_call 90; exact framed_of (least_cnt _)) | exact framed_of (same_c0 _)))
  refine wpQuiet_nil ?_
  intro w6 hw
  have f6 := framed_out hw
  clear hw
  go_wp2_with fail
  go_ret
  exact ⟨rfl, F0.out.trans1 f6⟩
set_option maxRecDepth 100000 in
theorem both_c1 (b : Nat) (w : World) (hb : Blk w b 107 #[.int .u32 1, .int .u32 0]) : Calls Tryz.prog 97 #[.agg #[.int .i64 1, .bool false, .slice (some ⟨b, 0, none⟩) 1 2, .int .i64 0, .float .f64 0], .agg #[.int .i64 1, .bool false, .slice none 0 0, .int .i64 0, .float .f64 0]] w fun e w' => e = .returned (.int .i64 0) ∧ Frame [] w w' := by
  have HB := Lib.hid hb
  clear hb
  have B0 := (Blk.new w 37 #[.int .i64 1, .bool false, .slice (some ⟨b, 0, none⟩) 1 2, .int .i64 0, .float .f64 0]).alloc (.cells #[.int .i64 1, .bool false, .slice none 0 0, .int .i64 0, .float .f64 0] 37)
  have B1 := Blk.new (w.alloc (.cells #[.int .i64 1, .bool false, .slice (some ⟨b, 0, none⟩) 1 2, .int .i64 0, .float .f64 0] 37)) 37 #[.int .i64 1, .bool false, .slice none 0 0, .int .i64 0, .float .f64 0]
  simp only [World.size_alloc] at B1
  have F0 : Hid (Frame [] w ((w.alloc (.cells #[.int .i64 1, .bool false, .slice (some ⟨b, 0, none⟩) 1 2, .int .i64 0, .float .f64 0] 37)).alloc (.cells #[.int .i64 1, .bool false, .slice none 0 0, .int .i64 0, .float .f64 0] 37))) := by show Frame [] w _; (repeat first | assumption | exact Frame.refl _ _ | refine Frame.trans1 ?_ (Frame.alloc _ _ _) | refine Frame.trans1 ?_ (Frame.drew _ _) | refine Frame.trans1 ?_ (Frame.drewN _ _ _))
  go_enter Tryz.func97, Tryz.ntmps97
  go_wp2_with fail
  generalize ((w.alloc (.cells #[.int .i64 1, .bool false, .slice (some ⟨b, 0, none⟩) 1 2, .int .i64 0, .float .f64 0] 37)).alloc (.cells #[.int .i64 1, .bool false, .slice none 0 0, .int .i64 0, .float .f64 0] 37)) = w1 at *
  refine (may_c1 b _ (HB.out.frame F0.out (by simp))).mono ?_
  rintro e w2 ⟨rfl, f2⟩
  have C0 := B0.frame f2 (by simp)
  have C1 := B1.frame f2 (by simp)
  have x0 := C1.at 0 rfl
  have x1 := C1.at 1 rfl
  have x2 := C1.at 2 rfl
  have x3 := C1.at 3 rfl
  have x4 := C1.at 4 rfl
  have HC0 := Lib.hid C0
  have HC1 := Lib.hid C1
  have F2 := Lib.hid (F0.out.trans1 f2)
  clear B0 B1 C0 C1 f2
  go_wp2_with fail
  refine (may_c0 _).mono ?_
  rintro e w3 ⟨rfl, f3⟩
  have x0 := (HC1.out.frame f3 (by simp)).at 0 rfl
  have y0 := (HC0.out.frame f3 (by simp)).at 0 rfl
  have F3 := Lib.hid (F2.out.trans1 f3)
  clear f3
  go_wp2_with fail
  go_ret
  exact ⟨rfl, F3.out⟩
set_option maxRecDepth 100000 in
theorem nsame_c1 (b : Nat) (w : World) (hb : Blk w b 107 #[.int .u32 1, .int .u32 0]) : Calls Tryz.prog 177 #[.agg #[.bool false, .slice (some ⟨b, 0, none⟩) 1 2], .agg #[.bool false, .slice none 0 0]] w fun e w' => e = .returned (.bool false) ∧ Frame [] w w' := by
  have HB := Lib.hid hb
  clear hb
  have F0 : Hid (Frame [] w ((w.alloc (.cells #[.bool false, .slice (some ⟨b, 0, none⟩) 1 2] 34)).alloc (.cells #[.bool false, .slice none 0 0] 34))) := by show Frame [] w _; (repeat first | assumption | exact Frame.refl _ _ | refine Frame.trans1 ?_ (Frame.alloc _ _ _) | refine Frame.trans1 ?_ (Frame.drew _ _) | refine Frame.trans1 ?_ (Frame.drewN _ _ _))
  go_enter Tryz.func177, Tryz.ntmps177
  go_wp2_with fail
  refine (ncmp_one b _ (HB.out.frame F0.out (by simp))).mono ?_
  rintro e w2 ⟨rfl, f2⟩
  go_wp2_with fail
  go_ret
  exact ⟨rfl, F0.out.trans1 f2⟩
set_option maxRecDepth 100000 in
theorem same_c1 (b : Nat) (w : World) (hb : Blk w b 107 #[.int .u32 1, .int .u32 0]) : Calls Tryz.prog 153 #[.agg #[.int .i64 1, .bool false, .slice (some ⟨b, 0, none⟩) 1 2, .int .i64 0, .float .f64 0], .agg #[.int .i64 1, .bool false, .slice none 0 0, .int .i64 0, .float .f64 0]] w fun e w' => e = .returned (.bool false) ∧ Frame [] w w' := by
  have HB := Lib.hid hb
  clear hb
  have B0 := (Blk.new w 37 #[.int .i64 1, .bool false, .slice (some ⟨b, 0, none⟩) 1 2, .int .i64 0, .float .f64 0]).alloc (.cells #[.int .i64 1, .bool false, .slice none 0 0, .int .i64 0, .float .f64 0] 37)
  have B1 := Blk.new (w.alloc (.cells #[.int .i64 1, .bool false, .slice (some ⟨b, 0, none⟩) 1 2, .int .i64 0, .float .f64 0] 37)) 37 #[.int .i64 1, .bool false, .slice none 0 0, .int .i64 0, .float .f64 0]
  simp only [World.size_alloc] at B1
  have F0 : Hid (Frame [] w ((w.alloc (.cells #[.int .i64 1, .bool false, .slice (some ⟨b, 0, none⟩) 1 2, .int .i64 0, .float .f64 0] 37)).alloc (.cells #[.int .i64 1, .bool false, .slice none 0 0, .int .i64 0, .float .f64 0] 37))) := by show Frame [] w _; (repeat first | assumption | exact Frame.refl _ _ | refine Frame.trans1 ?_ (Frame.alloc _ _ _) | refine Frame.trans1 ?_ (Frame.drew _ _) | refine Frame.trans1 ?_ (Frame.drewN _ _ _))
  go_enter Tryz.func153, Tryz.ntmps153
  go_wp2_with fail
  generalize ((w.alloc (.cells #[.int .i64 1, .bool false, .slice (some ⟨b, 0, none⟩) 1 2, .int .i64 0, .float .f64 0] 37)).alloc (.cells #[.int .i64 1, .bool false, .slice none 0 0, .int .i64 0, .float .f64 0] 37)) = w1 at *
  refine (both_c1 b _ (HB.out.frame F0.out (by simp))).mono ?_
  rintro e w2 ⟨rfl, f2⟩
  have C0 := B0.frame f2 (by simp)
  have C1 := B1.frame f2 (by simp)
  have x0 := C0.at 0 rfl
  have x1 := C0.at 1 rfl
  have x2 := C0.at 2 rfl
  have y1 := C1.at 1 rfl
  have y2 := C1.at 2 rfl
  have F2 := Lib.hid (F0.out.trans1 f2)
  clear B0 B1 C0 C1 f2
  go_wp2_with fail
  refine (isNat_cnt _).mono ?_
  rintro e wa ⟨rfl, rfl⟩
  go_wp2_with fail
  refine (nsame_c1 b _ (HB.out.frame F2.out (by simp))).mono ?_
  rintro e w3 ⟨rfl, f3⟩
  go_wp2_with fail
  go_ret
  exact ⟨rfl, F2.out.trans1 f3⟩
set_option maxRecDepth 100000 in
theorem isZero_c1 (b : Nat) (w : World) (hb : Blk w b 107 #[.int .u32 1, .int .u32 0]) : Calls Tryz.prog 131 #[.agg #[.int .i64 1, .bool false, .slice (some ⟨b, 0, none⟩) 1 2, .int .i64 0, .float .f64 0]] w fun e w' => e = .returned (.bool false) ∧ Frame [] w w' := by
  have HB := Lib.hid hb
  clear hb
  have B0 := Blk.new w 37 #[.int .i64 1, .bool false, .slice (some ⟨b, 0, none⟩) 1 2, .int .i64 0, .float .f64 0]
  have F0 := Lib.hid (Frame.alloc [] w (.cells #[.int .i64 1, .bool false, .slice (some ⟨b, 0, none⟩) 1 2, .int .i64 0, .float .f64 0] 37))
  go_enter Tryz.func131, Tryz.ntmps131
  go_upto_region 1 with fail
  generalize (w.alloc (.cells #[.int .i64 1, .bool false, .slice (some ⟨b, 0, none⟩) 1 2, .int .i64 0, .float .f64 0] 37)) = w1 at *
  have y0 := framed_cell (B0.at 0 rfl)
  have y1 := framed_cell (B0.at 1 rfl)
  have y2 := framed_cell (B0.at 2 rfl)
  have y3 := framed_cell (B0.at 3 rfl)
  have y4 := framed_cell (B0.at 4 rfl)
  clear B0
  refine wp_region_framed (by kernel_rfl) (by kernel_rfl) ?_
  repeat (go_big_quiet_step (first | (go_at_call 90; exact framed_of (least_cnt _)) | exact framed_of (same_c1 b _ (HB.out.frame (F0.out.trans1 (FramedBy.h _)) (by simp)))))
  refine wpQuiet_nil ?_
  intro w6 hw
  have f6 := framed_out hw
  clear hw
  go_wp2_with fail
  go_ret
  exact ⟨rfl, F0.out.trans1 f6⟩
end Go.Proofs.YtfplakdingfccaaGreat

