/- semi's functions at Bool. -/
import Derived.Test.YtbnhhmejlglbcaaGreatMo02
import Derived.Laws.ResultCell
namespace Go.Proofs.YtbnhhmejlglbcaaGreat
open Go.RowKit
set_option linter.unusedSimpArgs false
set_option linter.unusedVariables false

theorem known_bool (w : World) : Calls Tryz.prog 106 #[.int .i64 2] w fun e w' => e = .returned (.bool true) ∧ w' = w := by
  go_enter Tryz.func106, Tryz.ntmps106
  go_wp2_with fail
  go_ret
  exact ⟨rfl, rfl⟩
theorem isNat_bool (w : World) : Calls Tryz.prog 143 #[.int .i64 2] w fun e w' => e = .returned (.bool false) ∧ w' = w := by
  go_enter Tryz.func143, Tryz.ntmps143
  go_wp2_with fail
  go_ret
  exact ⟨rfl, rfl⟩
theorem isLevel_bool (w : World) : Calls Tryz.prog 145 #[.int .i64 2] w fun e w' => e = .returned (.bool true) ∧ w' = w := by
  go_enter Tryz.func145, Tryz.ntmps145
  go_wp2_with fail
  go_ret
  exact ⟨rfl, rfl⟩
theorem top_bool (w : World) : Calls Tryz.prog 146 #[.int .i64 2] w fun e w' => e = .returned (.int .i64 1) ∧ w' = w := by
  go_enter Tryz.func146, Tryz.ntmps146
  go_wp2_with fail
  go_ret
  exact ⟨rfl, rfl⟩
/-- A value of Bool. -/
def vB (n : Int) : Value := .agg #[.int .i64 2, .bool false, .slice none 0 0, .int .i64 n, .float .f64 0]
def vBc (n : Int) : Array Value := #[.int .i64 2, .bool false, .slice none 0 0, .int .i64 n, .float .f64 0]
theorem results_val1 {fn : Func} {p : Tmp} (h : fn.results = #[.cell p 37]) (tmps : Array Value) (w : World) (g : Nat) (a b c d e : Value) (hp : tmps.getD p undef = .pointer (some ⟨g, 0, none⟩)) (hg : Blk w g 37 #[a, b, c, d, e]) :
    (results fn tmps).run Tryz.prog w = .ok (.agg #[a, b, c, d, e]) w :=
  results_cell_row h tmps w g 37 #[a, b, c, d, e] (0, 0) _ hp hg Tryz.underlying37 rfl (by kernel_rfl)
theorem least_bool (w : World) : Calls Tryz.prog 107 #[.int .i64 2] w fun e w' => e = .returned (vB 0) ∧ Frame [] w w' := by
  have hst := fun (w : World) (a : Addr) (m : Mode) => run_store Tryz.prog w a (.float .f64 0) m rfl
  go_enter Tryz.func107, Tryz.ntmps107
  go_wp2_with fail
  refine bodyPost_ret (results_val1 rfl _ _ _ _ _ _ _ _ rfl (Blk.new w 37 _)) rfl ?_
  exact ⟨rfl, Frame.alloc _ _ _⟩
set_option maxRecDepth 100000 in
theorem whole_bool (w : World) : Calls Tryz.prog 148 #[.int .i64 2] w fun e w' => e = .returned (vB 1) ∧ Frame [] w w' := by
  have hst := fun (w : World) (a : Addr) (m : Mode) => run_store Tryz.prog w a (.float .f64 0) m rfl
  go_enter Tryz.func148, Tryz.ntmps148
  go_wp2_with fail
  refine (top_bool _).mono ?_
  rintro e w1 ⟨rfl, rfl⟩
  go_wp2_with fail
  refine bodyPost_ret (results_val1 rfl _ _ _ _ _ _ _ _ rfl (Blk.new w 37 _)) rfl ?_
  exact ⟨rfl, Frame.alloc _ _ _⟩
/-- A value's five cells, written one after the other. -/
theorem putV {w : World} {b : Nat} {x0 x1 x2 x3 x4 : Value} (h : Blk w b 37 #[x0, x1, x2, x3, x4]) (a0 a1 a2 a3 a4 : Value) :
    Blk (((((w.setCell ⟨b, 0, none⟩ a0).setCell ⟨b, 1, none⟩ a1).setCell ⟨b, 2, none⟩ a2).setCell ⟨b, 3, none⟩ a3).setCell ⟨b, 4, none⟩ a4) b 37 #[a0, a1, a2, a3, a4] :=
  ((((h.set 0 a0).set 1 a1).set 2 a2).set 3 a3).set 4 a4
theorem putV_frame {w w1 : World} {b : Nat} (hb : w.heap.size ≤ b) (h : Frame [] w w1) (a0 a1 a2 a3 a4 : Value) :
    Frame [] w (((((w1.setCell ⟨b, 0, none⟩ a0).setCell ⟨b, 1, none⟩ a1).setCell ⟨b, 2, none⟩ a2).setCell ⟨b, 3, none⟩ a3).setCell ⟨b, 4, none⟩ a4) := by
  have st : ∀ {x : World} (f : Frame [] w x) (i : Nat) (v : Value), Frame [] w (x.setCell ⟨b, i, none⟩ v) := fun f i v => f.trans (Frame.setCell (S := [b]) _ _ _ (by simp)) (fun y hy => by simp at hy; subst hy; exact .inr hb)
  exact st (st (st (st (st h 0 a0) 1 a1) 2 a2) 3 a3) 4 a4
/-- A result's two parts: a value in a cell, a number. -/
theorem results_val2 {fn : Func} {p u : Tmp} (h : fn.results = #[.cell p 37, .tmp u]) (tmps : Array Value) (w : World) (g : Nat) (a b c d e : Value) (hp : tmps.getD p undef = .pointer (some ⟨g, 0, none⟩)) (hg : Blk w g 37 #[a, b, c, d, e]) :
    (results fn tmps).run Tryz.prog w = .ok (.tuple #[.agg #[a, b, c, d, e], tmps.getD u undef]) w := by
  have hl : (loadVar 37 ⟨g, 0, none⟩).run Tryz.prog w = .ok (.agg #[a, b, c, d, e]) w := run_loadVar_row w g 37 37 #[a, b, c, d, e] (0, 0) _ hg Tryz.underlying37 rfl (by kernel_rfl)
  rw [results_cell_tmp h, hp]
  simp [asAddr, Result.andThen, hl]
set_option maxRecDepth 100000 in
theorem semZero_bool (w : World) : Calls Tryz.prog 64 #[.int .i64 2] w fun e w' => e = .returned (.tuple #[vB 0, .int .i64 0]) ∧ Frame [] w w' := by
  have hst := fun (w : World) (a : Addr) (m : Mode) => run_store Tryz.prog w a (.float .f64 0) m rfl
  go_enter Tryz.func64, Tryz.ntmps64
  go_wp2_with fail
  refine (known_bool _).mono ?_
  rintro e w1 ⟨rfl, rfl⟩
  go_wp2_with fail
  refine (least_bool _).mono ?_
  rintro e w1 ⟨rfl, f1⟩
  have BX := (Blk.new w 37 #[.int .i64 0, .bool false, .slice none 0 0, .int .i64 0, .float .f64 0]).frame f1 (by simp)
  have F1 := Lib.hid ((Frame.alloc [] w (.cells #[.int .i64 0, .bool false, .slice none 0 0, .int .i64 0, .float .f64 0] 37)).trans1 f1)
  have x0 := BX.at 0 rfl
  have x1 := BX.at 1 rfl
  have x2 := BX.at 2 rfl
  have x3 := BX.at 3 rfl
  have x4 := BX.at 4 rfl
  have z0 := BX.frozen
  have B5 := Lib.hid (putV BX (.int .i64 2) (.bool false) (.slice none 0 0) (.int .i64 0) (.float .f64 0))
  have F5 := Lib.hid (putV_frame (w := w) (b := w.heap.size) (Nat.le_refl _) F1.out (.int .i64 2) (.bool false) (.slice none 0 0) (.int .i64 0) (.float .f64 0))
  clear BX f1 F1
  unfold vB
  go_wp2_with fail
  refine bodyPost_ret (results_val2 rfl _ _ _ _ _ _ _ _ rfl B5.out) rfl ?_
  exact ⟨rfl, F5.out⟩
set_option maxRecDepth 100000 in
theorem semOne_bool (w : World) : Calls Tryz.prog 109 #[.int .i64 2] w fun e w' => e = .returned (.tuple #[vB 1, .int .i64 0]) ∧ Frame [] w w' := by
  have hst := fun (w : World) (a : Addr) (m : Mode) => run_store Tryz.prog w a (.float .f64 0) m rfl
  go_enter Tryz.func109, Tryz.ntmps109
  go_wp2_with fail
  refine (known_bool _).mono ?_
  rintro e w1 ⟨rfl, rfl⟩
  go_wp2_with fail
  refine (whole_bool _).mono ?_
  rintro e w1 ⟨rfl, f1⟩
  have BX := (Blk.new w 37 #[.int .i64 0, .bool false, .slice none 0 0, .int .i64 0, .float .f64 0]).frame f1 (by simp)
  have F1 := Lib.hid ((Frame.alloc [] w (.cells #[.int .i64 0, .bool false, .slice none 0 0, .int .i64 0, .float .f64 0] 37)).trans1 f1)
  have x0 := BX.at 0 rfl
  have x1 := BX.at 1 rfl
  have x2 := BX.at 2 rfl
  have x3 := BX.at 3 rfl
  have x4 := BX.at 4 rfl
  have z0 := BX.frozen
  have B5 := Lib.hid (putV BX (.int .i64 2) (.bool false) (.slice none 0 0) (.int .i64 1) (.float .f64 0))
  have F5 := Lib.hid (putV_frame (w := w) (b := w.heap.size) (Nat.le_refl _) F1.out (.int .i64 2) (.bool false) (.slice none 0 0) (.int .i64 1) (.float .f64 0))
  clear BX f1 F1
  unfold vB
  go_wp2_with fail
  refine bodyPost_ret (results_val2 rfl _ _ _ _ _ _ _ _ rfl B5.out) rfl ?_
  exact ⟨rfl, F5.out⟩
set_option maxRecDepth 100000 in
theorem semMay_bool (n : Int) (hn : n = 0 ∨ n = 1) (w : World) : Calls Tryz.prog 108 #[vB n] w fun e w' => e = .returned (.int .i64 0) ∧ Frame [] w w' := by
  have hst := fun (w : World) (a : Addr) (m : Mode) => run_store Tryz.prog w a (.float .f64 0) m rfl
  have d0 : decide ((0 : Int) ≤ n) = true := decide_eq_true (by omega)
  have d1 : decide (n ≤ 1) = true := decide_eq_true (by omega)
  unfold vB
  go_enter Tryz.func108, Tryz.ntmps108
  go_wp2_with fail
  refine (known_bool _).mono ?_
  rintro e w1 ⟨rfl, rfl⟩
  go_wp2_with fail
  refine (isNat_bool _).mono ?_
  rintro e w1 ⟨rfl, rfl⟩
  go_wp2_with fail
  refine (isLevel_bool _).mono ?_
  rintro e w1 ⟨rfl, rfl⟩
  have BX := Blk.new w 37 #[.int .i64 2, .bool false, .slice none 0 0, .int .i64 n, .float .f64 0]
  have F1 := Lib.hid (Frame.alloc [] w (.cells #[.int .i64 2, .bool false, .slice none 0 0, .int .i64 n, .float .f64 0] 37))
  go_wp2_with fail
  generalize w.alloc (.cells #[.int .i64 2, .bool false, .slice none 0 0, .int .i64 n, .float .f64 0] 37) = w1 at *
  have y0 := framed_cell (BX.at 0 rfl)
  have y3 := framed_cell (BX.at 3 rfl)
  refine wp_region_framed (by kernel_rfl) (by kernel_rfl) ?_
  repeat (go_big_quiet_step (exact framed_same (top_bool _)))
  refine wpQuiet_nil ?_
  intro w6 hw
  have f6 := framed_out hw
  clear hw
  have x0 := (BX.frame f6 (by simp)).at 0 rfl
  have x3 := (BX.frame f6 (by simp)).at 3 rfl
  go_wp2_with fail
  go_ret
  exact ⟨rfl, F1.out.trans1 f6⟩
set_option maxRecDepth 100000 in
theorem semBoth_bool (n m : Int) (hn : n = 0 ∨ n = 1) (hm : m = 0 ∨ m = 1) (w : World) : Calls Tryz.prog 114 #[vB n, vB m] w fun e w' => e = .returned (.int .i64 0) ∧ Frame [] w w' := by
  have MN := Lib.hid (semMay_bool n hn)
  have MM := Lib.hid (semMay_bool m hm)
  unfold vB at *
  go_enter Tryz.func114, Tryz.ntmps114
  go_wp2_with fail
  have B0 := (Blk.new w 37 #[.int .i64 2, .bool false, .slice none 0 0, .int .i64 n, .float .f64 0]).alloc (.cells #[.int .i64 2, .bool false, .slice none 0 0, .int .i64 m, .float .f64 0] 37)
  have B1 := Blk.new (w.alloc (.cells #[.int .i64 2, .bool false, .slice none 0 0, .int .i64 n, .float .f64 0] 37)) 37 #[.int .i64 2, .bool false, .slice none 0 0, .int .i64 m, .float .f64 0]
  simp only [World.size_alloc] at B1
  have F0 : Hid (Frame [] w ((w.alloc (.cells #[.int .i64 2, .bool false, .slice none 0 0, .int .i64 n, .float .f64 0] 37)).alloc (.cells #[.int .i64 2, .bool false, .slice none 0 0, .int .i64 m, .float .f64 0] 37))) := by show Frame [] w _; (repeat first | assumption | exact Frame.refl _ _ | refine Frame.trans1 ?_ (Frame.alloc _ _ _) | refine Frame.trans1 ?_ (Frame.drew _ _) | refine Frame.trans1 ?_ (Frame.drewN _ _ _))
  generalize (w.alloc (.cells #[.int .i64 2, .bool false, .slice none 0 0, .int .i64 n, .float .f64 0] 37)).alloc (.cells #[.int .i64 2, .bool false, .slice none 0 0, .int .i64 m, .float .f64 0] 37) = w1 at *
  refine (MN.out w1).mono ?_
  rintro e w2 ⟨rfl, f2⟩
  have C0 := B0.frame f2 (by simp)
  have C1 := B1.frame f2 (by simp)
  have x0 := C1.at 0 rfl
  have x1 := C1.at 1 rfl
  have x2 := C1.at 2 rfl
  have x3 := C1.at 3 rfl
  have x4 := C1.at 4 rfl
  have HC0 := Lib.hid C0
  have HC1 := Lib.hid C1
  have F2 := Lib.hid (F0.out.trans1 f2)
  clear B0 B1 C0 C1 f2
  go_wp2_with fail
  refine (MM.out w2).mono ?_
  rintro e w3 ⟨rfl, f3⟩
  have x0 := (HC1.out.frame f3 (by simp)).at 0 rfl
  have y0 := (HC0.out.frame f3 (by simp)).at 0 rfl
  have F3 := Lib.hid (F2.out.trans1 f3)
  clear f3
  go_wp2_with fail
  go_ret
  exact ⟨rfl, F3.out⟩
set_option maxRecDepth 100000 in
theorem semown_bool (n : Int) (w : World) : Calls Tryz.prog 150 #[vB n] w fun e w' => e = .returned (vB n) ∧ Frame [] w w' := by
  have hst := fun (w : World) (a : Addr) (m : Mode) => run_store Tryz.prog w a (.float .f64 0) m rfl
  unfold vB
  go_enter Tryz.func150, Tryz.ntmps150
  go_wp2_with fail
  refine (isNat_bool _).mono ?_
  rintro e w1 ⟨rfl, rfl⟩
  go_wp2_with fail
  refine (isLevel_bool _).mono ?_
  rintro e w1 ⟨rfl, rfl⟩
  go_wp2_with fail
  have B1 := Blk.new (w.alloc (.cells #[.int .i64 2, .bool false, .slice none 0 0, .int .i64 n, .float .f64 0] 37)) 37 #[.int .i64 2, .bool false, .slice none 0 0, .int .i64 n, .float .f64 0]
  simp only [World.size_alloc] at B1
  refine bodyPost_ret (results_val1 rfl _ _ _ _ _ _ _ _ rfl B1) rfl ?_
  refine ⟨rfl, ?_⟩
  (repeat first | assumption | exact Frame.refl _ _ | refine Frame.trans1 ?_ (Frame.alloc _ _ _) | refine Frame.trans1 ?_ (Frame.drew _ _) | refine Frame.trans1 ?_ (Frame.drewN _ _ _))
end Go.Proofs.YtbnhhmejlglbcaaGreat

