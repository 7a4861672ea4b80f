/- semi's functions at Bool. Package bail: what its functions do. bail.Catch: a closure's contract goes through it. -/
import Derived.Test.YtbnhhmejlglbcaaMg01
import Derived.Laws.ResultCell
namespace Go.Proofs.Ytbnhhmejlglbcaa
open Go.RowKit
set_option linter.unusedSimpArgs false
set_option linter.unusedVariables false

theorem known_bool (w : World) : Calls Try.prog 39 #[.int .i64 2] w fun e w' => e = .returned (.bool true) ∧ w' = w := by
  go_enter Try.func39, Try.ntmps39
  go_wp2_with fail
  go_ret
  exact ⟨rfl, rfl⟩
theorem isNat_bool (w : World) : Calls Try.prog 59 #[.int .i64 2] w fun e w' => e = .returned (.bool false) ∧ w' = w := by
  go_enter Try.func59, Try.ntmps59
  go_wp2_with fail
  go_ret
  exact ⟨rfl, rfl⟩
theorem isLevel_bool (w : World) : Calls Try.prog 61 #[.int .i64 2] w fun e w' => e = .returned (.bool true) ∧ w' = w := by
  go_enter Try.func61, Try.ntmps61
  go_wp2_with fail
  go_ret
  exact ⟨rfl, rfl⟩
theorem top_bool (w : World) : Calls Try.prog 62 #[.int .i64 2] w fun e w' => e = .returned (.int .i64 1) ∧ w' = w := by
  go_enter Try.func62, Try.ntmps62
  go_wp2_with fail
  go_ret
  exact ⟨rfl, rfl⟩
/-- A value of Bool. -/
def vB (n : Int) : Value := .agg #[.int .i64 2, .bool false, .slice none 0 0, .int .i64 n, .float .f64 0]
def vBc (n : Int) : Array Value := #[.int .i64 2, .bool false, .slice none 0 0, .int .i64 n, .float .f64 0]
theorem results_val1 {fn : Func} {p : Tmp} (h : fn.results = #[.cell p 39]) (tmps : Array Value) (w : World) (g : Nat) (a b c d e : Value) (hp : tmps.getD p undef = .pointer (some ⟨g, 0, none⟩)) (hg : Blk w g 39 #[a, b, c, d, e]) :
    (results fn tmps).run Try.prog w = .ok (.agg #[a, b, c, d, e]) w :=
  results_cell_row h tmps w g 39 #[a, b, c, d, e] (0, 0) _ hp hg Try.underlying39 rfl (by kernel_rfl)
theorem least_bool (w : World) : Calls Try.prog 40 #[.int .i64 2] w fun e w' => e = .returned (vB 0) ∧ Frame [] w w' := by
  have hst := fun (w : World) (a : Addr) (m : Mode) => run_store Try.prog w a (.float .f64 0) m rfl
  go_enter Try.func40, Try.ntmps40
  go_wp2_with fail
  refine bodyPost_ret (results_val1 rfl _ _ _ _ _ _ _ _ rfl (Blk.new w 39 _)) rfl ?_
  exact ⟨rfl, Frame.alloc _ _ _⟩
set_option maxRecDepth 100000 in
theorem whole_bool (w : World) : Calls Try.prog 64 #[.int .i64 2] w fun e w' => e = .returned (vB 1) ∧ Frame [] w w' := by
  have hst := fun (w : World) (a : Addr) (m : Mode) => run_store Try.prog w a (.float .f64 0) m rfl
  go_enter Try.func64, Try.ntmps64
  go_wp2_with fail
  refine (top_bool _).mono ?_
  rintro e w1 ⟨rfl, rfl⟩
  go_wp2_with fail
  refine bodyPost_ret (results_val1 rfl _ _ _ _ _ _ _ _ rfl (Blk.new w 39 _)) rfl ?_
  exact ⟨rfl, Frame.alloc _ _ _⟩
/-- A value's five cells, written one after the other. -/
theorem putV {w : World} {b : Nat} {x0 x1 x2 x3 x4 : Value} (h : Blk w b 39 #[x0, x1, x2, x3, x4]) (a0 a1 a2 a3 a4 : Value) :
    Blk (((((w.setCell ⟨b, 0, none⟩ a0).setCell ⟨b, 1, none⟩ a1).setCell ⟨b, 2, none⟩ a2).setCell ⟨b, 3, none⟩ a3).setCell ⟨b, 4, none⟩ a4) b 39 #[a0, a1, a2, a3, a4] :=
  ((((h.set 0 a0).set 1 a1).set 2 a2).set 3 a3).set 4 a4
theorem putV_frame {w w1 : World} {b : Nat} (hb : w.heap.size ≤ b) (h : Frame [] w w1) (a0 a1 a2 a3 a4 : Value) :
    Frame [] w (((((w1.setCell ⟨b, 0, none⟩ a0).setCell ⟨b, 1, none⟩ a1).setCell ⟨b, 2, none⟩ a2).setCell ⟨b, 3, none⟩ a3).setCell ⟨b, 4, none⟩ a4) := by
  have st : ∀ {x : World} (f : Frame [] w x) (i : Nat) (v : Value), Frame [] w (x.setCell ⟨b, i, none⟩ v) := fun f i v => f.trans (Frame.setCell (S := [b]) _ _ _ (by simp)) (fun y hy => by simp at hy; subst hy; exact .inr hb)
  exact st (st (st (st (st h 0 a0) 1 a1) 2 a2) 3 a3) 4 a4
/-- A result's two parts: a value in a cell, a number. -/
theorem results_val2 {fn : Func} {p u : Tmp} (h : fn.results = #[.cell p 39, .tmp u]) (tmps : Array Value) (w : World) (g : Nat) (a b c d e : Value) (hp : tmps.getD p undef = .pointer (some ⟨g, 0, none⟩)) (hg : Blk w g 39 #[a, b, c, d, e]) :
    (results fn tmps).run Try.prog w = .ok (.tuple #[.agg #[a, b, c, d, e], tmps.getD u undef]) w := by
  have hl : (loadVar 39 ⟨g, 0, none⟩).run Try.prog w = .ok (.agg #[a, b, c, d, e]) w := run_loadVar_row w g 39 39 #[a, b, c, d, e] (0, 0) _ hg Try.underlying39 rfl (by kernel_rfl)
  rw [results_cell_tmp h, hp]
  simp [asAddr, Result.andThen, hl]
set_option maxRecDepth 100000 in
theorem semZero_bool (w : World) : Calls Try.prog 24 #[.int .i64 2] w fun e w' => e = .returned (.tuple #[vB 0, .int .i64 0]) ∧ Frame [] w w' := by
  have hst := fun (w : World) (a : Addr) (m : Mode) => run_store Try.prog w a (.float .f64 0) m rfl
  go_enter Try.func24, Try.ntmps24
  go_wp2_with fail
  refine (known_bool _).mono ?_
  rintro e w1 ⟨rfl, rfl⟩
  go_wp2_with fail
  refine (least_bool _).mono ?_
  rintro e w1 ⟨rfl, f1⟩
  have BX := (Blk.new w 39 #[.int .i64 0, .bool false, .slice none 0 0, .int .i64 0, .float .f64 0]).frame f1 (by simp)
  have F1 := Lib.hid ((Frame.alloc [] w (.cells #[.int .i64 0, .bool false, .slice none 0 0, .int .i64 0, .float .f64 0] 39)).trans1 f1)
  have x0 := BX.at 0 rfl
  have x1 := BX.at 1 rfl
  have x2 := BX.at 2 rfl
  have x3 := BX.at 3 rfl
  have x4 := BX.at 4 rfl
  have z0 := BX.frozen
  have B5 := Lib.hid (putV BX (.int .i64 2) (.bool false) (.slice none 0 0) (.int .i64 0) (.float .f64 0))
  have F5 := Lib.hid (putV_frame (w := w) (b := w.heap.size) (Nat.le_refl _) F1.out (.int .i64 2) (.bool false) (.slice none 0 0) (.int .i64 0) (.float .f64 0))
  clear BX f1 F1
  unfold vB
  go_wp2_with fail
  refine bodyPost_ret (results_val2 rfl _ _ _ _ _ _ _ _ rfl B5.out) rfl ?_
  exact ⟨rfl, F5.out⟩
set_option maxRecDepth 100000 in
theorem semOne_bool (w : World) : Calls Try.prog 42 #[.int .i64 2] w fun e w' => e = .returned (.tuple #[vB 1, .int .i64 0]) ∧ Frame [] w w' := by
  have hst := fun (w : World) (a : Addr) (m : Mode) => run_store Try.prog w a (.float .f64 0) m rfl
  go_enter Try.func42, Try.ntmps42
  go_wp2_with fail
  refine (known_bool _).mono ?_
  rintro e w1 ⟨rfl, rfl⟩
  go_wp2_with fail
  refine (whole_bool _).mono ?_
  rintro e w1 ⟨rfl, f1⟩
  have BX := (Blk.new w 39 #[.int .i64 0, .bool false, .slice none 0 0, .int .i64 0, .float .f64 0]).frame f1 (by simp)
  have F1 := Lib.hid ((Frame.alloc [] w (.cells #[.int .i64 0, .bool false, .slice none 0 0, .int .i64 0, .float .f64 0] 39)).trans1 f1)
  have x0 := BX.at 0 rfl
  have x1 := BX.at 1 rfl
  have x2 := BX.at 2 rfl
  have x3 := BX.at 3 rfl
  have x4 := BX.at 4 rfl
  have z0 := BX.frozen
  have B5 := Lib.hid (putV BX (.int .i64 2) (.bool false) (.slice none 0 0) (.int .i64 1) (.float .f64 0))
  have F5 := Lib.hid (putV_frame (w := w) (b := w.heap.size) (Nat.le_refl _) F1.out (.int .i64 2) (.bool false) (.slice none 0 0) (.int .i64 1) (.float .f64 0))
  clear BX f1 F1
  unfold vB
  go_wp2_with fail
  refine bodyPost_ret (results_val2 rfl _ _ _ _ _ _ _ _ rfl B5.out) rfl ?_
  exact ⟨rfl, F5.out⟩
set_option maxRecDepth 100000 in
theorem semMay_bool (n : Int) (hn : n = 0 ∨ n = 1) (w : World) : Calls Try.prog 41 #[vB n] w fun e w' => e = .returned (.int .i64 0) ∧ Frame [] w w' := by
  have hst := fun (w : World) (a : Addr) (m : Mode) => run_store Try.prog w a (.float .f64 0) m rfl
  have d0 : decide ((0 : Int) ≤ n) = true := decide_eq_true (by omega)
  have d1 : decide (n ≤ 1) = true := decide_eq_true (by omega)
  unfold vB
  go_enter Try.func41, Try.ntmps41
  go_wp2_with fail
  refine (known_bool _).mono ?_
  rintro e w1 ⟨rfl, rfl⟩
  go_wp2_with fail
  refine (isNat_bool _).mono ?_
  rintro e w1 ⟨rfl, rfl⟩
  go_wp2_with fail
  refine (isLevel_bool _).mono ?_
  rintro e w1 ⟨rfl, rfl⟩
  have BX := Blk.new w 39 #[.int .i64 2, .bool false, .slice none 0 0, .int .i64 n, .float .f64 0]
  have F1 := Lib.hid (Frame.alloc [] w (.cells #[.int .i64 2, .bool false, .slice none 0 0, .int .i64 n, .float .f64 0] 39))
  go_wp2_with fail
  generalize w.alloc (.cells #[.int .i64 2, .bool false, .slice none 0 0, .int .i64 n, .float .f64 0] 39) = w1 at *
  have y0 := framed_cell (BX.at 0 rfl)
  have y3 := framed_cell (BX.at 3 rfl)
  refine wp_region_framed (by kernel_rfl) (by kernel_rfl) ?_
  repeat (go_big_quiet_step (exact framed_same (top_bool _)))
  refine wpQuiet_nil ?_
  intro w6 hw
  have f6 := framed_out hw
  clear hw
  have x0 := (BX.frame f6 (by simp)).at 0 rfl
  have x3 := (BX.frame f6 (by simp)).at 3 rfl
  go_wp2_with fail
  go_ret
  exact ⟨rfl, F1.out.trans1 f6⟩
set_option maxRecDepth 100000 in
theorem semBoth_bool (n m : Int) (hn : n = 0 ∨ n = 1) (hm : m = 0 ∨ m = 1) (w : World) : Calls Try.prog 67 #[vB n, vB m] w fun e w' => e = .returned (.int .i64 0) ∧ Frame [] w w' := by
  have MN := Lib.hid (semMay_bool n hn)
  have MM := Lib.hid (semMay_bool m hm)
  unfold vB at *
  go_enter Try.func67, Try.ntmps67
  go_wp2_with fail
  have B0 := (Blk.new w 39 #[.int .i64 2, .bool false, .slice none 0 0, .int .i64 n, .float .f64 0]).alloc (.cells #[.int .i64 2, .bool false, .slice none 0 0, .int .i64 m, .float .f64 0] 39)
  have B1 := Blk.new (w.alloc (.cells #[.int .i64 2, .bool false, .slice none 0 0, .int .i64 n, .float .f64 0] 39)) 39 #[.int .i64 2, .bool false, .slice none 0 0, .int .i64 m, .float .f64 0]
  simp only [World.size_alloc] at B1
  have F0 : Hid (Frame [] w ((w.alloc (.cells #[.int .i64 2, .bool false, .slice none 0 0, .int .i64 n, .float .f64 0] 39)).alloc (.cells #[.int .i64 2, .bool false, .slice none 0 0, .int .i64 m, .float .f64 0] 39))) := by show Frame [] w _; (repeat first | assumption | exact Frame.refl _ _ | refine Frame.trans1 ?_ (Frame.alloc _ _ _) | refine Frame.trans1 ?_ (Frame.drew _ _) | refine Frame.trans1 ?_ (Frame.drewN _ _ _))
  generalize (w.alloc (.cells #[.int .i64 2, .bool false, .slice none 0 0, .int .i64 n, .float .f64 0] 39)).alloc (.cells #[.int .i64 2, .bool false, .slice none 0 0, .int .i64 m, .float .f64 0] 39) = w1 at *
  refine (MN.out w1).mono ?_
  rintro e w2 ⟨rfl, f2⟩
  have C0 := B0.frame f2 (by simp)
  have C1 := B1.frame f2 (by simp)
  have x0 := C1.at 0 rfl
  have x1 := C1.at 1 rfl
  have x2 := C1.at 2 rfl
  have x3 := C1.at 3 rfl
  have x4 := C1.at 4 rfl
  have HC0 := Lib.hid C0
  have HC1 := Lib.hid C1
  have F2 := Lib.hid (F0.out.trans1 f2)
  clear B0 B1 C0 C1 f2
  go_wp2_with fail
  refine (MM.out w2).mono ?_
  rintro e w3 ⟨rfl, f3⟩
  have x0 := (HC1.out.frame f3 (by simp)).at 0 rfl
  have y0 := (HC0.out.frame f3 (by simp)).at 0 rfl
  have F3 := Lib.hid (F2.out.trans1 f3)
  clear f3
  go_wp2_with fail
  go_ret
  exact ⟨rfl, F3.out⟩
set_option maxRecDepth 100000 in
theorem semown_bool (n : Int) (w : World) : Calls Try.prog 70 #[vB n] w fun e w' => e = .returned (vB n) ∧ Frame [] w w' := by
  have hst := fun (w : World) (a : Addr) (m : Mode) => run_store Try.prog w a (.float .f64 0) m rfl
  unfold vB
  go_enter Try.func70, Try.ntmps70
  go_wp2_with fail
  refine (isNat_bool _).mono ?_
  rintro e w1 ⟨rfl, rfl⟩
  go_wp2_with fail
  refine (isLevel_bool _).mono ?_
  rintro e w1 ⟨rfl, rfl⟩
  go_wp2_with fail
  have B1 := Blk.new (w.alloc (.cells #[.int .i64 2, .bool false, .slice none 0 0, .int .i64 n, .float .f64 0] 39)) 39 #[.int .i64 2, .bool false, .slice none 0 0, .int .i64 n, .float .f64 0]
  simp only [World.size_alloc] at B1
  refine bodyPost_ret (results_val1 rfl _ _ _ _ _ _ _ _ rfl B1) rfl ?_
  refine ⟨rfl, ?_⟩
  (repeat first | assumption | exact Frame.refl _ _ | refine Frame.trans1 ?_ (Frame.alloc _ _ _) | refine Frame.trans1 ?_ (Frame.drew _ _) | refine Frame.trans1 ?_ (Frame.drewN _ _ _))
end Go.Proofs.Ytbnhhmejlglbcaa

namespace Go.Proofs.Ytbnhhmejlglbcaa
open Go.RowKit
set_option linter.unusedSimpArgs false
set_option linter.unusedVariables false

theorem left_any (b : Nat) (n : Int) (w : World) (hb : Blk w b 103 #[.int .i64 n]) :
    Calls Try.prog 93 #[.pointer (some ⟨b, 0, none⟩)] w fun e w' => e = .returned (.int .i64 n) ∧ w' = w := by
  have hc := hb.at 0 rfl
  go_enter Try.func93, Try.ntmps93
  go_wp2
  go_ret
  exact ⟨rfl, rfl⟩

theorem use_any (b : Nat) (n : Int) (w : World) (hb : Blk w b 103 #[.int .i64 n]) (h0 : 1 ≤ n) (h1 : n ≤ 1073741824) :
    Calls Try.prog 80 #[.pointer (some ⟨b, 0, none⟩), .int .i64 1] w fun e w' => e = .returned (.tuple #[]) ∧ Frame [b] w w' ∧ Blk w' b 103 #[.int .i64 (n - 1)] := by
  have hc := hb.at 0 rfl
  have hf := hb.frozen 0
  go_enter Try.func80, Try.ntmps80
  go_wp2_with (go_at_call 93; refine (left_any _ _ _ hb).mono ?_; rintro e w' ⟨rfl, rfl⟩)
  go_end0
  exact ⟨rfl, Frame.setCell _ _ _ (by simp), hb.set 0 _⟩

theorem newMeter_any (n : Int) (w : World) (h0 : 0 ≤ n) :
    Calls Try.prog 34 #[.int .i64 n] w fun e w' => e = .returned (.pointer (some ⟨w.heap.size, 0, none⟩)) ∧ w' = w.alloc (.cells #[.int .i64 n] 103) := by
  have hmx : max n 0 = n := by omega
  go_enter Try.func34, Try.ntmps34
  go_wp2
  go_ret
  exact ⟨rfl, rfl⟩

/-- What one leaves with. -/
def bailing (w : World) (code at_ : Int) (chain : List PanicEntry) (w' : World) : Prop :=
  ∃ nb, chain = [{ v := .iface 122 (.pointer (some ⟨nb, 0, none⟩)), recovered := false }] ∧ w.heap.size ≤ nb ∧ Blk w' nb 124 #[.int .i64 code, .int .i64 at_]

theorem out_any (code at_ : Int) (w : World) :
    Calls Try.prog 92 #[.int .i64 code, .int .i64 at_] w fun e w' => ∃ chain, e = .panicked chain ∧ bailing w code at_ chain w' ∧ Frame [] w w' := by
  go_enter Try.func92, Try.ntmps92
  go_wp2
  refine ⟨rfl, _, rfl, ⟨w.heap.size, rfl, Nat.le_refl _, Blk.new _ _ _⟩, Frame.alloc _ _ _⟩

/-- The budget is used up. -/
theorem use_none (b : Nat) (w : World) (hb : Blk w b 103 #[.int .i64 0]) :
    Calls Try.prog 80 #[.pointer (some ⟨b, 0, none⟩), .int .i64 1] w fun e w' => ∃ chain, e = .panicked chain ∧ bailing w 10 1 chain w' ∧ Frame [] w w' := by
  have hc := hb.at 0 rfl
  go_enter Try.func80, Try.ntmps80
  go_wp2_with (go_at_call 93; refine (left_any _ _ _ hb).mono ?_; rintro e w' ⟨rfl, rfl⟩)
  go_wp2_with fail
  refine (out_any 10 1 _).mono ?_
  rintro e w' ⟨chain, rfl, h1, h2⟩
  exact ⟨rfl, chain, rfl, h1, h2⟩

end Go.Proofs.Ytbnhhmejlglbcaa

namespace Go.Proofs.Ytbnhhmejlglbcaa
open Go.RowKit
set_option linter.unusedSimpArgs false
set_option linter.unusedVariables false

theorem run_makeFunc (fn : Fn) (first cap : Array Value) (w : World) : (Instr.makeFunc fn first cap).run Try.prog w = .ok (.func fn first cap) w := rfl

theorem eqIn_func_nil (d : Nat) (fn : Fn) (first cap : Array Value) (w : World) : (Op.equalIn (d + 1) 1 (.func fn first cap) .nilFunc).run Try.prog w = .ok false w := by
  simp [Op.equalIn, go_sem]
theorem run_neq_func_nil (fn : Fn) (first cap : Array Value) (w : World) : (binOp .neq 1 (.func fn first cap) .nilFunc).run Try.prog w = .ok (.bool true) w := by
  simp only [binOp]
  simp [Op.equal, Op.maxDepth, eqIn_func_nil 9999]

/-- Function K has a body of its own. -/
def Entered (K : Nat) : Prop := ∀ (args : Array Value) (w : World), (callFunc K args).run Try.prog w = .ok (.enter K args) w

/-- A call of a function value. -/
theorem call_any (K : Nat) (caps : Array Value) (w : World) (R : Ending → World → Prop) (hres : ∀ e w', R e w' → e = .returned (.tuple #[]) ∨ ∃ c, e = .panicked c)
    (hK : Entered K) (h : Calls Try.prog K caps w R) : Calls Try.prog 79 #[.func (.func K) #[] caps] w R := by
  have hcall := hK caps
  have hne := run_neq_func_nil (.func K) #[] caps
  have H := Lib.hid h
  have HR := Lib.hid hres
  clear h hres hK
  go_enter Try.func79, Try.ntmps79
  go_wp2_with fail
  refine H.out.mono ?_
  intro e w' hr
  rcases HR.out e w' hr with rfl | ⟨c, rfl⟩
  · go_wp2_with fail
    go_end0
    exact hr
  · exact ⟨rfl, hr⟩

theorem bail_isNil (x : Value) (w : World) : (binOp .eql 20 (.iface 122 x) .nilIface).run Try.prog w = .ok (.bool false) w := run_eql_held_nil w 20 122 x (by kernel_rfl)
theorem bail_assert (x : Value) (w : World) : (Instr.typeAssert (.iface 122 x) 20 122 true).run Try.prog w = .ok (.tuple #[x, .bool true]) w := by
  simp [Instr.typeAssert, go_sem]

/-- The deferred closure of Catch, of a frame that panics with a bail: it tells what was left with. -/
theorem catch1_bail (c1 c2 nb : Nat) (code at_ v1 v2 : Int) (older : List PanicEntry) (w : World) (h1 : Blk w c1 40 #[.int .i64 v1]) (h2 : Blk w c2 3 #[.int .i64 v2])
    (hb : Blk w nb 124 #[.int .i64 code, .int .i64 at_]) (hne : c1 ≠ c2) :
    CallsD Try.prog 78 #[.pointer (some ⟨c1, 0, none⟩), .pointer (some ⟨c2, 0, none⟩)] (.panicking ({ v := .iface 122 (.pointer (some ⟨nb, 0, none⟩)), recovered := false } :: older)) w fun e u' w' =>
      e = .returned (.tuple #[]) ∧ u' = .panicking ({ v := .iface 122 (.pointer (some ⟨nb, 0, none⟩)), recovered := true } :: older) ∧
      Blk w' c1 40 #[.int .i64 code] ∧ Blk w' c2 3 #[.int .i64 at_] ∧ Frame [c1, c2] w w' := by
  have d1 := h1.at 0 rfl
  have e1 := h1.frozen 0
  have d2 := h2.at 0 rfl
  have e2 := h2.frozen 0
  have b0 := hb.at 0 rfl
  have b1 := hb.at 1 rfl
  refine callsD_of_wpS Try.func78 rfl fun c₀ cs hu => ?_
  simp only [Try.ntmps78, List.size_toArray, List.length_cons, List.length_nil, Nat.reduceAdd, Nat.reduceSub, Array.replicate_succ, Array.replicate_zero, List.push_toArray, List.append_toArray, List.nil_append, List.cons_append]
  apply wpS_seq
  apply wpS_region
  simp [wpOpsS, go_sem, recoverD, hu, Exit.thenS]
  refine wpS_of_wp ?_
  clear hu
  have q1 := bail_isNil (.pointer (some ⟨nb, 0, none⟩))
  have q2 := bail_assert (.pointer (some ⟨nb, 0, none⟩))
  go_wp2_with fail
  go_region
  all_goals
    go_wp2_with fail
    refine ⟨rfl, _, rfl, .tuple #[], results_none rfl _ _ _, rfl, rfl, ?_, ?_, ?_⟩
    · exact ((h1.drew.set 0 _).set_ne _ hne)
    · exact ((h2.drew.set_ne _ hne.symm).set 0 _)
    · exact ((Frame.drew _ _).trans1 (Frame.setCell _ _ _ (by simp))).trans1 (Frame.setCell _ _ _ (by simp))

/-- .. of a frame that returns: nothing. -/
theorem catch1_idle (c1 c2 : Nat) (w : World) :
    CallsD Try.prog 78 #[.pointer (some ⟨c1, 0, none⟩), .pointer (some ⟨c2, 0, none⟩)] .returning w fun e u' w' => e = .returned (.tuple #[]) ∧ u' = .returning ∧ w' = w := by
  refine callsD_of_wpS Try.func78 rfl fun c₀ cs hu => ?_
  simp only [Try.ntmps78, List.size_toArray, List.length_cons, List.length_nil, Nat.reduceAdd, Nat.reduceSub, Array.replicate_succ, Array.replicate_zero, List.push_toArray, List.append_toArray, List.nil_append, List.cons_append]
  apply wpS_seq
  apply wpS_region
  simp [wpOpsS, go_sem, recoverD, hu, Exit.thenS]
  refine wpS_of_wp ?_
  go_wp2_with fail
  refine ⟨rfl, .returning, ?_, .tuple #[], results_none rfl _ _ _, rfl, rfl, rfl⟩
  cases c₀
  simp_all

/-- Catch, of a closure that comes back. R: what it leaves, which Catch's own two variables do not turn. -/
theorem catch_ret (K : Nat) (caps : Array Value) (w : World) (R : World → Prop) (S : List Nat) (hK : Entered K) (hS : ∀ x ∈ S, x < w.heap.size)
    (h : ∀ w1, Frame [] w w1 → w.heap.size + 2 = w1.heap.size → Calls Try.prog K caps w1 fun e w' => e = .returned (.tuple #[]) ∧ Frame S w1 w' ∧ ∀ w'', Frame [w.heap.size, w.heap.size + 1] w' w'' → R w'') :
    Calls Try.prog 52 #[.func (.func K) #[] caps] w fun e w' => e = .returned (.tuple #[.int .i64 0, .int .i64 0]) ∧ R w' := by
  have hmf := run_makeFunc
  have H := Lib.hid h
  have HS := Lib.hid hS
  clear h hS
  go_enter_defers Try.func52, Try.ntmps52
  go_wp2_with fail
  have k1 : Blk ((w.alloc (.cells #[.int .i64 0] 40)).alloc (.cells #[.int .i64 0] 3)) w.heap.size 40 #[.int .i64 0] := (Blk.new _ _ _).alloc _
  have k2 : Blk ((w.alloc (.cells #[.int .i64 0] 40)).alloc (.cells #[.int .i64 0] 3)) (w.heap.size + 1) 3 #[.int .i64 0] := by
    have := Blk.new (w.alloc (.cells #[.int .i64 0] 40)) 3 #[.int .i64 0]
    simpa using this
  have fr0 := (Frame.alloc [] w (.cells #[.int .i64 0] 40)).trans1 (Frame.alloc [] _ (.cells #[.int .i64 0] 3))
  refine (call_any K caps _ _ ?_ hK (H.out _ fr0 (by simp))).mono ?_
  · rintro e w' ⟨rfl, _⟩; exact .inl rfl
  rintro e w1 ⟨rfl, f1, hR⟩
  have j1 := k1.frame f1 (fun hm => by have := HS.out _ hm; omega)
  have j2 := k2.frame f1 (fun hm => by have := HS.out _ hm; omega)
  have d1 := j1.at 0 rfl
  have d2 := j2.at 0 rfl
  have e1 := j1.frozen 0
  have e2 := j2.frozen 0
  have HRR := Lib.hid hR
  clear hR fr0
  go_wp2_with fail
  refine leaves_cons (f := 78) (args := #[.pointer (some ⟨w.heap.size, 0, none⟩), .pointer (some ⟨w.heap.size + 1, 0, none⟩)]) (by simp) (by simp [go_sem]) ?_
  refine (catch1_idle _ _ _).mono ?_
  rintro e u' w'' ⟨rfl, rfl, rfl⟩
  have m1 := ((j1.set 0 (.int .i64 0)).set_ne (a := ⟨w.heap.size + 1, 0, none⟩) (.int .i64 0) (by simp)).at 0 rfl
  have m2 := ((j2.set_ne (a := ⟨w.heap.size, 0, none⟩) (.int .i64 0) (by simp)).set 0 (.int .i64 0)).at 0 rfl
  simp [Leaves, settle, results, Try.results52, go_sem, m1, m2]
  exact HRR.out _ ((Frame.setCell _ _ _ (by simp)).trans1 (Frame.setCell _ _ _ (by simp)))

/-- Catch, of a closure that leaves by a bail. -/
theorem catch_bail (K : Nat) (caps : Array Value) (w : World) (R : World → Prop) (S : List Nat) (code at_ : Int) (hK : Entered K) (hS : ∀ x ∈ S, x < w.heap.size)
    (h : ∀ w1, Frame [] w w1 → w.heap.size + 2 = w1.heap.size → Calls Try.prog K caps w1 fun e w' => ∃ chain, e = .panicked chain ∧ bailing w1 code at_ chain w' ∧ Frame S w1 w' ∧ ∀ w'', Frame [w.heap.size, w.heap.size + 1] w' w'' → R w'') :
    Calls Try.prog 52 #[.func (.func K) #[] caps] w fun e w' => e = .returned (.tuple #[.int .i64 code, .int .i64 at_]) ∧ R w' := by
  have hmf := run_makeFunc
  have H := Lib.hid h
  have HS := Lib.hid hS
  clear h hS
  go_enter_defers Try.func52, Try.ntmps52
  go_wp2_with fail
  have k1 : Blk ((w.alloc (.cells #[.int .i64 0] 40)).alloc (.cells #[.int .i64 0] 3)) w.heap.size 40 #[.int .i64 0] := (Blk.new _ _ _).alloc _
  have k2 : Blk ((w.alloc (.cells #[.int .i64 0] 40)).alloc (.cells #[.int .i64 0] 3)) (w.heap.size + 1) 3 #[.int .i64 0] := by
    have := Blk.new (w.alloc (.cells #[.int .i64 0] 40)) 3 #[.int .i64 0]
    simpa using this
  have fr0 := (Frame.alloc [] w (.cells #[.int .i64 0] 40)).trans1 (Frame.alloc [] _ (.cells #[.int .i64 0] 3))
  refine (call_any K caps _ _ ?_ hK (H.out _ fr0 (by simp))).mono ?_
  · rintro e w' ⟨c, rfl, _⟩; exact .inr ⟨c, rfl⟩
  rintro e w1 ⟨chain, rfl, ⟨nb, rfl, hnb, hb⟩, f1, hR⟩
  have j1 := k1.frame f1 (fun hm => by have := HS.out _ hm; omega)
  have j2 := k2.frame f1 (fun hm => by have := HS.out _ hm; omega)
  have HRR := Lib.hid hR
  clear hR fr0
  refine leaves_cons (f := 78) (args := #[.pointer (some ⟨w.heap.size, 0, none⟩), .pointer (some ⟨w.heap.size + 1, 0, none⟩)]) (by simp) (by simp [go_sem]) ?_
  refine (catch1_bail _ _ nb code at_ 0 0 [] _ j1 j2 hb (by simp)).mono ?_
  rintro e u' w'' ⟨rfl, rfl, m1, m2, f2⟩
  have d1 := m1.at 0 rfl
  have d2 := m2.at 0 rfl
  simp [Leaves, settle, results, Try.results52, go_sem, d1, d2]
  exact HRR.out _ f2

end Go.Proofs.Ytbnhhmejlglbcaa

