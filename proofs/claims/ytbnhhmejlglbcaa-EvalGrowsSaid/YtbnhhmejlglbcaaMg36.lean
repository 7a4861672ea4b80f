/- semi's functions at all six semirings: known .. both. (printed by gen_sem1.py) -/
import Derived.Test.YtbnhhmejlglbcaaMg34
import Derived.Test.YtbnhhmejlglbcaaMg35
import Derived.Test.YtbnhhmejlglbcaaMg02
import Derived.Test.YtbnhhmejlglbcaaMg19
namespace Go.Proofs.Ytbnhhmejlglbcaa
open Go.RowKit
set_option linter.unusedSimpArgs false
set_option linter.unusedVariables false

/-- The greatest level. -/
def lTop (n : Int) : Int := if n = 2 then 1 else 7
/-- The lesser one. -/
def minO (x y : Option Nat) : Option Nat := if cmpO y x < 0 then y else x
def starO (x : Option Nat) : Option Nat := if x = some 0 then some 1 else none
def rgN1 : Rg (Option Nat) := ⟨some 0, some 1, addO, mulO, starO⟩
def rgT : Rg (Option Nat) := ⟨none, some 0, minO, addO, fun _ => some 0⟩
def rgL (n : Int) : Rg Int := ⟨0, lTop n, max, min, fun _ => lTop n⟩
def fMul (x y : Nat) : Nat := (Ieee.double.mul x y).getD 0
def fAdd (x y : Nat) : Nat := (Ieee.double.add x y).getD 0
def rgF5 : Rg Nat := ⟨0, fOne, max, fMul, fun _ => fOne⟩
def rgF6 : Rg Nat := ⟨fInf, 0, min, fAdd, fun _ => 0⟩
def IsN (n : Int) (w : World) (v : Value) (x : Option Nat) : Prop := ∃ i a l c, v = .agg #[.int .i64 n, .bool i, .slice a l c, .int .i64 0, .float .f64 0] ∧ NR w (.agg #[.bool i, .slice a l c]) x
def IsL (n : Int) (w : World) (v : Value) (x : Int) : Prop := v = .agg #[.int .i64 n, .bool false, .slice none 0 0, .int .i64 x, .float .f64 0] ∧ 0 ≤ x ∧ x ≤ lTop n
def IsF (n : Int) (w : World) (v : Value) (x : Nat) : Prop := v = .agg #[.int .i64 n, .bool false, .slice none 0 0, .int .i64 0, .float .f64 x] ∧ x ≤ fTop n
theorem IsN.kept {n : Int} : Kept (IsN n) := fun w w' v x ⟨i, a, l, c, e, h⟩ k => ⟨i, a, l, c, e, h.kept k⟩
theorem IsL.kept {n : Int} : Kept (IsL n) := fun w w' v x h _ => h
theorem IsF.kept {n : Int} : Kept (IsF n) := fun w w' v x h _ => h
theorem nr_zero (w : World) : NR w (.agg #[.bool false, .slice none 0 0]) (some 0) := ⟨none, 0, by rw [digs_zero]; rfl, dr_zero w⟩
theorem digs_one : digs 1 = [1] := by
  have h := digs_of (ds := [1]) (by intro d hd; simp at hd; omega) (by simp)
  exact h.symm
theorem nr_one {w : World} {b : Nat} (h : Blk w b 77 #[.int .u32 1, .int .u32 0]) : NR w (.agg #[.bool false, .slice (some ⟨b, 0, none⟩) 1 2]) (some 1) := by
  refine ⟨some ⟨b, 0, none⟩, 2, by rw [digs_one]; rfl, ?_⟩
  rw [digs_one]
  refine DR.of_blk (by intro d hd; simp at hd; omega) h (by simp) (by unfold maxLen; omega) fun k x hx => ?_
  match k, hx with
  | 0, hx => simp at hx; subst hx; rfl
  | k + 1, hx => simp at hx
theorem nmay_inf (w : World) : Calls Try.prog 60 #[.agg #[.bool true, .slice none 0 0]] w fun e w' => e = .returned (.bool true) ∧ Frame [] w w' := by
  have BX := Blk.new w 36 #[.bool true, .slice none 0 0]
  have FX := Lib.hid (Frame.alloc [] w (.cells #[.bool true, .slice none 0 0] 36))
  go_enter Try.func60, Try.ntmps60
  go_upto_region 1 with fail
  generalize w.alloc (.cells #[.bool true, .slice none 0 0] 36) = w1 at *
  have x0 := BX.at 0 rfl
  have x1 := BX.at 1 rfl
  clear BX
  go_wp2_with fail
  go_ret
  exact ⟨rfl, FX.out⟩
/-- A number that may be. -/
theorem nmay_any (v : Value) (x : Option Nat) (w : World) (h : NR w v x) (l : Sz x) : Calls Try.prog 60 #[v] w fun e w' => e = .returned (.bool true) ∧ Frame [] w w' := by
  cases x with
  | none => subst h; exact nmay_inf w
  | some m =>
    obtain ⟨a, c, rfl, h⟩ := h
    have := may_dr a c (digs m) w h (by unfold Sz SZ at l; omega)
    rw [digW_digs] at this
    simpa using this
theorem known_1 (w : World) : Calls Try.prog 39 #[.int .i64 1] w fun e w' => e = .returned (.bool true) ∧ w' = w := by
  go_enter Try.func39, Try.ntmps39
  go_wp2_with fail
  go_ret
  exact ⟨rfl, rfl⟩
theorem isNat_1 (w : World) : Calls Try.prog 59 #[.int .i64 1] w fun e w' => e = .returned (.bool true) ∧ w' = w := by
  go_enter Try.func59, Try.ntmps59
  go_wp2_with fail
  go_ret
  exact ⟨rfl, rfl⟩
theorem isLevel_1 (w : World) : Calls Try.prog 61 #[.int .i64 1] w fun e w' => e = .returned (.bool false) ∧ w' = w := by
  go_enter Try.func61, Try.ntmps61
  go_wp2_with fail
  go_ret
  exact ⟨rfl, rfl⟩
theorem known_2 (w : World) : Calls Try.prog 39 #[.int .i64 2] w fun e w' => e = .returned (.bool true) ∧ w' = w := by
  go_enter Try.func39, Try.ntmps39
  go_wp2_with fail
  go_ret
  exact ⟨rfl, rfl⟩
theorem isNat_2 (w : World) : Calls Try.prog 59 #[.int .i64 2] w fun e w' => e = .returned (.bool false) ∧ w' = w := by
  go_enter Try.func59, Try.ntmps59
  go_wp2_with fail
  go_ret
  exact ⟨rfl, rfl⟩
theorem isLevel_2 (w : World) : Calls Try.prog 61 #[.int .i64 2] w fun e w' => e = .returned (.bool true) ∧ w' = w := by
  go_enter Try.func61, Try.ntmps61
  go_wp2_with fail
  go_ret
  exact ⟨rfl, rfl⟩
theorem top_2 (w : World) : Calls Try.prog 62 #[.int .i64 2] w fun e w' => e = .returned (.int .i64 (lTop 2)) ∧ w' = w := by
  go_enter Try.func62, Try.ntmps62
  go_wp2_with fail
  go_ret
  exact ⟨rfl, rfl⟩
theorem known_3 (w : World) : Calls Try.prog 39 #[.int .i64 3] w fun e w' => e = .returned (.bool true) ∧ w' = w := by
  go_enter Try.func39, Try.ntmps39
  go_wp2_with fail
  go_ret
  exact ⟨rfl, rfl⟩
theorem isNat_3 (w : World) : Calls Try.prog 59 #[.int .i64 3] w fun e w' => e = .returned (.bool true) ∧ w' = w := by
  go_enter Try.func59, Try.ntmps59
  go_wp2_with fail
  go_ret
  exact ⟨rfl, rfl⟩
theorem isLevel_3 (w : World) : Calls Try.prog 61 #[.int .i64 3] w fun e w' => e = .returned (.bool false) ∧ w' = w := by
  go_enter Try.func61, Try.ntmps61
  go_wp2_with fail
  go_ret
  exact ⟨rfl, rfl⟩
theorem known_4 (w : World) : Calls Try.prog 39 #[.int .i64 4] w fun e w' => e = .returned (.bool true) ∧ w' = w := by
  go_enter Try.func39, Try.ntmps39
  go_wp2_with fail
  go_ret
  exact ⟨rfl, rfl⟩
theorem isNat_4 (w : World) : Calls Try.prog 59 #[.int .i64 4] w fun e w' => e = .returned (.bool false) ∧ w' = w := by
  go_enter Try.func59, Try.ntmps59
  go_wp2_with fail
  go_ret
  exact ⟨rfl, rfl⟩
theorem isLevel_4 (w : World) : Calls Try.prog 61 #[.int .i64 4] w fun e w' => e = .returned (.bool true) ∧ w' = w := by
  go_enter Try.func61, Try.ntmps61
  go_wp2_with fail
  go_ret
  exact ⟨rfl, rfl⟩
theorem top_4 (w : World) : Calls Try.prog 62 #[.int .i64 4] w fun e w' => e = .returned (.int .i64 (lTop 4)) ∧ w' = w := by
  go_enter Try.func62, Try.ntmps62
  go_wp2_with fail
  go_ret
  exact ⟨rfl, rfl⟩
theorem known_5 (w : World) : Calls Try.prog 39 #[.int .i64 5] w fun e w' => e = .returned (.bool true) ∧ w' = w := by
  go_enter Try.func39, Try.ntmps39
  go_wp2_with fail
  go_ret
  exact ⟨rfl, rfl⟩
theorem isNat_5 (w : World) : Calls Try.prog 59 #[.int .i64 5] w fun e w' => e = .returned (.bool false) ∧ w' = w := by
  go_enter Try.func59, Try.ntmps59
  go_wp2_with fail
  go_ret
  exact ⟨rfl, rfl⟩
theorem isLevel_5 (w : World) : Calls Try.prog 61 #[.int .i64 5] w fun e w' => e = .returned (.bool false) ∧ w' = w := by
  go_enter Try.func61, Try.ntmps61
  go_wp2_with fail
  go_ret
  exact ⟨rfl, rfl⟩
theorem known_6 (w : World) : Calls Try.prog 39 #[.int .i64 6] w fun e w' => e = .returned (.bool true) ∧ w' = w := by
  go_enter Try.func39, Try.ntmps39
  go_wp2_with fail
  go_ret
  exact ⟨rfl, rfl⟩
theorem isNat_6 (w : World) : Calls Try.prog 59 #[.int .i64 6] w fun e w' => e = .returned (.bool false) ∧ w' = w := by
  go_enter Try.func59, Try.ntmps59
  go_wp2_with fail
  go_ret
  exact ⟨rfl, rfl⟩
theorem isLevel_6 (w : World) : Calls Try.prog 61 #[.int .i64 6] w fun e w' => e = .returned (.bool false) ∧ w' = w := by
  go_enter Try.func61, Try.ntmps61
  go_wp2_with fail
  go_ret
  exact ⟨rfl, rfl⟩
theorem putV_keep {w : World} {b : Nat} {cs : Array Value} (h : Blk w b 39 cs) (a0 a1 a2 a3 a4 : Value) : KeepD w (((((w.setCell ⟨b, 0, none⟩ a0).setCell ⟨b, 1, none⟩ a1).setCell ⟨b, 2, none⟩ a2).setCell ⟨b, 3, none⟩ a3).setCell ⟨b, 4, none⟩ a4) := by
  have st : ∀ {x : World} (f : Frame [b] w x) (i : Nat) (v : Value), Frame [b] w (x.setCell ⟨b, i, none⟩ v) := fun f i v => f.trans1 (Frame.setCell (S := [b]) _ _ _ (by simp))
  exact KeepD.blk (st (st (st (st (st (Frame.refl _ _) 0 a0) 1 a1) 2 a2) 3 a3) 4 a4) h (by decide)
set_option maxRecDepth 100000 in
theorem least_1 (w : World) : Calls Try.prog 40 #[.int .i64 1] w (WEnd (IsN 1) (rgN1).z w) := by
  have hst := fun (w : World) (a : Addr) (q : Nat) (m : Mode) => run_store Try.prog w a (.float .f64 q) m rfl
  go_enter Try.func40, Try.ntmps40
  go_wp2_with fail
  refine bodyPost_ret (results_val1 rfl _ _ _ _ _ _ _ _ rfl (Blk.new w 39 _)) rfl ?_
  exact ⟨_, rfl, ⟨_, _, _, _, rfl, nr_zero _⟩, Frame.alloc _ _ _⟩
set_option maxRecDepth 100000 in
theorem whole_1 (w : World) : Calls Try.prog 64 #[.int .i64 1] w (WEnd (IsN 1) (rgN1).o w) := by
  have hst := fun (w : World) (a : Addr) (q : Nat) (m : Mode) => run_store Try.prog w a (.float .f64 q) m rfl
  go_enter Try.func64, Try.ntmps64
  go_wp2_with fail
  refine (natOf_one _).mono ?_
  rintro e w1 ⟨b, rfl, hb, f1⟩
  have HB := Lib.hid hb
  have BX := (Blk.new w 39 #[.int .i64 0, .bool false, .slice none 0 0, .int .i64 0, .float .f64 0]).frame f1 (by simp)
  have F1 := Lib.hid ((Frame.alloc [] w (.cells #[.int .i64 0, .bool false, .slice none 0 0, .int .i64 0, .float .f64 0] 39)).trans1 f1)
  have y0 := BX.at 0 rfl
  have y1 := BX.at 1 rfl
  have y2 := BX.at 2 rfl
  have y3 := BX.at 3 rfl
  have y4 := BX.at 4 rfl
  have zf := BX.frozen
  have B5 := Lib.hid (putV BX (.int .i64 1) (.bool false) (.slice (some ⟨b, 0, none⟩) 1 2) (.int .i64 0) (.float .f64 0))
  have F5 := Lib.hid (putV_frame (w := w) (b := w.heap.size) (by omega) F1.out (.int .i64 1) (.bool false) (.slice (some ⟨b, 0, none⟩) 1 2) (.int .i64 0) (.float .f64 0))
  have KD := Lib.hid (putV_keep BX (.int .i64 1) (.bool false) (.slice (some ⟨b, 0, none⟩) 1 2) (.int .i64 0) (.float .f64 0))
  have NO := Lib.hid ((nr_one hb).kept KD.out)
  clear BX f1 hb
  go_wp2_with fail
  refine bodyPost_ret (results_val1 rfl _ _ _ _ _ _ _ _ rfl B5.out) rfl ?_
  exact ⟨_, rfl, ⟨_, _, _, _, rfl, NO.out⟩, F5.out⟩
set_option maxRecDepth 100000 in
theorem least_2 (w : World) : Calls Try.prog 40 #[.int .i64 2] w (WEnd (IsL 2) (rgL 2).z w) := by
  have hst := fun (w : World) (a : Addr) (q : Nat) (m : Mode) => run_store Try.prog w a (.float .f64 q) m rfl
  go_enter Try.func40, Try.ntmps40
  go_wp2_with fail
  refine bodyPost_ret (results_val1 rfl _ _ _ _ _ _ _ _ rfl (Blk.new w 39 _)) rfl ?_
  exact ⟨_, rfl, ⟨rfl, by decide, by decide⟩, Frame.alloc _ _ _⟩
set_option maxRecDepth 100000 in
theorem whole_2 (w : World) : Calls Try.prog 64 #[.int .i64 2] w (WEnd (IsL 2) (rgL 2).o w) := by
  have hst := fun (w : World) (a : Addr) (q : Nat) (m : Mode) => run_store Try.prog w a (.float .f64 q) m rfl
  go_enter Try.func64, Try.ntmps64
  go_wp2_with fail
  refine (top_2 _).mono ?_
  rintro e w1 ⟨rfl, rfl⟩
  go_wp2_with fail
  refine bodyPost_ret (results_val1 rfl _ _ _ _ _ _ _ _ rfl (Blk.new w 39 _)) rfl ?_
  exact ⟨_, rfl, ⟨rfl, by decide, by decide⟩, Frame.alloc _ _ _⟩
set_option maxRecDepth 100000 in
theorem least_3 (w : World) : Calls Try.prog 40 #[.int .i64 3] w (WEnd (IsN 3) (rgT).z w) := by
  have hst := fun (w : World) (a : Addr) (q : Nat) (m : Mode) => run_store Try.prog w a (.float .f64 q) m rfl
  go_enter Try.func40, Try.ntmps40
  go_wp2_with fail
  refine (natInf_any _).mono ?_
  rintro e w1 ⟨rfl, f1⟩
  have BX := (Blk.new w 39 #[.int .i64 0, .bool false, .slice none 0 0, .int .i64 0, .float .f64 0]).frame f1 (by simp)
  have F1 := Lib.hid ((Frame.alloc [] w (.cells #[.int .i64 0, .bool false, .slice none 0 0, .int .i64 0, .float .f64 0] 39)).trans1 f1)
  have y0 := BX.at 0 rfl
  have y1 := BX.at 1 rfl
  have y2 := BX.at 2 rfl
  have y3 := BX.at 3 rfl
  have y4 := BX.at 4 rfl
  have zf := BX.frozen
  have B5 := Lib.hid (putV BX (.int .i64 3) (.bool true) (.slice none 0 0) (.int .i64 0) (.float .f64 0))
  have F5 := Lib.hid (putV_frame (w := w) (b := w.heap.size) (by omega) F1.out (.int .i64 3) (.bool true) (.slice none 0 0) (.int .i64 0) (.float .f64 0))
  have KD := Lib.hid (putV_keep BX (.int .i64 3) (.bool true) (.slice none 0 0) (.int .i64 0) (.float .f64 0))
  clear BX f1
  go_wp2_with fail
  refine bodyPost_ret (results_val1 rfl _ _ _ _ _ _ _ _ rfl B5.out) rfl ?_
  exact ⟨_, rfl, ⟨_, _, _, _, rfl, rfl⟩, F5.out⟩
set_option maxRecDepth 100000 in
theorem whole_3 (w : World) : Calls Try.prog 64 #[.int .i64 3] w (WEnd (IsN 3) (rgT).o w) := by
  have hst := fun (w : World) (a : Addr) (q : Nat) (m : Mode) => run_store Try.prog w a (.float .f64 q) m rfl
  go_enter Try.func64, Try.ntmps64
  go_wp2_with fail
  refine bodyPost_ret (results_val1 rfl _ _ _ _ _ _ _ _ rfl (Blk.new w 39 _)) rfl ?_
  exact ⟨_, rfl, ⟨_, _, _, _, rfl, nr_zero _⟩, Frame.alloc _ _ _⟩
set_option maxRecDepth 100000 in
theorem least_4 (w : World) : Calls Try.prog 40 #[.int .i64 4] w (WEnd (IsL 4) (rgL 4).z w) := by
  have hst := fun (w : World) (a : Addr) (q : Nat) (m : Mode) => run_store Try.prog w a (.float .f64 q) m rfl
  go_enter Try.func40, Try.ntmps40
  go_wp2_with fail
  refine bodyPost_ret (results_val1 rfl _ _ _ _ _ _ _ _ rfl (Blk.new w 39 _)) rfl ?_
  exact ⟨_, rfl, ⟨rfl, by decide, by decide⟩, Frame.alloc _ _ _⟩
set_option maxRecDepth 100000 in
theorem whole_4 (w : World) : Calls Try.prog 64 #[.int .i64 4] w (WEnd (IsL 4) (rgL 4).o w) := by
  have hst := fun (w : World) (a : Addr) (q : Nat) (m : Mode) => run_store Try.prog w a (.float .f64 q) m rfl
  go_enter Try.func64, Try.ntmps64
  go_wp2_with fail
  refine (top_4 _).mono ?_
  rintro e w1 ⟨rfl, rfl⟩
  go_wp2_with fail
  refine bodyPost_ret (results_val1 rfl _ _ _ _ _ _ _ _ rfl (Blk.new w 39 _)) rfl ?_
  exact ⟨_, rfl, ⟨rfl, by decide, by decide⟩, Frame.alloc _ _ _⟩
set_option maxRecDepth 100000 in
theorem least_5 (w : World) : Calls Try.prog 40 #[.int .i64 5] w (WEnd (IsF 5) (rgF5).z w) := by
  have hst := fun (w : World) (a : Addr) (q : Nat) (m : Mode) => run_store Try.prog w a (.float .f64 q) m rfl
  go_enter Try.func40, Try.ntmps40
  go_wp2_with fail
  refine bodyPost_ret (results_val1 rfl _ _ _ _ _ _ _ _ rfl (Blk.new w 39 _)) rfl ?_
  exact ⟨_, rfl, ⟨rfl, by decide⟩, Frame.alloc _ _ _⟩
set_option maxRecDepth 100000 in
theorem whole_5 (w : World) : Calls Try.prog 64 #[.int .i64 5] w (WEnd (IsF 5) (rgF5).o w) := by
  have hst := fun (w : World) (a : Addr) (q : Nat) (m : Mode) => run_store Try.prog w a (.float .f64 q) m rfl
  go_enter Try.func64, Try.ntmps64
  go_wp2_with fail
  refine bodyPost_ret (results_val1 rfl _ _ _ _ _ _ _ _ rfl (Blk.new w 39 _)) rfl ?_
  exact ⟨_, rfl, ⟨rfl, by decide⟩, Frame.alloc _ _ _⟩
set_option maxRecDepth 100000 in
theorem least_6 (w : World) : Calls Try.prog 40 #[.int .i64 6] w (WEnd (IsF 6) (rgF6).z w) := by
  have hst := fun (w : World) (a : Addr) (q : Nat) (m : Mode) => run_store Try.prog w a (.float .f64 q) m rfl
  go_enter Try.func40, Try.ntmps40
  go_wp2_with fail
  refine (minf_any _).mono ?_
  rintro e w1 ⟨rfl, rfl⟩
  go_wp2_with fail
  refine bodyPost_ret (results_val1 rfl _ _ _ _ _ _ _ _ rfl (Blk.new w 39 _)) rfl ?_
  exact ⟨_, rfl, ⟨rfl, by decide⟩, Frame.alloc _ _ _⟩
set_option maxRecDepth 100000 in
theorem whole_6 (w : World) : Calls Try.prog 64 #[.int .i64 6] w (WEnd (IsF 6) (rgF6).o w) := by
  have hst := fun (w : World) (a : Addr) (q : Nat) (m : Mode) => run_store Try.prog w a (.float .f64 q) m rfl
  go_enter Try.func64, Try.ntmps64
  go_wp2_with fail
  refine bodyPost_ret (results_val1 rfl _ _ _ _ _ _ _ _ rfl (Blk.new w 39 _)) rfl ?_
  exact ⟨_, rfl, ⟨rfl, by decide⟩, Frame.alloc _ _ _⟩
set_option maxRecDepth 100000 in
theorem zero_1 (w : World) : Calls Try.prog 24 #[.int .i64 1] w (VEnd (IsN 1) (rgN1).z w) := by
  have hst := fun (w : World) (a : Addr) (q : Nat) (m : Mode) => run_store Try.prog w a (.float .f64 q) m rfl
  go_enter Try.func24, Try.ntmps24
  go_wp2_with fail
  refine (known_1 _).mono ?_
  rintro e w1 ⟨rfl, rfl⟩
  go_wp2_with fail
  refine (least_1 _).mono ?_
  rintro e w1 ⟨v, rfl, iv, f1⟩
  obtain ⟨i, a, l, c, rfl, nv⟩ := iv
  have BX := (Blk.new w 39 #[.int .i64 0, .bool false, .slice none 0 0, .int .i64 0, .float .f64 0]).frame f1 (by simp)
  have F1 := Lib.hid ((Frame.alloc [] w (.cells #[.int .i64 0, .bool false, .slice none 0 0, .int .i64 0, .float .f64 0] 39)).trans1 f1)
  have y0 := BX.at 0 rfl
  have y1 := BX.at 1 rfl
  have y2 := BX.at 2 rfl
  have y3 := BX.at 3 rfl
  have y4 := BX.at 4 rfl
  have zf := BX.frozen
  have B5 := Lib.hid (putV BX (.int .i64 1) (.bool i) (.slice a l c) (.int .i64 0) (.float .f64 0))
  have F5 := Lib.hid (putV_frame (w := w) (b := w.heap.size) (by omega) F1.out (.int .i64 1) (.bool i) (.slice a l c) (.int .i64 0) (.float .f64 0))
  have KD := Lib.hid (putV_keep BX (.int .i64 1) (.bool i) (.slice a l c) (.int .i64 0) (.float .f64 0))
  have NV := Lib.hid (nv.kept KD.out)
  clear nv
  clear BX f1
  go_wp2_with fail
  refine bodyPost_ret (results_val2 rfl _ _ _ _ _ _ _ _ rfl B5.out) rfl ?_
  exact ⟨_, rfl, ⟨_, _, _, _, rfl, NV.out⟩, F5.out⟩
set_option maxRecDepth 100000 in
theorem one_1 (w : World) : Calls Try.prog 42 #[.int .i64 1] w (VEnd (IsN 1) (rgN1).o w) := by
  have hst := fun (w : World) (a : Addr) (q : Nat) (m : Mode) => run_store Try.prog w a (.float .f64 q) m rfl
  go_enter Try.func42, Try.ntmps42
  go_wp2_with fail
  refine (known_1 _).mono ?_
  rintro e w1 ⟨rfl, rfl⟩
  go_wp2_with fail
  refine (whole_1 _).mono ?_
  rintro e w1 ⟨v, rfl, iv, f1⟩
  obtain ⟨i, a, l, c, rfl, nv⟩ := iv
  have BX := (Blk.new w 39 #[.int .i64 0, .bool false, .slice none 0 0, .int .i64 0, .float .f64 0]).frame f1 (by simp)
  have F1 := Lib.hid ((Frame.alloc [] w (.cells #[.int .i64 0, .bool false, .slice none 0 0, .int .i64 0, .float .f64 0] 39)).trans1 f1)
  have y0 := BX.at 0 rfl
  have y1 := BX.at 1 rfl
  have y2 := BX.at 2 rfl
  have y3 := BX.at 3 rfl
  have y4 := BX.at 4 rfl
  have zf := BX.frozen
  have B5 := Lib.hid (putV BX (.int .i64 1) (.bool i) (.slice a l c) (.int .i64 0) (.float .f64 0))
  have F5 := Lib.hid (putV_frame (w := w) (b := w.heap.size) (by omega) F1.out (.int .i64 1) (.bool i) (.slice a l c) (.int .i64 0) (.float .f64 0))
  have KD := Lib.hid (putV_keep BX (.int .i64 1) (.bool i) (.slice a l c) (.int .i64 0) (.float .f64 0))
  have NV := Lib.hid (nv.kept KD.out)
  clear nv
  clear BX f1
  go_wp2_with fail
  refine bodyPost_ret (results_val2 rfl _ _ _ _ _ _ _ _ rfl B5.out) rfl ?_
  exact ⟨_, rfl, ⟨_, _, _, _, rfl, NV.out⟩, F5.out⟩
set_option maxRecDepth 100000 in
theorem zero_2 (w : World) : Calls Try.prog 24 #[.int .i64 2] w (VEnd (IsL 2) (rgL 2).z w) := by
  have hst := fun (w : World) (a : Addr) (q : Nat) (m : Mode) => run_store Try.prog w a (.float .f64 q) m rfl
  go_enter Try.func24, Try.ntmps24
  go_wp2_with fail
  refine (known_2 _).mono ?_
  rintro e w1 ⟨rfl, rfl⟩
  go_wp2_with fail
  refine (least_2 _).mono ?_
  rintro e w1 ⟨v, rfl, iv, f1⟩
  obtain ⟨rfl, h0, h1⟩ := iv
  generalize (rgL 2).z = x at *
  have BX := (Blk.new w 39 #[.int .i64 0, .bool false, .slice none 0 0, .int .i64 0, .float .f64 0]).frame f1 (by simp)
  have F1 := Lib.hid ((Frame.alloc [] w (.cells #[.int .i64 0, .bool false, .slice none 0 0, .int .i64 0, .float .f64 0] 39)).trans1 f1)
  have y0 := BX.at 0 rfl
  have y1 := BX.at 1 rfl
  have y2 := BX.at 2 rfl
  have y3 := BX.at 3 rfl
  have y4 := BX.at 4 rfl
  have zf := BX.frozen
  have B5 := Lib.hid (putV BX (.int .i64 2) (.bool false) (.slice none 0 0) (.int .i64 x) (.float .f64 0))
  have F5 := Lib.hid (putV_frame (w := w) (b := w.heap.size) (by omega) F1.out (.int .i64 2) (.bool false) (.slice none 0 0) (.int .i64 x) (.float .f64 0))
  have KD := Lib.hid (putV_keep BX (.int .i64 2) (.bool false) (.slice none 0 0) (.int .i64 x) (.float .f64 0))
  clear BX f1
  go_wp2_with fail
  refine bodyPost_ret (results_val2 rfl _ _ _ _ _ _ _ _ rfl B5.out) rfl ?_
  exact ⟨_, rfl, ⟨rfl, h0, h1⟩, F5.out⟩
set_option maxRecDepth 100000 in
theorem one_2 (w : World) : Calls Try.prog 42 #[.int .i64 2] w (VEnd (IsL 2) (rgL 2).o w) := by
  have hst := fun (w : World) (a : Addr) (q : Nat) (m : Mode) => run_store Try.prog w a (.float .f64 q) m rfl
  go_enter Try.func42, Try.ntmps42
  go_wp2_with fail
  refine (known_2 _).mono ?_
  rintro e w1 ⟨rfl, rfl⟩
  go_wp2_with fail
  refine (whole_2 _).mono ?_
  rintro e w1 ⟨v, rfl, iv, f1⟩
  obtain ⟨rfl, h0, h1⟩ := iv
  generalize (rgL 2).o = x at *
  have BX := (Blk.new w 39 #[.int .i64 0, .bool false, .slice none 0 0, .int .i64 0, .float .f64 0]).frame f1 (by simp)
  have F1 := Lib.hid ((Frame.alloc [] w (.cells #[.int .i64 0, .bool false, .slice none 0 0, .int .i64 0, .float .f64 0] 39)).trans1 f1)
  have y0 := BX.at 0 rfl
  have y1 := BX.at 1 rfl
  have y2 := BX.at 2 rfl
  have y3 := BX.at 3 rfl
  have y4 := BX.at 4 rfl
  have zf := BX.frozen
  have B5 := Lib.hid (putV BX (.int .i64 2) (.bool false) (.slice none 0 0) (.int .i64 x) (.float .f64 0))
  have F5 := Lib.hid (putV_frame (w := w) (b := w.heap.size) (by omega) F1.out (.int .i64 2) (.bool false) (.slice none 0 0) (.int .i64 x) (.float .f64 0))
  have KD := Lib.hid (putV_keep BX (.int .i64 2) (.bool false) (.slice none 0 0) (.int .i64 x) (.float .f64 0))
  clear BX f1
  go_wp2_with fail
  refine bodyPost_ret (results_val2 rfl _ _ _ _ _ _ _ _ rfl B5.out) rfl ?_
  exact ⟨_, rfl, ⟨rfl, h0, h1⟩, F5.out⟩
set_option maxRecDepth 100000 in
theorem zero_3 (w : World) : Calls Try.prog 24 #[.int .i64 3] w (VEnd (IsN 3) (rgT).z w) := by
  have hst := fun (w : World) (a : Addr) (q : Nat) (m : Mode) => run_store Try.prog w a (.float .f64 q) m rfl
  go_enter Try.func24, Try.ntmps24
  go_wp2_with fail
  refine (known_3 _).mono ?_
  rintro e w1 ⟨rfl, rfl⟩
  go_wp2_with fail
  refine (least_3 _).mono ?_
  rintro e w1 ⟨v, rfl, iv, f1⟩
  obtain ⟨i, a, l, c, rfl, nv⟩ := iv
  have BX := (Blk.new w 39 #[.int .i64 0, .bool false, .slice none 0 0, .int .i64 0, .float .f64 0]).frame f1 (by simp)
  have F1 := Lib.hid ((Frame.alloc [] w (.cells #[.int .i64 0, .bool false, .slice none 0 0, .int .i64 0, .float .f64 0] 39)).trans1 f1)
  have y0 := BX.at 0 rfl
  have y1 := BX.at 1 rfl
  have y2 := BX.at 2 rfl
  have y3 := BX.at 3 rfl
  have y4 := BX.at 4 rfl
  have zf := BX.frozen
  have B5 := Lib.hid (putV BX (.int .i64 3) (.bool i) (.slice a l c) (.int .i64 0) (.float .f64 0))
  have F5 := Lib.hid (putV_frame (w := w) (b := w.heap.size) (by omega) F1.out (.int .i64 3) (.bool i) (.slice a l c) (.int .i64 0) (.float .f64 0))
  have KD := Lib.hid (putV_keep BX (.int .i64 3) (.bool i) (.slice a l c) (.int .i64 0) (.float .f64 0))
  have NV := Lib.hid (nv.kept KD.out)
  clear nv
  clear BX f1
  go_wp2_with fail
  refine bodyPost_ret (results_val2 rfl _ _ _ _ _ _ _ _ rfl B5.out) rfl ?_
  exact ⟨_, rfl, ⟨_, _, _, _, rfl, NV.out⟩, F5.out⟩
set_option maxRecDepth 100000 in
theorem one_3 (w : World) : Calls Try.prog 42 #[.int .i64 3] w (VEnd (IsN 3) (rgT).o w) := by
  have hst := fun (w : World) (a : Addr) (q : Nat) (m : Mode) => run_store Try.prog w a (.float .f64 q) m rfl
  go_enter Try.func42, Try.ntmps42
  go_wp2_with fail
  refine (known_3 _).mono ?_
  rintro e w1 ⟨rfl, rfl⟩
  go_wp2_with fail
  refine (whole_3 _).mono ?_
  rintro e w1 ⟨v, rfl, iv, f1⟩
  obtain ⟨i, a, l, c, rfl, nv⟩ := iv
  have BX := (Blk.new w 39 #[.int .i64 0, .bool false, .slice none 0 0, .int .i64 0, .float .f64 0]).frame f1 (by simp)
  have F1 := Lib.hid ((Frame.alloc [] w (.cells #[.int .i64 0, .bool false, .slice none 0 0, .int .i64 0, .float .f64 0] 39)).trans1 f1)
  have y0 := BX.at 0 rfl
  have y1 := BX.at 1 rfl
  have y2 := BX.at 2 rfl
  have y3 := BX.at 3 rfl
  have y4 := BX.at 4 rfl
  have zf := BX.frozen
  have B5 := Lib.hid (putV BX (.int .i64 3) (.bool i) (.slice a l c) (.int .i64 0) (.float .f64 0))
  have F5 := Lib.hid (putV_frame (w := w) (b := w.heap.size) (by omega) F1.out (.int .i64 3) (.bool i) (.slice a l c) (.int .i64 0) (.float .f64 0))
  have KD := Lib.hid (putV_keep BX (.int .i64 3) (.bool i) (.slice a l c) (.int .i64 0) (.float .f64 0))
  have NV := Lib.hid (nv.kept KD.out)
  clear nv
  clear BX f1
  go_wp2_with fail
  refine bodyPost_ret (results_val2 rfl _ _ _ _ _ _ _ _ rfl B5.out) rfl ?_
  exact ⟨_, rfl, ⟨_, _, _, _, rfl, NV.out⟩, F5.out⟩
set_option maxRecDepth 100000 in
theorem zero_4 (w : World) : Calls Try.prog 24 #[.int .i64 4] w (VEnd (IsL 4) (rgL 4).z w) := by
  have hst := fun (w : World) (a : Addr) (q : Nat) (m : Mode) => run_store Try.prog w a (.float .f64 q) m rfl
  go_enter Try.func24, Try.ntmps24
  go_wp2_with fail
  refine (known_4 _).mono ?_
  rintro e w1 ⟨rfl, rfl⟩
  go_wp2_with fail
  refine (least_4 _).mono ?_
  rintro e w1 ⟨v, rfl, iv, f1⟩
  obtain ⟨rfl, h0, h1⟩ := iv
  generalize (rgL 4).z = x at *
  have BX := (Blk.new w 39 #[.int .i64 0, .bool false, .slice none 0 0, .int .i64 0, .float .f64 0]).frame f1 (by simp)
  have F1 := Lib.hid ((Frame.alloc [] w (.cells #[.int .i64 0, .bool false, .slice none 0 0, .int .i64 0, .float .f64 0] 39)).trans1 f1)
  have y0 := BX.at 0 rfl
  have y1 := BX.at 1 rfl
  have y2 := BX.at 2 rfl
  have y3 := BX.at 3 rfl
  have y4 := BX.at 4 rfl
  have zf := BX.frozen
  have B5 := Lib.hid (putV BX (.int .i64 4) (.bool false) (.slice none 0 0) (.int .i64 x) (.float .f64 0))
  have F5 := Lib.hid (putV_frame (w := w) (b := w.heap.size) (by omega) F1.out (.int .i64 4) (.bool false) (.slice none 0 0) (.int .i64 x) (.float .f64 0))
  have KD := Lib.hid (putV_keep BX (.int .i64 4) (.bool false) (.slice none 0 0) (.int .i64 x) (.float .f64 0))
  clear BX f1
  go_wp2_with fail
  refine bodyPost_ret (results_val2 rfl _ _ _ _ _ _ _ _ rfl B5.out) rfl ?_
  exact ⟨_, rfl, ⟨rfl, h0, h1⟩, F5.out⟩
set_option maxRecDepth 100000 in
theorem one_4 (w : World) : Calls Try.prog 42 #[.int .i64 4] w (VEnd (IsL 4) (rgL 4).o w) := by
  have hst := fun (w : World) (a : Addr) (q : Nat) (m : Mode) => run_store Try.prog w a (.float .f64 q) m rfl
  go_enter Try.func42, Try.ntmps42
  go_wp2_with fail
  refine (known_4 _).mono ?_
  rintro e w1 ⟨rfl, rfl⟩
  go_wp2_with fail
  refine (whole_4 _).mono ?_
  rintro e w1 ⟨v, rfl, iv, f1⟩
  obtain ⟨rfl, h0, h1⟩ := iv
  generalize (rgL 4).o = x at *
  have BX := (Blk.new w 39 #[.int .i64 0, .bool false, .slice none 0 0, .int .i64 0, .float .f64 0]).frame f1 (by simp)
  have F1 := Lib.hid ((Frame.alloc [] w (.cells #[.int .i64 0, .bool false, .slice none 0 0, .int .i64 0, .float .f64 0] 39)).trans1 f1)
  have y0 := BX.at 0 rfl
  have y1 := BX.at 1 rfl
  have y2 := BX.at 2 rfl
  have y3 := BX.at 3 rfl
  have y4 := BX.at 4 rfl
  have zf := BX.frozen
  have B5 := Lib.hid (putV BX (.int .i64 4) (.bool false) (.slice none 0 0) (.int .i64 x) (.float .f64 0))
  have F5 := Lib.hid (putV_frame (w := w) (b := w.heap.size) (by omega) F1.out (.int .i64 4) (.bool false) (.slice none 0 0) (.int .i64 x) (.float .f64 0))
  have KD := Lib.hid (putV_keep BX (.int .i64 4) (.bool false) (.slice none 0 0) (.int .i64 x) (.float .f64 0))
  clear BX f1
  go_wp2_with fail
  refine bodyPost_ret (results_val2 rfl _ _ _ _ _ _ _ _ rfl B5.out) rfl ?_
  exact ⟨_, rfl, ⟨rfl, h0, h1⟩, F5.out⟩
set_option maxRecDepth 100000 in
theorem zero_5 (w : World) : Calls Try.prog 24 #[.int .i64 5] w (VEnd (IsF 5) (rgF5).z w) := by
  have hst := fun (w : World) (a : Addr) (q : Nat) (m : Mode) => run_store Try.prog w a (.float .f64 q) m rfl
  go_enter Try.func24, Try.ntmps24
  go_wp2_with fail
  refine (known_5 _).mono ?_
  rintro e w1 ⟨rfl, rfl⟩
  go_wp2_with fail
  refine (least_5 _).mono ?_
  rintro e w1 ⟨v, rfl, iv, f1⟩
  obtain ⟨rfl, h0⟩ := iv
  generalize (rgF5).z = x at *
  have BX := (Blk.new w 39 #[.int .i64 0, .bool false, .slice none 0 0, .int .i64 0, .float .f64 0]).frame f1 (by simp)
  have F1 := Lib.hid ((Frame.alloc [] w (.cells #[.int .i64 0, .bool false, .slice none 0 0, .int .i64 0, .float .f64 0] 39)).trans1 f1)
  have y0 := BX.at 0 rfl
  have y1 := BX.at 1 rfl
  have y2 := BX.at 2 rfl
  have y3 := BX.at 3 rfl
  have y4 := BX.at 4 rfl
  have zf := BX.frozen
  have B5 := Lib.hid (putV BX (.int .i64 5) (.bool false) (.slice none 0 0) (.int .i64 0) (.float .f64 x))
  have F5 := Lib.hid (putV_frame (w := w) (b := w.heap.size) (by omega) F1.out (.int .i64 5) (.bool false) (.slice none 0 0) (.int .i64 0) (.float .f64 x))
  have KD := Lib.hid (putV_keep BX (.int .i64 5) (.bool false) (.slice none 0 0) (.int .i64 0) (.float .f64 x))
  clear BX f1
  go_wp2_with fail
  refine bodyPost_ret (results_val2 rfl _ _ _ _ _ _ _ _ rfl B5.out) rfl ?_
  exact ⟨_, rfl, ⟨rfl, h0⟩, F5.out⟩
set_option maxRecDepth 100000 in
theorem one_5 (w : World) : Calls Try.prog 42 #[.int .i64 5] w (VEnd (IsF 5) (rgF5).o w) := by
  have hst := fun (w : World) (a : Addr) (q : Nat) (m : Mode) => run_store Try.prog w a (.float .f64 q) m rfl
  go_enter Try.func42, Try.ntmps42
  go_wp2_with fail
  refine (known_5 _).mono ?_
  rintro e w1 ⟨rfl, rfl⟩
  go_wp2_with fail
  refine (whole_5 _).mono ?_
  rintro e w1 ⟨v, rfl, iv, f1⟩
  obtain ⟨rfl, h0⟩ := iv
  generalize (rgF5).o = x at *
  have BX := (Blk.new w 39 #[.int .i64 0, .bool false, .slice none 0 0, .int .i64 0, .float .f64 0]).frame f1 (by simp)
  have F1 := Lib.hid ((Frame.alloc [] w (.cells #[.int .i64 0, .bool false, .slice none 0 0, .int .i64 0, .float .f64 0] 39)).trans1 f1)
  have y0 := BX.at 0 rfl
  have y1 := BX.at 1 rfl
  have y2 := BX.at 2 rfl
  have y3 := BX.at 3 rfl
  have y4 := BX.at 4 rfl
  have zf := BX.frozen
  have B5 := Lib.hid (putV BX (.int .i64 5) (.bool false) (.slice none 0 0) (.int .i64 0) (.float .f64 x))
  have F5 := Lib.hid (putV_frame (w := w) (b := w.heap.size) (by omega) F1.out (.int .i64 5) (.bool false) (.slice none 0 0) (.int .i64 0) (.float .f64 x))
  have KD := Lib.hid (putV_keep BX (.int .i64 5) (.bool false) (.slice none 0 0) (.int .i64 0) (.float .f64 x))
  clear BX f1
  go_wp2_with fail
  refine bodyPost_ret (results_val2 rfl _ _ _ _ _ _ _ _ rfl B5.out) rfl ?_
  exact ⟨_, rfl, ⟨rfl, h0⟩, F5.out⟩
set_option maxRecDepth 100000 in
theorem zero_6 (w : World) : Calls Try.prog 24 #[.int .i64 6] w (VEnd (IsF 6) (rgF6).z w) := by
  have hst := fun (w : World) (a : Addr) (q : Nat) (m : Mode) => run_store Try.prog w a (.float .f64 q) m rfl
  go_enter Try.func24, Try.ntmps24
  go_wp2_with fail
  refine (known_6 _).mono ?_
  rintro e w1 ⟨rfl, rfl⟩
  go_wp2_with fail
  refine (least_6 _).mono ?_
  rintro e w1 ⟨v, rfl, iv, f1⟩
  obtain ⟨rfl, h0⟩ := iv
  generalize (rgF6).z = x at *
  have BX := (Blk.new w 39 #[.int .i64 0, .bool false, .slice none 0 0, .int .i64 0, .float .f64 0]).frame f1 (by simp)
  have F1 := Lib.hid ((Frame.alloc [] w (.cells #[.int .i64 0, .bool false, .slice none 0 0, .int .i64 0, .float .f64 0] 39)).trans1 f1)
  have y0 := BX.at 0 rfl
  have y1 := BX.at 1 rfl
  have y2 := BX.at 2 rfl
  have y3 := BX.at 3 rfl
  have y4 := BX.at 4 rfl
  have zf := BX.frozen
  have B5 := Lib.hid (putV BX (.int .i64 6) (.bool false) (.slice none 0 0) (.int .i64 0) (.float .f64 x))
  have F5 := Lib.hid (putV_frame (w := w) (b := w.heap.size) (by omega) F1.out (.int .i64 6) (.bool false) (.slice none 0 0) (.int .i64 0) (.float .f64 x))
  have KD := Lib.hid (putV_keep BX (.int .i64 6) (.bool false) (.slice none 0 0) (.int .i64 0) (.float .f64 x))
  clear BX f1
  go_wp2_with fail
  refine bodyPost_ret (results_val2 rfl _ _ _ _ _ _ _ _ rfl B5.out) rfl ?_
  exact ⟨_, rfl, ⟨rfl, h0⟩, F5.out⟩
set_option maxRecDepth 100000 in
theorem one_6 (w : World) : Calls Try.prog 42 #[.int .i64 6] w (VEnd (IsF 6) (rgF6).o w) := by
  have hst := fun (w : World) (a : Addr) (q : Nat) (m : Mode) => run_store Try.prog w a (.float .f64 q) m rfl
  go_enter Try.func42, Try.ntmps42
  go_wp2_with fail
  refine (known_6 _).mono ?_
  rintro e w1 ⟨rfl, rfl⟩
  go_wp2_with fail
  refine (whole_6 _).mono ?_
  rintro e w1 ⟨v, rfl, iv, f1⟩
  obtain ⟨rfl, h0⟩ := iv
  generalize (rgF6).o = x at *
  have BX := (Blk.new w 39 #[.int .i64 0, .bool false, .slice none 0 0, .int .i64 0, .float .f64 0]).frame f1 (by simp)
  have F1 := Lib.hid ((Frame.alloc [] w (.cells #[.int .i64 0, .bool false, .slice none 0 0, .int .i64 0, .float .f64 0] 39)).trans1 f1)
  have y0 := BX.at 0 rfl
  have y1 := BX.at 1 rfl
  have y2 := BX.at 2 rfl
  have y3 := BX.at 3 rfl
  have y4 := BX.at 4 rfl
  have zf := BX.frozen
  have B5 := Lib.hid (putV BX (.int .i64 6) (.bool false) (.slice none 0 0) (.int .i64 0) (.float .f64 x))
  have F5 := Lib.hid (putV_frame (w := w) (b := w.heap.size) (by omega) F1.out (.int .i64 6) (.bool false) (.slice none 0 0) (.int .i64 0) (.float .f64 x))
  have KD := Lib.hid (putV_keep BX (.int .i64 6) (.bool false) (.slice none 0 0) (.int .i64 0) (.float .f64 x))
  clear BX f1
  go_wp2_with fail
  refine bodyPost_ret (results_val2 rfl _ _ _ _ _ _ _ _ rfl B5.out) rfl ?_
  exact ⟨_, rfl, ⟨rfl, h0⟩, F5.out⟩
set_option maxRecDepth 100000 in
theorem may_1 (x : Option Nat) (i : Bool) (a : Option Addr) (l c : Nat) (w : World) (h : NR w (.agg #[.bool i, .slice a l c]) x) (hl : Sz x) : Calls Try.prog 41 #[.agg #[.int .i64 1, .bool i, .slice a l c, .int .i64 0, .float .f64 0]] w fun e w' => e = .returned (.int .i64 0) ∧ Frame [] w w' := by
  have hst := fun (w : World) (a : Addr) (q : Nat) (m : Mode) => run_store Try.prog w a (.float .f64 q) m rfl
  have NM := Lib.hid (fun w' (f : Frame [] w w') => nmay_any _ x w' (h.frame f) hl)
  clear h
  have BX := Blk.new w 39 #[.int .i64 1, .bool i, .slice a l c, .int .i64 0, .float .f64 0]
  have F1 := Lib.hid (Frame.alloc [] w (.cells #[.int .i64 1, .bool i, .slice a l c, .int .i64 0, .float .f64 0] 39))
  go_enter Try.func41, Try.ntmps41
  go_upto_region 1 with fail
  generalize w.alloc (.cells #[.int .i64 1, .bool i, .slice a l c, .int .i64 0, .float .f64 0] 39) = w1 at *
  have x0 := BX.at 0 rfl
  have x1 := BX.at 1 rfl
  have x2 := BX.at 2 rfl
  go_wp2_with fail
  refine (known_1 _).mono ?_
  rintro e w2 ⟨rfl, rfl⟩
  go_wp2_with fail
  refine (isNat_1 _).mono ?_
  rintro e w2 ⟨rfl, rfl⟩
  go_wp2_with fail
  refine (NM.out _ F1.out).mono ?_
  rintro e w3 ⟨rfl, f3⟩
  have F3 := Lib.hid (F1.out.trans1 f3)
  clear f3 BX
  go_wp2_with fail
  go_ret
  exact ⟨rfl, F3.out⟩
set_option maxRecDepth 100000 in
theorem may_2 (x : Int) (w : World) (h0 : 0 ≤ x) (h1 : x ≤ lTop 2) : Calls Try.prog 41 #[.agg #[.int .i64 2, .bool false, .slice none 0 0, .int .i64 x, .float .f64 0]] w fun e w' => e = .returned (.int .i64 0) ∧ Frame [] w w' := by
  have hst := fun (w : World) (a : Addr) (q : Nat) (m : Mode) => run_store Try.prog w a (.float .f64 q) m rfl
  have d0 : decide ((0 : Int) ≤ x) = true := decide_eq_true h0
  have d1 : decide (x ≤ lTop 2) = true := decide_eq_true h1
  generalize hlt : lTop 2 = tp at *
  have TP := Lib.hid (fun w => top_2 w)
  rw [hlt] at TP
  clear hlt
  have BX := Blk.new w 39 #[.int .i64 2, .bool false, .slice none 0 0, .int .i64 x, .float .f64 0]
  have F1 := Lib.hid (Frame.alloc [] w (.cells #[.int .i64 2, .bool false, .slice none 0 0, .int .i64 x, .float .f64 0] 39))
  go_enter Try.func41, Try.ntmps41
  go_upto_region 1 with fail
  generalize w.alloc (.cells #[.int .i64 2, .bool false, .slice none 0 0, .int .i64 x, .float .f64 0] 39) = w1 at *
  have x0 := BX.at 0 rfl
  have y0 := framed_cell (BX.at 0 rfl)
  have y3 := framed_cell (BX.at 3 rfl)
  go_wp2_with fail
  refine (known_2 _).mono ?_
  rintro e w2 ⟨rfl, rfl⟩
  go_wp2_with fail
  refine (isNat_2 _).mono ?_
  rintro e w2 ⟨rfl, rfl⟩
  go_wp2_with fail
  refine (isLevel_2 _).mono ?_
  rintro e w2 ⟨rfl, rfl⟩
  go_wp2_with fail
  refine wp_region_framed (by kernel_rfl) (by kernel_rfl) ?_
  repeat (go_big_quiet_step (exact framed_same (TP.out _)))
  refine wpQuiet_nil ?_
  intro w6 hw
  have f6 := framed_out hw
  clear hw
  have F6 := Lib.hid (F1.out.trans1 f6)
  clear f6
  go_wp2_with fail
  go_ret
  exact ⟨rfl, F6.out⟩
set_option maxRecDepth 100000 in
theorem may_3 (x : Option Nat) (i : Bool) (a : Option Addr) (l c : Nat) (w : World) (h : NR w (.agg #[.bool i, .slice a l c]) x) (hl : Sz x) : Calls Try.prog 41 #[.agg #[.int .i64 3, .bool i, .slice a l c, .int .i64 0, .float .f64 0]] w fun e w' => e = .returned (.int .i64 0) ∧ Frame [] w w' := by
  have hst := fun (w : World) (a : Addr) (q : Nat) (m : Mode) => run_store Try.prog w a (.float .f64 q) m rfl
  have NM := Lib.hid (fun w' (f : Frame [] w w') => nmay_any _ x w' (h.frame f) hl)
  clear h
  have BX := Blk.new w 39 #[.int .i64 3, .bool i, .slice a l c, .int .i64 0, .float .f64 0]
  have F1 := Lib.hid (Frame.alloc [] w (.cells #[.int .i64 3, .bool i, .slice a l c, .int .i64 0, .float .f64 0] 39))
  go_enter Try.func41, Try.ntmps41
  go_upto_region 1 with fail
  generalize w.alloc (.cells #[.int .i64 3, .bool i, .slice a l c, .int .i64 0, .float .f64 0] 39) = w1 at *
  have x0 := BX.at 0 rfl
  have x1 := BX.at 1 rfl
  have x2 := BX.at 2 rfl
  go_wp2_with fail
  refine (known_3 _).mono ?_
  rintro e w2 ⟨rfl, rfl⟩
  go_wp2_with fail
  refine (isNat_3 _).mono ?_
  rintro e w2 ⟨rfl, rfl⟩
  go_wp2_with fail
  refine (NM.out _ F1.out).mono ?_
  rintro e w3 ⟨rfl, f3⟩
  have F3 := Lib.hid (F1.out.trans1 f3)
  clear f3 BX
  go_wp2_with fail
  go_ret
  exact ⟨rfl, F3.out⟩
set_option maxRecDepth 100000 in
theorem may_4 (x : Int) (w : World) (h0 : 0 ≤ x) (h1 : x ≤ lTop 4) : Calls Try.prog 41 #[.agg #[.int .i64 4, .bool false, .slice none 0 0, .int .i64 x, .float .f64 0]] w fun e w' => e = .returned (.int .i64 0) ∧ Frame [] w w' := by
  have hst := fun (w : World) (a : Addr) (q : Nat) (m : Mode) => run_store Try.prog w a (.float .f64 q) m rfl
  have d0 : decide ((0 : Int) ≤ x) = true := decide_eq_true h0
  have d1 : decide (x ≤ lTop 4) = true := decide_eq_true h1
  generalize hlt : lTop 4 = tp at *
  have TP := Lib.hid (fun w => top_4 w)
  rw [hlt] at TP
  clear hlt
  have BX := Blk.new w 39 #[.int .i64 4, .bool false, .slice none 0 0, .int .i64 x, .float .f64 0]
  have F1 := Lib.hid (Frame.alloc [] w (.cells #[.int .i64 4, .bool false, .slice none 0 0, .int .i64 x, .float .f64 0] 39))
  go_enter Try.func41, Try.ntmps41
  go_upto_region 1 with fail
  generalize w.alloc (.cells #[.int .i64 4, .bool false, .slice none 0 0, .int .i64 x, .float .f64 0] 39) = w1 at *
  have x0 := BX.at 0 rfl
  have y0 := framed_cell (BX.at 0 rfl)
  have y3 := framed_cell (BX.at 3 rfl)
  go_wp2_with fail
  refine (known_4 _).mono ?_
  rintro e w2 ⟨rfl, rfl⟩
  go_wp2_with fail
  refine (isNat_4 _).mono ?_
  rintro e w2 ⟨rfl, rfl⟩
  go_wp2_with fail
  refine (isLevel_4 _).mono ?_
  rintro e w2 ⟨rfl, rfl⟩
  go_wp2_with fail
  refine wp_region_framed (by kernel_rfl) (by kernel_rfl) ?_
  repeat (go_big_quiet_step (exact framed_same (TP.out _)))
  refine wpQuiet_nil ?_
  intro w6 hw
  have f6 := framed_out hw
  clear hw
  have F6 := Lib.hid (F1.out.trans1 f6)
  clear f6
  go_wp2_with fail
  go_ret
  exact ⟨rfl, F6.out⟩
set_option maxRecDepth 100000 in
theorem may_5 (x : Nat) (w : World) (h : x ≤ fTop 5) : Calls Try.prog 41 #[.agg #[.int .i64 5, .bool false, .slice none 0 0, .int .i64 0, .float .f64 x]] w fun e w' => e = .returned (.int .i64 0) ∧ Frame [] w w' := by
  have hst := fun (w : World) (a : Addr) (q : Nat) (m : Mode) => run_store Try.prog w a (.float .f64 q) m rfl
  have DB := Lib.hid (fun w' : World => fdouble5 h w')
  have BX := Blk.new w 39 #[.int .i64 5, .bool false, .slice none 0 0, .int .i64 0, .float .f64 x]
  have F1 := Lib.hid (Frame.alloc [] w (.cells #[.int .i64 5, .bool false, .slice none 0 0, .int .i64 0, .float .f64 x] 39))
  go_enter Try.func41, Try.ntmps41
  go_upto_region 1 with fail
  generalize w.alloc (.cells #[.int .i64 5, .bool false, .slice none 0 0, .int .i64 0, .float .f64 x] 39) = w1 at *
  have x0 := BX.at 0 rfl
  have x4 := BX.at 4 rfl
  go_wp2_with fail
  refine (known_5 _).mono ?_
  rintro e w2 ⟨rfl, rfl⟩
  go_wp2_with fail
  refine (isNat_5 _).mono ?_
  rintro e w2 ⟨rfl, rfl⟩
  go_wp2_with fail
  refine (isLevel_5 _).mono ?_
  rintro e w2 ⟨rfl, rfl⟩
  go_wp2_with fail
  refine (DB.out _).mono ?_
  rintro e w3 ⟨rfl, rfl⟩
  go_wp2_with fail
  go_ret
  exact ⟨rfl, F1.out⟩
set_option maxRecDepth 100000 in
theorem may_6 (x : Nat) (w : World) (h : x ≤ fTop 6) : Calls Try.prog 41 #[.agg #[.int .i64 6, .bool false, .slice none 0 0, .int .i64 0, .float .f64 x]] w fun e w' => e = .returned (.int .i64 0) ∧ Frame [] w w' := by
  have hst := fun (w : World) (a : Addr) (q : Nat) (m : Mode) => run_store Try.prog w a (.float .f64 q) m rfl
  have DB := Lib.hid (fun w' : World => fdouble6 h w')
  have BX := Blk.new w 39 #[.int .i64 6, .bool false, .slice none 0 0, .int .i64 0, .float .f64 x]
  have F1 := Lib.hid (Frame.alloc [] w (.cells #[.int .i64 6, .bool false, .slice none 0 0, .int .i64 0, .float .f64 x] 39))
  go_enter Try.func41, Try.ntmps41
  go_upto_region 1 with fail
  generalize w.alloc (.cells #[.int .i64 6, .bool false, .slice none 0 0, .int .i64 0, .float .f64 x] 39) = w1 at *
  have x0 := BX.at 0 rfl
  have x4 := BX.at 4 rfl
  go_wp2_with fail
  refine (known_6 _).mono ?_
  rintro e w2 ⟨rfl, rfl⟩
  go_wp2_with fail
  refine (isNat_6 _).mono ?_
  rintro e w2 ⟨rfl, rfl⟩
  go_wp2_with fail
  refine (isLevel_6 _).mono ?_
  rintro e w2 ⟨rfl, rfl⟩
  go_wp2_with fail
  refine (DB.out _).mono ?_
  rintro e w3 ⟨rfl, rfl⟩
  go_wp2_with fail
  go_ret
  exact ⟨rfl, F1.out⟩
set_option maxRecDepth 100000 in
theorem both_any (n : Int) (i j : Bool) (a b : Option Addr) (l c m d : Nat) (x y : Int) (p q : Nat) (w : World)
    (h1 : ∀ w', Frame [] w w' → Calls Try.prog 41 #[.agg #[.int .i64 n, .bool i, .slice a l c, .int .i64 x, .float .f64 p]] w' fun e w'' => e = .returned (.int .i64 0) ∧ Frame [] w' w'')
    (h2 : ∀ w', Frame [] w w' → Calls Try.prog 41 #[.agg #[.int .i64 n, .bool j, .slice b m d, .int .i64 y, .float .f64 q]] w' fun e w'' => e = .returned (.int .i64 0) ∧ Frame [] w' w'') :
    Calls Try.prog 67 #[.agg #[.int .i64 n, .bool i, .slice a l c, .int .i64 x, .float .f64 p], .agg #[.int .i64 n, .bool j, .slice b m d, .int .i64 y, .float .f64 q]] w fun e w' => e = .returned (.int .i64 0) ∧ Frame [] w w' := by
  have hst := fun (w : World) (a : Addr) (q : Nat) (m : Mode) => run_store Try.prog w a (.float .f64 q) m rfl
  have H1 := Lib.hid h1
  have H2 := Lib.hid h2
  clear h1 h2
  have B0 := Lib.hid ((Blk.new w 39 #[.int .i64 n, .bool i, .slice a l c, .int .i64 x, .float .f64 p]).alloc (.cells #[.int .i64 n, .bool j, .slice b m d, .int .i64 y, .float .f64 q] 39))
  have B1 := Blk.new (w.alloc (.cells #[.int .i64 n, .bool i, .slice a l c, .int .i64 x, .float .f64 p] 39)) 39 #[.int .i64 n, .bool j, .slice b m d, .int .i64 y, .float .f64 q]
  simp only [World.size_alloc] at B1
  have B1 := Lib.hid B1
  have F0 : Hid (Frame [] w ((w.alloc (.cells #[.int .i64 n, .bool i, .slice a l c, .int .i64 x, .float .f64 p] 39)).alloc (.cells #[.int .i64 n, .bool j, .slice b m d, .int .i64 y, .float .f64 q] 39))) := by show Frame [] w _; (repeat first | assumption | exact Frame.refl _ _ | refine Frame.trans1 ?_ (Frame.alloc _ _ _) | refine Frame.trans1 ?_ (Frame.drew _ _) | refine Frame.trans1 ?_ (Frame.drewN _ _ _))
  go_enter Try.func67, Try.ntmps67
  go_upto_region 1 with fail
  generalize (w.alloc (.cells #[.int .i64 n, .bool i, .slice a l c, .int .i64 x, .float .f64 p] 39)).alloc (.cells #[.int .i64 n, .bool j, .slice b m d, .int .i64 y, .float .f64 q] 39) = w1 at *
  have x0 := B0.out.at 0 rfl
  have x1 := B0.out.at 1 rfl
  have x2 := B0.out.at 2 rfl
  have x3 := B0.out.at 3 rfl
  have x4 := B0.out.at 4 rfl
  go_wp2_with fail
  refine (H1.out _ F0.out).mono ?_
  rintro e w2 ⟨rfl, f2⟩
  clear x0 x1 x2 x3 x4
  have y0 := (B1.out.frame f2 (by simp)).at 0 rfl
  have y1 := (B1.out.frame f2 (by simp)).at 1 rfl
  have y2 := (B1.out.frame f2 (by simp)).at 2 rfl
  have y3 := (B1.out.frame f2 (by simp)).at 3 rfl
  have y4 := (B1.out.frame f2 (by simp)).at 4 rfl
  have F2 := Lib.hid (F0.out.trans1 f2)
  have f2h := Lib.hid f2
  clear f2
  go_wp2_with fail
  refine (H2.out _ F2.out).mono ?_
  rintro e w3 ⟨rfl, f3⟩
  have z0 := (B0.out.frame (f2h.out.trans1 f3) (by simp)).at 0 rfl
  have z1 := (B1.out.frame (f2h.out.trans1 f3) (by simp)).at 0 rfl
  have F3 := Lib.hid (F2.out.trans1 f3)
  clear f3 y0 y1 y2 y3 y4
  go_wp2_with fail
  go_ret
  exact ⟨rfl, F3.out⟩
end Go.Proofs.Ytbnhhmejlglbcaa

