/- nat.Add with infinity; nat.Mul. -/
import Derived.Test.YtbnhhmejlglbcaaMg31
import Derived.Test.YtbnhhmejlglbcaaMg10
namespace Go.Proofs.Ytbnhhmejlglbcaa
open Go.RowKit
set_option linter.unusedSimpArgs false
set_option linter.unusedVariables false

def addO : Option Nat → Option Nat → Option Nat
  | some m, some n => some (m + n)
  | _, _ => none
def mulO : Option Nat → Option Nat → Option Nat
  | some m, some n => some (m * n)
  | some m, none => if m = 0 then some 0 else none
  | none, some n => if n = 0 then some 0 else none
  | none, none => none
set_option maxHeartbeats 2000000 in
set_option maxRecDepth 100000 in
theorem nadd_inf (i j : Bool) (a b : Option Addr) (n c m d : Nat) (w : World) (h : (i || j) = true) : Calls Try.prog 68 #[.agg #[.bool i, .slice a n c], .agg #[.bool j, .slice b m d]] w (NREnd none w) := by
  have key : ∀ (i j : Bool), (i || j) = true → Calls Try.prog 68 #[.agg #[.bool i, .slice a n c], .agg #[.bool j, .slice b m d]] w (NREnd none w) := by
    intro i j h
    obtain ⟨B0, B1, F⟩ := boxes2 w #[.bool i, .slice a n c] #[.bool j, .slice b m d]
    have B2 := Blk.new ((w.alloc (.cells #[.bool i, .slice a n c] 36)).alloc (.cells #[.bool j, .slice b m d] 36)) 36 #[.bool false, .slice none 0 0]
    have B0 := B0.alloc (.cells #[.bool false, .slice none 0 0] 36)
    have B1 := B1.alloc (.cells #[.bool false, .slice none 0 0] 36)
    have FF := Lib.hid (F.trans1 (Frame.alloc [] _ (.cells #[.bool false, .slice none 0 0] 36)))
    simp only [World.size_alloc] at B2
    clear F
    go_enter Try.func68, Try.ntmps68
    go_upto_region 1 with fail
    generalize ((w.alloc (.cells #[.bool i, .slice a n c] 36)).alloc (.cells #[.bool j, .slice b m d] 36)).alloc (.cells #[.bool false, .slice none 0 0] 36) = w1 at *
    have x0 := B0.at 0 rfl
    have x1 := B1.at 0 rfl
    have B2h := Lib.hid B2
    clear B0 B1 B2
    generalize hb : w.heap.size + 1 + 1 = bb at *
    have HB : Hid (w.heap.size ≤ bb) := by show _ ≤ _; omega
    clear hb
    cases i with
    | true =>
      go_wp2_with fail
      refine (natInf_any _).mono ?_
      rintro e w2 ⟨rfl, f2⟩
      have B8 := B2h.out.frame f2 (by simp)
      have y0 := B8.at 0 rfl
      have y1 := B8.at 1 rfl
      have zf := B8.frozen
      have B5 := Lib.hid (putN B8 (.bool true) (.slice none 0 0))
      have F5 := Lib.hid (putN_frame HB.out (FF.out.trans1 f2) (.bool true) (.slice none 0 0))
      clear B8 f2
      go_wp2_with fail
      refine bodyPost_ret (results_cell_row rfl _ _ bb 36 #[.bool true, .slice none 0 0] (0, 0) _ rfl B5.out Try.underlying36 rfl (by kernel_rfl)) rfl ?_
      exact ⟨_, rfl, rfl, F5.out⟩
    | false =>
      obtain rfl : j = true := by simpa using h
      go_wp2_with fail
      refine (natInf_any _).mono ?_
      rintro e w2 ⟨rfl, f2⟩
      have B8 := B2h.out.frame f2 (by simp)
      have y0 := B8.at 0 rfl
      have y1 := B8.at 1 rfl
      have zf := B8.frozen
      have B5 := Lib.hid (putN B8 (.bool true) (.slice none 0 0))
      have F5 := Lib.hid (putN_frame HB.out (FF.out.trans1 f2) (.bool true) (.slice none 0 0))
      clear B8 f2
      go_wp2_with fail
      refine bodyPost_ret (results_cell_row rfl _ _ bb 36 #[.bool true, .slice none 0 0] (0, 0) _ rfl B5.out Try.underlying36 rfl (by kernel_rfl)) rfl ?_
      exact ⟨_, rfl, rfl, F5.out⟩
  exact key i j h
theorem nadd_any (u v : Value) (x y : Option Nat) (w : World) (h1 : NR w u x) (h2 : NR w v y) (l1 : Sz x) (l2 : Sz y) : Calls Try.prog 68 #[u, v] w (NREnd (addO x y) w) := by
  cases x with
  | none =>
    obtain ⟨j, b, m, d, rfl⟩ := h2.form
    subst h1
    have := nadd_inf true j none b 0 0 m d w rfl
    cases y <;> exact this
  | some m =>
    obtain ⟨a, c, rfl, h1⟩ := h1
    cases y with
    | none => subst h2; exact nadd_inf false true a none _ c 0 0 w rfl
    | some n => obtain ⟨b, d, rfl, h2⟩ := h2; exact nadd_fin a b c d m n w h1 h2 l1 l2
end Go.Proofs.Ytbnhhmejlglbcaa

