/- A step of three numbers that is read as data. -/
import Derived.Test.YtbnhhmejlglbcaaMg25
import Derived.Lib.SmallJoins
namespace Go.Proofs.Ytbnhhmejlglbcaa
open Go.RowKit Go.ChangeShapes Go.WideShapes Go.ChangeAt
set_option linter.unusedSimpArgs false
set_option linter.unusedVariables false

theorem cut3 {α : Type} {cs : List α} (h : cs.length = 3) : ∃ a b c, cs = [a, b, c] := by
  match cs, h with
  | [a, b, c], _ => exact ⟨a, b, c, rfl⟩
theorem elem_st14 {H : Type} {encH : TypeId × Value → H} {w : World} {spare : Nat → Bool} {held : Bool} {n : Nat} {cs : List Value} {y : DataW H × List MemPlace} (h : DataW.trod encH Try.prog w 0 spare held n 48 cs = some y) :
    ∃ z : St3, cs = z.enc ∧ z.ok w := by
  obtain ⟨xs, m, _, _, hl, hlen, hf⟩ := DataW.trod_struct Try.underlying48 h
  rw [show Try.prog.cellsOf 48 = 3 from by kernel_rfl] at hl
  obtain ⟨c0, c1, c2, rfl⟩ := cut3 hl
  obtain ⟨y0, y1, y2, rfl⟩ := cut3 (show xs.length = 3 from hlen)
  clear hl h
  have hi : Try.prog.cellsOf 3 = 1 := by kernel_rfl
  have f0 := hf 0 _ rfl
  have f1 := hf 1 _ rfl
  have f2 := hf 2 _ rfl
  clear hf
  simp [hi] at f0 f1 f2
  obtain ⟨x0, q0, w0⟩ := elem_int Try.underlying3 f0
  obtain ⟨x1, q1, w1⟩ := elem_int Try.underlying3 f1
  obtain ⟨x2, q2, w2⟩ := elem_int Try.underlying3 f2
  simp at q0 q1 q2
  subst q0 q1 q2
  exact ⟨⟨x0, x1, x2⟩, rfl, w0, w1, w2⟩
theorem wf_okI {k : Int} (hk : (Lit.int .i64 k).wf = true) (w : World) : okI w k := by
  simp [Lit.wf, IntKind.min, IntKind.max, IntKind.signed, IntKind.bits] at hk
  unfold okI
  omega
theorem rdI_lt {w : World} {a : Option Addr} {xs : List Int} (h : RdI w a xs) (h0 : xs ≠ []) : ∀ b off, a = some ⟨b, off, none⟩ → b < w.heap.size := by
  intro b off e
  rcases h with h | ⟨b', off', h1, h2, _⟩
  · exact absurd h h0
  · rw [h1] at e
    simp at e
    omega
end Go.Proofs.Ytbnhhmejlglbcaa

