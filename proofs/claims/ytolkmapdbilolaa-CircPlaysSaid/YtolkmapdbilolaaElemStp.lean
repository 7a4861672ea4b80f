/- A step that is read as data. -/
import Derived.Test.YtolkmapdbilolaaSmall13
import Derived.Lib.SmallJoins
namespace Go.Proofs.Ytolkmapdbilolaa
open Go.RowKit Go.ChangeShapes Go.WideShapes Go.ChangeAt
set_option linter.unusedSimpArgs false
set_option linter.unusedVariables false

theorem cut4 {α : Type} {cs : List α} (h : cs.length = 4) : ∃ a b c d, cs = [a, b, c, d] := by
  match cs, h with
  | [a, b, c, d], _ => exact ⟨a, b, c, d, rfl⟩

theorem elem_stp {H : Type} {encH : TypeId × Value → H} {w : World} {spare : Nat → Bool} {held : Bool} {n : Nat} {cs : List Value} {y : DataW H × List MemPlace} (h : DataW.trod encH Try.prog w 0 spare held n 34 cs = some y) :
    ∃ z : Stp, cs = z.enc ∧ z.ok w := by
  obtain ⟨xs, m, _, _, hl, hlen, hf⟩ := DataW.trod_struct Try.underlying34 h
  rw [show Try.prog.cellsOf 34 = 4 from by kernel_rfl] at hl
  obtain ⟨c0, c1, c2, c3, rfl⟩ := cut4 hl
  obtain ⟨y0, y1, y2, y3, rfl⟩ := cut4 (show xs.length = 4 from hlen)
  clear hl h
  have hi : Try.prog.cellsOf 3 = 1 := by kernel_rfl
  have hs : Try.prog.cellsOf 32 = 1 := by kernel_rfl
  have f0 := hf 0 _ rfl
  have f1 := hf 1 _ rfl
  have f2 := hf 2 _ rfl
  have f3 := hf 3 _ rfl
  clear hf
  simp [hi] at f0 f1 f2
  simp [hs] at f3
  obtain ⟨x0, q0, w0⟩ := elem_int Try.underlying3 f0
  obtain ⟨x1, q1, w1⟩ := elem_int Try.underlying3 f1
  obtain ⟨x2, q2, w2⟩ := elem_int Try.underlying3 f2
  simp at q0 q1 q2
  subst q0 q1 q2
  have key : ∃ (a : Option Addr) (l : List Int) (cap : Nat), c3 = .slice a l.length cap ∧ RdI w a l ∧ l.length ≤ 9223372036854775807 := by
    rcases Deep.open_slice Try.underlying32 f3 with ⟨hc, _⟩ | ⟨a, len, cap, m, n, D, Pl, hc, _⟩
    · simp at hc; subst hc
      exact ⟨none, [], 0, rfl, .inl rfl, by simp⟩
    · simp at hc; subst hc
      obtain ⟨l, rfl, rd, le, mx⟩ := open_list (fun z : Int => [.int .i64 z]) okI Try.underlying32 (sz := 1) hi (by omega) (fun n cs y h => elem_int Try.underlying3 h) f3
      exact ⟨some a, l, cap, rfl, rd.ints, by unfold maxLen at mx; omega⟩
  obtain ⟨a, l, cap, rfl, rd, hl⟩ := key
  exact ⟨⟨x0, x1, x2, a, cap, l⟩, rfl, w0, w1, w2, rd, hl⟩
end Go.Proofs.Ytolkmapdbilolaa
