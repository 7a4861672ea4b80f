/- A set that is read as data. -/
import Derived.Test.YtojfemaamhampaaOpen
import Derived.Test.YtojfemaamhampaaAntiLeastWalk
import Derived.Lib.SmallJoins
namespace Go.Proofs.Ytojfemaamhampaa
open Go.RowKit Go.ChangeShapes Go.WideShapes Go.ChangeAt
set_option linter.unusedSimpArgs false
set_option linter.unusedVariables false

def okSV (w : World) (s : SV) : Prop := RdI w s.a s.l ∧ s.l.length ≤ 9223372036854775807
theorem elem_sv {H : Type} {encH : TypeId × Value → H} {w : World} {spare : Nat → Bool} {held : Bool} {n : Nat} {cs : List Value} {y : DataW H × List MemPlace} (h : DataW.trod encH Try.prog w 0 spare held n 22 cs = some y) :
    ∃ z : SV, cs = encV z ∧ okSV w z := by
  have hi : Try.prog.cellsOf 3 = 1 := by kernel_rfl
  rcases Deep.open_slice Try.underlying22 h with ⟨hc, _⟩ | ⟨a, len, cap, m, n, D, Pl, hc, _⟩
  · subst hc
    exact ⟨⟨none, 0, []⟩, rfl, .inl rfl, by simp⟩
  · subst hc
    obtain ⟨l, rfl, rd, le, mx⟩ := open_list (fun z : Int => [.int .i64 z]) okI Try.underlying22 (sz := 1) hi (by omega) (fun n cs y h => elem_int Try.underlying3 h) h
    exact ⟨⟨some a, cap, l⟩, rfl, rd.ints, by unfold maxLen at mx; show l.length ≤ _; omega⟩
theorem RdS.arg5 {w : World} {a : Option Addr} {vs : List SV} (h : RdS w 1 encV okSV a vs) : Arg5 w a vs := by
  refine ⟨fun k s hs => ?_, fun s hs => (h.ok_all s hs).1⟩
  obtain ⟨hk, rfl⟩ := List.getElem?_eq_some_iff.1 hs
  rcases h with h | ⟨b, off, h1, h2, h3⟩
  · subst h; simp at hk
  · exact ⟨b, off, h1, h2, (h3 k hk).1⟩
end Go.Proofs.Ytojfemaamhampaa
