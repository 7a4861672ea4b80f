/- Package bail: what its functions do. -/
import Derived.Test.YtojfemaamhampaaBase
namespace Go.Proofs.Ytojfemaamhampaa
open Go.RowKit
set_option linter.unusedSimpArgs false
set_option linter.unusedVariables false

/-- What one leaves with. -/
def bailing (w : World) (code at_ : Int) (chain : List PanicEntry) (w' : World) : Prop :=
  ∃ nb, chain = [{ v := .iface 87 (.pointer (some ⟨nb, 0, none⟩)), recovered := false }] ∧ w.heap.size ≤ nb ∧ Blk w' nb 89 #[.int .i64 code, .int .i64 at_]

theorem out_any (code at_ : Int) (w : World) :
    Calls Try.prog 62 #[.int .i64 code, .int .i64 at_] w fun e w' => ∃ chain, e = .panicked chain ∧ bailing w code at_ chain w' ∧ Frame [] w w' := by
  go_enter Try.func62, Try.ntmps62
  go_wp2
  refine ⟨rfl, _, rfl, ⟨w.heap.size, rfl, Nat.le_refl _, Blk.new _ _ _⟩, Frame.alloc _ _ _⟩

end Go.Proofs.Ytojfemaamhampaa
