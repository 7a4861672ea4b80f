/-
  No cell of these rows narrows 'for every input' (looked for: loops, veiled, ifaces, maps, wideKeys, modest, calm, conditions, laid).
  DERIVED. THE GIVEN ROWS OF THIS SEAT. 5 by the template 'for every input the law returns true; each argument reads behind the call as it read before'; 0 by the template 'total and deterministic' (their statements: YtoidafgeckhkcaaGreatTotals.lean).
  GIVEN WITH THE SEED: the statements are not yours to turn. If you find one false, say at which input.
  Laid BY PROGRAM, IN A SANDBOX (cutbox-rows.mjs): the forced cells as the released guide's own fill.sh prints them over the translation 65d48cdca8a32f5d… (all of the seat's roots in one cut). By AI agents, Wed Nov 11 2026. No macro, syntax, notation, axiom, sorry.
-/
import Derived.Test.YtoidafgeckhkcaaGreatChecked
import GoSem.Claim
import GoSem.ClaimJoined
import GoSem.ClaimMapViews
import Derived.JoinedTies
import Derived.KernelRfl
namespace Go.Proofs.YtoidafgeckhkcaaGreat
/- THE CELL 'sum', in the pinned program and in every row, IS THE sha256 OF THE DUMP (.gsa) THAT YtoidafgeckhkcaaGreatProg.lean LOADS. Nothing in Lean hashes anything: it is a label: what it is worth is what the hold of that sum in a sandbox is worth. -/
noncomputable def Tryz.pinned : Pinned := { name := "ytoidafgeckhkcaagreat", sum := "65d48cdca8a32f5dbfb4c62d0451d835d673d52af102e30a58089cec41049e79", checked := Tryz.checked }
namespace Rows
def none {H : Type} : Left H := { results := [], args := [] }

/-- 'tansylaw15.CutBudget': WHATEVER THE INPUT: true; the input reads as it did. -/
def cutBudgetSpec : ChangeSpec := { name := "cutBudget", fn := fun _ => fun
  | [d1, d2, d3] => { results := [.lit (.bool true)], args := [d1, d2, d3] }
  | _ => none }
def cutBudgetRow : OpenClaim := { program := "ytoidafgeckhkcaagreat", sum := "65d48cdca8a32f5dbfb4c62d0451d835d673d52af102e30a58089cec41049e79", func := "tansy/tansylaw15.CutBudget", spec := "cutBudget", inPlace := ["math.Float64frombits", "math.Float64bits"], unfollowed := true, recurses := true, plainKeys := false, apart := false }
def CutBudgetSaid : Prop := cutBudgetRow.holds Tryz.pinned (OpenSpec.ofChange cutBudgetSpec)

/-- ITS FALSE NEIGHBOUR: 'it returns false'. Refute it at one input. -/
def cutBudgetWrong : ChangeSpec := { name := "cutBudget", fn := fun _ => fun
  | [d1, d2, d3] => { results := [.lit (.bool false)], args := [d1, d2, d3] }
  | _ => none }
def CutBudgetWrongFalsely : Prop := cutBudgetRow.holds Tryz.pinned (OpenSpec.ofChange cutBudgetWrong)

/-- 'tansylaw15.CutLeast': WHATEVER THE INPUT: true; the input reads as it did. -/
def cutLeastSpec : ChangeSpec := { name := "cutLeast", fn := fun _ => fun
  | [d1, d2, d3] => { results := [.lit (.bool true)], args := [d1, d2, d3] }
  | _ => none }
def cutLeastRow : OpenClaim := { program := "ytoidafgeckhkcaagreat", sum := "65d48cdca8a32f5dbfb4c62d0451d835d673d52af102e30a58089cec41049e79", func := "tansy/tansylaw15.CutLeast", spec := "cutLeast", inPlace := ["math.Float64frombits", "math.Float64bits"], unfollowed := true, recurses := true, plainKeys := false, apart := false }
def CutLeastSaid : Prop := cutLeastRow.holds Tryz.pinned (OpenSpec.ofChange cutLeastSpec)

/-- ITS FALSE NEIGHBOUR: 'it returns false'. Refute it at one input. -/
def cutLeastWrong : ChangeSpec := { name := "cutLeast", fn := fun _ => fun
  | [d1, d2, d3] => { results := [.lit (.bool false)], args := [d1, d2, d3] }
  | _ => none }
def CutLeastWrongFalsely : Prop := cutLeastRow.holds Tryz.pinned (OpenSpec.ofChange cutLeastWrong)

/-- 'tansylaw15.CutWorth': WHATEVER THE INPUT: true; the input reads as it did. -/
def cutWorthSpec : ChangeSpec := { name := "cutWorth", fn := fun _ => fun
  | [d1, d2, d3, d4, d5] => { results := [.lit (.bool true)], args := [d1, d2, d3, d4, d5] }
  | _ => none }
def cutWorthRow : OpenClaim := { program := "ytoidafgeckhkcaagreat", sum := "65d48cdca8a32f5dbfb4c62d0451d835d673d52af102e30a58089cec41049e79", func := "tansy/tansylaw15.CutWorth", spec := "cutWorth", inPlace := ["math.Float64frombits", "math.Float64bits"], unfollowed := true, recurses := true, plainKeys := false, apart := false }
def CutWorthSaid : Prop := cutWorthRow.holds Tryz.pinned (OpenSpec.ofChange cutWorthSpec)

/-- ITS FALSE NEIGHBOUR: 'it returns false'. Refute it at one input. -/
def cutWorthWrong : ChangeSpec := { name := "cutWorth", fn := fun _ => fun
  | [d1, d2, d3, d4, d5] => { results := [.lit (.bool false)], args := [d1, d2, d3, d4, d5] }
  | _ => none }
def CutWorthWrongFalsely : Prop := cutWorthRow.holds Tryz.pinned (OpenSpec.ofChange cutWorthWrong)

/-- 'tansylaw15.CutTwice': WHATEVER THE INPUT: true; the input reads as it did. -/
def cutTwiceSpec : ChangeSpec := { name := "cutTwice", fn := fun _ => fun
  | [d1, d2, d3, d4] => { results := [.lit (.bool true)], args := [d1, d2, d3, d4] }
  | _ => none }
def cutTwiceRow : OpenClaim := { program := "ytoidafgeckhkcaagreat", sum := "65d48cdca8a32f5dbfb4c62d0451d835d673d52af102e30a58089cec41049e79", func := "tansy/tansylaw15.CutTwice", spec := "cutTwice", inPlace := ["math.Float64frombits", "math.Float64bits"], unfollowed := true, recurses := true, plainKeys := false, apart := false }
def CutTwiceSaid : Prop := cutTwiceRow.holds Tryz.pinned (OpenSpec.ofChange cutTwiceSpec)

/-- ITS FALSE NEIGHBOUR: 'it returns false'. Refute it at one input. -/
def cutTwiceWrong : ChangeSpec := { name := "cutTwice", fn := fun _ => fun
  | [d1, d2, d3, d4] => { results := [.lit (.bool false)], args := [d1, d2, d3, d4] }
  | _ => none }
def CutTwiceWrongFalsely : Prop := cutTwiceRow.holds Tryz.pinned (OpenSpec.ofChange cutTwiceWrong)

/-- 'tansylaw15.CutAsks': WHATEVER THE INPUT: true; the input reads as it did. -/
def cutAsksSpec : ChangeSpec := { name := "cutAsks", fn := fun _ => fun
  | [d1, d2, d3, d4] => { results := [.lit (.bool true)], args := [d1, d2, d3, d4] }
  | _ => none }
def cutAsksRow : OpenClaim := { program := "ytoidafgeckhkcaagreat", sum := "65d48cdca8a32f5dbfb4c62d0451d835d673d52af102e30a58089cec41049e79", func := "tansy/tansylaw15.CutAsks", spec := "cutAsks", inPlace := ["math.Float64frombits", "math.Float64bits"], unfollowed := true, recurses := true, plainKeys := false, apart := false }
def CutAsksSaid : Prop := cutAsksRow.holds Tryz.pinned (OpenSpec.ofChange cutAsksSpec)

/-- ITS FALSE NEIGHBOUR: 'it returns false'. Refute it at one input. -/
def cutAsksWrong : ChangeSpec := { name := "cutAsks", fn := fun _ => fun
  | [d1, d2, d3, d4] => { results := [.lit (.bool false)], args := [d1, d2, d3, d4] }
  | _ => none }
def CutAsksWrongFalsely : Prop := cutAsksRow.holds Tryz.pinned (OpenSpec.ofChange cutAsksWrong)

/- THE SECOND FORM. 'bulk': how many values and letters a reading holds, each counted each time it is reached (what is shared counts as often as it is met; a slice's spare places count too). A statement '..UptoSaid' is the law's where the arguments, and the package variables that the reading takes, are together of bulk at most 1048576: NARROWER than '..Said'. Prove '..Said' where nothing that the law and all that it calls make is longer than what came in: it says more and counts as full. Else prove '..UptoSaid'. A law counts once. -/
mutual
def uptoBulk {H : Type} : DataW H → Nat
  | .lit (.string bytes) => bytes.length + 1
  | .lit _ => 1
  | .nil => 1
  | .ptr d => uptoBulk d + 1
  | .slice elems spare => uptoBulkAll elems + uptoBulkAll spare + 1
  | .agg parts => uptoBulkAll parts + 1
  | .iface _ d => uptoBulk d + 1
  | .map entries => uptoBulkEntries entries + 1
  | .held _ => 1
def uptoBulkAll {H : Type} : List (DataW H) → Nat
  | [] => 0
  | d :: r => uptoBulk d + uptoBulkAll r
def uptoBulkEntries {H : Type} : List (Lit × DataW H) → Nat
  | [] => 0
  | x :: r => uptoBulkEntry x + uptoBulkEntries r
def uptoBulkEntry {H : Type} : Lit × DataW H → Nat
  | (.string bytes, d) => bytes.length + uptoBulk d + 1
  | (_, d) => uptoBulk d + 1
 end
def uptoSmall : (H : Type) → List (DataW H) → Bool := fun _ ds => decide (uptoBulkAll ds ≤ 1048576)
def OpenSpec.upto (s : _root_.Go.ChangeSpec) : _root_.Go.OpenSpec := { _root_.Go.OpenSpec.ofChange s with cond := some uptoSmall }

/-- 'tansylaw15.CutBudget', WHERE WHAT IT READS IS OF BULK AT MOST 1048576: true; the input reads as it did. -/
def cutBudgetUptoRow : OpenClaim := { program := "ytoidafgeckhkcaagreat", sum := "65d48cdca8a32f5dbfb4c62d0451d835d673d52af102e30a58089cec41049e79", func := "tansy/tansylaw15.CutBudget", spec := "cutBudget", inPlace := ["math.Float64frombits", "math.Float64bits"], unfollowed := true, recurses := true, plainKeys := false, apart := false, narrowed := true }
def CutBudgetUptoSaid : Prop := cutBudgetUptoRow.holds Tryz.pinned (OpenSpec.upto cutBudgetSpec)

/-- 'tansylaw15.CutLeast', WHERE WHAT IT READS IS OF BULK AT MOST 1048576: true; the input reads as it did. -/
def cutLeastUptoRow : OpenClaim := { program := "ytoidafgeckhkcaagreat", sum := "65d48cdca8a32f5dbfb4c62d0451d835d673d52af102e30a58089cec41049e79", func := "tansy/tansylaw15.CutLeast", spec := "cutLeast", inPlace := ["math.Float64frombits", "math.Float64bits"], unfollowed := true, recurses := true, plainKeys := false, apart := false, narrowed := true }
def CutLeastUptoSaid : Prop := cutLeastUptoRow.holds Tryz.pinned (OpenSpec.upto cutLeastSpec)

/-- 'tansylaw15.CutWorth', WHERE WHAT IT READS IS OF BULK AT MOST 1048576: true; the input reads as it did. -/
def cutWorthUptoRow : OpenClaim := { program := "ytoidafgeckhkcaagreat", sum := "65d48cdca8a32f5dbfb4c62d0451d835d673d52af102e30a58089cec41049e79", func := "tansy/tansylaw15.CutWorth", spec := "cutWorth", inPlace := ["math.Float64frombits", "math.Float64bits"], unfollowed := true, recurses := true, plainKeys := false, apart := false, narrowed := true }
def CutWorthUptoSaid : Prop := cutWorthUptoRow.holds Tryz.pinned (OpenSpec.upto cutWorthSpec)

/-- 'tansylaw15.CutTwice', WHERE WHAT IT READS IS OF BULK AT MOST 1048576: true; the input reads as it did. -/
def cutTwiceUptoRow : OpenClaim := { program := "ytoidafgeckhkcaagreat", sum := "65d48cdca8a32f5dbfb4c62d0451d835d673d52af102e30a58089cec41049e79", func := "tansy/tansylaw15.CutTwice", spec := "cutTwice", inPlace := ["math.Float64frombits", "math.Float64bits"], unfollowed := true, recurses := true, plainKeys := false, apart := false, narrowed := true }
def CutTwiceUptoSaid : Prop := cutTwiceUptoRow.holds Tryz.pinned (OpenSpec.upto cutTwiceSpec)

/-- 'tansylaw15.CutAsks', WHERE WHAT IT READS IS OF BULK AT MOST 1048576: true; the input reads as it did. -/
def cutAsksUptoRow : OpenClaim := { program := "ytoidafgeckhkcaagreat", sum := "65d48cdca8a32f5dbfb4c62d0451d835d673d52af102e30a58089cec41049e79", func := "tansy/tansylaw15.CutAsks", spec := "cutAsks", inPlace := ["math.Float64frombits", "math.Float64bits"], unfollowed := true, recurses := true, plainKeys := false, apart := false, narrowed := true }
def CutAsksUptoSaid : Prop := cutAsksUptoRow.holds Tryz.pinned (OpenSpec.upto cutAsksSpec)

end Rows
end Go.Proofs.YtoidafgeckhkcaaGreat
