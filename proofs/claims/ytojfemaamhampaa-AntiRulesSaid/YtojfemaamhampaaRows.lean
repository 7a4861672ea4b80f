/-
  No cell of these rows narrows 'for every input' (looked for: loops, veiled, ifaces, maps, wideKeys, modest, calm, conditions, laid).
  DERIVED. THE GIVEN ROWS OF THIS SEAT. 6 by the template 'for every input the law returns true; each argument reads behind the call as it read before'; 0 by the template 'total and deterministic' (their statements: YtojfemaamhampaaTotals.lean).
  GIVEN WITH THE SEED: the statements are not yours to turn. If you find one false, say at which input.
  Laid BY PROGRAM, IN A SANDBOX (cutbox-rows.mjs): the forced cells as the released guide's own fill.sh prints them over the translation 6013fa856e050f65… (all of the seat's roots in one cut). By AI agents, Wed Nov 11 2026. No macro, syntax, notation, axiom, sorry.
-/
import Derived.Test.YtojfemaamhampaaChecked
import GoSem.Claim
import GoSem.ClaimJoined
import GoSem.ClaimMapViews
import Derived.JoinedTies
import Derived.KernelRfl
namespace Go.Proofs.Ytojfemaamhampaa
/- THE CELL 'sum', in the pinned program and in every row, IS THE sha256 OF THE DUMP (.gsa) THAT YtojfemaamhampaaProg.lean LOADS. Nothing in Lean hashes anything: it is a label: what it is worth is what the hold of that sum in a sandbox is worth. -/
noncomputable def Try.pinned : Pinned := { name := "ytojfemaamhampaa", sum := "6013fa856e050f653cd1d15ceca2b005b4f28b306e3eb891deb8f659c020184b", checked := Try.checked }
namespace Rows
def none {H : Type} : Left H := { results := [], args := [] }

/-- 'tansylaw5.AntiSets': WHATEVER THE INPUT: true; the input reads as it did. -/
def antiSetsSpec : ChangeSpec := { name := "antiSets", fn := fun _ => fun
  | [d1, d2] => { results := [.lit (.bool true)], args := [d1, d2] }
  | _ => none }
def antiSetsRow : OpenClaim := { program := "ytojfemaamhampaa", sum := "6013fa856e050f653cd1d15ceca2b005b4f28b306e3eb891deb8f659c020184b", func := "tansy/tansylaw5.AntiSets", spec := "antiSets", unfollowed := true, recurses := true, apart := false }
def AntiSetsSaid : Prop := antiSetsRow.holds Try.pinned (OpenSpec.ofChange antiSetsSpec)

/-- ITS FALSE NEIGHBOUR: 'it returns false'. Refute it at one input. -/
def antiSetsWrong : ChangeSpec := { name := "antiSets", fn := fun _ => fun
  | [d1, d2] => { results := [.lit (.bool false)], args := [d1, d2] }
  | _ => none }
def AntiSetsWrongFalsely : Prop := antiSetsRow.holds Try.pinned (OpenSpec.ofChange antiSetsWrong)

/-- 'tansylaw5.AntiLeast': WHATEVER THE INPUT: true; the input reads as it did. -/
def antiLeastSpec : ChangeSpec := { name := "antiLeast", fn := fun _ => fun
  | [d] => { results := [.lit (.bool true)], args := [d] }
  | _ => none }
def antiLeastRow : OpenClaim := { program := "ytojfemaamhampaa", sum := "6013fa856e050f653cd1d15ceca2b005b4f28b306e3eb891deb8f659c020184b", func := "tansy/tansylaw5.AntiLeast", spec := "antiLeast", unfollowed := true, recurses := true, apart := false }
def AntiLeastSaid : Prop := antiLeastRow.holds Try.pinned (OpenSpec.ofChange antiLeastSpec)

/-- ITS FALSE NEIGHBOUR: 'it returns false'. Refute it at one input. -/
def antiLeastWrong : ChangeSpec := { name := "antiLeast", fn := fun _ => fun
  | [d] => { results := [.lit (.bool false)], args := [d] }
  | _ => none }
def AntiLeastWrongFalsely : Prop := antiLeastRow.holds Try.pinned (OpenSpec.ofChange antiLeastWrong)

/-- 'tansylaw5.AntiRules': WHATEVER THE INPUT: true; the input reads as it did. -/
def antiRulesSpec : ChangeSpec := { name := "antiRules", fn := fun _ => fun
  | [d1, d2, d3] => { results := [.lit (.bool true)], args := [d1, d2, d3] }
  | _ => none }
def antiRulesRow : OpenClaim := { program := "ytojfemaamhampaa", sum := "6013fa856e050f653cd1d15ceca2b005b4f28b306e3eb891deb8f659c020184b", func := "tansy/tansylaw5.AntiRules", spec := "antiRules", unfollowed := true, recurses := true, apart := false }
def AntiRulesSaid : Prop := antiRulesRow.holds Try.pinned (OpenSpec.ofChange antiRulesSpec)

/-- ITS FALSE NEIGHBOUR: 'it returns false'. Refute it at one input. -/
def antiRulesWrong : ChangeSpec := { name := "antiRules", fn := fun _ => fun
  | [d1, d2, d3] => { results := [.lit (.bool false)], args := [d1, d2, d3] }
  | _ => none }
def AntiRulesWrongFalsely : Prop := antiRulesRow.holds Try.pinned (OpenSpec.ofChange antiRulesWrong)

/-- 'tansylaw5.AntiBudget': WHATEVER THE INPUT: true; the input reads as it did. -/
def antiBudgetSpec : ChangeSpec := { name := "antiBudget", fn := fun _ => fun
  | [d1, d2, d3] => { results := [.lit (.bool true)], args := [d1, d2, d3] }
  | _ => none }
def antiBudgetRow : OpenClaim := { program := "ytojfemaamhampaa", sum := "6013fa856e050f653cd1d15ceca2b005b4f28b306e3eb891deb8f659c020184b", func := "tansy/tansylaw5.AntiBudget", spec := "antiBudget", unfollowed := true, recurses := true, apart := false }
def AntiBudgetSaid : Prop := antiBudgetRow.holds Try.pinned (OpenSpec.ofChange antiBudgetSpec)

/-- ITS FALSE NEIGHBOUR: 'it returns false'. Refute it at one input. -/
def antiBudgetWrong : ChangeSpec := { name := "antiBudget", fn := fun _ => fun
  | [d1, d2, d3] => { results := [.lit (.bool false)], args := [d1, d2, d3] }
  | _ => none }
def AntiBudgetWrongFalsely : Prop := antiBudgetRow.holds Try.pinned (OpenSpec.ofChange antiBudgetWrong)

/-- 'tansylaw5.AntiAsks': WHATEVER THE INPUT: true; the input reads as it did. -/
def antiAsksSpec : ChangeSpec := { name := "antiAsks", fn := fun _ => fun
  | [d1, d2, d3, d4] => { results := [.lit (.bool true)], args := [d1, d2, d3, d4] }
  | _ => none }
def antiAsksRow : OpenClaim := { program := "ytojfemaamhampaa", sum := "6013fa856e050f653cd1d15ceca2b005b4f28b306e3eb891deb8f659c020184b", func := "tansy/tansylaw5.AntiAsks", spec := "antiAsks", unfollowed := true, recurses := true, apart := false }
def AntiAsksSaid : Prop := antiAsksRow.holds Try.pinned (OpenSpec.ofChange antiAsksSpec)

/-- ITS FALSE NEIGHBOUR: 'it returns false'. Refute it at one input. -/
def antiAsksWrong : ChangeSpec := { name := "antiAsks", fn := fun _ => fun
  | [d1, d2, d3, d4] => { results := [.lit (.bool false)], args := [d1, d2, d3, d4] }
  | _ => none }
def AntiAsksWrongFalsely : Prop := antiAsksRow.holds Try.pinned (OpenSpec.ofChange antiAsksWrong)

/-- 'tansylaw5.AntiMeans': WHATEVER THE INPUT: true; the input reads as it did. -/
def antiMeansSpec : ChangeSpec := { name := "antiMeans", fn := fun _ => fun
  | [d1, d2, d3] => { results := [.lit (.bool true)], args := [d1, d2, d3] }
  | _ => none }
def antiMeansRow : OpenClaim := { program := "ytojfemaamhampaa", sum := "6013fa856e050f653cd1d15ceca2b005b4f28b306e3eb891deb8f659c020184b", func := "tansy/tansylaw5.AntiMeans", spec := "antiMeans", unfollowed := true, recurses := true, apart := false }
def AntiMeansSaid : Prop := antiMeansRow.holds Try.pinned (OpenSpec.ofChange antiMeansSpec)

/-- ITS FALSE NEIGHBOUR: 'it returns false'. Refute it at one input. -/
def antiMeansWrong : ChangeSpec := { name := "antiMeans", fn := fun _ => fun
  | [d1, d2, d3] => { results := [.lit (.bool false)], args := [d1, d2, d3] }
  | _ => none }
def AntiMeansWrongFalsely : Prop := antiMeansRow.holds Try.pinned (OpenSpec.ofChange antiMeansWrong)

/- THE SECOND FORM. 'bulk': how many values and letters a reading holds, each counted each time it is reached (what is shared counts as often as it is met; a slice's spare places count too). A statement '..UptoSaid' is the law's where the arguments, and the package variables that the reading takes, are together of bulk at most 1048576: NARROWER than '..Said'. Prove '..Said' where nothing that the law and all that it calls make is longer than what came in: it says more and counts as full. Else prove '..UptoSaid'. A law counts once. -/
mutual
def uptoBulk {H : Type} : DataW H → Nat
  | .lit (.string bytes) => bytes.length + 1
  | .lit _ => 1
  | .nil => 1
  | .ptr d => uptoBulk d + 1
  | .slice elems spare => uptoBulkAll elems + uptoBulkAll spare + 1
  | .agg parts => uptoBulkAll parts + 1
  | .iface _ d => uptoBulk d + 1
  | .map entries => uptoBulkEntries entries + 1
  | .held _ => 1
def uptoBulkAll {H : Type} : List (DataW H) → Nat
  | [] => 0
  | d :: r => uptoBulk d + uptoBulkAll r
def uptoBulkEntries {H : Type} : List (Lit × DataW H) → Nat
  | [] => 0
  | x :: r => uptoBulkEntry x + uptoBulkEntries r
def uptoBulkEntry {H : Type} : Lit × DataW H → Nat
  | (.string bytes, d) => bytes.length + uptoBulk d + 1
  | (_, d) => uptoBulk d + 1
 end
def uptoSmall : (H : Type) → List (DataW H) → Bool := fun _ ds => decide (uptoBulkAll ds ≤ 1048576)
def OpenSpec.upto (s : _root_.Go.ChangeSpec) : _root_.Go.OpenSpec := { _root_.Go.OpenSpec.ofChange s with cond := some uptoSmall }

/-- 'tansylaw5.AntiSets', WHERE WHAT IT READS IS OF BULK AT MOST 1048576: true; the input reads as it did. -/
def antiSetsUptoRow : OpenClaim := { program := "ytojfemaamhampaa", sum := "6013fa856e050f653cd1d15ceca2b005b4f28b306e3eb891deb8f659c020184b", func := "tansy/tansylaw5.AntiSets", spec := "antiSets", unfollowed := true, recurses := true, apart := false, narrowed := true }
def AntiSetsUptoSaid : Prop := antiSetsUptoRow.holds Try.pinned (OpenSpec.upto antiSetsSpec)

/-- 'tansylaw5.AntiLeast', WHERE WHAT IT READS IS OF BULK AT MOST 1048576: true; the input reads as it did. -/
def antiLeastUptoRow : OpenClaim := { program := "ytojfemaamhampaa", sum := "6013fa856e050f653cd1d15ceca2b005b4f28b306e3eb891deb8f659c020184b", func := "tansy/tansylaw5.AntiLeast", spec := "antiLeast", unfollowed := true, recurses := true, apart := false, narrowed := true }
def AntiLeastUptoSaid : Prop := antiLeastUptoRow.holds Try.pinned (OpenSpec.upto antiLeastSpec)

/-- 'tansylaw5.AntiRules', WHERE WHAT IT READS IS OF BULK AT MOST 1048576: true; the input reads as it did. -/
def antiRulesUptoRow : OpenClaim := { program := "ytojfemaamhampaa", sum := "6013fa856e050f653cd1d15ceca2b005b4f28b306e3eb891deb8f659c020184b", func := "tansy/tansylaw5.AntiRules", spec := "antiRules", unfollowed := true, recurses := true, apart := false, narrowed := true }
def AntiRulesUptoSaid : Prop := antiRulesUptoRow.holds Try.pinned (OpenSpec.upto antiRulesSpec)

/-- 'tansylaw5.AntiBudget', WHERE WHAT IT READS IS OF BULK AT MOST 1048576: true; the input reads as it did. -/
def antiBudgetUptoRow : OpenClaim := { program := "ytojfemaamhampaa", sum := "6013fa856e050f653cd1d15ceca2b005b4f28b306e3eb891deb8f659c020184b", func := "tansy/tansylaw5.AntiBudget", spec := "antiBudget", unfollowed := true, recurses := true, apart := false, narrowed := true }
def AntiBudgetUptoSaid : Prop := antiBudgetUptoRow.holds Try.pinned (OpenSpec.upto antiBudgetSpec)

/-- 'tansylaw5.AntiAsks', WHERE WHAT IT READS IS OF BULK AT MOST 1048576: true; the input reads as it did. -/
def antiAsksUptoRow : OpenClaim := { program := "ytojfemaamhampaa", sum := "6013fa856e050f653cd1d15ceca2b005b4f28b306e3eb891deb8f659c020184b", func := "tansy/tansylaw5.AntiAsks", spec := "antiAsks", unfollowed := true, recurses := true, apart := false, narrowed := true }
def AntiAsksUptoSaid : Prop := antiAsksUptoRow.holds Try.pinned (OpenSpec.upto antiAsksSpec)

/-- 'tansylaw5.AntiMeans', WHERE WHAT IT READS IS OF BULK AT MOST 1048576: true; the input reads as it did. -/
def antiMeansUptoRow : OpenClaim := { program := "ytojfemaamhampaa", sum := "6013fa856e050f653cd1d15ceca2b005b4f28b306e3eb891deb8f659c020184b", func := "tansy/tansylaw5.AntiMeans", spec := "antiMeans", unfollowed := true, recurses := true, apart := false, narrowed := true }
def AntiMeansUptoSaid : Prop := antiMeansUptoRow.holds Try.pinned (OpenSpec.upto antiMeansSpec)

end Rows
end Go.Proofs.Ytojfemaamhampaa
