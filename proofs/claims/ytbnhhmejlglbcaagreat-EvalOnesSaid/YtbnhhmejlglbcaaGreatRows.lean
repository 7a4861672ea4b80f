/-
  No cell of these rows narrows 'for every input' (looked for: loops, veiled, ifaces, maps, wideKeys, modest, calm, conditions, laid).
  DERIVED. THE GIVEN ROWS OF THIS SEAT. 6 by the template 'for every input the law returns true; each argument reads behind the call as it read before'; 0 by the template 'total and deterministic' (their statements: YtbnhhmejlglbcaaGreatTotals.lean).
  GIVEN WITH THE SEED: the statements are not yours to turn. If you find one false, say at which input.
  Laid BY PROGRAM, IN A SANDBOX (cutbox-rows.mjs): the forced cells as the released guide's own fill.sh prints them over the translation 617e85d72f2e0b02… (all of the seat's roots in one cut). By AI agents, Wed Nov 11 2026. No macro, syntax, notation, axiom, sorry.
-/
import Derived.Test.YtbnhhmejlglbcaaGreatChecked
import GoSem.Claim
import GoSem.ClaimJoined
import GoSem.ClaimMapViews
import Derived.JoinedTies
import Derived.KernelRfl
namespace Go.Proofs.YtbnhhmejlglbcaaGreat
/- THE CELL 'sum', in the pinned program and in every row, IS THE sha256 OF THE DUMP (.gsa) THAT YtbnhhmejlglbcaaGreatProg.lean LOADS. Nothing in Lean hashes anything: it is a label: what it is worth is what the hold of that sum in a sandbox is worth. -/
noncomputable def Tryz.pinned : Pinned := { name := "ytbnhhmejlglbcaagreat", sum := "617e85d72f2e0b02dc263c761fd5a3a9dc16f14a8cf2fd376f65fb4f8b71550b", checked := Tryz.checked }
namespace Rows
def none {H : Type} : Left H := { results := [], args := [] }

/-- 'tansylaw14.EvalWeights': WHATEVER THE INPUT: true; the input reads as it did. -/
def evalWeightsSpec : ChangeSpec := { name := "evalWeights", fn := fun _ => fun
  | [d1, d2, d3, d4, d5] => { results := [.lit (.bool true)], args := [d1, d2, d3, d4, d5] }
  | _ => none }
def evalWeightsRow : OpenClaim := { program := "ytbnhhmejlglbcaagreat", sum := "617e85d72f2e0b02dc263c761fd5a3a9dc16f14a8cf2fd376f65fb4f8b71550b", func := "tansy/tansylaw14.EvalWeights", spec := "evalWeights", inPlace := ["math.Float64frombits", "math.Float64bits"], unfollowed := true, recurses := true, plainKeys := false, apart := false }
def EvalWeightsSaid : Prop := evalWeightsRow.holds Tryz.pinned (OpenSpec.ofChange evalWeightsSpec)

/-- ITS FALSE NEIGHBOUR: 'it returns false'. Refute it at one input. -/
def evalWeightsWrong : ChangeSpec := { name := "evalWeights", fn := fun _ => fun
  | [d1, d2, d3, d4, d5] => { results := [.lit (.bool false)], args := [d1, d2, d3, d4, d5] }
  | _ => none }
def EvalWeightsWrongFalsely : Prop := evalWeightsRow.holds Tryz.pinned (OpenSpec.ofChange evalWeightsWrong)

/-- 'tansylaw14.EvalAsks': WHATEVER THE INPUT: true; the input reads as it did. -/
def evalAsksSpec : ChangeSpec := { name := "evalAsks", fn := fun _ => fun
  | [d1, d2, d3, d4, d5, d6] => { results := [.lit (.bool true)], args := [d1, d2, d3, d4, d5, d6] }
  | _ => none }
def evalAsksRow : OpenClaim := { program := "ytbnhhmejlglbcaagreat", sum := "617e85d72f2e0b02dc263c761fd5a3a9dc16f14a8cf2fd376f65fb4f8b71550b", func := "tansy/tansylaw14.EvalAsks", spec := "evalAsks", inPlace := ["math.Float64frombits", "math.Float64bits"], unfollowed := true, recurses := true, plainKeys := false, apart := false }
def EvalAsksSaid : Prop := evalAsksRow.holds Tryz.pinned (OpenSpec.ofChange evalAsksSpec)

/-- ITS FALSE NEIGHBOUR: 'it returns false'. Refute it at one input. -/
def evalAsksWrong : ChangeSpec := { name := "evalAsks", fn := fun _ => fun
  | [d1, d2, d3, d4, d5, d6] => { results := [.lit (.bool false)], args := [d1, d2, d3, d4, d5, d6] }
  | _ => none }
def EvalAsksWrongFalsely : Prop := evalAsksRow.holds Tryz.pinned (OpenSpec.ofChange evalAsksWrong)

/-- 'tansylaw14.EvalOnes': WHATEVER THE INPUT: true; the input reads as it did. -/
def evalOnesSpec : ChangeSpec := { name := "evalOnes", fn := fun _ => fun
  | [d1, d2] => { results := [.lit (.bool true)], args := [d1, d2] }
  | _ => none }
def evalOnesRow : OpenClaim := { program := "ytbnhhmejlglbcaagreat", sum := "617e85d72f2e0b02dc263c761fd5a3a9dc16f14a8cf2fd376f65fb4f8b71550b", func := "tansy/tansylaw14.EvalOnes", spec := "evalOnes", inPlace := ["math.Float64frombits", "math.Float64bits"], unfollowed := true, recurses := true, plainKeys := false, apart := false }
def EvalOnesSaid : Prop := evalOnesRow.holds Tryz.pinned (OpenSpec.ofChange evalOnesSpec)

/-- ITS FALSE NEIGHBOUR: 'it returns false'. Refute it at one input. -/
def evalOnesWrong : ChangeSpec := { name := "evalOnes", fn := fun _ => fun
  | [d1, d2] => { results := [.lit (.bool false)], args := [d1, d2] }
  | _ => none }
def EvalOnesWrongFalsely : Prop := evalOnesRow.holds Tryz.pinned (OpenSpec.ofChange evalOnesWrong)

/-- 'tansylaw15.CutWorth': WHATEVER THE INPUT: true; the input reads as it did. -/
def cutWorthSpec : ChangeSpec := { name := "cutWorth", fn := fun _ => fun
  | [d1, d2, d3, d4, d5] => { results := [.lit (.bool true)], args := [d1, d2, d3, d4, d5] }
  | _ => none }
def cutWorthRow : OpenClaim := { program := "ytbnhhmejlglbcaagreat", sum := "617e85d72f2e0b02dc263c761fd5a3a9dc16f14a8cf2fd376f65fb4f8b71550b", func := "tansy/tansylaw15.CutWorth", spec := "cutWorth", inPlace := ["math.Float64frombits", "math.Float64bits"], unfollowed := true, recurses := true, plainKeys := false, apart := false }
def CutWorthSaid : Prop := cutWorthRow.holds Tryz.pinned (OpenSpec.ofChange cutWorthSpec)

/-- ITS FALSE NEIGHBOUR: 'it returns false'. Refute it at one input. -/
def cutWorthWrong : ChangeSpec := { name := "cutWorth", fn := fun _ => fun
  | [d1, d2, d3, d4, d5] => { results := [.lit (.bool false)], args := [d1, d2, d3, d4, d5] }
  | _ => none }
def CutWorthWrongFalsely : Prop := cutWorthRow.holds Tryz.pinned (OpenSpec.ofChange cutWorthWrong)

/-- 'tansylaw15.CutAsks': WHATEVER THE INPUT: true; the input reads as it did. -/
def cutAsksSpec : ChangeSpec := { name := "cutAsks", fn := fun _ => fun
  | [d1, d2, d3, d4] => { results := [.lit (.bool true)], args := [d1, d2, d3, d4] }
  | _ => none }
def cutAsksRow : OpenClaim := { program := "ytbnhhmejlglbcaagreat", sum := "617e85d72f2e0b02dc263c761fd5a3a9dc16f14a8cf2fd376f65fb4f8b71550b", func := "tansy/tansylaw15.CutAsks", spec := "cutAsks", inPlace := ["math.Float64frombits", "math.Float64bits"], unfollowed := true, recurses := true, plainKeys := false, apart := false }
def CutAsksSaid : Prop := cutAsksRow.holds Tryz.pinned (OpenSpec.ofChange cutAsksSpec)

/-- ITS FALSE NEIGHBOUR: 'it returns false'. Refute it at one input. -/
def cutAsksWrong : ChangeSpec := { name := "cutAsks", fn := fun _ => fun
  | [d1, d2, d3, d4] => { results := [.lit (.bool false)], args := [d1, d2, d3, d4] }
  | _ => none }
def CutAsksWrongFalsely : Prop := cutAsksRow.holds Tryz.pinned (OpenSpec.ofChange cutAsksWrong)

/-- 'tansylaw14.EvalFamilies': WHATEVER THE INPUT: true; the input reads as it did. -/
def evalFamiliesSpec : ChangeSpec := { name := "evalFamilies", fn := fun _ => fun
  | [d1, d2, d3, d4] => { results := [.lit (.bool true)], args := [d1, d2, d3, d4] }
  | _ => none }
def evalFamiliesRow : OpenClaim := { program := "ytbnhhmejlglbcaagreat", sum := "617e85d72f2e0b02dc263c761fd5a3a9dc16f14a8cf2fd376f65fb4f8b71550b", func := "tansy/tansylaw14.EvalFamilies", spec := "evalFamilies", inPlace := ["math.Float64frombits", "math.Float64bits"], unfollowed := true, recurses := true, plainKeys := false, apart := false }
def EvalFamiliesSaid : Prop := evalFamiliesRow.holds Tryz.pinned (OpenSpec.ofChange evalFamiliesSpec)

/-- ITS FALSE NEIGHBOUR: 'it returns false'. Refute it at one input. -/
def evalFamiliesWrong : ChangeSpec := { name := "evalFamilies", fn := fun _ => fun
  | [d1, d2, d3, d4] => { results := [.lit (.bool false)], args := [d1, d2, d3, d4] }
  | _ => none }
def EvalFamiliesWrongFalsely : Prop := evalFamiliesRow.holds Tryz.pinned (OpenSpec.ofChange evalFamiliesWrong)

/- THE SECOND FORM. 'bulk': how many values and letters a reading holds, each counted each time it is reached (what is shared counts as often as it is met; a slice's spare places count too). A statement '..UptoSaid' is the law's where the arguments, and the package variables that the reading takes, are together of bulk at most 1048576: NARROWER than '..Said'. Prove '..Said' where nothing that the law and all that it calls make is longer than what came in: it says more and counts as full. Else prove '..UptoSaid'. A law counts once. -/
mutual
def uptoBulk {H : Type} : DataW H → Nat
  | .lit (.string bytes) => bytes.length + 1
  | .lit _ => 1
  | .nil => 1
  | .ptr d => uptoBulk d + 1
  | .slice elems spare => uptoBulkAll elems + uptoBulkAll spare + 1
  | .agg parts => uptoBulkAll parts + 1
  | .iface _ d => uptoBulk d + 1
  | .map entries => uptoBulkEntries entries + 1
  | .held _ => 1
def uptoBulkAll {H : Type} : List (DataW H) → Nat
  | [] => 0
  | d :: r => uptoBulk d + uptoBulkAll r
def uptoBulkEntries {H : Type} : List (Lit × DataW H) → Nat
  | [] => 0
  | x :: r => uptoBulkEntry x + uptoBulkEntries r
def uptoBulkEntry {H : Type} : Lit × DataW H → Nat
  | (.string bytes, d) => bytes.length + uptoBulk d + 1
  | (_, d) => uptoBulk d + 1
 end
def uptoSmall : (H : Type) → List (DataW H) → Bool := fun _ ds => decide (uptoBulkAll ds ≤ 1048576)
def OpenSpec.upto (s : _root_.Go.ChangeSpec) : _root_.Go.OpenSpec := { _root_.Go.OpenSpec.ofChange s with cond := some uptoSmall }

/-- 'tansylaw14.EvalWeights', WHERE WHAT IT READS IS OF BULK AT MOST 1048576: true; the input reads as it did. -/
def evalWeightsUptoRow : OpenClaim := { program := "ytbnhhmejlglbcaagreat", sum := "617e85d72f2e0b02dc263c761fd5a3a9dc16f14a8cf2fd376f65fb4f8b71550b", func := "tansy/tansylaw14.EvalWeights", spec := "evalWeights", inPlace := ["math.Float64frombits", "math.Float64bits"], unfollowed := true, recurses := true, plainKeys := false, apart := false, narrowed := true }
def EvalWeightsUptoSaid : Prop := evalWeightsUptoRow.holds Tryz.pinned (OpenSpec.upto evalWeightsSpec)

/-- 'tansylaw14.EvalAsks', WHERE WHAT IT READS IS OF BULK AT MOST 1048576: true; the input reads as it did. -/
def evalAsksUptoRow : OpenClaim := { program := "ytbnhhmejlglbcaagreat", sum := "617e85d72f2e0b02dc263c761fd5a3a9dc16f14a8cf2fd376f65fb4f8b71550b", func := "tansy/tansylaw14.EvalAsks", spec := "evalAsks", inPlace := ["math.Float64frombits", "math.Float64bits"], unfollowed := true, recurses := true, plainKeys := false, apart := false, narrowed := true }
def EvalAsksUptoSaid : Prop := evalAsksUptoRow.holds Tryz.pinned (OpenSpec.upto evalAsksSpec)

/-- 'tansylaw14.EvalOnes', WHERE WHAT IT READS IS OF BULK AT MOST 1048576: true; the input reads as it did. -/
def evalOnesUptoRow : OpenClaim := { program := "ytbnhhmejlglbcaagreat", sum := "617e85d72f2e0b02dc263c761fd5a3a9dc16f14a8cf2fd376f65fb4f8b71550b", func := "tansy/tansylaw14.EvalOnes", spec := "evalOnes", inPlace := ["math.Float64frombits", "math.Float64bits"], unfollowed := true, recurses := true, plainKeys := false, apart := false, narrowed := true }
def EvalOnesUptoSaid : Prop := evalOnesUptoRow.holds Tryz.pinned (OpenSpec.upto evalOnesSpec)

/-- 'tansylaw15.CutWorth', WHERE WHAT IT READS IS OF BULK AT MOST 1048576: true; the input reads as it did. -/
def cutWorthUptoRow : OpenClaim := { program := "ytbnhhmejlglbcaagreat", sum := "617e85d72f2e0b02dc263c761fd5a3a9dc16f14a8cf2fd376f65fb4f8b71550b", func := "tansy/tansylaw15.CutWorth", spec := "cutWorth", inPlace := ["math.Float64frombits", "math.Float64bits"], unfollowed := true, recurses := true, plainKeys := false, apart := false, narrowed := true }
def CutWorthUptoSaid : Prop := cutWorthUptoRow.holds Tryz.pinned (OpenSpec.upto cutWorthSpec)

/-- 'tansylaw15.CutAsks', WHERE WHAT IT READS IS OF BULK AT MOST 1048576: true; the input reads as it did. -/
def cutAsksUptoRow : OpenClaim := { program := "ytbnhhmejlglbcaagreat", sum := "617e85d72f2e0b02dc263c761fd5a3a9dc16f14a8cf2fd376f65fb4f8b71550b", func := "tansy/tansylaw15.CutAsks", spec := "cutAsks", inPlace := ["math.Float64frombits", "math.Float64bits"], unfollowed := true, recurses := true, plainKeys := false, apart := false, narrowed := true }
def CutAsksUptoSaid : Prop := cutAsksUptoRow.holds Tryz.pinned (OpenSpec.upto cutAsksSpec)

/-- 'tansylaw14.EvalFamilies', WHERE WHAT IT READS IS OF BULK AT MOST 1048576: true; the input reads as it did. -/
def evalFamiliesUptoRow : OpenClaim := { program := "ytbnhhmejlglbcaagreat", sum := "617e85d72f2e0b02dc263c761fd5a3a9dc16f14a8cf2fd376f65fb4f8b71550b", func := "tansy/tansylaw14.EvalFamilies", spec := "evalFamilies", inPlace := ["math.Float64frombits", "math.Float64bits"], unfollowed := true, recurses := true, plainKeys := false, apart := false, narrowed := true }
def EvalFamiliesUptoSaid : Prop := evalFamiliesUptoRow.holds Tryz.pinned (OpenSpec.upto evalFamiliesSpec)

end Rows
end Go.Proofs.YtbnhhmejlglbcaaGreat
