/-
  No cell of these rows narrows 'for every input' (looked for: loops, veiled, ifaces, maps, wideKeys, modest, calm, conditions, laid).
  DERIVED. THE GIVEN ROWS OF THIS SEAT. 5 by the template 'for every input the law returns true; each argument reads behind the call as it read before'; 0 by the template 'total and deterministic' (their statements: YtfplakdingfccaaGreatTotals.lean).
  GIVEN WITH THE SEED: the statements are not yours to turn. If you find one false, say at which input.
  Laid BY PROGRAM, IN A SANDBOX (cutbox-rows.mjs): the forced cells as the released guide's own fill.sh prints them over the translation 2b9ef3341841fbec… (all of the seat's roots in one cut). By AI agents, Wed Nov 11 2026. No macro, syntax, notation, axiom, sorry.
-/
import Derived.Test.YtfplakdingfccaaGreatChecked
import GoSem.Claim
import GoSem.ClaimJoined
import GoSem.ClaimMapViews
import Derived.JoinedTies
import Derived.KernelRfl
namespace Go.Proofs.YtfplakdingfccaaGreat
/- THE CELL 'sum', in the pinned program and in every row, IS THE sha256 OF THE DUMP (.gsa) THAT YtfplakdingfccaaGreatProg.lean LOADS. Nothing in Lean hashes anything: it is a label: what it is worth is what the hold of that sum in a sandbox is worth. -/
noncomputable def Tryz.pinned : Pinned := { name := "ytfplakdingfccaagreat", sum := "2b9ef3341841fbec877d3671ad57a1ec645a41dfa9d6fc7f3ee4df1e01c1eb49", checked := Tryz.checked }
namespace Rows
def none {H : Type} : Left H := { results := [], args := [] }

/-- 'tansylaw14.EvalWeights': WHATEVER THE INPUT: true; the input reads as it did. -/
def evalWeightsSpec : ChangeSpec := { name := "evalWeights", fn := fun _ => fun
  | [d1, d2, d3, d4, d5] => { results := [.lit (.bool true)], args := [d1, d2, d3, d4, d5] }
  | _ => none }
def evalWeightsRow : OpenClaim := { program := "ytfplakdingfccaagreat", sum := "2b9ef3341841fbec877d3671ad57a1ec645a41dfa9d6fc7f3ee4df1e01c1eb49", func := "tansy/tansylaw14.EvalWeights", spec := "evalWeights", inPlace := ["math.Float64frombits", "math.Float64bits"], unfollowed := true, recurses := true, plainKeys := false, apart := false }
def EvalWeightsSaid : Prop := evalWeightsRow.holds Tryz.pinned (OpenSpec.ofChange evalWeightsSpec)

/-- ITS FALSE NEIGHBOUR: 'it returns false'. Refute it at one input. -/
def evalWeightsWrong : ChangeSpec := { name := "evalWeights", fn := fun _ => fun
  | [d1, d2, d3, d4, d5] => { results := [.lit (.bool false)], args := [d1, d2, d3, d4, d5] }
  | _ => none }
def EvalWeightsWrongFalsely : Prop := evalWeightsRow.holds Tryz.pinned (OpenSpec.ofChange evalWeightsWrong)

/-- 'tansylaw14.EvalAsks': WHATEVER THE INPUT: true; the input reads as it did. -/
def evalAsksSpec : ChangeSpec := { name := "evalAsks", fn := fun _ => fun
  | [d1, d2, d3, d4, d5, d6] => { results := [.lit (.bool true)], args := [d1, d2, d3, d4, d5, d6] }
  | _ => none }
def evalAsksRow : OpenClaim := { program := "ytfplakdingfccaagreat", sum := "2b9ef3341841fbec877d3671ad57a1ec645a41dfa9d6fc7f3ee4df1e01c1eb49", func := "tansy/tansylaw14.EvalAsks", spec := "evalAsks", inPlace := ["math.Float64frombits", "math.Float64bits"], unfollowed := true, recurses := true, plainKeys := false, apart := false }
def EvalAsksSaid : Prop := evalAsksRow.holds Tryz.pinned (OpenSpec.ofChange evalAsksSpec)

/-- ITS FALSE NEIGHBOUR: 'it returns false'. Refute it at one input. -/
def evalAsksWrong : ChangeSpec := { name := "evalAsks", fn := fun _ => fun
  | [d1, d2, d3, d4, d5, d6] => { results := [.lit (.bool false)], args := [d1, d2, d3, d4, d5, d6] }
  | _ => none }
def EvalAsksWrongFalsely : Prop := evalAsksRow.holds Tryz.pinned (OpenSpec.ofChange evalAsksWrong)

/-- 'tansylaw14.EvalTruth': WHATEVER THE INPUT: true; the input reads as it did. -/
def evalTruthSpec : ChangeSpec := { name := "evalTruth", fn := fun _ => fun
  | [d1, d2, d3, d4] => { results := [.lit (.bool true)], args := [d1, d2, d3, d4] }
  | _ => none }
def evalTruthRow : OpenClaim := { program := "ytfplakdingfccaagreat", sum := "2b9ef3341841fbec877d3671ad57a1ec645a41dfa9d6fc7f3ee4df1e01c1eb49", func := "tansy/tansylaw14.EvalTruth", spec := "evalTruth", inPlace := ["math.Float64frombits", "math.Float64bits"], unfollowed := true, recurses := true, plainKeys := false, apart := false }
def EvalTruthSaid : Prop := evalTruthRow.holds Tryz.pinned (OpenSpec.ofChange evalTruthSpec)

/-- ITS FALSE NEIGHBOUR: 'it returns false'. Refute it at one input. -/
def evalTruthWrong : ChangeSpec := { name := "evalTruth", fn := fun _ => fun
  | [d1, d2, d3, d4] => { results := [.lit (.bool false)], args := [d1, d2, d3, d4] }
  | _ => none }
def EvalTruthWrongFalsely : Prop := evalTruthRow.holds Tryz.pinned (OpenSpec.ofChange evalTruthWrong)

/-- 'tansylaw14.EvalOnes': WHATEVER THE INPUT: true; the input reads as it did. -/
def evalOnesSpec : ChangeSpec := { name := "evalOnes", fn := fun _ => fun
  | [d1, d2] => { results := [.lit (.bool true)], args := [d1, d2] }
  | _ => none }
def evalOnesRow : OpenClaim := { program := "ytfplakdingfccaagreat", sum := "2b9ef3341841fbec877d3671ad57a1ec645a41dfa9d6fc7f3ee4df1e01c1eb49", func := "tansy/tansylaw14.EvalOnes", spec := "evalOnes", inPlace := ["math.Float64frombits", "math.Float64bits"], unfollowed := true, recurses := true, plainKeys := false, apart := false }
def EvalOnesSaid : Prop := evalOnesRow.holds Tryz.pinned (OpenSpec.ofChange evalOnesSpec)

/-- ITS FALSE NEIGHBOUR: 'it returns false'. Refute it at one input. -/
def evalOnesWrong : ChangeSpec := { name := "evalOnes", fn := fun _ => fun
  | [d1, d2] => { results := [.lit (.bool false)], args := [d1, d2] }
  | _ => none }
def EvalOnesWrongFalsely : Prop := evalOnesRow.holds Tryz.pinned (OpenSpec.ofChange evalOnesWrong)

/-- 'tansylaw14.EvalFamilies': WHATEVER THE INPUT: true; the input reads as it did. -/
def evalFamiliesSpec : ChangeSpec := { name := "evalFamilies", fn := fun _ => fun
  | [d1, d2, d3, d4] => { results := [.lit (.bool true)], args := [d1, d2, d3, d4] }
  | _ => none }
def evalFamiliesRow : OpenClaim := { program := "ytfplakdingfccaagreat", sum := "2b9ef3341841fbec877d3671ad57a1ec645a41dfa9d6fc7f3ee4df1e01c1eb49", func := "tansy/tansylaw14.EvalFamilies", spec := "evalFamilies", inPlace := ["math.Float64frombits", "math.Float64bits"], unfollowed := true, recurses := true, plainKeys := false, apart := false }
def EvalFamiliesSaid : Prop := evalFamiliesRow.holds Tryz.pinned (OpenSpec.ofChange evalFamiliesSpec)

/-- ITS FALSE NEIGHBOUR: 'it returns false'. Refute it at one input. -/
def evalFamiliesWrong : ChangeSpec := { name := "evalFamilies", fn := fun _ => fun
  | [d1, d2, d3, d4] => { results := [.lit (.bool false)], args := [d1, d2, d3, d4] }
  | _ => none }
def EvalFamiliesWrongFalsely : Prop := evalFamiliesRow.holds Tryz.pinned (OpenSpec.ofChange evalFamiliesWrong)

/- THE SECOND FORM. 'bulk': how many values and letters a reading holds, each counted each time it is reached (what is shared counts as often as it is met; a slice's spare places count too). A statement '..UptoSaid' is the law's where the arguments, and the package variables that the reading takes, are together of bulk at most 1048576: NARROWER than '..Said'. Prove '..Said' where nothing that the law and all that it calls make is longer than what came in: it says more and counts as full. Else prove '..UptoSaid'. A law counts once. -/
mutual
def uptoBulk {H : Type} : DataW H → Nat
  | .lit (.string bytes) => bytes.length + 1
  | .lit _ => 1
  | .nil => 1
  | .ptr d => uptoBulk d + 1
  | .slice elems spare => uptoBulkAll elems + uptoBulkAll spare + 1
  | .agg parts => uptoBulkAll parts + 1
  | .iface _ d => uptoBulk d + 1
  | .map entries => uptoBulkEntries entries + 1
  | .held _ => 1
def uptoBulkAll {H : Type} : List (DataW H) → Nat
  | [] => 0
  | d :: r => uptoBulk d + uptoBulkAll r
def uptoBulkEntries {H : Type} : List (Lit × DataW H) → Nat
  | [] => 0
  | x :: r => uptoBulkEntry x + uptoBulkEntries r
def uptoBulkEntry {H : Type} : Lit × DataW H → Nat
  | (.string bytes, d) => bytes.length + uptoBulk d + 1
  | (_, d) => uptoBulk d + 1
 end
def uptoSmall : (H : Type) → List (DataW H) → Bool := fun _ ds => decide (uptoBulkAll ds ≤ 1048576)
def OpenSpec.upto (s : _root_.Go.ChangeSpec) : _root_.Go.OpenSpec := { _root_.Go.OpenSpec.ofChange s with cond := some uptoSmall }

/-- 'tansylaw14.EvalWeights', WHERE WHAT IT READS IS OF BULK AT MOST 1048576: true; the input reads as it did. -/
def evalWeightsUptoRow : OpenClaim := { program := "ytfplakdingfccaagreat", sum := "2b9ef3341841fbec877d3671ad57a1ec645a41dfa9d6fc7f3ee4df1e01c1eb49", func := "tansy/tansylaw14.EvalWeights", spec := "evalWeights", inPlace := ["math.Float64frombits", "math.Float64bits"], unfollowed := true, recurses := true, plainKeys := false, apart := false, narrowed := true }
def EvalWeightsUptoSaid : Prop := evalWeightsUptoRow.holds Tryz.pinned (OpenSpec.upto evalWeightsSpec)

/-- 'tansylaw14.EvalAsks', WHERE WHAT IT READS IS OF BULK AT MOST 1048576: true; the input reads as it did. -/
def evalAsksUptoRow : OpenClaim := { program := "ytfplakdingfccaagreat", sum := "2b9ef3341841fbec877d3671ad57a1ec645a41dfa9d6fc7f3ee4df1e01c1eb49", func := "tansy/tansylaw14.EvalAsks", spec := "evalAsks", inPlace := ["math.Float64frombits", "math.Float64bits"], unfollowed := true, recurses := true, plainKeys := false, apart := false, narrowed := true }
def EvalAsksUptoSaid : Prop := evalAsksUptoRow.holds Tryz.pinned (OpenSpec.upto evalAsksSpec)

/-- 'tansylaw14.EvalTruth', WHERE WHAT IT READS IS OF BULK AT MOST 1048576: true; the input reads as it did. -/
def evalTruthUptoRow : OpenClaim := { program := "ytfplakdingfccaagreat", sum := "2b9ef3341841fbec877d3671ad57a1ec645a41dfa9d6fc7f3ee4df1e01c1eb49", func := "tansy/tansylaw14.EvalTruth", spec := "evalTruth", inPlace := ["math.Float64frombits", "math.Float64bits"], unfollowed := true, recurses := true, plainKeys := false, apart := false, narrowed := true }
def EvalTruthUptoSaid : Prop := evalTruthUptoRow.holds Tryz.pinned (OpenSpec.upto evalTruthSpec)

/-- 'tansylaw14.EvalOnes', WHERE WHAT IT READS IS OF BULK AT MOST 1048576: true; the input reads as it did. -/
def evalOnesUptoRow : OpenClaim := { program := "ytfplakdingfccaagreat", sum := "2b9ef3341841fbec877d3671ad57a1ec645a41dfa9d6fc7f3ee4df1e01c1eb49", func := "tansy/tansylaw14.EvalOnes", spec := "evalOnes", inPlace := ["math.Float64frombits", "math.Float64bits"], unfollowed := true, recurses := true, plainKeys := false, apart := false, narrowed := true }
def EvalOnesUptoSaid : Prop := evalOnesUptoRow.holds Tryz.pinned (OpenSpec.upto evalOnesSpec)

/-- 'tansylaw14.EvalFamilies', WHERE WHAT IT READS IS OF BULK AT MOST 1048576: true; the input reads as it did. -/
def evalFamiliesUptoRow : OpenClaim := { program := "ytfplakdingfccaagreat", sum := "2b9ef3341841fbec877d3671ad57a1ec645a41dfa9d6fc7f3ee4df1e01c1eb49", func := "tansy/tansylaw14.EvalFamilies", spec := "evalFamilies", inPlace := ["math.Float64frombits", "math.Float64bits"], unfollowed := true, recurses := true, plainKeys := false, apart := false, narrowed := true }
def EvalFamiliesUptoSaid : Prop := evalFamiliesUptoRow.holds Tryz.pinned (OpenSpec.upto evalFamiliesSpec)

end Rows
end Go.Proofs.YtfplakdingfccaaGreat
