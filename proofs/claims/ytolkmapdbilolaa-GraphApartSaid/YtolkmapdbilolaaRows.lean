/-
  No cell of these rows narrows 'for every input' (looked for: loops, veiled, ifaces, maps, wideKeys, modest, calm, conditions, laid).
  DERIVED. THE GIVEN ROWS OF THIS SEAT. 12 by the template 'for every input the law returns true; each argument reads behind the call as it read before'; 0 by the template 'total and deterministic' (their statements: YtolkmapdbilolaaTotals.lean).
  GIVEN WITH THE SEED: the statements are not yours to turn. If you find one false, say at which input.
  Laid BY PROGRAM, IN A SANDBOX (cutbox-rows.mjs): the forced cells as the released guide's own fill.sh prints them over the translation 20999a98b2042790… (all of the seat's roots in one cut). By AI agents, Wed Nov 11 2026. No macro, syntax, notation, axiom, sorry.
-/
import Derived.Test.YtolkmapdbilolaaChecked
import GoSem.Claim
import GoSem.ClaimJoined
import GoSem.ClaimMapViews
import Derived.JoinedTies
import Derived.KernelRfl
namespace Go.Proofs.Ytolkmapdbilolaa
/- THE CELL 'sum', in the pinned program and in every row, IS THE sha256 OF THE DUMP (.gsa) THAT YtolkmapdbilolaaProg.lean LOADS. Nothing in Lean hashes anything: it is a label: what it is worth is what the hold of that sum in a sandbox is worth. -/
noncomputable def Try.pinned : Pinned := { name := "ytolkmapdbilolaa", sum := "20999a98b204279055882c66f6acfdc7d0babb4ca1bfe229d41f62bed0cbcc1e", checked := Try.checked }
namespace Rows
def none {H : Type} : Left H := { results := [], args := [] }

/-- 'tansylaw13.CircBudget': WHATEVER THE INPUT: true; the input reads as it did. -/
def circBudgetSpec : ChangeSpec := { name := "circBudget", fn := fun _ => fun
  | [d1, d2] => { results := [.lit (.bool true)], args := [d1, d2] }
  | _ => none }
def circBudgetRow : OpenClaim := { program := "ytolkmapdbilolaa", sum := "20999a98b204279055882c66f6acfdc7d0babb4ca1bfe229d41f62bed0cbcc1e", func := "tansy/tansylaw13.CircBudget", spec := "circBudget", unfollowed := true, recurses := true, plainKeys := false, apart := false }
def CircBudgetSaid : Prop := circBudgetRow.holds Try.pinned (OpenSpec.ofChange circBudgetSpec)

/-- ITS FALSE NEIGHBOUR: 'it returns false'. Refute it at one input. -/
def circBudgetWrong : ChangeSpec := { name := "circBudget", fn := fun _ => fun
  | [d1, d2] => { results := [.lit (.bool false)], args := [d1, d2] }
  | _ => none }
def CircBudgetWrongFalsely : Prop := circBudgetRow.holds Try.pinned (OpenSpec.ofChange circBudgetWrong)

/-- 'tansylaw13.CircAlike': WHATEVER THE INPUT: true; the input reads as it did. -/
def circAlikeSpec : ChangeSpec := { name := "circAlike", fn := fun _ => fun
  | [d] => { results := [.lit (.bool true)], args := [d] }
  | _ => none }
def circAlikeRow : OpenClaim := { program := "ytolkmapdbilolaa", sum := "20999a98b204279055882c66f6acfdc7d0babb4ca1bfe229d41f62bed0cbcc1e", func := "tansy/tansylaw13.CircAlike", spec := "circAlike", unfollowed := true, recurses := true, plainKeys := false, apart := false }
def CircAlikeSaid : Prop := circAlikeRow.holds Try.pinned (OpenSpec.ofChange circAlikeSpec)

/-- ITS FALSE NEIGHBOUR: 'it returns false'. Refute it at one input. -/
def circAlikeWrong : ChangeSpec := { name := "circAlike", fn := fun _ => fun
  | [d] => { results := [.lit (.bool false)], args := [d] }
  | _ => none }
def CircAlikeWrongFalsely : Prop := circAlikeRow.holds Try.pinned (OpenSpec.ofChange circAlikeWrong)

/-- 'tansylaw13.CircRules': WHATEVER THE INPUT: true; the input reads as it did. -/
def circRulesSpec : ChangeSpec := { name := "circRules", fn := fun _ => fun
  | [d1, d2] => { results := [.lit (.bool true)], args := [d1, d2] }
  | _ => none }
def circRulesRow : OpenClaim := { program := "ytolkmapdbilolaa", sum := "20999a98b204279055882c66f6acfdc7d0babb4ca1bfe229d41f62bed0cbcc1e", func := "tansy/tansylaw13.CircRules", spec := "circRules", unfollowed := true, recurses := true, plainKeys := false, apart := false }
def CircRulesSaid : Prop := circRulesRow.holds Try.pinned (OpenSpec.ofChange circRulesSpec)

/-- ITS FALSE NEIGHBOUR: 'it returns false'. Refute it at one input. -/
def circRulesWrong : ChangeSpec := { name := "circRules", fn := fun _ => fun
  | [d1, d2] => { results := [.lit (.bool false)], args := [d1, d2] }
  | _ => none }
def CircRulesWrongFalsely : Prop := circRulesRow.holds Try.pinned (OpenSpec.ofChange circRulesWrong)

/-- 'tansylaw10.GraphTokens': WHATEVER THE INPUT: true; the input reads as it did. -/
def graphTokensSpec : ChangeSpec := { name := "graphTokens", fn := fun _ => fun
  | [d] => { results := [.lit (.bool true)], args := [d] }
  | _ => none }
def graphTokensRow : OpenClaim := { program := "ytolkmapdbilolaa", sum := "20999a98b204279055882c66f6acfdc7d0babb4ca1bfe229d41f62bed0cbcc1e", func := "tansy/tansylaw10.GraphTokens", spec := "graphTokens", inPlace := ["slices.overlaps[tansy/api.Node]"], unfollowed := true, recurses := true, plainKeys := false, apart := false }
def GraphTokensSaid : Prop := graphTokensRow.holds Try.pinned (OpenSpec.ofChange graphTokensSpec)

/-- ITS FALSE NEIGHBOUR: 'it returns false'. Refute it at one input. -/
def graphTokensWrong : ChangeSpec := { name := "graphTokens", fn := fun _ => fun
  | [d] => { results := [.lit (.bool false)], args := [d] }
  | _ => none }
def GraphTokensWrongFalsely : Prop := graphTokensRow.holds Try.pinned (OpenSpec.ofChange graphTokensWrong)

/-- 'tansylaw10.GraphEnds': WHATEVER THE INPUT: true; the input reads as it did. -/
def graphEndsSpec : ChangeSpec := { name := "graphEnds", fn := fun _ => fun
  | [d1, d2] => { results := [.lit (.bool true)], args := [d1, d2] }
  | _ => none }
def graphEndsRow : OpenClaim := { program := "ytolkmapdbilolaa", sum := "20999a98b204279055882c66f6acfdc7d0babb4ca1bfe229d41f62bed0cbcc1e", func := "tansy/tansylaw10.GraphEnds", spec := "graphEnds", inPlace := ["slices.overlaps[tansy/api.Node]"], unfollowed := true, recurses := true, plainKeys := false, apart := false }
def GraphEndsSaid : Prop := graphEndsRow.holds Try.pinned (OpenSpec.ofChange graphEndsSpec)

/-- ITS FALSE NEIGHBOUR: 'it returns false'. Refute it at one input. -/
def graphEndsWrong : ChangeSpec := { name := "graphEnds", fn := fun _ => fun
  | [d1, d2] => { results := [.lit (.bool false)], args := [d1, d2] }
  | _ => none }
def GraphEndsWrongFalsely : Prop := graphEndsRow.holds Try.pinned (OpenSpec.ofChange graphEndsWrong)

/-- 'tansylaw10.GraphNothing': WHATEVER THE INPUT: true; the input reads as it did. -/
def graphNothingSpec : ChangeSpec := { name := "graphNothing", fn := fun _ => fun
  | [d1, d2] => { results := [.lit (.bool true)], args := [d1, d2] }
  | _ => none }
def graphNothingRow : OpenClaim := { program := "ytolkmapdbilolaa", sum := "20999a98b204279055882c66f6acfdc7d0babb4ca1bfe229d41f62bed0cbcc1e", func := "tansy/tansylaw10.GraphNothing", spec := "graphNothing", inPlace := ["slices.overlaps[tansy/api.Node]"], unfollowed := true, recurses := true, plainKeys := false, apart := false }
def GraphNothingSaid : Prop := graphNothingRow.holds Try.pinned (OpenSpec.ofChange graphNothingSpec)

/-- ITS FALSE NEIGHBOUR: 'it returns false'. Refute it at one input. -/
def graphNothingWrong : ChangeSpec := { name := "graphNothing", fn := fun _ => fun
  | [d1, d2] => { results := [.lit (.bool false)], args := [d1, d2] }
  | _ => none }
def GraphNothingWrongFalsely : Prop := graphNothingRow.holds Try.pinned (OpenSpec.ofChange graphNothingWrong)

/-- 'tansylaw10.GraphLimits': WHATEVER THE INPUT: true; the input reads as it did. -/
def graphLimitsSpec : ChangeSpec := { name := "graphLimits", fn := fun _ => fun
  | [d1, d2] => { results := [.lit (.bool true)], args := [d1, d2] }
  | _ => none }
def graphLimitsRow : OpenClaim := { program := "ytolkmapdbilolaa", sum := "20999a98b204279055882c66f6acfdc7d0babb4ca1bfe229d41f62bed0cbcc1e", func := "tansy/tansylaw10.GraphLimits", spec := "graphLimits", inPlace := ["slices.overlaps[tansy/api.Node]", "slices.overlaps[string]", "slices.overlaps[tansy/api.Prop]"], unfollowed := true, recurses := true, plainKeys := false, apart := false }
def GraphLimitsSaid : Prop := graphLimitsRow.holds Try.pinned (OpenSpec.ofChange graphLimitsSpec)

/-- ITS FALSE NEIGHBOUR: 'it returns false'. Refute it at one input. -/
def graphLimitsWrong : ChangeSpec := { name := "graphLimits", fn := fun _ => fun
  | [d1, d2] => { results := [.lit (.bool false)], args := [d1, d2] }
  | _ => none }
def GraphLimitsWrongFalsely : Prop := graphLimitsRow.holds Try.pinned (OpenSpec.ofChange graphLimitsWrong)

/-- 'tansylaw10.GraphOf': WHATEVER THE INPUT: true; the input reads as it did. -/
def graphOfSpec : ChangeSpec := { name := "graphOf", fn := fun _ => fun
  | [d1, d2] => { results := [.lit (.bool true)], args := [d1, d2] }
  | _ => none }
def graphOfRow : OpenClaim := { program := "ytolkmapdbilolaa", sum := "20999a98b204279055882c66f6acfdc7d0babb4ca1bfe229d41f62bed0cbcc1e", func := "tansy/tansylaw10.GraphOf", spec := "graphOf", inPlace := ["slices.overlaps[tansy/api.Node]", "slices.overlaps[string]", "slices.overlaps[tansy/api.Prop]"], unfollowed := true, recurses := true, plainKeys := false, apart := false }
def GraphOfSaid : Prop := graphOfRow.holds Try.pinned (OpenSpec.ofChange graphOfSpec)

/-- ITS FALSE NEIGHBOUR: 'it returns false'. Refute it at one input. -/
def graphOfWrong : ChangeSpec := { name := "graphOf", fn := fun _ => fun
  | [d1, d2] => { results := [.lit (.bool false)], args := [d1, d2] }
  | _ => none }
def GraphOfWrongFalsely : Prop := graphOfRow.holds Try.pinned (OpenSpec.ofChange graphOfWrong)

/-- 'tansylaw10.GraphPlays': WHATEVER THE INPUT: true; the input reads as it did. -/
def graphPlaysSpec : ChangeSpec := { name := "graphPlays", fn := fun _ => fun
  | [d1, d2, d3] => { results := [.lit (.bool true)], args := [d1, d2, d3] }
  | _ => none }
def graphPlaysRow : OpenClaim := { program := "ytolkmapdbilolaa", sum := "20999a98b204279055882c66f6acfdc7d0babb4ca1bfe229d41f62bed0cbcc1e", func := "tansy/tansylaw10.GraphPlays", spec := "graphPlays", inPlace := ["slices.overlaps[tansy/api.Node]", "slices.overlaps[string]", "slices.overlaps[tansy/api.Prop]"], unfollowed := true, recurses := true, plainKeys := false, apart := false }
def GraphPlaysSaid : Prop := graphPlaysRow.holds Try.pinned (OpenSpec.ofChange graphPlaysSpec)

/-- ITS FALSE NEIGHBOUR: 'it returns false'. Refute it at one input. -/
def graphPlaysWrong : ChangeSpec := { name := "graphPlays", fn := fun _ => fun
  | [d1, d2, d3] => { results := [.lit (.bool false)], args := [d1, d2, d3] }
  | _ => none }
def GraphPlaysWrongFalsely : Prop := graphPlaysRow.holds Try.pinned (OpenSpec.ofChange graphPlaysWrong)

/-- 'tansylaw10.GraphApart': WHATEVER THE INPUT: true; the input reads as it did. -/
def graphApartSpec : ChangeSpec := { name := "graphApart", fn := fun _ => fun
  | [d1, d2] => { results := [.lit (.bool true)], args := [d1, d2] }
  | _ => none }
def graphApartRow : OpenClaim := { program := "ytolkmapdbilolaa", sum := "20999a98b204279055882c66f6acfdc7d0babb4ca1bfe229d41f62bed0cbcc1e", func := "tansy/tansylaw10.GraphApart", spec := "graphApart", inPlace := ["slices.overlaps[tansy/api.Node]", "slices.overlaps[string]", "slices.overlaps[tansy/api.Prop]"], unfollowed := true, recurses := true, plainKeys := false, apart := false }
def GraphApartSaid : Prop := graphApartRow.holds Try.pinned (OpenSpec.ofChange graphApartSpec)

/-- ITS FALSE NEIGHBOUR: 'it returns false'. Refute it at one input. -/
def graphApartWrong : ChangeSpec := { name := "graphApart", fn := fun _ => fun
  | [d1, d2] => { results := [.lit (.bool false)], args := [d1, d2] }
  | _ => none }
def GraphApartWrongFalsely : Prop := graphApartRow.holds Try.pinned (OpenSpec.ofChange graphApartWrong)

/-- 'tansylaw13.CircNothing': WHATEVER THE INPUT: true; the input reads as it did. -/
def circNothingSpec : ChangeSpec := { name := "circNothing", fn := fun _ => fun
  | [d1, d2] => { results := [.lit (.bool true)], args := [d1, d2] }
  | _ => none }
def circNothingRow : OpenClaim := { program := "ytolkmapdbilolaa", sum := "20999a98b204279055882c66f6acfdc7d0babb4ca1bfe229d41f62bed0cbcc1e", func := "tansy/tansylaw13.CircNothing", spec := "circNothing", unfollowed := true, recurses := true, plainKeys := false, apart := false }
def CircNothingSaid : Prop := circNothingRow.holds Try.pinned (OpenSpec.ofChange circNothingSpec)

/-- ITS FALSE NEIGHBOUR: 'it returns false'. Refute it at one input. -/
def circNothingWrong : ChangeSpec := { name := "circNothing", fn := fun _ => fun
  | [d1, d2] => { results := [.lit (.bool false)], args := [d1, d2] }
  | _ => none }
def CircNothingWrongFalsely : Prop := circNothingRow.holds Try.pinned (OpenSpec.ofChange circNothingWrong)

/-- 'tansylaw13.CircPlays': WHATEVER THE INPUT: true; the input reads as it did. -/
def circPlaysSpec : ChangeSpec := { name := "circPlays", fn := fun _ => fun
  | [d1, d2, d3] => { results := [.lit (.bool true)], args := [d1, d2, d3] }
  | _ => none }
def circPlaysRow : OpenClaim := { program := "ytolkmapdbilolaa", sum := "20999a98b204279055882c66f6acfdc7d0babb4ca1bfe229d41f62bed0cbcc1e", func := "tansy/tansylaw13.CircPlays", spec := "circPlays", unfollowed := true, recurses := true, plainKeys := false, apart := false }
def CircPlaysSaid : Prop := circPlaysRow.holds Try.pinned (OpenSpec.ofChange circPlaysSpec)

/-- ITS FALSE NEIGHBOUR: 'it returns false'. Refute it at one input. -/
def circPlaysWrong : ChangeSpec := { name := "circPlays", fn := fun _ => fun
  | [d1, d2, d3] => { results := [.lit (.bool false)], args := [d1, d2, d3] }
  | _ => none }
def CircPlaysWrongFalsely : Prop := circPlaysRow.holds Try.pinned (OpenSpec.ofChange circPlaysWrong)

/- THE SECOND FORM. 'bulk': how many values and letters a reading holds, each counted each time it is reached (what is shared counts as often as it is met; a slice's spare places count too). A statement '..UptoSaid' is the law's where the arguments, and the package variables that the reading takes, are together of bulk at most 1048576: NARROWER than '..Said'. Prove '..Said' where nothing that the law and all that it calls make is longer than what came in: it says more and counts as full. Else prove '..UptoSaid'. A law counts once. -/
mutual
def uptoBulk {H : Type} : DataW H → Nat
  | .lit (.string bytes) => bytes.length + 1
  | .lit _ => 1
  | .nil => 1
  | .ptr d => uptoBulk d + 1
  | .slice elems spare => uptoBulkAll elems + uptoBulkAll spare + 1
  | .agg parts => uptoBulkAll parts + 1
  | .iface _ d => uptoBulk d + 1
  | .map entries => uptoBulkEntries entries + 1
  | .held _ => 1
def uptoBulkAll {H : Type} : List (DataW H) → Nat
  | [] => 0
  | d :: r => uptoBulk d + uptoBulkAll r
def uptoBulkEntries {H : Type} : List (Lit × DataW H) → Nat
  | [] => 0
  | x :: r => uptoBulkEntry x + uptoBulkEntries r
def uptoBulkEntry {H : Type} : Lit × DataW H → Nat
  | (.string bytes, d) => bytes.length + uptoBulk d + 1
  | (_, d) => uptoBulk d + 1
 end
def uptoSmall : (H : Type) → List (DataW H) → Bool := fun _ ds => decide (uptoBulkAll ds ≤ 1048576)
def OpenSpec.upto (s : _root_.Go.ChangeSpec) : _root_.Go.OpenSpec := { _root_.Go.OpenSpec.ofChange s with cond := some uptoSmall }

/-- 'tansylaw13.CircBudget', WHERE WHAT IT READS IS OF BULK AT MOST 1048576: true; the input reads as it did. -/
def circBudgetUptoRow : OpenClaim := { program := "ytolkmapdbilolaa", sum := "20999a98b204279055882c66f6acfdc7d0babb4ca1bfe229d41f62bed0cbcc1e", func := "tansy/tansylaw13.CircBudget", spec := "circBudget", unfollowed := true, recurses := true, plainKeys := false, apart := false, narrowed := true }
def CircBudgetUptoSaid : Prop := circBudgetUptoRow.holds Try.pinned (OpenSpec.upto circBudgetSpec)

/-- 'tansylaw13.CircAlike', WHERE WHAT IT READS IS OF BULK AT MOST 1048576: true; the input reads as it did. -/
def circAlikeUptoRow : OpenClaim := { program := "ytolkmapdbilolaa", sum := "20999a98b204279055882c66f6acfdc7d0babb4ca1bfe229d41f62bed0cbcc1e", func := "tansy/tansylaw13.CircAlike", spec := "circAlike", unfollowed := true, recurses := true, plainKeys := false, apart := false, narrowed := true }
def CircAlikeUptoSaid : Prop := circAlikeUptoRow.holds Try.pinned (OpenSpec.upto circAlikeSpec)

/-- 'tansylaw13.CircRules', WHERE WHAT IT READS IS OF BULK AT MOST 1048576: true; the input reads as it did. -/
def circRulesUptoRow : OpenClaim := { program := "ytolkmapdbilolaa", sum := "20999a98b204279055882c66f6acfdc7d0babb4ca1bfe229d41f62bed0cbcc1e", func := "tansy/tansylaw13.CircRules", spec := "circRules", unfollowed := true, recurses := true, plainKeys := false, apart := false, narrowed := true }
def CircRulesUptoSaid : Prop := circRulesUptoRow.holds Try.pinned (OpenSpec.upto circRulesSpec)

/-- 'tansylaw10.GraphTokens', WHERE WHAT IT READS IS OF BULK AT MOST 1048576: true; the input reads as it did. -/
def graphTokensUptoRow : OpenClaim := { program := "ytolkmapdbilolaa", sum := "20999a98b204279055882c66f6acfdc7d0babb4ca1bfe229d41f62bed0cbcc1e", func := "tansy/tansylaw10.GraphTokens", spec := "graphTokens", inPlace := ["slices.overlaps[tansy/api.Node]"], unfollowed := true, recurses := true, plainKeys := false, apart := false, narrowed := true }
def GraphTokensUptoSaid : Prop := graphTokensUptoRow.holds Try.pinned (OpenSpec.upto graphTokensSpec)

/-- 'tansylaw10.GraphEnds', WHERE WHAT IT READS IS OF BULK AT MOST 1048576: true; the input reads as it did. -/
def graphEndsUptoRow : OpenClaim := { program := "ytolkmapdbilolaa", sum := "20999a98b204279055882c66f6acfdc7d0babb4ca1bfe229d41f62bed0cbcc1e", func := "tansy/tansylaw10.GraphEnds", spec := "graphEnds", inPlace := ["slices.overlaps[tansy/api.Node]"], unfollowed := true, recurses := true, plainKeys := false, apart := false, narrowed := true }
def GraphEndsUptoSaid : Prop := graphEndsUptoRow.holds Try.pinned (OpenSpec.upto graphEndsSpec)

/-- 'tansylaw10.GraphNothing', WHERE WHAT IT READS IS OF BULK AT MOST 1048576: true; the input reads as it did. -/
def graphNothingUptoRow : OpenClaim := { program := "ytolkmapdbilolaa", sum := "20999a98b204279055882c66f6acfdc7d0babb4ca1bfe229d41f62bed0cbcc1e", func := "tansy/tansylaw10.GraphNothing", spec := "graphNothing", inPlace := ["slices.overlaps[tansy/api.Node]"], unfollowed := true, recurses := true, plainKeys := false, apart := false, narrowed := true }
def GraphNothingUptoSaid : Prop := graphNothingUptoRow.holds Try.pinned (OpenSpec.upto graphNothingSpec)

/-- 'tansylaw10.GraphLimits', WHERE WHAT IT READS IS OF BULK AT MOST 1048576: true; the input reads as it did. -/
def graphLimitsUptoRow : OpenClaim := { program := "ytolkmapdbilolaa", sum := "20999a98b204279055882c66f6acfdc7d0babb4ca1bfe229d41f62bed0cbcc1e", func := "tansy/tansylaw10.GraphLimits", spec := "graphLimits", inPlace := ["slices.overlaps[tansy/api.Node]", "slices.overlaps[string]", "slices.overlaps[tansy/api.Prop]"], unfollowed := true, recurses := true, plainKeys := false, apart := false, narrowed := true }
def GraphLimitsUptoSaid : Prop := graphLimitsUptoRow.holds Try.pinned (OpenSpec.upto graphLimitsSpec)

/-- 'tansylaw10.GraphOf', WHERE WHAT IT READS IS OF BULK AT MOST 1048576: true; the input reads as it did. -/
def graphOfUptoRow : OpenClaim := { program := "ytolkmapdbilolaa", sum := "20999a98b204279055882c66f6acfdc7d0babb4ca1bfe229d41f62bed0cbcc1e", func := "tansy/tansylaw10.GraphOf", spec := "graphOf", inPlace := ["slices.overlaps[tansy/api.Node]", "slices.overlaps[string]", "slices.overlaps[tansy/api.Prop]"], unfollowed := true, recurses := true, plainKeys := false, apart := false, narrowed := true }
def GraphOfUptoSaid : Prop := graphOfUptoRow.holds Try.pinned (OpenSpec.upto graphOfSpec)

/-- 'tansylaw10.GraphPlays', WHERE WHAT IT READS IS OF BULK AT MOST 1048576: true; the input reads as it did. -/
def graphPlaysUptoRow : OpenClaim := { program := "ytolkmapdbilolaa", sum := "20999a98b204279055882c66f6acfdc7d0babb4ca1bfe229d41f62bed0cbcc1e", func := "tansy/tansylaw10.GraphPlays", spec := "graphPlays", inPlace := ["slices.overlaps[tansy/api.Node]", "slices.overlaps[string]", "slices.overlaps[tansy/api.Prop]"], unfollowed := true, recurses := true, plainKeys := false, apart := false, narrowed := true }
def GraphPlaysUptoSaid : Prop := graphPlaysUptoRow.holds Try.pinned (OpenSpec.upto graphPlaysSpec)

/-- 'tansylaw10.GraphApart', WHERE WHAT IT READS IS OF BULK AT MOST 1048576: true; the input reads as it did. -/
def graphApartUptoRow : OpenClaim := { program := "ytolkmapdbilolaa", sum := "20999a98b204279055882c66f6acfdc7d0babb4ca1bfe229d41f62bed0cbcc1e", func := "tansy/tansylaw10.GraphApart", spec := "graphApart", inPlace := ["slices.overlaps[tansy/api.Node]", "slices.overlaps[string]", "slices.overlaps[tansy/api.Prop]"], unfollowed := true, recurses := true, plainKeys := false, apart := false, narrowed := true }
def GraphApartUptoSaid : Prop := graphApartUptoRow.holds Try.pinned (OpenSpec.upto graphApartSpec)

/-- 'tansylaw13.CircNothing', WHERE WHAT IT READS IS OF BULK AT MOST 1048576: true; the input reads as it did. -/
def circNothingUptoRow : OpenClaim := { program := "ytolkmapdbilolaa", sum := "20999a98b204279055882c66f6acfdc7d0babb4ca1bfe229d41f62bed0cbcc1e", func := "tansy/tansylaw13.CircNothing", spec := "circNothing", unfollowed := true, recurses := true, plainKeys := false, apart := false, narrowed := true }
def CircNothingUptoSaid : Prop := circNothingUptoRow.holds Try.pinned (OpenSpec.upto circNothingSpec)

/-- 'tansylaw13.CircPlays', WHERE WHAT IT READS IS OF BULK AT MOST 1048576: true; the input reads as it did. -/
def circPlaysUptoRow : OpenClaim := { program := "ytolkmapdbilolaa", sum := "20999a98b204279055882c66f6acfdc7d0babb4ca1bfe229d41f62bed0cbcc1e", func := "tansy/tansylaw13.CircPlays", spec := "circPlays", unfollowed := true, recurses := true, plainKeys := false, apart := false, narrowed := true }
def CircPlaysUptoSaid : Prop := circPlaysUptoRow.holds Try.pinned (OpenSpec.upto circPlaysSpec)

end Rows
end Go.Proofs.Ytolkmapdbilolaa
