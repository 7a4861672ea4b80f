/- circ: Tokens, walked. -/
import Derived.Test.YtbnhhmejlglbcaaMg11
namespace Go.Proofs.Ytbnhhmejlglbcaa
open Go.RowKit
set_option linter.unusedSimpArgs false
set_option linter.unusedVariables false

/-- The tokens among some gates. -/
def tk (l : List Gt) (js : List Nat) : List Int := (js.filter fun j => decide ((l[j]?).map Gt.k = some 3)).map fun j => ((l[j]?).map Gt.a).getD 0
theorem take_one {α : Type} {js : List α} {i : Nat} {j : α} (hj : js[i]? = some j) : js.take (i + 1) = js.take i ++ [j] := by
  rw [List.take_add_one, hj]; rfl
theorem tk_yes {l : List Gt} {js : List Nat} {i j : Nat} {g : Gt} (hj : js[i]? = some j) (hg : l[j]? = some g) (h : g.k = 3) : tk l (js.take (i + 1)) = tk l (js.take i) ++ [g.a] := by
  simp [tk, take_one hj, List.filter_append, hg, h]
theorem tk_no {l : List Gt} {js : List Nat} {i j : Nat} {g : Gt} (hj : js[i]? = some j) (hg : l[j]? = some g) (h : g.k ≠ 3) : tk l (js.take (i + 1)) = tk l (js.take i) := by
  simp [tk, take_one hj, List.filter_append, hg, h]
theorem tk_len (l : List Gt) (js : List Nat) : (tk l js).length ≤ js.length := by
  unfold tk; rw [List.length_map]; exact List.length_filter_le _ _
theorem reach_lt {l : List Gt} {root j : Nat} (h : j ∈ reach l root) : j ≤ root := by
  unfold reach at h
  have := (List.mem_filter.mp h).1
  simp at this; omega
theorem reach_len (l : List Gt) (root : Nat) : (reach l root).length ≤ root + 1 := by
  unfold reach
  exact Nat.le_trans (List.length_filter_le _ _) (by simp)

end Go.Proofs.Ytbnhhmejlglbcaa

