/- The reference's Reach, walked. -/
import Derived.Test.YtbnhhmejlglbcaaMg12
import Derived.Test.YtbnhhmejlglbcaaMg13
namespace Go.Proofs.Ytbnhhmejlglbcaa
open Go.RowKit
set_option linter.unusedSimpArgs false
set_option linter.unusedVariables false

theorem upd_comm (m : Nat → Bool) (a b : Nat) : upd (upd m a) b = upd (upd m b) a := by
  funext j; unfold upd; by_cases h1 : j = a <;> by_cases h2 : j = b <;> simp [h1, h2]
/-- One gate's marks, as the reference makes them. -/
theorem marks_no {l : List Gt} {k : Nat} {m : Nat → Bool} (h : m k = false) : marks l k m = m := by
  unfold marks; split
  · rfl
  · simp [h]
theorem marks_low {l : List Gt} {k : Nat} {g : Gt} {m : Nat → Bool} (hg : l[k]? = some g) (h : ¬ 4 ≤ g.k) : marks l k m = m := by
  unfold marks; rw [hg]; simp only
  split
  · rw [if_neg (by omega), if_neg (by omega)]
  · rfl
theorem marks_six {l : List Gt} {k aa : Nat} {g : Gt} {m : Nat → Bool} (hg : l[k]? = some g) (h : g.k = 6) (ha : g.a = aa) (hm : m k = true) : marks l k m = upd m aa := by
  unfold marks; rw [hg]; simp [h, hm, ha]
theorem marks_two {l : List Gt} {k aa bb : Nat} {g : Gt} {m : Nat → Bool} (hg : l[k]? = some g) (h : g.k = 4 ∨ g.k = 5) (ha : g.a = aa) (hb : g.b = bb) (hm : m k = true) : marks l k m = upd (upd m aa) bb := by
  unfold marks; rw [hg]; simp only [hm, if_true, if_pos h, ha, hb, Int.toNat_natCast]
  exact upd_comm _ _ _
/-- What is gathered from below. -/
def ups (l : List Gt) (root t : Nat) : List Int := ((List.range t).filter (reachM l root)).map fun (j : Nat) => (j : Int)
theorem ups_yes {l : List Gt} {root k : Nat} (h : reachM l root k = true) : ups l root (k + 1) = ups l root k ++ [(k : Int)] := by
  simp [ups, List.range_succ, List.filter_append, h]
theorem ups_no {l : List Gt} {root k : Nat} (h : reachM l root k = false) : ups l root (k + 1) = ups l root k := by
  simp [ups, List.range_succ, List.filter_append, h]
theorem ups_len (l : List Gt) (root t : Nat) : (ups l root t).length ≤ t := by
  unfold ups; rw [List.length_map]; exact Nat.le_trans (List.length_filter_le _ _) (by simp)
/-- The state of the marks. -/
structure Rcr (w : World) (l : List Gt) (root b : Nat) (t : Nat) (m : Nat → Bool) (wr : World) : Prop where
  frame : Frame [] w wr
  row : MRow wr b l.length m
  fresh : w.heap.size ≤ b
  md : down l t m = reachM l root
theorem Rcr.next {w : World} {l : List Gt} {root b k : Nat} {m m' : Nat → Bool} {wr w9 : World} (h : Rcr w l root b (k + 1) m wr) (fx : Frame [b] wr w9) (row : MRow w9 b l.length m') (md : marks l k m = m') : Rcr w l root b k m' w9 :=
  ⟨h.frame.trans fx (fun x hx => .inr (by have := h.fresh; simp at hx; omega)), row, h.fresh, by rw [← h.md, ← md]; rfl⟩

end Go.Proofs.Ytbnhhmejlglbcaa

