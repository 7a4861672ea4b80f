/- What the reference's Least makes: pure; rows of sets put anew. -/
import Derived.Test.YtojfemaamhampaaTimes5
import Derived.Test.YtojfemaamhampaaSortI
import Derived.Test.YtojfemaamhampaaLess5
import Derived.Test.YtojfemaamhampaaSubset
namespace Go.Proofs.Ytojfemaamhampaa
open Go.RowKit
set_option linter.unusedSimpArgs false
set_option linter.unusedVariables false

theorem Sl.setV {w : World} {b n cap : Nat} {xs : List SV} (h : Sl w 22 1 encV (.slice (some ⟨b, 0, none⟩) n cap) xs [b]) (k : Nat) (x : SV) : Sl (w.setCell ⟨b, k, none⟩ x.v) 22 1 encV (.slice (some ⟨b, 0, none⟩) n cap) (xs.set k x) [b] := by
  rcases h with ⟨h1, _⟩ | ⟨b', cap', h1, h2, hr⟩
  · simp at h1
  · simp only [Value.slice.injEq, Option.some.injEq, Addr.mk.injEq] at h1
    obtain ⟨⟨rfl, -⟩, rfl, rfl⟩ := h1
    refine .inr ⟨b, cap, by simp, rfl, ?_⟩
    obtain ⟨cs, g1, g2, g3, g4, g5⟩ := RowAt.blk hr
    rw [List.length_set]
    refine RowAt.of_blk (g1.set _ _) g2 g3 (by simpa using g4) ?_
    rw [Array.toList_setIfInBounds, List.take_set, g5, encV_map, encV_map, List.map_set]
theorem Sl.frozenV {w : World} {b n cap : Nat} {xs : List SV} (h : Sl w 22 1 encV (.slice (some ⟨b, 0, none⟩) n cap) xs [b]) (k : Nat) : w.frozen? ⟨b, k, none⟩ = false := by
  rcases h with ⟨h1, _⟩ | ⟨b', cap', h1, h2, hr⟩
  · simp at h1
  · simp only [Value.slice.injEq, Option.some.injEq, Addr.mk.injEq] at h1
    obtain ⟨⟨rfl, -⟩, rfl, rfl⟩ := h1
    exact RowAt.frozen hr k
theorem Sl.atV {w : World} {b n cap : Nat} {xs : List SV} {k : Nat} {x : SV} (h : Sl w 22 1 encV (.slice (some ⟨b, 0, none⟩) n cap) xs [b]) (hx : xs[k]? = some x) : w.cell? ⟨b, k, none⟩ = some (.slice x.a x.l.length x.c) := by
  obtain ⟨b', cap', hq, -, -, hc⟩ := h.cell encV_len hx
  simp only [Value.slice.injEq, Option.some.injEq, Addr.mk.injEq] at hq
  obtain ⟨⟨rfl, -⟩, -, rfl⟩ := hq
  have := hc 0 _ rfl
  rw [Nat.mul_one, Nat.add_zero] at this
  exact this
theorem leastR_next {L : List (List Int)} {k : Nat} {x : List Int} (h : L[k]? = some x) : leastR (L.take (k + 1)) = insR (leastR (L.take k)) (srtI x) := by
  rw [take_one' h]; simp [leastR]
theorem rankO_of {out : List (List Int)} {x : List Int} {k : Nat} (hk : k ≤ out.length) (h1 : ∀ i (h : i < out.length), i < k → ¬ LtO x out[i]) (h2 : ∀ i (h : i < out.length), k ≤ i → LtO x out[i]) : rankO out x = k := by
  unfold rankO
  rw [← List.take_append_drop k out, List.countP_append]
  have a : (out.take k).countP (fun t => !decide (LtO x t)) = (out.take k).length := by
    rw [List.countP_eq_length]
    intro t ht
    obtain ⟨i, hi, rfl⟩ := List.getElem_of_mem ht
    have hi' : i < k ∧ i < out.length := by rw [List.length_take] at hi; omega
    rw [List.getElem_take]
    simp [h1 i hi'.2 hi'.1]
  have b : (out.drop k).countP (fun t => !decide (LtO x t)) = 0 := by
    rw [List.countP_eq_zero]
    intro t ht
    obtain ⟨i, hi, rfl⟩ := List.getElem_of_mem ht
    rw [List.length_drop] at hi
    rw [List.getElem_drop]
    simp [h2 (k + i) (by omega) (by omega)]
  rw [a, b, List.length_take]
  omega
theorem putO_put {out : List (List Int)} {x : List Int} {k : Nat} (hu : out.Pairwise LtO) (hk : k ≤ out.length) (h1 : ∀ j z, k ≤ j → out[j]? = some z → LtO x z) (h2 : ∀ m z, k = m + 1 → out[m]? = some z → ¬ LtO x z) : putO out x = out.take k ++ x :: out.drop k := by
  have hr : rankO out x = k := rankO_of hk (fun i h hik hlt => by
    cases k with
    | zero => omega
    | succ m =>
      have hm : m < out.length := by omega
      have hl := h2 m out[m] rfl (by simp)
      rcases Nat.lt_or_ge i m with hh | hh
      · exact hl (hlt.trans (List.pairwise_iff_getElem.1 hu i m h hm hh))
      · obtain rfl : i = m := by omega
        exact hl hlt) (fun i h hik => h1 i out[i] hik (by simp))
  unfold putO
  rw [hr]
/-- Least's step, on sets in cells. -/
def restV (os : List SV) (x : List Int) : List SV := os.filter fun t => !subB x t.l
theorem restV_map (os : List SV) (x : List Int) : (restV os x).map (·.l) = (os.map (·.l)).filter fun t => !subB x t := by
  unfold restV
  rw [List.filter_map]
  rfl
theorem restV_next {os : List SV} {k : Nat} {t : SV} (x : List Int) (h : os[k]? = some t) : restV (os.take (k + 1)) x = restV (os.take k) x ++ if subB x t.l then [] else [t] := by
  rw [take_one' h]
  unfold restV
  rw [List.filter_append]
  congr 1
  cases hs : subB x t.l <;> simp [hs]
theorem restV_len (os : List SV) (x : List Int) : (restV os x).length ≤ os.length := List.length_filter_le _ _
theorem overV_next {os : List SV} {k : Nat} {t : SV} (x : List Int) (h : os[k]? = some t) : (os.take (k + 1)).any (fun t => subB t.l x) = ((os.take k).any (fun t => subB t.l x) || subB t.l x) := by
  rw [take_one' h, List.any_append]
  simp
theorem insR_over {os : List SV} {x : List Int} (h : os.any (fun t => subB t.l x) = true) : insR (os.map (·.l)) x = os.map (·.l) := by
  unfold insR
  rw [List.any_map]
  show (if os.any (fun t => subB t.l x) = true then _ else _) = _
  rw [if_pos h]
theorem insR_put {os : List SV} {x : List Int} (h : os.any (fun t => subB t.l x) = false) : insR (os.map (·.l)) x = putO ((restV os x).map (·.l)) x := by
  unfold insR
  rw [List.any_map]
  show (if os.any (fun t => subB t.l x) = true then _ else _) = _
  rw [h, restV_map]
  rfl
theorem subset_dec (a1 a2 : Option Addr) (c1 c2 : Nat) (xs ys : List Int) (w : World) (h1 : RdI w a1 xs) (h2 : RdI w a2 ys) (l1 : xs.length ≤ 1000000) (l2 : ys.length ≤ 1000000) :
    Calls Try.prog 47 #[.slice a1 xs.length c1, .slice a2 ys.length c2] w fun e w' => e = .returned (.bool (subB xs ys)) ∧ Frame [] w w' := by
  cases h : subB xs ys with
  | true => exact Ans.yes (subset_any a1 a2 c1 c2 xs ys w h1 h2 l1 l2) (subB_iff.1 h)
  | false => exact Ans.no (subset_any a1 a2 c1 c2 xs ys w h1 h2 l1 l2) (subB_false.1 h)
end Go.Proofs.Ytojfemaamhampaa
