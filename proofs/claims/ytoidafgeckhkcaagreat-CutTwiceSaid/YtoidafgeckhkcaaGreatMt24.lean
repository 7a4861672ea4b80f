/- Rows of gates: each behind what it is made of. -/
import Derived.Test.YtoidafgeckhkcaaGreatMt11
import Derived.Test.YtoidafgeckhkcaaGreatMt23
namespace Go.Proofs.YtoidafgeckhkcaaGreat
open Go.RowKit
set_option linter.unusedSimpArgs false
set_option linter.unusedVariables false

structure Closed (l : List Gt) (ks : List Nat) : Prop where
  lt : ∀ k ∈ ks, k < l.length
  nodup : ks.Nodup
  two : ∀ (t k : Nat) (g : Gt), ks[t]? = some k → l[k]? = some g → (g.k = 4 ∨ g.k = 5) → ∃ a b : Nat, g.a = (a : Int) ∧ g.b = (b : Int) ∧ a ∈ ks.take t ∧ b ∈ ks.take t
  one : ∀ (t k : Nat) (g : Gt), ks[t]? = some k → l[k]? = some g → g.k = 6 → ∃ a : Nat, g.a = (a : Int) ∧ a ∈ ks.take t
theorem up_take {ks : List Nat} (hp : ks.Pairwise (· < ·)) {t k j : Nat} (hk : ks[t]? = some k) (hj : j ∈ ks) (hlt : j < k) : j ∈ ks.take t := by
  obtain ⟨i, hi, rfl⟩ := List.mem_iff_getElem.mp hj
  obtain ⟨ht, hk⟩ := List.getElem?_eq_some_iff.mp hk
  subst hk
  have : i < t := by
    rcases Nat.lt_or_ge i t with h | h
    · exact h
    · exfalso
      rcases Nat.lt_or_eq_of_le h with h | h
      · have := (List.pairwise_iff_getElem.mp hp) t i ht hi h; omega
      · subst h; omega
  rw [List.mem_iff_getElem]
  exact ⟨i, by simp; omega, by simp⟩
theorem reach_up (l : List Gt) (root : Nat) : (reach l root).Pairwise (· < ·) := by
  unfold reach
  exact (List.pairwise_lt_range).sublist List.filter_sublist
theorem mem_reach {l : List Gt} {root j : Nat} : j ∈ reach l root ↔ j ≤ root ∧ reachM l root j = true := by
  unfold reach
  rw [List.mem_filter]
  simp
  omega
theorem reach_closed {l : List Gt} (hI : Inv l) {root : Nat} (hr : root < l.length) : Closed l (reach l root) where
  lt := fun k hk => by have := (mem_reach.mp hk).1; omega
  nodup := reach_nodup l root
  two := fun t k g hk hg h4 => by
    have hm := List.mem_of_getElem? hk
    have hm' := mem_reach.mp hm
    obtain ⟨a, ha, ha1, _⟩ := wf_nat hI hg (by omega)
    obtain ⟨b, hb, hb1, _⟩ := wf_nat2 hI hg h4
    have hc := (reachM_kids hI hm'.1 hg hm'.2).1 h4
    rw [ha, hb, Int.toNat_natCast, Int.toNat_natCast] at hc
    exact ⟨a, b, ha, hb, up_take (reach_up l root) hk (mem_reach.mpr ⟨by omega, hc.1⟩) ha1, up_take (reach_up l root) hk (mem_reach.mpr ⟨by omega, hc.2⟩) hb1⟩
  one := fun t k g hk hg h6 => by
    have hm := List.mem_of_getElem? hk
    have hm' := mem_reach.mp hm
    obtain ⟨a, ha, ha1, _⟩ := wf_nat hI hg (by omega)
    have hc := (reachM_kids hI hm'.1 hg hm'.2).2 h6
    rw [ha, Int.toNat_natCast] at hc
    exact ⟨a, ha, up_take (reach_up l root) hk (mem_reach.mpr ⟨by omega, hc⟩) ha1⟩
theorem range_closed {l : List Gt} (hI : Inv l) : Closed l (List.range l.length) where
  lt := fun k hk => List.mem_range.mp hk
  nodup := List.nodup_range
  two := fun t k g hk hg h4 => by
    obtain ⟨a, ha, ha1, _⟩ := wf_nat hI hg (by omega)
    obtain ⟨b, hb, hb1, _⟩ := wf_nat2 hI hg h4
    have hl := (List.getElem?_eq_some_iff.mp hg).1
    exact ⟨a, b, ha, hb, up_take List.pairwise_lt_range hk (List.mem_range.mpr (by omega)) ha1, up_take List.pairwise_lt_range hk (List.mem_range.mpr (by omega)) hb1⟩
  one := fun t k g hk hg h6 => by
    obtain ⟨a, ha, ha1, _⟩ := wf_nat hI hg (by omega)
    have hl := (List.getElem?_eq_some_iff.mp hg).1
    exact ⟨a, ha, up_take List.pairwise_lt_range hk (List.mem_range.mpr (by omega)) ha1⟩
end Go.Proofs.YtoidafgeckhkcaaGreat

