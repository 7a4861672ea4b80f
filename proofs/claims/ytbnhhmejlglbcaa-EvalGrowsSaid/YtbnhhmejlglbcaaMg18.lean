/- CircPlays: the laws on lists. Rows of gates: each behind what it is made of. -/
import Derived.Test.YtbnhhmejlglbcaaMg17
import Derived.Test.YtbnhhmejlglbcaaMg08
namespace Go.Proofs.Ytbnhhmejlglbcaa
open Go.RowKit
set_option linter.unusedSimpArgs false
set_option linter.unusedVariables false

/-- A gate's kind, and that a token's second number is 0. -/
def Kg (g : Gt) : Prop := (1 ≤ g.k ∧ g.k ≤ 6) ∧ (g.k = 3 → g.b = 0)
def Kn (l : List Gt) : Prop := ∀ g ∈ l, Kg g
theorem kn_init : Kn init := by intro g h; simp [init] at h; rcases h with rfl | rfl <;> simp [Kg]
theorem Kn.knd {l : List Gt} (h : Kn l) : Knd l := fun g hg => (h g hg).1
theorem put_kn {g : Gt} {l : List Gt} {left : Int} (h : Kn l) (hg : Kg g) : Kn (put g l left).2.1 := by
  unfold put
  repeat' split
  · exact h
  · intro x hx
    simp at hx
    rcases hx with hx | rfl
    · exact h x hx
    · exact hg
  · exact h
theorem var_kn {t : Int} {l : List Gt} {left : Int} (h : Kn l) : Kn (mkVar t l left).2.1 := by
  unfold mkVar; split
  · exact h
  · exact put_kn h (by simp [Kg])
theorem plus_kn {a b : Int} {l : List Gt} {left : Int} (h : Kn l) : Kn (mkPlus a b l left).2.1 := by
  unfold mkPlus
  repeat' split
  all_goals first | exact h | exact put_kn h (by simp [Kg])
theorem times_kn {a b : Int} {l : List Gt} {left : Int} (h : Kn l) : Kn (mkTimes a b l left).2.1 := by
  unfold mkTimes
  repeat' split
  all_goals first | exact h | exact put_kn h (by simp [Kg])
theorem star_kn {a : Int} {l : List Gt} {left : Int} (h : Kn l) : Kn (mkStar a l left).2.1 := by
  unfold mkStar
  repeat' split
  all_goals first | exact h | exact put_kn h (by simp [Kg])
theorem sum_keep : ∀ (xs : List Int) (acc : Int) (l : List Gt) (left : Int), Inv l → Kn l → Inv (mkSum xs acc l left).2.1 ∧ Kn (mkSum xs acc l left).2.1 := by
  intro xs
  induction xs with
  | nil => intro acc l left h k; exact ⟨h, k⟩
  | cons x t ih =>
    intro acc l left h k
    have h1 := ((plus_after acc x).1 l left h).1
    have k1 := plus_kn (a := acc) (b := x) (left := left) k
    unfold mkSum
    split
    · exact ih _ _ _ h1 k1
    · exact ⟨h1, k1⟩
theorem opS_keep (s : Stp) {l : List Gt} {left : Int} (h : Inv l) (k : Kn l) : Inv (opS s l left).2.1 ∧ Kn (opS s l left).2.1 := by
  unfold opS
  repeat' split
  · exact ⟨((var_after _).1 l left h).1, var_kn k⟩
  · exact ⟨((plus_after _ _).1 l left h).1, plus_kn k⟩
  · exact ⟨((times_after _ _).1 l left h).1, times_kn k⟩
  · exact ⟨((star_after _).1 l left h).1, star_kn k⟩
  · exact sum_keep _ _ _ _ h k
  · exact ⟨h, k⟩
theorem opS_left (s : Stp) (l : List Gt) (bud : Int) : (opS s l (bud - l.length)).2.2 = bud - (opS s l (bud - l.length)).2.1.length ∧ l.length ≤ (opS s l (bud - l.length)).2.1.length ∧ (opS s l (bud - l.length)).2.1.length ≤ l.length + s.l.length + 1 := by
  have e1 := mkVar_left s.a l bud
  have e2 := mkPlus_left s.a s.b l bud
  have e3 := mkTimes_left s.a s.b l bud
  have e4 := mkStar_left s.a l bud
  have e5 := mkSum_left s.l 0 l bud
  unfold opS
  repeat' split
  · exact ⟨e1.1, e1.2.1, by omega⟩
  · exact ⟨e2.1, e2.2.1, by omega⟩
  · exact ⟨e3.1, e3.2.1, by omega⟩
  · exact ⟨e4.1, e4.2.1, by omega⟩
  · exact ⟨e5.1, e5.2.1, by omega⟩
  · exact ⟨rfl, Nat.le_refl _, by show l.length ≤ _; omega⟩
theorem tk_nodup {l : List Gt} (hI : Inv l) (hK : Kn l) {R : List Nat} (hd : R.Nodup) (hlt : ∀ j ∈ R, j < l.length) : (tk l R).Nodup := by
  unfold tk
  rw [List.nodup_iff_pairwise_ne, List.pairwise_map]
  refine List.Pairwise.imp_of_mem ?_ ((List.nodup_iff_pairwise_ne.mp hd).sublist List.filter_sublist)
  intro a b ha hb hab e
  rw [List.mem_filter] at ha hb
  have la := hlt a ha.1
  have lb := hlt b hb.1
  have xa := ha.2
  have xb := hb.2
  rw [List.getElem?_eq_getElem la] at xa e
  rw [List.getElem?_eq_getElem lb] at xb e
  simp at xa xb e
  have ba := (hK _ (List.getElem_mem la)).2 xa
  have bb := (hK _ (List.getElem_mem lb)).2 xb
  have : l[a] = l[b] := by
    cases h1 : l[a]; cases h2 : l[b]
    simp_all
  have hn := List.nodup_iff_pairwise_ne.mp hI.nodup
  rw [List.pairwise_iff_getElem] at hn
  rcases Nat.lt_or_gt_of_ne hab with h | h
  · exact hn a b la lb h this
  · exact hn b a lb la h this.symm
theorem reach_nodup (l : List Gt) (root : Nat) : (reach l root).Nodup := by
  unfold reach
  exact (List.nodup_range).sublist List.filter_sublist
end Go.Proofs.Ytbnhhmejlglbcaa

namespace Go.Proofs.Ytbnhhmejlglbcaa
open Go.RowKit
set_option linter.unusedSimpArgs false
set_option linter.unusedVariables false

structure Closed (l : List Gt) (ks : List Nat) : Prop where
  lt : ∀ k ∈ ks, k < l.length
  nodup : ks.Nodup
  two : ∀ (t k : Nat) (g : Gt), ks[t]? = some k → l[k]? = some g → (g.k = 4 ∨ g.k = 5) → ∃ a b : Nat, g.a = (a : Int) ∧ g.b = (b : Int) ∧ a ∈ ks.take t ∧ b ∈ ks.take t
  one : ∀ (t k : Nat) (g : Gt), ks[t]? = some k → l[k]? = some g → g.k = 6 → ∃ a : Nat, g.a = (a : Int) ∧ a ∈ ks.take t
theorem up_take {ks : List Nat} (hp : ks.Pairwise (· < ·)) {t k j : Nat} (hk : ks[t]? = some k) (hj : j ∈ ks) (hlt : j < k) : j ∈ ks.take t := by
  obtain ⟨i, hi, rfl⟩ := List.mem_iff_getElem.mp hj
  obtain ⟨ht, hk⟩ := List.getElem?_eq_some_iff.mp hk
  subst hk
  have : i < t := by
    rcases Nat.lt_or_ge i t with h | h
    · exact h
    · exfalso
      rcases Nat.lt_or_eq_of_le h with h | h
      · have := (List.pairwise_iff_getElem.mp hp) t i ht hi h; omega
      · subst h; omega
  rw [List.mem_iff_getElem]
  exact ⟨i, by simp; omega, by simp⟩
theorem reach_up (l : List Gt) (root : Nat) : (reach l root).Pairwise (· < ·) := by
  unfold reach
  exact (List.pairwise_lt_range).sublist List.filter_sublist
theorem mem_reach {l : List Gt} {root j : Nat} : j ∈ reach l root ↔ j ≤ root ∧ reachM l root j = true := by
  unfold reach
  rw [List.mem_filter]
  simp
  omega
theorem reach_closed {l : List Gt} (hI : Inv l) {root : Nat} (hr : root < l.length) : Closed l (reach l root) where
  lt := fun k hk => by have := (mem_reach.mp hk).1; omega
  nodup := reach_nodup l root
  two := fun t k g hk hg h4 => by
    have hm := List.mem_of_getElem? hk
    have hm' := mem_reach.mp hm
    obtain ⟨a, ha, ha1, _⟩ := wf_nat hI hg (by omega)
    obtain ⟨b, hb, hb1, _⟩ := wf_nat2 hI hg h4
    have hc := (reachM_kids hI hm'.1 hg hm'.2).1 h4
    rw [ha, hb, Int.toNat_natCast, Int.toNat_natCast] at hc
    exact ⟨a, b, ha, hb, up_take (reach_up l root) hk (mem_reach.mpr ⟨by omega, hc.1⟩) ha1, up_take (reach_up l root) hk (mem_reach.mpr ⟨by omega, hc.2⟩) hb1⟩
  one := fun t k g hk hg h6 => by
    have hm := List.mem_of_getElem? hk
    have hm' := mem_reach.mp hm
    obtain ⟨a, ha, ha1, _⟩ := wf_nat hI hg (by omega)
    have hc := (reachM_kids hI hm'.1 hg hm'.2).2 h6
    rw [ha, Int.toNat_natCast] at hc
    exact ⟨a, ha, up_take (reach_up l root) hk (mem_reach.mpr ⟨by omega, hc⟩) ha1⟩
theorem range_closed {l : List Gt} (hI : Inv l) : Closed l (List.range l.length) where
  lt := fun k hk => List.mem_range.mp hk
  nodup := List.nodup_range
  two := fun t k g hk hg h4 => by
    obtain ⟨a, ha, ha1, _⟩ := wf_nat hI hg (by omega)
    obtain ⟨b, hb, hb1, _⟩ := wf_nat2 hI hg h4
    have hl := (List.getElem?_eq_some_iff.mp hg).1
    exact ⟨a, b, ha, hb, up_take List.pairwise_lt_range hk (List.mem_range.mpr (by omega)) ha1, up_take List.pairwise_lt_range hk (List.mem_range.mpr (by omega)) hb1⟩
  one := fun t k g hk hg h6 => by
    obtain ⟨a, ha, ha1, _⟩ := wf_nat hI hg (by omega)
    have hl := (List.getElem?_eq_some_iff.mp hg).1
    exact ⟨a, ha, up_take List.pairwise_lt_range hk (List.mem_range.mpr (by omega)) ha1⟩
end Go.Proofs.Ytbnhhmejlglbcaa

