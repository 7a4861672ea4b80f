/- CircPlays: the laws on lists. -/
import Derived.Test.YtoidafgeckhkcaaGreatMt22
namespace Go.Proofs.YtoidafgeckhkcaaGreat
open Go.RowKit
set_option linter.unusedSimpArgs false
set_option linter.unusedVariables false

/-- A gate's kind, and that a token's second number is 0. -/
def Kg (g : Gt) : Prop := (1 ≤ g.k ∧ g.k ≤ 6) ∧ (g.k = 3 → g.b = 0)
def Kn (l : List Gt) : Prop := ∀ g ∈ l, Kg g
theorem kn_init : Kn init := by intro g h; simp [init] at h; rcases h with rfl | rfl <;> simp [Kg]
theorem Kn.knd {l : List Gt} (h : Kn l) : Knd l := fun g hg => (h g hg).1
theorem put_kn {g : Gt} {l : List Gt} {left : Int} (h : Kn l) (hg : Kg g) : Kn (put g l left).2.1 := by
  unfold put
  repeat' split
  · exact h
  · intro x hx
    simp at hx
    rcases hx with hx | rfl
    · exact h x hx
    · exact hg
  · exact h
theorem var_kn {t : Int} {l : List Gt} {left : Int} (h : Kn l) : Kn (mkVar t l left).2.1 := by
  unfold mkVar; split
  · exact h
  · exact put_kn h (by simp [Kg])
theorem plus_kn {a b : Int} {l : List Gt} {left : Int} (h : Kn l) : Kn (mkPlus a b l left).2.1 := by
  unfold mkPlus
  repeat' split
  all_goals first | exact h | exact put_kn h (by simp [Kg])
theorem times_kn {a b : Int} {l : List Gt} {left : Int} (h : Kn l) : Kn (mkTimes a b l left).2.1 := by
  unfold mkTimes
  repeat' split
  all_goals first | exact h | exact put_kn h (by simp [Kg])
theorem star_kn {a : Int} {l : List Gt} {left : Int} (h : Kn l) : Kn (mkStar a l left).2.1 := by
  unfold mkStar
  repeat' split
  all_goals first | exact h | exact put_kn h (by simp [Kg])
theorem sum_keep : ∀ (xs : List Int) (acc : Int) (l : List Gt) (left : Int), Inv l → Kn l → Inv (mkSum xs acc l left).2.1 ∧ Kn (mkSum xs acc l left).2.1 := by
  intro xs
  induction xs with
  | nil => intro acc l left h k; exact ⟨h, k⟩
  | cons x t ih =>
    intro acc l left h k
    have h1 := ((plus_after acc x).1 l left h).1
    have k1 := plus_kn (a := acc) (b := x) (left := left) k
    unfold mkSum
    split
    · exact ih _ _ _ h1 k1
    · exact ⟨h1, k1⟩
theorem opS_keep (s : Stp) {l : List Gt} {left : Int} (h : Inv l) (k : Kn l) : Inv (opS s l left).2.1 ∧ Kn (opS s l left).2.1 := by
  unfold opS
  repeat' split
  · exact ⟨((var_after _).1 l left h).1, var_kn k⟩
  · exact ⟨((plus_after _ _).1 l left h).1, plus_kn k⟩
  · exact ⟨((times_after _ _).1 l left h).1, times_kn k⟩
  · exact ⟨((star_after _).1 l left h).1, star_kn k⟩
  · exact sum_keep _ _ _ _ h k
  · exact ⟨h, k⟩
theorem opS_left (s : Stp) (l : List Gt) (bud : Int) : (opS s l (bud - l.length)).2.2 = bud - (opS s l (bud - l.length)).2.1.length ∧ l.length ≤ (opS s l (bud - l.length)).2.1.length ∧ (opS s l (bud - l.length)).2.1.length ≤ l.length + s.l.length + 1 := by
  have e1 := mkVar_left s.a l bud
  have e2 := mkPlus_left s.a s.b l bud
  have e3 := mkTimes_left s.a s.b l bud
  have e4 := mkStar_left s.a l bud
  have e5 := mkSum_left s.l 0 l bud
  unfold opS
  repeat' split
  · exact ⟨e1.1, e1.2.1, by omega⟩
  · exact ⟨e2.1, e2.2.1, by omega⟩
  · exact ⟨e3.1, e3.2.1, by omega⟩
  · exact ⟨e4.1, e4.2.1, by omega⟩
  · exact ⟨e5.1, e5.2.1, by omega⟩
  · exact ⟨rfl, Nat.le_refl _, by show l.length ≤ _; omega⟩
theorem tk_nodup {l : List Gt} (hI : Inv l) (hK : Kn l) {R : List Nat} (hd : R.Nodup) (hlt : ∀ j ∈ R, j < l.length) : (tk l R).Nodup := by
  unfold tk
  rw [List.nodup_iff_pairwise_ne, List.pairwise_map]
  refine List.Pairwise.imp_of_mem ?_ ((List.nodup_iff_pairwise_ne.mp hd).sublist List.filter_sublist)
  intro a b ha hb hab e
  rw [List.mem_filter] at ha hb
  have la := hlt a ha.1
  have lb := hlt b hb.1
  have xa := ha.2
  have xb := hb.2
  rw [List.getElem?_eq_getElem la] at xa e
  rw [List.getElem?_eq_getElem lb] at xb e
  simp at xa xb e
  have ba := (hK _ (List.getElem_mem la)).2 xa
  have bb := (hK _ (List.getElem_mem lb)).2 xb
  have : l[a] = l[b] := by
    cases h1 : l[a]; cases h2 : l[b]
    simp_all
  have hn := List.nodup_iff_pairwise_ne.mp hI.nodup
  rw [List.pairwise_iff_getElem] at hn
  rcases Nat.lt_or_gt_of_ne hab with h | h
  · exact hn a b la lb h this
  · exact hn b a lb la h this.symm
theorem reach_nodup (l : List Gt) (root : Nat) : (reach l root).Nodup := by
  unfold reach
  exact (List.nodup_range).sublist List.filter_sublist
end Go.Proofs.YtoidafgeckhkcaaGreat

