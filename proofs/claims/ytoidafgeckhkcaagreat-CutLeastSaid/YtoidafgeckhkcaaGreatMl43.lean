/- Tokens that are all needed: pure. -/
import Derived.Test.YtoidafgeckhkcaaGreatMl39
namespace Go.Proofs.YtoidafgeckhkcaaGreat
open Go.RowKit
set_option linter.unusedSimpArgs false
set_option linter.unusedVariables false

theorem truth_mono {l : List Gt} (hI : Inv l) {root : Nat} {ts us : List Int} (h : ∀ t ∈ ts, t ∈ us) (ht : truth l root ts = true) : truth l root us = true :=
  worthB_mono hI (fun t hh => by simp at hh ⊢; exact h t hh) root ht
theorem truth_same {l : List Gt} {root : Nat} {ts us : List Int} (h : ∀ t, t ∈ ts ↔ t ∈ us) : truth l root ts = truth l root us := by
  unfold truth; congr 1; funext t; simp [h t]
theorem mem_butI {n x : Int} {xs : List Int} : x ∈ butI n xs ↔ x ∈ xs ∧ x ≠ n := by simp [butI, keepI]
structure LInv (l : List Gt) (root : Nat) (S : List Int) (k : Nat) (acc : List Int) : Prop where
  yes : truth l root acc = true
  sub : acc.Sublist S
  need : ∀ t ∈ S.take k, t ∈ acc → truth l root (butI t acc) = false
theorem linv_fold {l : List Gt} (hI : Inv l) {root : Nat} {S : List Int} (h : truth l root S = true) : ∀ k, k ≤ S.length → LInv l root S k ((S.take k).foldl (lessC l root) S)
  | 0, _ => ⟨h, List.Sublist.refl _, by simp⟩
  | k + 1, hk => by
    have ih := linv_fold hI h k (by omega)
    have hj : S[k]? = some S[k] := List.getElem?_eq_getElem (by omega)
    rw [lessC_next hj]
    generalize (S.take k).foldl (lessC l root) S = acc at *
    generalize S[k] = x at *
    unfold lessC
    by_cases ht : truth l root (butI x acc) = true
    · rw [if_pos ht]
      refine ⟨ht, List.filter_sublist.trans ih.sub, fun t hm ha => ?_⟩
      have ha' := mem_butI.mp ha
      rw [take_one hj, List.mem_append] at hm
      rcases hm with hm | hm
      · have hn := ih.need t hm ha'.1
        cases hb : truth l root (butI t (butI x acc)) with
        | false => rfl
        | true =>
          have := truth_mono hI (us := butI t acc) (fun z hz => by
            have h1 := mem_butI.mp hz
            exact mem_butI.mpr ⟨(mem_butI.mp h1.1).1, h1.2⟩) hb
          rw [hn] at this; cases this
      · simp at hm; exact absurd hm ha'.2
    · rw [if_neg ht]
      refine ⟨ih.yes, ih.sub, fun t hm ha => ?_⟩
      rw [take_one hj, List.mem_append] at hm
      rcases hm with hm | hm
      · exact ih.need t hm ha
      · simp at hm; subst hm; simpa using ht
/-- What the law asks. -/
structure LeastOk (l : List Gt) (root : Nat) (ts A : List Int) : Prop where
  yes : truth l root A = true
  sub : ∀ t ∈ A, t ∈ ts
  up : Up A
  need : ∀ t ∈ A, truth l root (butI t A) = false
  len : A.length ≤ ts.length
theorem leastV_no {l : List Gt} {root : Nat} {ts : List Int} (h : truth l root ts = false) : leastV l root ts = [] := by
  unfold leastV
  rw [truth_same (us := ts) (fun t => srtI_mem ts t), h]; rfl
theorem leastV_ok {l : List Gt} (hI : Inv l) {root : Nat} {ts : List Int} (h : truth l root ts = true) : LeastOk l root ts (leastV l root ts) := by
  have hS : truth l root (srtI ts) = true := by rw [truth_same (us := ts) (fun t => srtI_mem ts t)]; exact h
  unfold leastV
  rw [if_pos hS]
  have hu := srtI_up ts
  have hm := srtI_mem ts
  have hlen : (srtI ts).length ≤ ts.length := by
    have := compact_len5 (ts.mergeSort fun x y => decide (x ≤ y))
    rw [List.length_mergeSort, srtI_compact] at this
    exact this
  have hf0 := linv_fold hI hS (srtI ts).length (Nat.le_refl _)
  have e : ((srtI ts).take (srtI ts).length) = srtI ts := List.take_length
  have hf : LInv l root (srtI ts) (srtI ts).length ((srtI ts).foldl (lessC l root) (srtI ts)) := by rw [e] at hf0; exact hf0
  exact ⟨hf.yes, fun t ht => (hm t).mp (hf.sub.subset ht), hu.sublist hf.sub, fun t ht => hf.need t (by rw [List.take_length]; exact hf.sub.subset ht) ht, Nat.le_trans hf.sub.length_le hlen⟩
/-- Without the i-th one. -/
theorem but_at {A : List Int} (hu : Up A) {i : Nat} {x : Int} (hx : A[i]? = some x) : butI x A = A.take i ++ A.drop (i + 1) := by
  obtain ⟨hi, rfl⟩ := List.getElem?_eq_some_iff.mp hx
  have e : A = A.take i ++ A[i] :: A.drop (i + 1) := by rw [List.getElem_cons_drop, List.take_append_drop]
  have h1 : ∀ y ∈ A.take i, y ≠ A[i] := fun y hy => by
    obtain ⟨j, hj, rfl⟩ := List.mem_iff_getElem.mp hy
    rw [List.length_take] at hj
    rw [List.getElem_take]
    have := List.pairwise_iff_getElem.mp hu j i (by omega) hi (by omega)
    omega
  have h2 : ∀ y ∈ A.drop (i + 1), y ≠ A[i] := fun y hy => by
    obtain ⟨j, hj, rfl⟩ := List.mem_iff_getElem.mp hy
    rw [List.length_drop] at hj
    rw [List.getElem_drop]
    have := List.pairwise_iff_getElem.mp hu i (i + 1 + j) hi (by omega) (by omega)
    omega
  generalize A[i] = x at *
  rw [show butI x A = butI x (A.take i ++ x :: A.drop (i + 1)) from congrArg _ e]
  unfold butI keepI
  rw [List.filter_append, List.filter_cons]
  have f1 : (A.take i).filter (fun e => !e == x) = A.take i := List.filter_eq_self.mpr fun y hy => by simpa using h1 y hy
  have f2 : (A.drop (i + 1)).filter (fun e => !e == x) = A.drop (i + 1) := List.filter_eq_self.mpr fun y hy => by simpa using h2 y hy
  rw [f1, f2]
  simp
theorem least_empty {l : List Gt} (hI : Inv l) {root : Nat} {ts A : List Int} (h : LeastOk l root ts A) : truth l root [] = decide (A.length = 0) := by
  cases A with
  | nil => simpa using h.yes
  | cons x A =>
    have hn := h.need x (by simp)
    simp
    cases hb : truth l root [] with
    | false => rfl
    | true => have := truth_mono hI (us := butI x (x :: A)) (by simp) hb; rw [hn] at this; cases this
end Go.Proofs.YtoidafgeckhkcaaGreat

