/- slices.Compact of a row in order: each element once, in order. -/
import Derived.Test.YtoidafgeckhkcaaGreatMc01
import Derived.Lib.SlicesCompact
namespace Go.Proofs.YtoidafgeckhkcaaGreat
open Go.RowKit
set_option linter.unusedSimpArgs false
set_option linter.unusedVariables false

section
variable {α : Type} [Inhabited α] [DecidableEq α]
theorem compactUpTo_mem (d : Array α) (m : Nat) (x : α) : x ∈ Lib.compactUpTo d m ↔ ∃ i, i < m ∧ d[i]! = x := by
  constructor
  · intro h
    unfold Lib.compactUpTo at h
    obtain ⟨i, hi, rfl⟩ := List.mem_map.1 h
    exact ⟨i, List.mem_range.1 (List.mem_filter.1 hi).1, rfl⟩
  · rintro ⟨i, hi, rfl⟩
    unfold Lib.compactUpTo
    induction i with
    | zero => exact List.mem_map.2 ⟨0, List.mem_filter.2 ⟨List.mem_range.2 hi, by simp [Lib.keeps]⟩, rfl⟩
    | succ i ih =>
      by_cases h : d[i + 1]! = d[i]!
      · rw [h]; exact ih (by omega)
      · exact List.mem_map.2 ⟨i + 1, List.mem_filter.2 ⟨List.mem_range.2 hi, by simp [Lib.keeps, h]⟩, rfl⟩
theorem compactUpTo_up {R : α → α → Prop} (anti : ∀ a b, R a b → R b a → a = b) (refl : ∀ a, R a a) (d : Array α) (m : Nat) (hs : ∀ i j, i ≤ j → j < m → R d[i]! d[j]!) : (Lib.compactUpTo d m).Pairwise (fun a b => R a b ∧ a ≠ b) := by
  unfold Lib.compactUpTo
  rw [List.pairwise_map]
  have h1 : ((List.range m).filter (Lib.keeps d)).Pairwise (fun i j => i < j ∧ j < m ∧ Lib.keeps d j = true) := by
    refine List.Pairwise.imp_of_mem (R := (· < ·)) (fun {i j} hi hj h => ⟨h, List.mem_range.1 (List.mem_filter.1 hj).1, (List.mem_filter.1 hj).2⟩) ?_
    exact List.Pairwise.filter _ List.pairwise_lt_range
  refine h1.imp fun {i j} ⟨h2, h3, h4⟩ => ⟨hs i j (by omega) h3, fun e => ?_⟩
  have h5 : d[j]! ≠ d[j - 1]! := by
    rcases of_decide_eq_true h4 with h | h
    · omega
    · exact h
  refine h5 (anti _ _ ?_ (hs (j - 1) j (by omega) h3))
  rw [← e]
  exact hs i (j - 1) (by omega) (by omega)
theorem compact_mem (zs : List α) (x : α) : x ∈ Lib.compact zs ↔ x ∈ zs := by
  unfold Lib.compact
  rw [compactUpTo_mem]
  constructor
  · rintro ⟨i, hi, rfl⟩
    simp [hi]
  · intro h
    obtain ⟨i, hi, rfl⟩ := List.getElem_of_mem h
    exact ⟨i, hi, by simp [hi]⟩
theorem compact_up {R : α → α → Prop} (anti : ∀ a b, R a b → R b a → a = b) (refl : ∀ a, R a a) {zs : List α} (hs : zs.Pairwise R) : (Lib.compact zs).Pairwise (fun a b => R a b ∧ a ≠ b) := by
  unfold Lib.compact
  refine compactUpTo_up anti refl _ _ fun i j h1 h2 => ?_
  rcases Nat.eq_or_lt_of_le h1 with rfl | h1
  · exact refl _
  · have := List.pairwise_iff_getElem.1 hs i j (by omega) h2 h1
    simpa [h2, show i < zs.length by omega] using this
omit [Inhabited α] [DecidableEq α] in
/-- Two rising lists of the same elements are one. -/
theorem up_ext {S : α → α → Prop} (irr : ∀ a, ¬ S a a) (asy : ∀ a b, S a b → S b a → False) {xs ys : List α} (hx : xs.Pairwise S) (hy : ys.Pairwise S) (h : ∀ x, x ∈ xs ↔ x ∈ ys) : xs = ys := by
  induction xs generalizing ys with
  | nil =>
    cases ys with
    | nil => rfl
    | cons y t => exact absurd ((h y).2 (by simp)) (by simp)
  | cons x s ih =>
    cases ys with
    | nil => exact absurd ((h x).1 (by simp)) (by simp)
    | cons y t =>
      obtain ⟨hx1, hx2⟩ := List.pairwise_cons.1 hx
      obtain ⟨hy1, hy2⟩ := List.pairwise_cons.1 hy
      have e : x = y := by
        rcases List.mem_cons.1 ((h x).1 (by simp)) with e | h1
        · exact e
        · rcases List.mem_cons.1 ((h y).2 (by simp)) with e | h2
          · exact e.symm
          · exact (asy _ _ (hy1 x h1) (hx1 y h2)).elim
      subst e
      rw [ih hx2 hy2 fun z => ?_]
      constructor
      · intro hz
        rcases List.mem_cons.1 ((h z).1 (by simp [hz])) with e | h1
        · subst e; exact absurd (hx1 z hz) (irr z)
        · exact h1
      · intro hz
        rcases List.mem_cons.1 ((h z).2 (by simp [hz])) with e | h1
        · subst e; exact absurd (hy1 z hz) (irr z)
        · exact h1
end
end Go.Proofs.YtoidafgeckhkcaaGreat

