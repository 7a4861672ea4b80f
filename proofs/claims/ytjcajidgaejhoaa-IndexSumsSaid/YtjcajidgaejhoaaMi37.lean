/- The reference's SortTexts and In. (printed by gen_sortt.py) -/
import Derived.Test.YtjcajidgaejhoaaMi36
namespace Go.Proofs.Ytjcajidgaejhoaa
open Go.RowKit
set_option linter.unusedSimpArgs false
set_option linter.unusedVariables false

/-- A text put where it belongs; what is there stays. -/
def insS (out : List ByteArray) (x : ByteArray) : List ByteArray := if memS x out = true then out else out.take (rankS out x) ++ x :: out.drop (rankS out x)
def srtS (l : List ByteArray) : List ByteArray := l.foldl insS []
theorem srtS_snoc (l : List ByteArray) (x : ByteArray) : srtS (l ++ [x]) = insS (srtS l) x := by simp [srtS]
theorem srtS_next {l : List ByteArray} {k : Nat} {x : ByteArray} (h : l[k]? = some x) : srtS (l.take (k + 1)) = insS (srtS (l.take k)) x := by rw [take_one' h, srtS_snoc]
theorem insS_up {out : List ByteArray} {x : ByteArray} (h : UpS out) : UpS (insS out x) := by
  unfold insS
  split
  · exact h
  · rename_i hm
    exact upS_ins h (fun hx => hm (memS_iff.2 hx))
theorem srtS_up (l : List ByteArray) : UpS (srtS l) := by
  have : ∀ (l acc : List ByteArray), UpS acc → UpS (l.foldl insS acc) := by
    intro l
    induction l with
    | nil => intro acc h; exact h
    | cons x t ih => intro acc h; exact ih _ (insS_up h)
  exact this l [] (by simp [UpS])
theorem srtS_sorted {l : List ByteArray} (h : UpS l) : srtS l = l := by
  have : ∀ (l acc : List ByteArray), UpS (acc ++ l) → l.foldl insS acc = acc ++ l := by
    intro l
    induction l with
    | nil => intro acc _; simp
    | cons x t ih =>
      intro acc h
      have hb : ∀ y ∈ acc, ltS y x = true := fun y hy => (List.pairwise_append.1 h).2.2 y hy x (by simp)
      have e : insS acc x = acc ++ [x] := by
        unfold insS
        rw [if_neg (fun hm => by have := hb x (memS_iff.1 hm); rw [ltS_irrefl] at this; cases this), rankS_end hb]
        simp
      show t.foldl insS (insS acc x) = _
      rw [e, ih _ (by simpa using h)]
      simp
  simpa [srtS] using this l [] (by simpa using h)
theorem insS_len (out : List ByteArray) (x : ByteArray) : (insS out x).length ≤ out.length + 1 := by
  unfold insS
  split
  · omega
  · have := rankS_le out x; simp; omega
theorem insS_put {out : List ByteArray} {x : ByteArray} {k : Nat} (hu : UpS out) (hk : k ≤ out.length) (h1 : ∀ j z, k ≤ j → out[j]? = some z → ltS x z = true) (h2 : ∀ m z, k = m + 1 → out[m]? = some z → ltS z x = true) : insS out x = out.take k ++ x :: out.drop k := by
  have hall : ∀ i z, i < k → out[i]? = some z → ltS z x = true := fun i z hi hz => by
    cases k with
    | zero => omega
    | succ m =>
      have hm : m < out.length := by omega
      have hl := h2 m out[m] rfl (by simp)
      obtain ⟨hi2, rfl⟩ := List.getElem?_eq_some_iff.1 hz
      rcases Nat.lt_or_ge i m with h | h
      · exact ltS_trans (List.pairwise_iff_getElem.1 hu i m hi2 hm h) hl
      · obtain rfl : i = m := by omega
        exact hl
  have hr : rankS out x = k := rankS_of hk (fun i h hik => hall i out[i] hik (by simp)) (fun i h hik => by
    have := h1 i out[i] hik (by simp)
    exact ltS_asymm this)
  have hm : memS x out = false := memS_not.2 (fun hx => by
    obtain ⟨i, hi, e⟩ := List.getElem_of_mem hx
    rcases Nat.lt_or_ge i k with h | h
    · have := hall i out[i] h (by simp); rw [e, ltS_irrefl] at this; cases this
    · have := h1 i out[i] h (by simp); rw [e, ltS_irrefl] at this; cases this)
  unfold insS
  rw [hm, if_neg (by simp), hr]
theorem insS_has {out : List ByteArray} {x : ByteArray} (h : x ∈ out) : insS out x = out := by unfold insS; rw [if_pos (memS_iff.2 h)]

theorem flat_str (xs : List ByteArray) : xs.flatMap encS = xs.map Value.string := by
  induction xs with
  | nil => rfl
  | cons x t ih => simp [List.flatMap_cons, ih, encS]
theorem Sl.setS {w : World} {b n cap : Nat} {xs : List ByteArray} (h : Sl w 9 1 encS (.slice (some ⟨b, 0, none⟩) n cap) xs [b]) (k : Nat) (x : ByteArray) : Sl (w.setCell ⟨b, k, none⟩ (.string x)) 9 1 encS (.slice (some ⟨b, 0, none⟩) n cap) (xs.set k x) [b] := by
  rcases h with ⟨h1, _⟩ | ⟨b', cap', h1, h2, hr⟩
  · simp at h1
  · simp only [Value.slice.injEq, Option.some.injEq, Addr.mk.injEq] at h1
    obtain ⟨⟨rfl, -⟩, rfl, rfl⟩ := h1
    refine .inr ⟨b, cap, by simp, rfl, ?_⟩
    obtain ⟨cs, g1, g2, g3, g4, g5⟩ := RowAt.blk hr
    rw [List.length_set]
    refine RowAt.of_blk (g1.set _ _) g2 g3 (by simpa using g4) ?_
    rw [Array.toList_setIfInBounds, List.take_set, g5, flat_str, flat_str, List.map_set]
theorem Sl.frozenS {w : World} {b n cap : Nat} {xs : List ByteArray} (h : Sl w 9 1 encS (.slice (some ⟨b, 0, none⟩) n cap) xs [b]) (k : Nat) : w.frozen? ⟨b, k, none⟩ = false := by
  rcases h with ⟨h1, _⟩ | ⟨b', cap', h1, h2, hr⟩
  · simp at h1
  · simp only [Value.slice.injEq, Option.some.injEq, Addr.mk.injEq] at h1
    obtain ⟨⟨rfl, -⟩, rfl, rfl⟩ := h1
    exact RowAt.frozen hr k
theorem Sl.atS {w : World} {b n cap : Nat} {xs : List ByteArray} {k : Nat} {x : ByteArray} (h : Sl w 9 1 encS (.slice (some ⟨b, 0, none⟩) n cap) xs [b]) (hx : xs[k]? = some x) : w.cell? ⟨b, k, none⟩ = some (.string x) := by
  obtain ⟨b', cap', hq, -, -, hc⟩ := h.cell encS_len hx
  simp only [Value.slice.injEq, Option.some.injEq, Addr.mk.injEq] at hq
  obtain ⟨⟨rfl, -⟩, -, rfl⟩ := hq
  have := hc 0 _ rfl
  simpa using this
theorem shift_setS {α : Type} {S : List α} {k : Nat} {u y : α} (hy : S[k]? = some y) : (S.take (k + 1) ++ u :: S.drop (k + 1)).set (k + 1) y = S.take k ++ y :: S.drop k := by
  obtain ⟨hk, e⟩ := List.getElem?_eq_some_iff.mp hy
  have hl : (S.take (k + 1)).length = k + 1 := by rw [List.length_take]; omega
  rw [List.set_append_right _ _ (by omega), hl, Nat.sub_self, List.set_cons_zero, take_one' hy, List.append_assoc, List.drop_eq_getElem_cons hk, e]
  rfl
theorem last_setS {α : Type} {S : List α} {k : Nat} {u y : α} (hk : k ≤ S.length) : (S.take k ++ u :: S.drop k).set k y = S.take k ++ y :: S.drop k := by
  have hl : (S.take k).length = k := by rw [List.length_take]; omega
  rw [List.set_append_right _ _ (by omega), hl, Nat.sub_self, List.set_cons_zero]
theorem last_atS {α : Type} {S : List α} {k : Nat} {u y : α} (hy : S[k]? = some y) : (S.take (k + 1) ++ u :: S.drop (k + 1))[k]? = some y := by
  obtain ⟨hk, e⟩ := List.getElem?_eq_some_iff.mp hy
  rw [List.getElem?_append_left (by rw [List.length_take]; omega), List.getElem?_take, if_pos (by omega), hy]

/-- What SortTexts ends in. -/
def SrtEnd (l : List ByteArray) (w : World) (e : Ending) (w' : World) : Prop := ∃ a c G, e = .returned (.slice a (srtS l).length c) ∧ Sl w' 9 1 encS (.slice a (srtS l).length c) (srtS l) G ∧ Frame [] w w' ∧ ∀ x ∈ G, w.heap.size ≤ x
end Go.Proofs.Ytjcajidgaejhoaa

