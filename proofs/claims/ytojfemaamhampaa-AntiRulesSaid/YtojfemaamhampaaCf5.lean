/- slices.CompactFunc by slices.Equal on one's own row of sets. -/
import Derived.Test.YtojfemaamhampaaRow5
import Derived.Test.YtojfemaamhampaaQf
namespace Go.Proofs.Ytojfemaamhampaa
open Go.RowKit
set_option linter.unusedSimpArgs false
set_option linter.unusedVariables false

/-! ### what is kept -/
def ddS (st : List SV × Option (List Int)) (s : SV) : List SV × Option (List Int) := (if st.2 = some s.l then st.1 else st.1 ++ [s], some s.l)
def dd (vs : List SV) : List SV := (vs.foldl ddS ([], none)).1
theorem dd_last (vs : List SV) (st : List SV × Option (List Int)) : (vs.foldl ddS st).2 = (match vs.getLast? with | some s => some s.l | none => st.2) := by
  induction vs generalizing st with
  | nil => rfl
  | cons x t ih =>
    rw [List.foldl_cons, ih]
    cases t with
    | nil => rfl
    | cons y u => rw [List.getLast?_cons_cons]; cases h : (y :: u).getLast? with
      | none => simp at h
      | some z => rfl
theorem dd_snoc (p : List SV) (s : SV) : dd (p ++ [s]) = if p.getLast?.map (·.l) = some s.l then dd p else dd p ++ [s] := by
  unfold dd
  rw [List.foldl_append, List.foldl_cons, List.foldl_nil]
  show (if (p.foldl ddS ([], none)).2 = some s.l then _ else _) = _
  rw [dd_last]
  cases p.getLast? <;> rfl
theorem dd_one (s : SV) : dd [s] = [s] := rfl
theorem dd_next {vs : List SV} {k : Nat} {x y : SV} (h : vs[k]? = some y) (h1 : vs[k + 1]? = some x) : dd (vs.take (k + 2)) = if y.l = x.l then dd (vs.take (k + 1)) else dd (vs.take (k + 1)) ++ [x] := by
  rw [take_one' h1, dd_snoc, take_one' h, List.getLast?_concat]
  simp
theorem dd_len_take (vs : List SV) : ∀ k, (dd (vs.take k)).length ≤ k
  | 0 => by simp [dd]
  | k + 1 => by
    by_cases hk : k < vs.length
    · have := take_one' (js := vs) (i := k) (j := vs[k]) (by simp [hk])
      rw [this, dd_snoc]
      have ih := dd_len_take vs k
      split
      · omega
      · simp; omega
    · rw [List.take_of_length_le (by omega)]
      have ih := dd_len_take vs k
      rw [List.take_of_length_le (by omega)] at ih
      omega
theorem dd_mem (vs : List SV) (s : SV) (h : s ∈ dd vs) : s ∈ vs := by
  suffices this : ∀ (n : Nat) (vs : List SV), vs.length = n → ∀ s, s ∈ dd vs → s ∈ vs from this _ vs rfl s h
  intro n
  induction n with
  | zero => intro vs hn s hs; rw [List.length_eq_zero_iff.1 hn] at hs; simp [dd] at hs
  | succ n ih =>
    intro vs hn s hs
    have hne : vs ≠ [] := by intro e; rw [e] at hn; simp at hn
    rw [← List.dropLast_concat_getLast hne] at hs ⊢
    rw [dd_snoc] at hs
    split at hs
    · exact List.mem_append_left _ (ih _ (by simp [hn]) s hs)
    · rcases List.mem_append.1 hs with h | h
      · exact List.mem_append_left _ (ih _ (by simp [hn]) s h)
      · exact List.mem_append_right _ h
/-- Of sorted sets each is kept once. -/
theorem dd_all {vs : List SV} (h : (vs.map (·.l)).Pairwise (fun x y => ¬ LtO y x)) : ((dd vs).map (·.l)).Pairwise LtO ∧ ∀ x, x ∈ (dd vs).map (·.l) ↔ x ∈ vs.map (·.l) := by
  suffices hh : ∀ (n : Nat) (vs : List SV), vs.length = n → (vs.map (·.l)).Pairwise (fun x y => ¬ LtO y x) → ((dd vs).map (·.l)).Pairwise LtO ∧ ∀ x, x ∈ (dd vs).map (·.l) ↔ x ∈ vs.map (·.l) from hh _ vs rfl h
  intro n
  induction n with
  | zero => intro vs hn _; rw [List.length_eq_zero_iff.1 hn]; simp [dd]
  | succ n ih =>
    intro vs hn h
    have hne : vs ≠ [] := by intro e; rw [e] at hn; simp at hn
    generalize hp : vs.dropLast = p at *
    generalize hs : vs.getLast hne = s at *
    have e : vs = p ++ [s] := by rw [← hp, ← hs]; exact (List.dropLast_concat_getLast hne).symm
    subst e
    clear hp hs
    rw [List.map_append, List.pairwise_append] at h
    obtain ⟨h1, _, h2⟩ := h
    obtain ⟨i1, i2⟩ := ih p (by simpa using hn) h1
    have h3 : ∀ x ∈ p.map (·.l), ¬ LtO s.l x := fun x hx => h2 x hx s.l (by simp)
    rw [dd_snoc]
    split
    · rename_i hl
      have hmem : s.l ∈ p.map (·.l) := by
        cases hg : p.getLast? with
        | none => rw [hg] at hl; simp at hl
        | some z =>
          rw [hg] at hl
          simp at hl
          rw [← hl]
          exact List.mem_map_of_mem (List.mem_of_getLast? hg)
      refine ⟨i1, fun x => ?_⟩
      rw [i2, List.map_append, List.mem_append]
      constructor
      · exact .inl
      · rintro (h | h)
        · exact h
        · obtain rfl : x = s.l := by simpa using h
          exact hmem
    · rename_i hl
      have hnm : s.l ∉ p.map (·.l) := by
        intro hm
        -- the last one is not less than s, and not s; s is not less than any
        cases hg : p.getLast? with
        | none => rw [List.getLast?_eq_none_iff] at hg; subst hg; simp at hm
        | some z =>
          rw [hg] at hl
          simp at hl
          have hz : z ∈ p := List.mem_of_getLast? hg
          have hpn : p ≠ [] := fun e => by subst e; simp at hz
          have hzz : p.getLast hpn = z := by rw [List.getLast?_eq_some_getLast hpn] at hg; simpa using hg
          have ep : p = p.dropLast ++ [z] := by rw [← hzz]; exact (List.dropLast_concat_getLast hpn).symm
          rw [ep, List.map_append, List.mem_append] at hm
          rcases hm with hm | hm
          · have h4 : ¬ LtO z.l s.l := by
              rw [ep, List.map_append, List.pairwise_append] at h1
              exact h1.2.2 s.l hm z.l (by simp)
            have h5 : ¬ LtO s.l z.l := h3 z.l (List.mem_map_of_mem hz)
            rcases LtO.total z.l s.l with h | h | h
            · exact h4 h
            · exact hl h
            · exact h5 h
          · have hm : s.l = z.l := by simpa using hm
            exact hl hm.symm
      refine ⟨?_, fun x => ?_⟩
      · rw [List.map_append, List.pairwise_append]
        refine ⟨i1, by simp, fun x hx y hy => ?_⟩
        obtain rfl : y = s.l := by simpa using hy
        have hx' := (i2 x).1 hx
        rcases LtO.total x s.l with h | h | h
        · exact h
        · subst h; exact absurd hx' hnm
        · exact absurd h (h3 x hx')
      · rw [List.map_append, List.map_append, List.mem_append, List.mem_append, i2]

/-! ### a row of sets at a block -/
theorem RowAt.setV {w : World} {b n cap : Nat} {xs : List SV} (h : RowAt w b 22 1 n cap (xs.flatMap encV)) (k : Nat) (x : SV) : RowAt (w.setCell ⟨b, k, none⟩ (.slice x.a x.l.length x.c)) b 22 1 n cap ((xs.set k x).flatMap encV) := by
  obtain ⟨cs, g1, g2, g3, g4, g5⟩ := RowAt.blk h
  refine RowAt.of_blk (g1.set _ _) g2 g3 (by simpa using g4) ?_
  rw [Array.toList_setIfInBounds, List.take_set, g5, encV_map, encV_map, List.map_set]
  rfl
theorem RowAt.atV {w : World} {b n cap : Nat} {xs : List SV} {k : Nat} {x : SV} (h : RowAt w b 22 1 n cap (xs.flatMap encV)) (hx : xs[k]? = some x) : w.cell? ⟨b, k, none⟩ = some (.slice x.a x.l.length x.c) := by
  refine h.cell ?_
  rw [encV_map, List.getElem?_map, hx]
  rfl
/-- The first ones stay when behind them is written. -/
theorem RowAt.cut {w : World} {b n m cap : Nat} {xs : List Value} (h : RowAt w b 22 1 n cap xs) (hm : m ≤ n) : RowAt w b 22 1 m cap (xs.take m) := by
  obtain ⟨cs, g1, g2, g3, g4, g5⟩ := RowAt.blk h
  refine RowAt.of_blk g1 (by omega) g3 g4 ?_
  rw [← g5, List.take_take]
  congr 1
  omega
theorem RowAt.behind {b m cap : Nat} {xs : List Value} (us : List Value) : ∀ {w : World} (o : Nat), m ≤ o → RowAt w b 22 1 m cap xs → RowAt (w.setCells b o us) b 22 1 m cap xs := by
  induction us with
  | nil => exact fun o _ h => h
  | cons u t ih =>
    intro w o ho h
    refine ih (o + 1) (by omega) ?_
    obtain ⟨cs, g1, g2, g3, g4, g5⟩ := RowAt.blk h
    refine RowAt.of_blk (g1.set _ _) g2 g3 (by simpa using g4) ?_
    rw [Array.toList_setIfInBounds, Nat.mul_one, List.take_set_of_le (by omega)]
    simpa using g5
theorem Frame.setCells {b : Nat} (us : List Value) : ∀ {w0 w : World} (o : Nat), Frame [b] w0 w → Frame [b] w0 (w.setCells b o us) := by
  induction us with
  | nil => exact fun o h => h
  | cons u t ih => exact fun o h => ih (o + 1) (h.trans1 (Frame.setCell _ _ _ (by simp)))
end Go.Proofs.Ytojfemaamhampaa
