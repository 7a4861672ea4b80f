/- What gates are worth: pure, over any values. -/
import Derived.Test.YtoidafgeckhkcaaGreatMt10
namespace Go.Proofs.YtoidafgeckhkcaaGreat
open Go.RowKit
set_option linter.unusedSimpArgs false
set_option linter.unusedVariables false

/-- What a semiring's functions make. -/
structure Rg (V : Type) where
  z : V
  o : V
  p : V → V → V
  t : V → V → V
  s : V → V
section
variable {V : Type}
def gval (R : Rg V) (w : Int → V) (vs : Nat → V) (g : Gt) : V :=
  if g.k = 2 then R.o else if g.k = 3 then w g.a else if g.k = 4 then R.p (vs g.a.toNat) (vs g.b.toNat) else if g.k = 5 then R.t (vs g.a.toNat) (vs g.b.toNat) else if g.k = 6 then R.s (vs g.a.toNat) else R.z
def worthF (R : Rg V) (w : Int → V) (l : List Gt) : Nat → Nat → V
  | 0, _ => R.z
  | n + 1, k => match l[k]? with
    | none => R.z
    | some g => gval R w (worthF R w l n) g
def worth (R : Rg V) (w : Int → V) (l : List Gt) (k : Nat) : V := worthF R w l (k + 1) k
theorem gval_congr {R : Rg V} {w : Int → V} {vs us : Nat → V} {l : List Gt} (hI : Inv l) {k : Nat} {g : Gt} (hg : l[k]? = some g) (h : ∀ j, j < k → vs j = us j) : gval R w vs g = gval R w us g := by
  unfold gval
  by_cases h2 : g.k = 2
  · rw [if_pos h2, if_pos h2]
  rw [if_neg h2, if_neg h2]
  by_cases h3 : g.k = 3
  · rw [if_pos h3, if_pos h3]
  rw [if_neg h3, if_neg h3]
  by_cases h4 : g.k = 4
  · obtain ⟨a, ha, ha1, _⟩ := wf_nat hI hg (by omega)
    obtain ⟨b, hb, hb1, _⟩ := wf_nat2 hI hg (.inl h4)
    rw [if_pos h4, if_pos h4, ha, hb, Int.toNat_natCast, Int.toNat_natCast, h a ha1, h b hb1]
  rw [if_neg h4, if_neg h4]
  by_cases h5 : g.k = 5
  · obtain ⟨a, ha, ha1, _⟩ := wf_nat hI hg (by omega)
    obtain ⟨b, hb, hb1, _⟩ := wf_nat2 hI hg (.inr h5)
    rw [if_pos h5, if_pos h5, ha, hb, Int.toNat_natCast, Int.toNat_natCast, h a ha1, h b hb1]
  rw [if_neg h5, if_neg h5]
  by_cases h6 : g.k = 6
  · obtain ⟨a, ha, ha1, _⟩ := wf_nat hI hg (by omega)
    rw [if_pos h6, if_pos h6, ha, Int.toNat_natCast, h a ha1]
  rw [if_neg h6, if_neg h6]
theorem worthF_eq {R : Rg V} {w : Int → V} {l : List Gt} (hI : Inv l) : ∀ (k n m : Nat), k < n → k < m → worthF R w l n k = worthF R w l m k := by
  intro k
  induction k using Nat.strongRecOn with
  | _ k ih =>
    intro n m hn hm
    obtain ⟨n, rfl⟩ : ∃ n', n = n' + 1 := ⟨n - 1, by omega⟩
    obtain ⟨m, rfl⟩ : ∃ m', m = m' + 1 := ⟨m - 1, by omega⟩
    unfold worthF
    cases hg : l[k]? with
    | none => rfl
    | some g => exact gval_congr hI hg fun j hj => ih j hj n m (by omega) (by omega)
theorem worth_at {R : Rg V} {w : Int → V} {l : List Gt} (hI : Inv l) {k : Nat} {g : Gt} (hg : l[k]? = some g) : worth R w l k = gval R w (worth R w l) g := by
  unfold worth
  rw [worthF, hg]
  exact gval_congr hI hg fun j hj => worthF_eq hI j k (j + 1) hj (by omega)
end
/-! ### what a gate is made of is closed -/
theorem marks_keep {l : List Gt} {k j : Nat} {m : Nat → Bool} (h : m j = true) : marks l k m j = true := by
  unfold marks
  cases l[k]? with
  | none => exact h
  | some g =>
    simp only
    have u : ∀ (m : Nat → Bool) x, m j = true → upd m x j = true := fun m x hm => by unfold upd; split <;> simp_all
    split
    · split
      · exact u _ _ (u _ _ h)
      · split
        · exact u _ _ h
        · exact h
    · exact h
theorem down_keep {l : List Gt} : ∀ (n : Nat) {j : Nat} {m : Nat → Bool}, m j = true → down l n m j = true
  | 0, _, _, h => h
  | n + 1, _, _, h => down_keep n (marks_keep h)
theorem down_kids {l : List Gt} (hI : Inv l) : ∀ (n : Nat) {k : Nat} {m : Nat → Bool} {g : Gt}, k < n → l[k]? = some g → down l n m k = true → ((g.k = 4 ∨ g.k = 5) → down l n m g.a.toNat = true ∧ down l n m g.b.toNat = true) ∧ (g.k = 6 → down l n m g.a.toNat = true)
  | 0, _, _, _, h, _, _ => by omega
  | n + 1, k, m, g, h, hg, hd => by
    unfold down at hd ⊢
    by_cases hk : k = n
    · subst hk
      rw [down_ge hI _ (by omega), marks_ge hI m (Nat.le_refl _)] at hd
      have hm : marks l k m = if m k = true then (if g.k = 4 ∨ g.k = 5 then upd (upd m g.b.toNat) g.a.toNat else if g.k = 6 then upd m g.a.toNat else m) else m := by unfold marks; rw [hg]
      rw [if_pos hd] at hm
      refine ⟨fun h4 => ?_, fun h6 => ?_⟩
      · rw [if_pos h4] at hm
        refine ⟨down_keep k ?_, down_keep k ?_⟩
        · rw [hm]; simp [upd]
        · rw [hm]; simp only [upd]; split <;> simp
      · rw [if_neg (by omega), if_pos h6] at hm
        refine down_keep k ?_
        rw [hm]; simp [upd]
    · exact down_kids hI n (by omega) hg hd
theorem reachM_root (l : List Gt) (root : Nat) : reachM l root root = true := down_keep _ (by simp)
theorem reachM_kids {l : List Gt} (hI : Inv l) {root k : Nat} {g : Gt} (hk : k ≤ root) (hg : l[k]? = some g) (h : reachM l root k = true) : ((g.k = 4 ∨ g.k = 5) → reachM l root g.a.toNat = true ∧ reachM l root g.b.toNat = true) ∧ (g.k = 6 → reachM l root g.a.toNat = true) :=
  down_kids hI (root + 1) (by omega) hg h
/-- A gate's worth hangs on the tokens it is made of. -/
theorem worth_congr {V : Type} {R : Rg V} {w w' : Int → V} {l : List Gt} (hI : Inv l) {root : Nat} (h : ∀ k g, k ≤ root → reachM l root k = true → l[k]? = some g → g.k = 3 → w g.a = w' g.a) : ∀ k, k ≤ root → reachM l root k = true → worth R w l k = worth R w' l k := by
  intro k
  induction k using Nat.strongRecOn with
  | _ k ih =>
    intro hk hr
    cases hg : l[k]? with
    | none => unfold worth; rw [worthF, worthF, hg]
    | some g =>
      rw [worth_at hI hg, worth_at hI hg]
      have hc := reachM_kids hI hk hg hr
      unfold gval
      by_cases h2 : g.k = 2
      · rw [if_pos h2, if_pos h2]
      rw [if_neg h2, if_neg h2]
      by_cases h3 : g.k = 3
      · rw [if_pos h3, if_pos h3, h k g hk hr hg h3]
      rw [if_neg h3, if_neg h3]
      by_cases h4 : g.k = 4
      · obtain ⟨a, ha, ha1, _⟩ := wf_nat hI hg (by omega)
        obtain ⟨b, hb, hb1, _⟩ := wf_nat2 hI hg (.inl h4)
        have hh := hc.1 (.inl h4)
        rw [ha, hb, Int.toNat_natCast, Int.toNat_natCast] at hh
        rw [if_pos h4, if_pos h4, ha, hb, Int.toNat_natCast, Int.toNat_natCast, ih a ha1 (by omega) hh.1, ih b hb1 (by omega) hh.2]
      rw [if_neg h4, if_neg h4]
      by_cases h5 : g.k = 5
      · obtain ⟨a, ha, ha1, _⟩ := wf_nat hI hg (by omega)
        obtain ⟨b, hb, hb1, _⟩ := wf_nat2 hI hg (.inr h5)
        have hh := hc.1 (.inr h5)
        rw [ha, hb, Int.toNat_natCast, Int.toNat_natCast] at hh
        rw [if_pos h5, if_pos h5, ha, hb, Int.toNat_natCast, Int.toNat_natCast, ih a ha1 (by omega) hh.1, ih b hb1 (by omega) hh.2]
      rw [if_neg h5, if_neg h5]
      by_cases h6 : g.k = 6
      · obtain ⟨a, ha, ha1, _⟩ := wf_nat hI hg (by omega)
        have hh := hc.2 h6
        rw [ha, Int.toNat_natCast] at hh
        rw [if_pos h6, if_pos h6, ha, Int.toNat_natCast, ih a ha1 (by omega) hh]
      rw [if_neg h6, if_neg h6]
/-! ### Bool -/
def rgB : Rg Bool := ⟨false, true, (· || ·), (· && ·), fun _ => true⟩
theorem worthB_mono {w w' : Int → Bool} {l : List Gt} (hI : Inv l) (h : ∀ t, w t = true → w' t = true) : ∀ k, worth rgB w l k = true → worth rgB w' l k = true := by
  intro k
  induction k using Nat.strongRecOn with
  | _ k ih =>
    cases hg : l[k]? with
    | none => unfold worth; rw [worthF, hg]; exact fun h => by cases h
    | some g =>
      rw [worth_at hI hg, worth_at hI hg]
      unfold gval
      by_cases h2 : g.k = 2
      · rw [if_pos h2, if_pos h2]; exact id
      rw [if_neg h2, if_neg h2]
      by_cases h3 : g.k = 3
      · rw [if_pos h3, if_pos h3]; exact h _
      rw [if_neg h3, if_neg h3]
      by_cases h4 : g.k = 4
      · obtain ⟨a, ha, ha1, _⟩ := wf_nat hI hg (by omega)
        obtain ⟨b, hb, hb1, _⟩ := wf_nat2 hI hg (.inl h4)
        rw [if_pos h4, if_pos h4, ha, hb, Int.toNat_natCast, Int.toNat_natCast]
        simp only [rgB, Bool.or_eq_true]
        exact fun hh => hh.imp (ih a ha1) (ih b hb1)
      rw [if_neg h4, if_neg h4]
      by_cases h5 : g.k = 5
      · obtain ⟨a, ha, ha1, _⟩ := wf_nat hI hg (by omega)
        obtain ⟨b, hb, hb1, _⟩ := wf_nat2 hI hg (.inr h5)
        rw [if_pos h5, if_pos h5, ha, hb, Int.toNat_natCast, Int.toNat_natCast]
        simp only [rgB, Bool.and_eq_true]
        exact fun hh => ⟨ih a ha1 hh.1, ih b hb1 hh.2⟩
      rw [if_neg h5, if_neg h5]
      by_cases h6 : g.k = 6
      · rw [if_pos h6, if_pos h6]; exact fun _ => rfl
      rw [if_neg h6, if_neg h6]; exact id
end Go.Proofs.YtoidafgeckhkcaaGreat

