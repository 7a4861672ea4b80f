/- How great values get; what they are without weights: pure. -/
import Derived.Test.YtbnhhmejlglbcaaMg36
import Derived.Test.YtbnhhmejlglbcaaMg25
namespace Go.Proofs.Ytbnhhmejlglbcaa
open Go.RowKit
set_option linter.unusedSimpArgs false
set_option linter.unusedVariables false

/-- Products of products: how deep. -/
def rgD : Rg Nat := ⟨0, 0, max, fun a b => max a b + 1, fun a => a⟩
def deepV (l : List Gt) (k : Nat) : Nat := worth rgD (fun _ => 0) l k
def bigV (l : List Gt) : Bool := (List.range l.length).any fun k => decide (5 < deepV l k)
theorem bigV_no {l : List Gt} (h : bigV l = false) {k : Nat} (hk : k < l.length) : deepV l k ≤ 5 := by
  unfold bigV at h
  rw [List.any_eq_false] at h
  have := h k (List.mem_range.mpr hk)
  simp at this
  exact this
/-- A number of at most so many bits. -/
def Bd (B : Nat) : Option Nat → Prop
  | none => True
  | some m => m ≤ 2 ^ B
theorem Bd.mono {B C : Nat} {x : Option Nat} (h : Bd B x) (hc : B ≤ C) : Bd C x := by
  cases x with
  | none => trivial
  | some m => exact Nat.le_trans h (Nat.pow_le_pow_right (by omega) hc)
theorem bd_zero (B : Nat) : Bd B (some 0) := Nat.zero_le _
theorem bd_one (B : Nat) : Bd B (some 1) := Nat.one_le_two_pow
theorem bd_add {B : Nat} {x y : Option Nat} (hx : Bd B x) (hy : Bd B y) : Bd (B + 1) (addO x y) := by
  cases x with
  | none => cases y <;> trivial
  | some m =>
    cases y with
    | none => trivial
    | some n =>
      show m + n ≤ 2 ^ (B + 1)
      have h1 : m ≤ 2 ^ B := hx
      have h2 : n ≤ 2 ^ B := hy
      rw [Nat.pow_succ]; omega
theorem bd_mul {B : Nat} {x y : Option Nat} (hx : Bd B x) (hy : Bd B y) : Bd (B * 2) (mulO x y) := by
  cases x with
  | none =>
    cases y with
    | none => trivial
    | some n => simp only [mulO]; split <;> first | exact bd_zero _ | trivial
  | some m =>
    cases y with
    | none => simp only [mulO]; split <;> first | exact bd_zero _ | trivial
    | some n =>
      show m * n ≤ 2 ^ (B * 2)
      rw [Nat.mul_comm B 2, Nat.two_mul, Nat.pow_add]
      exact Nat.mul_le_mul hx hy
theorem bd_star {B : Nat} (x : Option Nat) : Bd B (starO x) := by
  unfold starO; split
  · exact bd_one _
  · trivial
theorem bd_min {B : Nat} {x y : Option Nat} (hx : Bd B x) (hy : Bd B y) : Bd B (minO x y) := by
  unfold minO; split
  · exact hy
  · exact hx
theorem bd_sz {B : Nat} {x : Option Nat} (h : Bd B x) (hB : B ≤ 3000000000) : Sz x := by
  cases x with
  | none => trivial
  | some m =>
    show (digs m).length ≤ SZ
    have h1 : m ≤ 2 ^ B := h
    by_cases h0 : m = 0
    · subst h0; rw [digs_zero]; exact Nat.zero_le _
    · have h2 := digs_ge h0
      have h3 : BB ^ ((digs m).length - 1) ≤ 2 ^ B := Nat.le_trans h2 h1
      rw [show BB = 2 ^ 32 from by decide, ← Nat.pow_mul] at h3
      have h4 := (Nat.pow_le_pow_iff_right (by omega)).mp h3
      unfold SZ
      omega
/-- Count: the bits of a gate's value. -/
theorem bd_count {l : List Gt} (hI : Inv l) {W : Nat} {w : Int → Option Nat} (hw : ∀ t, Bd W (w t)) : ∀ k, Bd ((k + W) * 2 ^ deepV l k) (worth rgN1 w l k) := by
  intro k
  induction k using Nat.strongRecOn with
  | _ k ih =>
    cases hg : l[k]? with
    | none => rw [show worth rgN1 w l k = some 0 by unfold worth; rw [worthF, hg]; rfl]; exact bd_zero _
    | some g =>
      rw [worth_at hI hg]
      unfold deepV
      have hd := worth_at (R := rgD) (w := fun _ => 0) hI hg
      rw [hd]
      unfold gval
      have ge1 : ∀ d, k + W ≤ (k + W) * 2 ^ d := fun d => Nat.le_mul_of_pos_right _ (Nat.two_pow_pos d)
      by_cases h2 : g.k = 2
      · rw [if_pos h2, if_pos h2]; exact bd_one _
      rw [if_neg h2, if_neg h2]
      by_cases h3 : g.k = 3
      · rw [if_pos h3, if_pos h3]; exact (hw g.a).mono (Nat.le_trans (by omega) (ge1 0))
      rw [if_neg h3, if_neg h3]
      by_cases h4 : g.k = 4
      · obtain ⟨a, ha, ha1, _⟩ := wf_nat hI hg (by omega)
        obtain ⟨b, hb, hb1, _⟩ := wf_nat2 hI hg (.inl h4)
        rw [if_pos h4, if_pos h4, ha, hb, Int.toNat_natCast, Int.toNat_natCast]
        have ia := ih a ha1
        have ib := ih b hb1
        show Bd ((k + W) * 2 ^ max (deepV l a) (deepV l b)) _
        have e1 : 2 ^ deepV l a ≤ 2 ^ max (deepV l a) (deepV l b) := Nat.pow_le_pow_right (by omega) (Nat.le_max_left _ _)
        have e2 : 2 ^ deepV l b ≤ 2 ^ max (deepV l a) (deepV l b) := Nat.pow_le_pow_right (by omega) (Nat.le_max_right _ _)
        generalize max (deepV l a) (deepV l b) = d at *
        refine (bd_add (ia.mono (Nat.mul_le_mul (show a + W ≤ (k - 1) + W by omega) e1)) (ib.mono (Nat.mul_le_mul (show b + W ≤ (k - 1) + W by omega) e2))).mono ?_
        have : (k - 1 + W) * 2 ^ d + 2 ^ d = (k + W) * 2 ^ d := by rw [← Nat.succ_mul]; congr 1; omega
        have := Nat.two_pow_pos d
        omega
      rw [if_neg h4, if_neg h4]
      by_cases h5 : g.k = 5
      · obtain ⟨a, ha, ha1, _⟩ := wf_nat hI hg (by omega)
        obtain ⟨b, hb, hb1, _⟩ := wf_nat2 hI hg (.inr h5)
        rw [if_pos h5, if_pos h5, ha, hb, Int.toNat_natCast, Int.toNat_natCast]
        have ia := ih a ha1
        have ib := ih b hb1
        show Bd ((k + W) * 2 ^ (max (deepV l a) (deepV l b) + 1)) _
        have e1 : 2 ^ deepV l a ≤ 2 ^ max (deepV l a) (deepV l b) := Nat.pow_le_pow_right (by omega) (Nat.le_max_left _ _)
        have e2 : 2 ^ deepV l b ≤ 2 ^ max (deepV l a) (deepV l b) := Nat.pow_le_pow_right (by omega) (Nat.le_max_right _ _)
        generalize max (deepV l a) (deepV l b) = d at *
        refine (bd_mul (ia.mono (Nat.mul_le_mul (show a + W ≤ k + W by omega) e1)) (ib.mono (Nat.mul_le_mul (show b + W ≤ k + W by omega) e2))).mono ?_
        rw [Nat.pow_succ, ← Nat.mul_assoc]
        exact Nat.le_refl _
      rw [if_neg h5, if_neg h5]
      by_cases h6 : g.k = 6
      · rw [if_pos h6, if_pos h6]; exact bd_star _
      rw [if_neg h6, if_neg h6]; exact bd_zero _
/-- Trop: the bits of a gate's value. -/
theorem bd_trop {l : List Gt} (hI : Inv l) {W : Nat} {w : Int → Option Nat} (hw : ∀ t, Bd W (w t)) : ∀ k, Bd (k + W) (worth rgT w l k) := by
  intro k
  induction k using Nat.strongRecOn with
  | _ k ih =>
    cases hg : l[k]? with
    | none => rw [show worth rgT w l k = none by unfold worth; rw [worthF, hg]; rfl]; trivial
    | some g =>
      rw [worth_at hI hg]
      unfold gval
      by_cases h2 : g.k = 2
      · rw [if_pos h2]; exact bd_zero _
      rw [if_neg h2]
      by_cases h3 : g.k = 3
      · rw [if_pos h3]; exact (hw g.a).mono (by omega)
      rw [if_neg h3]
      by_cases h4 : g.k = 4
      · obtain ⟨a, ha, ha1, _⟩ := wf_nat hI hg (by omega)
        obtain ⟨b, hb, hb1, _⟩ := wf_nat2 hI hg (.inl h4)
        rw [if_pos h4, ha, hb, Int.toNat_natCast, Int.toNat_natCast]
        exact bd_min ((ih a ha1).mono (by omega)) ((ih b hb1).mono (by omega))
      rw [if_neg h4]
      by_cases h5 : g.k = 5
      · obtain ⟨a, ha, ha1, _⟩ := wf_nat hI hg (by omega)
        obtain ⟨b, hb, hb1, _⟩ := wf_nat2 hI hg (.inr h5)
        rw [if_pos h5, ha, hb, Int.toNat_natCast, Int.toNat_natCast]
        exact (bd_add ((ih a ha1).mono (show a + W ≤ (k - 1) + W by omega)) ((ih b hb1).mono (show b + W ≤ (k - 1) + W by omega))).mono (by omega)
      rw [if_neg h5]
      by_cases h6 : g.k = 6
      · rw [if_pos h6]; exact bd_zero _
      rw [if_neg h6]; trivial
/-! ### two values alone -/
structure TwoV {V : Type} (R : Rg V) : Prop where
  ne : R.z ≠ R.o
  pzz : R.p R.z R.z = R.z
  pzo : R.p R.z R.o = R.o
  poz : R.p R.o R.z = R.o
  poo : R.p R.o R.o = R.o
  tzz : R.t R.z R.z = R.z
  tzo : R.t R.z R.o = R.z
  toz : R.t R.o R.z = R.z
  too : R.t R.o R.o = R.o
  sz : R.s R.z = R.o
  so : R.s R.o = R.o
theorem TwoV.worth {V : Type} {R : Rg V} (h : TwoV R) {l : List Gt} (hI : Inv l) {b : Int → Bool} : ∀ k, worth R (fun t => if b t = true then R.o else R.z) l k = if worth rgB b l k = true then R.o else R.z := by
  intro k
  induction k using Nat.strongRecOn with
  | _ k ih =>
    cases hg : l[k]? with
    | none =>
      have e1 : Go.Proofs.Ytbnhhmejlglbcaa.worth R (fun t => if b t = true then R.o else R.z) l k = R.z := by unfold Go.Proofs.Ytbnhhmejlglbcaa.worth; rw [worthF, hg]
      have e2 : Go.Proofs.Ytbnhhmejlglbcaa.worth rgB b l k = false := by unfold Go.Proofs.Ytbnhhmejlglbcaa.worth; rw [worthF, hg]; rfl
      rw [e1, e2]; rfl
    | some g =>
      rw [worth_at hI hg, worth_at hI hg]
      unfold gval
      by_cases h2 : g.k = 2
      · rw [if_pos h2, if_pos h2]; rfl
      rw [if_neg h2, if_neg h2]
      by_cases h3 : g.k = 3
      · rw [if_pos h3, if_pos h3]
      rw [if_neg h3, if_neg h3]
      by_cases h4 : g.k = 4
      · obtain ⟨a, ha, ha1, _⟩ := wf_nat hI hg (by omega)
        obtain ⟨c, hb, hb1, _⟩ := wf_nat2 hI hg (.inl h4)
        rw [if_pos h4, if_pos h4, ha, hb, Int.toNat_natCast, Int.toNat_natCast, ih a ha1, ih c hb1]
        cases Go.Proofs.Ytbnhhmejlglbcaa.worth rgB b l a <;> cases Go.Proofs.Ytbnhhmejlglbcaa.worth rgB b l c <;> simp [rgB, h.pzz, h.pzo, h.poz, h.poo]
      rw [if_neg h4, if_neg h4]
      by_cases h5 : g.k = 5
      · obtain ⟨a, ha, ha1, _⟩ := wf_nat hI hg (by omega)
        obtain ⟨c, hb, hb1, _⟩ := wf_nat2 hI hg (.inr h5)
        rw [if_pos h5, if_pos h5, ha, hb, Int.toNat_natCast, Int.toNat_natCast, ih a ha1, ih c hb1]
        cases Go.Proofs.Ytbnhhmejlglbcaa.worth rgB b l a <;> cases Go.Proofs.Ytbnhhmejlglbcaa.worth rgB b l c <;> simp [rgB, h.tzz, h.tzo, h.toz, h.too]
      rw [if_neg h5, if_neg h5]
      by_cases h6 : g.k = 6
      · obtain ⟨a, ha, ha1, _⟩ := wf_nat hI hg (by omega)
        rw [if_pos h6, if_pos h6, ha, Int.toNat_natCast, ih a ha1]
        cases Go.Proofs.Ytbnhhmejlglbcaa.worth rgB b l a <;> simp [rgB, h.sz, h.so]
      rw [if_neg h6, if_neg h6]; rfl
theorem two_T : TwoV rgT := by
  constructor <;> first | decide | (simp [rgT, minO, addO, cmpO, cmpZ])
theorem two_L {n : Int} (h : n = 2 ∨ n = 4) : TwoV (rgL n) := by
  have : lTop n = 1 ∨ lTop n = 7 := by rcases h with rfl | rfl <;> decide
  constructor <;> simp only [rgL] <;> omega
theorem fMul_one {x : Nat} (h : x < fInf) : fMul x fOne = x := by unfold fMul; rw [fmul_one h]; rfl
theorem fMul_comm (x y : Nat) : fMul x y = fMul y x := by unfold fMul; rw [fmul_comm]
theorem fAdd_zero {x : Nat} (h : x ≤ fInf) : fAdd x 0 = x := by unfold fAdd; rw [fadd_zero h]; rfl
theorem fAdd_comm (x y : Nat) : fAdd x y = fAdd y x := by unfold fAdd; rw [fadd_comm]
theorem fMul_zero {x : Nat} (h : x < fInf) : fMul x 0 = 0 := by
  obtain ⟨m, e, p, hr⟩ := read_fin h
  unfold fMul Ieee.Format.mul
  rw [hr, read_zero]
  show ((some (Ieee.double.nearest (false ^^ false) (m * 0) ((e : Int) - 1074 + -1074))).getD 0) = 0
  rw [Nat.mul_zero]
  exact nearest_zero _
theorem sum_ni (m : Nat) (i : Int) : Ieee.Datum.sum (.number false m i) (.infinity false) = some (.infinity false) := rfl
theorem sum_ii : Ieee.Datum.sum (.infinity false) (.infinity false) = some (.infinity false) := by simp [Ieee.Datum.sum]
theorem map_inf : (Option.map Ieee.double.write (some (.infinity false))).getD 0 = fInf := by rw [Option.map_some, inf_word, Option.getD_some]
theorem fAdd_inf {x : Nat} (h : x ≤ fInf) : fAdd x fInf = fInf := by
  rcases Nat.lt_or_ge x fInf with h1 | h1
  · obtain ⟨m, e, p, hr⟩ := read_fin h1
    unfold fAdd Ieee.Format.add
    rw [hr, read_inf, sum_ni, map_inf]
  · have h2 : x = fInf := by omega
    rw [h2]
    unfold fAdd Ieee.Format.add
    rw [read_inf, sum_ii, map_inf]
theorem two_5 : TwoV rgF5 := by
  have h1 : fOne < fInf := by decide
  have h0 : 0 < fInf := by decide
  have h2 : (0 : Nat) ≠ fOne := by decide
  have e1 := Nat.max_self 0
  have e2 := Nat.max_eq_right (Nat.zero_le fOne)
  have e3 := Nat.max_eq_left (Nat.zero_le fOne)
  have e4 := Nat.max_self fOne
  have e5 := fMul_zero h0
  have e6 : fMul 0 fOne = 0 := by rw [fMul_comm]; exact fMul_zero h1
  have e7 := fMul_zero h1
  have e8 := fMul_one h1
  exact ⟨h2, e1, e2, e3, e4, e5, e6, e7, e8, rfl, rfl⟩
theorem two_6 : TwoV rgF6 := by
  have h2 : fInf ≠ 0 := by decide
  have e1 := Nat.min_self fInf
  have e2 := Nat.min_eq_right (Nat.zero_le fInf)
  have e3 := Nat.min_eq_left (Nat.zero_le fInf)
  have e4 := Nat.min_self 0
  have e5 := fAdd_inf (Nat.le_refl fInf)
  have e6 := fAdd_zero (Nat.le_refl fInf)
  have e7 : fAdd 0 fInf = fInf := by rw [fAdd_comm]; exact fAdd_zero (Nat.le_refl _)
  have e8 := fAdd_zero (Nat.zero_le fInf)
  exact ⟨h2, e1, e2, e3, e4, e5, e6, e7, e8, rfl, rfl⟩
/-- Count: a value is not 0 just if the tokens are enough. -/
theorem nz_count {l : List Gt} (hI : Inv l) {b : Int → Bool} : ∀ k, decide (worth rgN1 (fun t => if b t = true then some 1 else some 0) l k = some 0) = !worth rgB b l k := by
  intro k
  induction k using Nat.strongRecOn with
  | _ k ih =>
    cases hg : l[k]? with
    | none =>
      have e1 : worth rgN1 (fun t => if b t = true then some 1 else some 0) l k = some 0 := by unfold worth; rw [worthF, hg]; rfl
      have e2 : worth rgB b l k = false := by unfold worth; rw [worthF, hg]; rfl
      rw [e1, e2]; rfl
    | some g =>
      rw [worth_at hI hg, worth_at hI hg]
      unfold gval
      by_cases h2 : g.k = 2
      · rw [if_pos h2, if_pos h2]; rfl
      rw [if_neg h2, if_neg h2]
      by_cases h3 : g.k = 3
      · rw [if_pos h3, if_pos h3]; by_cases hb : b g.a = true <;> simp [hb]
      rw [if_neg h3, if_neg h3]
      have ad : ∀ x y, decide (addO x y = some 0) = (decide (x = some 0) && decide (y = some 0)) := by
        intro x y
        cases x with
        | none => cases y <;> simp [addO]
        | some m => cases y with
          | none => simp [addO]
          | some n => simp only [addO, Option.some.injEq]; by_cases h1 : m = 0 <;> by_cases h2 : n = 0 <;> simp [h1, h2] <;> omega
      have mu : ∀ x y, decide (mulO x y = some 0) = (decide (x = some 0) || decide (y = some 0)) := by
        intro x y
        cases x with
        | none => cases y with
          | none => simp [mulO]
          | some n => simp only [mulO]; by_cases h : n = 0 <;> simp [h]
        | some m => cases y with
          | none => simp only [mulO]; by_cases h : m = 0 <;> simp [h]
          | some n => simp only [mulO, Option.some.injEq, Nat.mul_eq_zero]; by_cases h1 : m = 0 <;> by_cases h2 : n = 0 <;> simp [h1, h2]
      by_cases h4 : g.k = 4
      · obtain ⟨a, ha, ha1, _⟩ := wf_nat hI hg (by omega)
        obtain ⟨c, hb, hb1, _⟩ := wf_nat2 hI hg (.inl h4)
        rw [if_pos h4, if_pos h4, ha, hb, Int.toNat_natCast, Int.toNat_natCast]
        show decide (addO _ _ = some 0) = _
        rw [ad, ih a ha1, ih c hb1]
        cases worth rgB b l a <;> cases worth rgB b l c <;> simp [rgB]
      rw [if_neg h4, if_neg h4]
      by_cases h5 : g.k = 5
      · obtain ⟨a, ha, ha1, _⟩ := wf_nat hI hg (by omega)
        obtain ⟨c, hb, hb1, _⟩ := wf_nat2 hI hg (.inr h5)
        rw [if_pos h5, if_pos h5, ha, hb, Int.toNat_natCast, Int.toNat_natCast]
        show decide (mulO _ _ = some 0) = _
        rw [mu, ih a ha1, ih c hb1]
        cases worth rgB b l a <;> cases worth rgB b l c <;> simp [rgB]
      rw [if_neg h5, if_neg h5]
      by_cases h6 : g.k = 6
      · obtain ⟨a, ha, ha1, _⟩ := wf_nat hI hg (by omega)
        rw [if_pos h6, if_pos h6]
        show decide (starO _ = some 0) = !true
        unfold starO; split <;> simp
      rw [if_neg h6, if_neg h6]; rfl
end Go.Proofs.Ytbnhhmejlglbcaa

