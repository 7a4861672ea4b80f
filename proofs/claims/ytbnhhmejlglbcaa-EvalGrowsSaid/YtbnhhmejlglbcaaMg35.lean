/- Doubles from 0 on: pure. Doubles from 0 on: flo's and fop's functions. Doubles from 0 on: Unit, Price, fop's Times, Plus; semi.double. -/
import Derived.Test.YtbnhhmejlglbcaaMg01
import Derived.Laws.Externs
import Derived.IntWalk
namespace Go.Proofs.Ytbnhhmejlglbcaa
open Go.RowKit
set_option linter.unusedSimpArgs false
set_option linter.unusedVariables false

/-- The words of 1 and of infinity. -/
def fOne : Nat := 4607182418800017408
def fInf : Nat := 9218868437227405312
/-- 2 to the fifty-second. -/
def FB : Nat := 4503599627370496
theorem FB_eq : FB = 2 ^ 52 := by decide
theorem fOne_eq : fOne = 1023 * FB := by decide
theorem fInf_eq : fInf = 2047 * FB := by decide

/-- A finite number's parts. -/
structure FParts (r m e : Nat) : Prop where
  eq : r = e * FB + m
  lt : m < 2 * FB
  ge : 0 < e → FB ≤ m
theorem read_fin {r : Nat} (h : r < fInf) : ∃ m e, FParts r m e ∧ Ieee.double.read r = .number false m ((e : Int) - 1074) := by
  have hs : r % 9223372036854775808 = r := Nat.mod_eq_of_lt (by unfold fInf at h; omega)
  have hd : (r / 9223372036854775808 % 2 == 1) = false := by
    rw [Nat.div_eq_of_lt (by unfold fInf at h; omega)]; rfl
  have hr : Ieee.double.read r = (if r < FB then .number false r (-1074) else if r < fInf then .number false (FB + r % FB) (-1074 + ((r / FB - 1 : Nat) : Int)) else if r = fInf then .infinity false else .nan false (r - fInf)) := by
    show (let neg := r / 9223372036854775808 % 2 == 1; let rung := r % 9223372036854775808; if rung < FB then Ieee.Datum.number neg rung (-1074) else if rung < fInf then .number neg (FB + rung % FB) (-1074 + ((rung / FB - 1 : Nat) : Int)) else if rung = fInf then .infinity neg else .nan neg (rung - fInf)) = _
    simp only [hs, hd]
  rw [hr]
  by_cases h1 : r < FB
  · rw [if_pos h1]
    exact ⟨r, 0, ⟨by simp, by omega, by omega⟩, rfl⟩
  · rw [if_neg h1, if_pos h]
    have hm := Nat.mod_lt r (show 0 < FB by decide)
    have hd2 := Nat.div_add_mod r FB
    have h3 : 0 < r / FB := Nat.div_pos (by omega) (by decide)
    refine ⟨FB + r % FB, r / FB - 1, ⟨?_, by omega, by omega⟩, ?_⟩
    · have h9 : (r / FB - 1) * FB + FB = r / FB * FB := by rw [← Nat.succ_mul]; congr 1; omega
      rw [Nat.mul_comm] at hd2
      generalize (r / FB - 1) * FB = q1 at *
      generalize r / FB * FB = q2 at *
      omega
    · congr 1
theorem read_inf : Ieee.double.read fInf = .infinity false := by decide +kernel
theorem inf_word : Ieee.double.write (.infinity false) = fInf := by decide +kernel
theorem shl_eq (m k : Nat) : m <<< k = m * 2 ^ k := Nat.shiftLeft_eq _ _
/-- Nothing is left over. -/
theorem cut_exact (m k : Nat) (h : k ≤ (m * 2 ^ k).log2 + 2) : Ieee.Toward.even.cut false (m * 2 ^ k) k = m := by
  unfold Ieee.Toward.cut
  have hp : 0 < 2 ^ k := Nat.two_pow_pos k
  simp only [Nat.min_eq_left h, shl_eq, Nat.one_mul, Nat.mul_div_cancel _ hp, Nat.mul_mod_left, Nat.mul_zero]
  have h1 : ¬ 2 ^ k < 0 := by omega
  have h2 : (2 ^ k == 0) = false := by simp
  simp [h1, h2]
theorem log2_mul_pow {m k : Nat} (h : m ≠ 0) : (m * 2 ^ k).log2 = m.log2 + k := by
  have h1 : m * 2 ^ k ≠ 0 := Nat.mul_ne_zero h (Nat.ne_of_gt (Nat.two_pow_pos k))
  have a1 := Nat.log2_self_le h
  have a2 : m < 2 ^ (m.log2 + 1) := Nat.lt_log2_self
  have b1 : m.log2 + k ≤ (m * 2 ^ k).log2 := (Nat.le_log2 h1).mpr (by rw [Nat.pow_add]; exact Nat.mul_le_mul_right _ a1)
  have b2 : (m * 2 ^ k).log2 < m.log2 + k + 1 := (Nat.log2_lt h1).mpr (by
    rw [show m.log2 + k + 1 = m.log2 + 1 + k by omega, Nat.pow_add]
    exact Nat.mul_lt_mul_of_pos_right a2 (Nat.two_pow_pos k))
  omega
/-- A number that the format has is itself. -/
theorem nearest_self {r m e k : Nat} (p : FParts r m e) (hr : r ≤ fInf) (h0 : m ≠ 0) (pl : Int) (hp : pl = (e : Int) - 1074 - k) : Ieee.double.nearest false (m * 2 ^ k) pl = r := by
  have hne : m * 2 ^ k ≠ 0 := Nat.mul_ne_zero h0 (Nat.ne_of_gt (Nat.two_pow_pos k))
  have hl : Ieee.double.leastPlace = -1074 := by decide
  have hl2 := log2_mul_pow (k := k) h0
  have hlast : max (pl + ((m * 2 ^ k).log2 : Nat) - (52 : Nat)) (-1074 : Int) = (e : Int) - 1074 := by
    rw [hl2, hp]
    have hm53 : m.log2 < 53 := (Nat.log2_lt h0).mpr (by have := p.lt; unfold FB at this; omega)
    by_cases he : 0 < e
    · have h52 : 52 ≤ m.log2 := (Nat.le_log2 h0).mpr (by have := p.ge he; unfold FB at this; omega)
      omega
    · omega
  have hk : k ≤ (m * 2 ^ k).log2 + 2 := by omega
  unfold Ieee.Format.nearest
  rw [if_neg hne]
  simp only
  rw [show Ieee.double.fractionBits = 52 from rfl, hl, hlast]
  have e1 : (pl - ((e : Int) - 1074)).toNat = 0 := by omega
  have e2 : ((e : Int) - 1074 - pl).toNat = k := by omega
  have e3 : ((e : Int) - 1074 - -1074).toNat = e := by omega
  rw [e1, e2, e3, shl_eq, Nat.pow_zero, Nat.mul_one, cut_exact m k hk]
  show (if false = true then _ else min (e * FB + m) fInf) = r
  rw [← p.eq]
  simp [Nat.min_eq_left hr]
theorem nearest_zero (pl : Int) : Ieee.double.nearest false 0 pl = 0 := by
  unfold Ieee.Format.nearest; rfl
theorem infRung_eq : Ieee.double.infRung = fInf := by decide +kernel
theorem word_f (r : Nat) : Ieee.double.word false r = r := rfl
theorem word_min (a : Nat) : Ieee.double.word false (min a Ieee.double.infRung) ≤ fInf := by
  rw [word_f]; exact Nat.le_trans (Nat.min_le_right _ _) (Nat.le_of_eq infRung_eq)
theorem nearest_le (m : Nat) (pl : Int) : Ieee.double.nearest false m pl ≤ fInf := by
  unfold Ieee.Format.nearest
  by_cases h : m = 0
  · rw [if_pos h, word_f]; exact Nat.zero_le _
  · rw [if_neg h]
    exact word_min _
theorem read_one : Ieee.double.read fOne = .number false FB (-52) := by decide +kernel
theorem parts_zero {r m e : Nat} (p : FParts r m e) : m = 0 ↔ r = 0 := by
  constructor
  · intro h
    by_cases he : 0 < e
    · have := p.ge he; unfold FB at this; omega
    · have := p.eq; have : e = 0 := by omega
      subst this; omega
  · intro h; have := p.eq; omega
theorem fmul_one {x : Nat} (h : x < fInf) : Ieee.double.mul x fOne = some x := by
  obtain ⟨m, e, p, hr⟩ := read_fin h
  unfold Ieee.Format.mul
  rw [hr, read_one]
  show some (Ieee.double.nearest (false ^^ false) (m * FB) ((e : Int) - 1074 + -52)) = some x
  by_cases h0 : m = 0
  · subst h0
    have : x = 0 := (parts_zero p).mp rfl
    rw [this, Nat.zero_mul]; exact congrArg some (nearest_zero _)
  · rw [FB_eq]
    exact congrArg some (nearest_self p (by omega) h0 _ (by omega))
theorem product_comm (a b : Ieee.Datum) : a.product b = b.product a := by
  cases a <;> cases b <;> simp [Ieee.Datum.product, Bool.xor_comm, Nat.mul_comm, Int.add_comm]
theorem fmul_comm (x y : Nat) : Ieee.double.mul x y = Ieee.double.mul y x := by
  unfold Ieee.Format.mul; rw [product_comm]
theorem sum_comm (a b : Ieee.Datum) : a.sum b = b.sum a := by
  cases a with
  | number s m i => cases b with
    | number t n j =>
      simp only [Ieee.Datum.sum]
      rw [Int.min_comm j i, Int.add_comm, Bool.and_comm]
    | infinity t => rfl
    | nan => rfl
  | infinity s => cases b with
    | number => rfl
    | infinity t =>
      simp only [Ieee.Datum.sum]
      by_cases e : s = t
      · subst e; rfl
      · rw [if_neg e, if_neg (fun h => e h.symm)]
    | nan => rfl
  | nan => cases b <;> rfl
theorem fadd_comm (x y : Nat) : Ieee.double.add x y = Ieee.double.add y x := by
  unfold Ieee.Format.add; rw [sum_comm]
theorem read_zero : Ieee.double.read 0 = .number false 0 (-1074) := by decide +kernel
theorem signed_f (m k : Nat) : Ieee.signed false m k = ((m * 2 ^ k : Nat) : Int) := by
  unfold Ieee.signed; simp [shl_eq]
theorem sum_fin (m n : Nat) (i j : Int) : Ieee.Datum.sum (.number false m i) (.number false n j) = some (.number false (m * 2 ^ (i - min i j).toNat + n * 2 ^ (j - min i j).toNat) (min i j)) := by
  simp only [Ieee.Datum.sum, signed_f]
  rw [← Int.natCast_add, Int.natAbs_natCast]
  congr 2
  split
  · rfl
  · exact decide_eq_false (by omega)
theorem fadd_zero {x : Nat} (h : x ≤ fInf) : Ieee.double.add x 0 = some x := by
  rcases Nat.lt_or_ge x fInf with h1 | h1
  · obtain ⟨m, e, p, hr⟩ := read_fin h1
    unfold Ieee.Format.add
    rw [hr, read_zero, sum_fin]
    have hm : min ((e : Int) - 1074) (-1074) = -1074 := by omega
    rw [hm, show ((e : Int) - 1074 - -1074).toNat = e from by omega, Nat.zero_mul, Nat.add_zero]
    show some (Ieee.double.nearest false (m * 2 ^ e) (-1074)) = some x
    by_cases h0 : m = 0
    · subst h0
      have : x = 0 := (parts_zero p).mp rfl
      rw [this, Nat.zero_mul]; exact congrArg some (nearest_zero _)
    · exact congrArg some (nearest_self p h h0 _ (by omega))
  · obtain rfl : x = fInf := by omega
    decide +kernel
/-- A sum may be. -/
theorem fadd_le {x y : Nat} (hx : x ≤ fInf) (hy : y ≤ fInf) : ∃ r, Ieee.double.add x y = some r ∧ r ≤ fInf := by
  unfold Ieee.Format.add
  rcases Nat.lt_or_ge x fInf with h1 | h1
  · obtain ⟨m, e, -, hr⟩ := read_fin h1
    rcases Nat.lt_or_ge y fInf with h2 | h2
    · obtain ⟨n, f, -, hs⟩ := read_fin h2
      rw [hr, hs, sum_fin]
      exact ⟨_, rfl, nearest_le _ _⟩
    · obtain rfl : y = fInf := by omega
      rw [hr, read_inf]
      exact ⟨fInf, congrArg some inf_word, Nat.le_refl _⟩
  · obtain rfl : x = fInf := by omega
    rcases Nat.lt_or_ge y fInf with h2 | h2
    · obtain ⟨n, f, -, hs⟩ := read_fin h2
      rw [hs, read_inf]
      exact ⟨fInf, congrArg some inf_word, Nat.le_refl _⟩
    · obtain rfl : y = fInf := by omega
      exact ⟨fInf, by decide +kernel, Nat.le_refl _⟩
theorem pow_split {a b c : Nat} (h : a = b + c) : 2 ^ a = 2 ^ b * 2 ^ c := by subst h; exact Nat.pow_add _ _ _
theorem pow_le2 {a b : Nat} (h : a ≤ b) : 2 ^ a ≤ 2 ^ b := Nat.pow_le_pow_right (by decide) h
theorem pow_lt2 {a b : Nat} (h : a < b) : 2 ^ a < 2 ^ b := Nat.pow_lt_pow_right (by decide) h
/-- What 'no more than 1' says of the parts; T is 1074. -/
theorem parts_one {r m e T : Nat} (hT : T = 1074) (p : FParts r m e) (h : r ≤ fOne) : m * 2 ^ e ≤ 2 ^ T := by
  have he : e ≤ 1022 := by
    rcases Nat.lt_or_ge e 1023 with h1 | h1
    · omega
    · have := p.ge (by omega); have := p.eq
      have : 1023 * FB ≤ e * FB := Nat.mul_le_mul_right _ h1
      rw [fOne_eq] at h; unfold FB at *; omega
  rcases Nat.lt_or_ge e 1022 with h1 | h1
  · have : m ≤ 2 ^ 53 := by have := p.lt; unfold FB at this; omega
    exact Nat.le_trans (Nat.mul_le_mul this (pow_le2 (show e ≤ T - 53 by omega))) (Nat.le_of_eq (pow_split (by omega)).symm)
  · have e2 : e = 1022 := by omega
    have hr := p.eq
    have h3 : m ≤ 2 ^ 52 := by rw [fOne_eq, hr, e2] at h; rw [← FB_eq]; omega
    exact Nat.le_trans (Nat.mul_le_mul_right _ h3) (Nat.le_of_eq (pow_split (by omega)).symm)
theorem one_parts {r m e T : Nat} (hT : T = 1074) (p : FParts r m e) (h : m * 2 ^ e ≤ 2 ^ T) : r ≤ fOne := by
  rcases Nat.lt_or_ge e 1023 with h1 | h1
  · rcases Nat.lt_or_ge e 1022 with h2 | h2
    · clear h
      have := p.lt; have := p.eq
      have : e * FB ≤ 1021 * FB := Nat.mul_le_mul_right _ (by omega)
      rw [fOne_eq]; omega
    · have e2 : e = 1022 := by omega
      have h6 : m ≤ 2 ^ 52 := Nat.le_of_mul_le_mul_right (Nat.le_trans h (Nat.le_of_eq (pow_split (by omega)))) (Nat.two_pow_pos e)
      clear h
      have := p.eq
      rw [← FB_eq] at h6
      rw [fOne_eq, p.eq, e2]
      omega
  · exfalso
    have h4 : 2 ^ 52 ≤ m := by have := p.ge (by omega); rwa [FB_eq] at this
    have h5 : 2 ^ T < m * 2 ^ e := Nat.lt_of_lt_of_le (pow_lt2 (show T < 52 + e by omega)) (Nat.le_trans (Nat.le_of_eq (pow_split rfl)) (Nat.mul_le_mul_right _ h4))
    exact absurd h (Nat.not_le.mpr h5)
/-- Rounding does not go over a whole bound. -/
theorem cut_le {n d c : Nat} (h : n ≤ c * 2 ^ d) : Ieee.Toward.even.cut false n d ≤ c := by
  unfold Ieee.Toward.cut
  simp only [shl_eq, Nat.one_mul]
  rcases Nat.le_total d (n.log2 + 2) with hd | hd
  · rw [Nat.min_eq_left hd]
    have hp : 0 < 2 ^ d := Nat.two_pow_pos d
    have h1 : n / 2 ^ d ≤ c := by
      rw [← Nat.mul_div_cancel c hp]; exact Nat.div_le_div_right h
    rcases Nat.lt_or_ge (n / 2 ^ d) c with h2 | h2
    · have : ∀ b : Bool, b.toNat ≤ 1 := by decide
      exact Nat.le_trans (Nat.add_le_add_left (this _) _) h2
    · have h3 : n / 2 ^ d = c := by omega
      have h4 : n % 2 ^ d = 0 := by
        have := Nat.div_add_mod n (2 ^ d)
        rw [h3, Nat.mul_comm] at this
        omega
      have h5 : ¬ 2 ^ d < 2 * (n % 2 ^ d) := by rw [h4]; omega
      have h6 : (2 ^ d == 2 * (n % 2 ^ d)) = false := by rw [h4]; simp
      simp only [h3, h4, h5, h6]
      have h7 : ¬ 2 ^ d < 2 * 0 := by omega
      have h8 : (2 ^ d == 2 * 0) = false := by simp
      rw [h8]
      simp
  · rw [Nat.min_eq_right hd]
    have hlt : n < 2 ^ (n.log2 + 1) := Nat.lt_log2_self
    have h2 : n / 2 ^ (n.log2 + 2) = 0 := Nat.div_eq_of_lt (Nat.lt_trans hlt (Nat.pow_lt_pow_right (by omega) (by omega)))
    have h3 : n % 2 ^ (n.log2 + 2) = n := Nat.mod_eq_of_lt (Nat.lt_trans hlt (Nat.pow_lt_pow_right (by omega) (by omega)))
    have h4 : 2 ^ (n.log2 + 2) = 2 * 2 ^ (n.log2 + 1) := by rw [Nat.pow_succ, Nat.mul_comm]
    have h5 : ¬ 2 ^ (n.log2 + 2) < 2 * n := by omega
    have h6 : (2 ^ (n.log2 + 2) == 2 * n) = false := by simp; omega
    rw [h2, h3, h6]
    simp [h5]
/-- A product of two that are no more than 1. -/
theorem nearest_one {M : Nat} {p : Int} (h : p ≤ 0) (hM : M ≤ 2 ^ (-p).toNat) : Ieee.double.nearest false M p ≤ fOne := by
  unfold Ieee.Format.nearest
  by_cases h0 : M = 0
  · rw [if_pos h0]; decide
  rw [if_neg h0]
  simp only
  have hl : Ieee.double.leastPlace = -1074 := by decide
  rw [show Ieee.double.fractionBits = 52 from rfl, hl]
  have hL1 : 2 ^ M.log2 ≤ M := Nat.log2_self_le h0
  have hL2 : M < 2 ^ (M.log2 + 1) := Nat.lt_log2_self
  have hLp : M.log2 ≤ (-p).toNat := by
    have := Nat.le_trans hL1 hM
    exact (Nat.pow_le_pow_iff_right (by omega)).mp this
  generalize M.log2 = L at *
  generalize hla : max (p + (L : Int) - (52 : Nat)) (-1074 : Int) = la
  have la1 : la ≤ -52 := by omega
  have la2 : -1074 ≤ la := by omega
  have la3 : p + L - 52 ≤ la := by omega
  show (if false = true then _ else min ((la - -1074).toNat * FB + _) fInf) ≤ fOne
  simp only [Bool.false_eq_true, if_false]
  refine Nat.le_trans (Nat.min_le_left _ _) ?_
  have hk : ∀ c : Nat, M * 2 ^ (p - la).toNat ≤ c * 2 ^ (la - p).toNat → Ieee.Toward.even.cut false (M <<< (p - la).toNat) (la - p).toNat ≤ c := fun c hc => cut_le (by rw [shl_eq]; exact hc)
  have hb53 : M * 2 ^ (p - la).toNat ≤ 2 ^ 53 * 2 ^ (la - p).toNat := by
    rw [← Nat.pow_add]
    refine Nat.le_trans (Nat.mul_le_mul_right _ (Nat.le_of_lt hL2)) ?_
    rw [← Nat.pow_add]
    exact Nat.pow_le_pow_right (by omega) (by omega)
  have h53 := hk _ hb53
  by_cases e : la = -52
  · have hb52 : M * 2 ^ (p - la).toNat ≤ 2 ^ 52 * 2 ^ (la - p).toNat := by
      rw [← Nat.pow_add]
      refine Nat.le_trans (Nat.mul_le_mul_right _ hM) ?_
      rw [← Nat.pow_add]
      exact Nat.pow_le_pow_right (by omega) (by omega)
    have h52 := hk _ hb52
    rw [← FB_eq] at h52
    have : (la - -1074).toNat = 1022 := by omega
    rw [this, fOne_eq]
    omega
  · have h54 : (2 : Nat) ^ 53 = 2 * FB := by decide
    rw [h54] at h53
    have : (la - -1074).toNat * FB ≤ 1021 * FB := Nat.mul_le_mul_right _ (by omega)
    rw [fOne_eq]
    omega
theorem parts_exp {r m e T : Nat} (hT : T = 1074) (p : FParts r m e) (h : m * 2 ^ e ≤ 2 ^ T) : e ≤ T := by
  rcases Nat.lt_or_ge 0 e with h0 | h0
  · have h1 : 0 < m := by have := p.ge h0; unfold FB at this; omega
    have h2 : 2 ^ e ≤ 2 ^ T := Nat.le_trans (Nat.le_mul_of_pos_left _ h1) h
    exact (Nat.pow_le_pow_iff_right (by decide)).mp h2
  · omega
theorem fmul_le' {x y T : Nat} (hT : T = 1074) (hx : x ≤ fOne) (hy : y ≤ fOne) : ∃ r, Ieee.double.mul x y = some r ∧ r ≤ fOne := by
  have h1 : fOne < fInf := by decide
  obtain ⟨m, e, p, hr⟩ := read_fin (Nat.lt_of_le_of_lt hx h1)
  obtain ⟨n, f, q, hs⟩ := read_fin (Nat.lt_of_le_of_lt hy h1)
  have bm := parts_one hT p hx
  have bn := parts_one hT q hy
  have em := parts_exp hT p bm
  have en := parts_exp hT q bn
  unfold Ieee.Format.mul
  rw [hr, hs]
  refine ⟨_, rfl, ?_⟩
  show Ieee.double.nearest (false ^^ false) (m * n) ((e : Int) - 1074 + ((f : Int) - 1074)) ≤ fOne
  clear hx hy hr hs p q h1
  have hE : (-((e : Int) - 1074 + ((f : Int) - 1074))).toNat = (T - e) + (T - f) := by clear bm bn; omega
  have hle : (e : Int) - 1074 + ((f : Int) - 1074) ≤ 0 := by clear bm bn; omega
  have c1 : m ≤ 2 ^ (T - e) := Nat.le_of_mul_le_mul_right (Nat.le_trans bm (Nat.le_of_eq (pow_split (by clear bm bn; omega)))) (Nat.two_pow_pos e)
  have c2 : n ≤ 2 ^ (T - f) := Nat.le_of_mul_le_mul_right (Nat.le_trans bn (Nat.le_of_eq (pow_split (by clear bm bn c1; omega)))) (Nat.two_pow_pos f)
  refine nearest_one hle ?_
  rw [hE, Nat.pow_add]
  exact Nat.mul_le_mul c1 c2
theorem fmul_le {x y : Nat} (hx : x ≤ fOne) (hy : y ≤ fOne) : ∃ r, Ieee.double.mul x y = some r ∧ r ≤ fOne := fmul_le' rfl hx hy
theorem mono_parts {x y m e n f : Nat} (p : FParts x m e) (q : FParts y n f) (h : x < y) : m * 2 ^ (e - min e f) < n * 2 ^ (f - min e f) := by
  have e1 := p.eq
  have e2 := q.eq
  have l1 := p.lt
  have l2 := q.lt
  rcases Nat.lt_trichotomy e f with h1 | h1 | h1
  · have hn := q.ge (by omega)
    rw [Nat.min_eq_left (by omega), Nat.sub_self, Nat.pow_zero, Nat.mul_one]
    have h3 : 2 ≤ 2 ^ (f - e) := by
      have := pow_le2 (show 1 ≤ f - e by omega)
      omega
    have h4 : n * 2 ≤ n * 2 ^ (f - e) := Nat.mul_le_mul_left _ h3
    omega
  · subst h1
    rw [Nat.min_self, Nat.sub_self, Nat.pow_zero, Nat.mul_one, Nat.mul_one]
    omega
  · exfalso
    have hm := p.ge (by omega)
    have h5 : (f + 1) * FB ≤ e * FB := Nat.mul_le_mul_right _ h1
    rw [Nat.succ_mul] at h5
    omega
theorem compare_of {a b : Int} {x y : Nat} (h1 : x < y → a < b) (h2 : y < x → b < a) (h3 : x = y → a = b) : compare a b = compare x y := by
  rcases Nat.lt_trichotomy x y with h | h | h
  · have := h1 h
    rw [show compare x y = .lt from by simp [compare, compareOfLessAndEq, h], show compare a b = .lt from by simp [compare, compareOfLessAndEq, this]]
  · have := h3 h
    subst h this
    simp [compare, compareOfLessAndEq]
  · have := h2 h
    have n1 : ¬ x < y := by omega
    have n2 : x ≠ y := by omega
    have n3 : ¬ a < b := by omega
    have n4 : a ≠ b := by omega
    simp [compare, compareOfLessAndEq, n1, n2, n3, n4]
theorem order_fin {x y : Nat} (hx : x ≤ fInf) (hy : y ≤ fInf) : Ieee.double.order x y = some (compare x y) := by
  unfold Ieee.Format.order
  rcases Nat.lt_or_ge x fInf with h1 | h1
  · obtain ⟨m, e, p, hr⟩ := read_fin h1
    rcases Nat.lt_or_ge y fInf with h2 | h2
    · obtain ⟨n, f, q, hs⟩ := read_fin h2
      rw [hr, hs]
      simp only [Ieee.Datum.order, signed_f]
      have k1 : ((e : Int) - 1074 - min ((e : Int) - 1074) ((f : Int) - 1074)).toNat = e - min e f := by omega
      have k2 : ((f : Int) - 1074 - min ((e : Int) - 1074) ((f : Int) - 1074)).toNat = f - min e f := by omega
      rw [k1, k2]
      refine congrArg some (compare_of (fun h => ?_) (fun h => ?_) (fun h => ?_))
      · exact_mod_cast mono_parts p q h
      · have := mono_parts q p h
        rw [Nat.min_comm f e] at this
        exact_mod_cast this
      · subst h
        have : m = n ∧ e = f := by
          rw [hr] at hs
          injection hs with _ h5 h6
          exact ⟨h5, by omega⟩
        rw [this.1, this.2]
    · obtain rfl : y = fInf := by omega
      rw [hr, read_inf]
      show some (if false = true then Ordering.gt else Ordering.lt) = _
      have : compare x fInf = .lt := by simp [compare, compareOfLessAndEq, h1]
      rw [this]; rfl
  · obtain rfl : x = fInf := by omega
    rcases Nat.lt_or_ge y fInf with h2 | h2
    · obtain ⟨n, f, q, hs⟩ := read_fin h2
      rw [hs, read_inf]
      show some (if false = true then Ordering.lt else Ordering.gt) = _
      have n1 : ¬ fInf < y := by omega
      have n2 : fInf ≠ y := by omega
      have : compare fInf y = .gt := by simp [compare, compareOfLessAndEq, n1, n2]
      rw [this]; rfl
    · obtain rfl : y = fInf := by omega
      rw [read_inf]
      decide
end Go.Proofs.Ytbnhhmejlglbcaa

namespace Go.Proofs.Ytbnhhmejlglbcaa
open Go.RowKit
set_option linter.unusedSimpArgs false
set_option linter.unusedVariables false

theorem run_fbits (x : Nat) (w : World) : (callFunc 77 #[.float .f64 x]).run Try.prog w = .ok (.value (.int .u64 x)) w := by
  rw [run_callFunc_extern Try.func77 (by kernel_rfl) (by kernel_rfl) (by kernel_rfl) (e := Extern.MathFloatBits.float64bits) (by kernel_rfl)]; rfl
theorem run_ffrom (x : Nat) (w : World) : (callFunc 82 #[.int .u64 x]).run Try.prog w = .ok (.value (.float .f64 x)) w := by
  rw [run_callFunc_extern Try.func82 (by kernel_rfl) (by kernel_rfl) (by kernel_rfl) (e := Extern.MathFloatBits.float64frombits) (by kernel_rfl)]; rfl
/-- How two doubles stand, told by their words. -/
inductive FOrd (x y : Nat) : Ordering → Prop
  | lt : x < y → FOrd x y .lt
  | eq : x = y → FOrd x y .eq
  | gt : y < x → FOrd x y .gt
theorem ford {x y : Nat} (hx : x ≤ fInf) (hy : y ≤ fInf) : ∃ o, FloatKind.f64.format.order x y = some o ∧ FOrd x y o := by
  have h := order_fin hx hy
  refine ⟨compare x y, h, ?_⟩
  rcases Nat.lt_trichotomy x y with h | h | h
  · rw [show compare x y = .lt from by simp [compare, compareOfLessAndEq, h]]; exact .lt h
  · subst h; rw [show compare x x = .eq from by simp [compare, compareOfLessAndEq]]; exact .eq rfl
  · have n1 : ¬ x < y := by omega
    have n2 : x ≠ y := by omega
    rw [show compare x y = .gt from by simp [compare, compareOfLessAndEq, n1, n2]]; exact .gt h
theorem ford_self {x : Nat} (hx : x ≤ fInf) : FloatKind.f64.format.order x x = some .eq := by
  obtain ⟨o, h, k⟩ := ford hx hx
  cases k with
  | lt h => omega
  | eq h => assumption
  | gt h => omega
theorem fzero_le : (0 : Nat) ≤ fInf := Nat.zero_le _
theorem fone_le : fOne ≤ fInf := by decide
theorem fbits_any {x : Nat} (hx : x ≤ fInf) (w : World) : Calls Try.prog 95 #[.float .f64 x] w fun e w' => e = .returned (.int .u64 x) ∧ w' = w := by
  have q1 := ford_self hx
  have q2 := fun w => run_fbits x w
  go_enter Try.func95, Try.ntmps95
  go_wp2_with fail
  go_ret
  exact ⟨rfl, rfl⟩
theorem fsame_any {x y : Nat} (hx : x ≤ fInf) (hy : y ≤ fInf) (w : World) : Calls Try.prog 86 #[.float .f64 x, .float .f64 y] w fun e w' => e = .returned (.bool (decide (x = y))) ∧ w' = w := by
  go_enter Try.func86, Try.ntmps86
  go_wp2_with fail
  refine (fbits_any hx _).mono ?_
  rintro e w ⟨rfl, rfl⟩
  go_wp2_with fail
  refine (fbits_any hy _).mono ?_
  rintro e w ⟨rfl, rfl⟩
  go_wp2_with fail
  go_ret
  refine ⟨?_, rfl⟩
  have e1 : ((x : Int) == (y : Int)) = decide (x = y) := by
    by_cases h : x = y
    · subst h; simp
    · have : ¬ (x : Int) = y := by omega
      simp [h, this]
  rw [← e1]; rfl
theorem andNot_sign {x : Nat} (hx : x ≤ fInf) : bits BinOp.andNot IntKind.u64 (x : Int) 9223372036854775808 = (x : Int) := by
  have h63 : x < 2 ^ 63 := by unfold fInf at hx; omega
  have e : (BitVec.ofInt 64 (x : Int) &&& ~~~ BitVec.ofInt 64 9223372036854775808).toNat = x := by
    apply Nat.eq_of_testBit_eq
    intro i
    rw [BitVec.testBit_toNat, BitVec.getLsbD_and, BitVec.getLsbD_not]
    have h1 : (BitVec.ofInt 64 (x : Int)).getLsbD i = x.testBit i := by
      rw [BitVec.ofInt_natCast, BitVec.getLsbD_ofNat]
      by_cases hi : i < 64
      · simp [hi]
      · have : x.testBit i = false := Nat.testBit_lt_two_pow (Nat.lt_of_lt_of_le h63 (Nat.pow_le_pow_right (by omega) (by omega)))
        simp [hi, this]
    have h2 : (BitVec.ofInt 64 9223372036854775808).getLsbD i = decide (i = 63) := by
      have : BitVec.ofInt 64 9223372036854775808 = BitVec.twoPow 64 63 := by decide
      rw [this, BitVec.getLsbD_twoPow]
      by_cases h : i = 63
      · subst h; decide
      · have : ¬ 63 = i := fun e => h e.symm
        simp [h, this]
    rw [h1, h2]
    by_cases h : i = 63
    · subst h
      rw [Nat.testBit_lt_two_pow h63]; simp
    · by_cases hi : i < 64
      · simp [h, hi]
      · have : x.testBit i = false := Nat.testBit_lt_two_pow (Nat.lt_of_lt_of_le h63 (Nat.pow_le_pow_right (by omega) (by omega)))
        simp [this]
  show IntKind.u64.wrap ((BitVec.ofInt 64 (x : Int) &&& ~~~ BitVec.ofInt 64 9223372036854775808).toNat : Int) = x
  rw [e]
  exact IntWalk.u64_in _ (by omega)
theorem fabs_any {x : Nat} (hx : x ≤ fInf) (w : World) : Calls Try.prog 99 #[.float .f64 x] w fun e w' => e = .returned (.float .f64 x) ∧ w' = w := by
  have q1 := fun w => run_fbits x w
  have q2 := fun w => run_ffrom x w
  have q3 := andNot_sign hx
  go_enter Try.func99, Try.ntmps99
  go_wp2_with fail
  go_ret
  exact ⟨rfl, rfl⟩
set_option maxRecDepth 100000 in
theorem minf_any (w : World) : Calls Try.prog 58 #[.int .i64 1] w fun e w' => e = .returned (.float .f64 fInf) ∧ w' = w := by
  have q2 : ∀ w, (callFunc 82 #[.int .u64 9218868437227405312]).run Try.prog w = .ok (.value (.float .f64 fInf)) w := fun w => run_ffrom fInf w
  go_enter Try.func58, Try.ntmps58
  go_wp2_with fail
  go_ret
  exact ⟨rfl, rfl⟩
end Go.Proofs.Ytbnhhmejlglbcaa

namespace Go.Proofs.Ytbnhhmejlglbcaa
open Go.RowKit
set_option linter.unusedSimpArgs false
set_option linter.unusedVariables false

set_option maxRecDepth 100000 in
theorem fwithin_any {x y : Nat} (hx : x ≤ fInf) (hy : y ≤ fInf) (h : x ≤ y) (w : World) : Calls Try.prog 94 #[.float .f64 x, .float .f64 y] w fun e w' => e = .returned (.tuple #[.float .f64 x, .int .i64 0]) ∧ w' = w := by
  obtain ⟨o1, p1, c1⟩ := ford hx fzero_le
  obtain ⟨o2, p2, c2⟩ := ford hx hy
  have AB := Lib.hid (fun w => fabs_any hx w)
  have A1 : o1 = .eq ∨ o1 = .gt := by cases c1 <;> first | (exact .inl rfl) | (exact .inr rfl) | omega
  have A2 : o2 = .lt ∨ o2 = .eq := by cases c2 <;> first | (exact .inl rfl) | (exact .inr rfl) | omega
  clear c1 c2
  rcases A1 with rfl | rfl <;> rcases A2 with rfl | rfl
  all_goals
    go_enter Try.func94, Try.ntmps94
    go_wp2_with fail
    refine (AB.out _).mono ?_
    rintro e w ⟨rfl, rfl⟩
    go_wp2_with fail
    refine bodyPost_ret (v := .tuple #[.float .f64 x, .int .i64 0]) (by simp [results, Try.results94, go_sem]) rfl ⟨rfl, rfl⟩
set_option maxRecDepth 100000 in
theorem fprice_any {x : Nat} (hx : x ≤ fInf) (w : World) : Calls Try.prog 84 #[.float .f64 x] w fun e w' => e = .returned (.tuple #[.float .f64 x, .int .i64 0]) ∧ w' = w := by
  have FW := Lib.hid (fun w => fwithin_any hx (Nat.le_refl fInf) hx w)
  go_enter Try.func84, Try.ntmps84
  go_wp2_with fail
  refine (minf_any _).mono ?_
  rintro e w ⟨rfl, rfl⟩
  go_wp2_with fail
  refine (FW.out _).mono ?_
  rintro e w ⟨rfl, rfl⟩
  go_wp2_with fail
  refine bodyPost_ret (v := .tuple #[.float .f64 x, .int .i64 0]) (by simp [results, Try.results84, go_sem]) rfl ⟨rfl, rfl⟩
set_option maxRecDepth 100000 in
theorem funit_any {x : Nat} (hx : x ≤ fOne) (w : World) : Calls Try.prog 85 #[.float .f64 x] w fun e w' => e = .returned (.tuple #[.float .f64 x, .int .i64 0]) ∧ w' = w := by
  have FW := Lib.hid (fun w => fwithin_any (Nat.le_trans hx fone_le) fone_le hx w)
  go_enter Try.func85, Try.ntmps85
  go_wp2_with fail
  refine (FW.out _).mono ?_
  rintro e w ⟨rfl, rfl⟩
  go_wp2_with fail
  refine bodyPost_ret (v := .tuple #[.float .f64 x, .int .i64 0]) (by simp [results, Try.results85, go_sem]) rfl ⟨rfl, rfl⟩
theorem frun_mul {x y r : Nat} (h : Ieee.double.mul x y = some r) (w : World) : (binOp .mul 37 (.float .f64 x) (.float .f64 y)).run Try.prog w = .ok (.float .f64 r) w := by
  have q : FloatKind.f64.format.mul x y = some r := h
  simp [binOp, Op.floatArith, q]
theorem frun_add {x y r : Nat} (h : Ieee.double.add x y = some r) (w : World) : (binOp .add 37 (.float .f64 x) (.float .f64 y)).run Try.prog w = .ok (.float .f64 r) w := by
  have q : FloatKind.f64.format.add x y = some r := h
  simp [binOp, Op.floatArith, q]
set_option maxRecDepth 100000 in
theorem foptimes_any {x y r : Nat} (hx : x ≤ fOne) (hy : y ≤ fOne) (h : Ieee.double.mul x y = some r) (w : World) : Calls Try.prog 72 #[.float .f64 x, .float .f64 y] w fun e w' => e = .returned (.tuple #[.float .f64 r, .int .i64 0]) ∧ w' = w := by
  have q : ∀ w, (binOp .mul 37 (.float .f64 x) (.float .f64 y)).run Try.prog w = .ok (.float .f64 r) w := fun w => frun_mul h w
  have U1 := Lib.hid (fun w => funit_any hx w)
  have U2 := Lib.hid (fun w => funit_any hy w)
  clear h
  go_enter Try.func72, Try.ntmps72
  go_wp2_with fail
  refine (U1.out _).mono ?_
  rintro e w ⟨rfl, rfl⟩
  go_wp2_with fail
  refine (U2.out _).mono ?_
  rintro e w ⟨rfl, rfl⟩
  go_wp2_with fail
  refine bodyPost_ret (v := .tuple #[.float .f64 r, .int .i64 0]) (by simp [results, Try.results72, go_sem]) rfl ⟨rfl, rfl⟩
set_option maxRecDepth 100000 in
theorem fopplus_any {x y r : Nat} (hx : x ≤ fInf) (hy : y ≤ fInf) (h : Ieee.double.add x y = some r) (w : World) : Calls Try.prog 73 #[.float .f64 x, .float .f64 y] w fun e w' => e = .returned (.tuple #[.float .f64 r, .int .i64 0]) ∧ w' = w := by
  have q : ∀ w, (binOp .add 37 (.float .f64 x) (.float .f64 y)).run Try.prog w = .ok (.float .f64 r) w := fun w => frun_add h w
  have U1 := Lib.hid (fun w => fprice_any hx w)
  have U2 := Lib.hid (fun w => fprice_any hy w)
  clear h
  go_enter Try.func73, Try.ntmps73
  go_wp2_with fail
  refine (U1.out _).mono ?_
  rintro e w ⟨rfl, rfl⟩
  go_wp2_with fail
  refine (U2.out _).mono ?_
  rintro e w ⟨rfl, rfl⟩
  go_wp2_with fail
  refine bodyPost_ret (v := .tuple #[.float .f64 r, .int .i64 0]) (by simp [results, Try.results73, go_sem]) rfl ⟨rfl, rfl⟩
/-- The bound of a semiring of doubles. -/
def fTop (n : Int) : Nat := if n = 5 then fOne else fInf
set_option maxRecDepth 100000 in
theorem fdouble5 {x : Nat} (hx : x ≤ fOne) (w : World) : Calls Try.prog 63 #[.int .i64 5, .float .f64 x] w fun e w' => e = .returned (.int .i64 0) ∧ w' = w := by
  have hx2 : x ≤ fInf := Nat.le_trans hx fone_le
  have U1 := Lib.hid (fun w => fprice_any hx2 w)
  have U2 := Lib.hid (fun w => funit_any hx w)
  have SM := Lib.hid (fun w => fsame_any hx2 hx2 w)
  rw [show decide (x = x) = true from by simp] at SM
  go_enter Try.func63, Try.ntmps63
  go_wp2_with fail
  refine (U1.out _).mono ?_
  rintro e w ⟨rfl, rfl⟩
  go_wp2_with fail
  refine (U2.out _).mono ?_
  rintro e w ⟨rfl, rfl⟩
  go_wp2_with fail
  refine (SM.out _).mono ?_
  rintro e w ⟨rfl, rfl⟩
  go_wp2_with fail
  go_ret
  exact ⟨rfl, rfl⟩
set_option maxRecDepth 100000 in
theorem fdouble6 {x : Nat} (hx : x ≤ fInf) (w : World) : Calls Try.prog 63 #[.int .i64 6, .float .f64 x] w fun e w' => e = .returned (.int .i64 0) ∧ w' = w := by
  have U1 := Lib.hid (fun w => fprice_any hx w)
  have SM := Lib.hid (fun w => fsame_any hx hx w)
  rw [show decide (x = x) = true from by simp] at SM
  go_enter Try.func63, Try.ntmps63
  go_wp2_with fail
  refine (U1.out _).mono ?_
  rintro e w ⟨rfl, rfl⟩
  go_wp2_with fail
  refine (SM.out _).mono ?_
  rintro e w ⟨rfl, rfl⟩
  go_wp2_with fail
  go_ret
  exact ⟨rfl, rfl⟩
theorem fneg {x : Nat} (hx : x ≤ fInf) : (FloatKind.f64.decode x).neg = false := by
  show (Ieee.double.read x).neg = false
  rcases Nat.lt_or_ge x fInf with h1 | h1
  · obtain ⟨m, e, -, hr⟩ := read_fin h1
    rw [hr]; rfl
  · obtain rfl : x = fInf := by omega
    rw [read_inf]; rfl
theorem fmax_run {x y : Nat} (hx : x ≤ fInf) (hy : y ≤ fInf) (t : Array TypeId) (ty : TypeId) (w : World) : (Builtin.max_ t ty #[.float .f64 x, .float .f64 y]).run Try.prog w = .ok (.float .f64 (max x y)) w := by
  obtain ⟨o, h, c⟩ := ford hx hy
  have hn := fneg hx
  cases c with
  | lt c => rw [Nat.max_eq_right (by omega)]; simp [Builtin.max_, Builtin.max2, h]
  | eq c => subst c; rw [Nat.max_self]; simp [Builtin.max_, Builtin.max2, h, hn]
  | gt c => rw [Nat.max_eq_left (by omega)]; simp [Builtin.max_, Builtin.max2, h]
theorem fmin_run {x y : Nat} (hx : x ≤ fInf) (hy : y ≤ fInf) (t : Array TypeId) (ty : TypeId) (w : World) : (Builtin.min_ t ty #[.float .f64 x, .float .f64 y]).run Try.prog w = .ok (.float .f64 (min x y)) w := by
  obtain ⟨o, h, c⟩ := ford hx hy
  have hn := fneg hx
  cases c with
  | lt c => rw [Nat.min_eq_left (by omega)]; simp [Builtin.min_, Builtin.min2, h]
  | eq c => subst c; rw [Nat.min_self]; simp [Builtin.min_, Builtin.min2, h, hn]
  | gt c => rw [Nat.min_eq_right (by omega)]; simp [Builtin.min_, Builtin.min2, h]
end Go.Proofs.Ytbnhhmejlglbcaa

