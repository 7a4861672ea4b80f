/- Texts in order: cmp over strings; binary search over texts, and over properties by name. -/
import Derived.Test.YtjcajidgaejhoaaGreatMi07
namespace Go.Proofs.YtjcajidgaejhoaaGreat
open Go.RowKit
set_option linter.unusedSimpArgs false
set_option linter.unusedVariables false

/-- Is a text ahead of another one? -/
def ltS (a b : ByteArray) : Bool := Op.bytesLess a.toList b.toList
theorem bytesLess_lt : ∀ (x y : List UInt8), Op.bytesLess x y = decide (x < y)
  | [], [] => by simp [Op.bytesLess]
  | _ :: _, [] => by simp [Op.bytesLess]
  | [], _ :: _ => by simp [Op.bytesLess]
  | a :: x, b :: y => by
    rw [Op.bytesLess, bytesLess_lt x y]
    simp only [List.cons_lt_cons_iff]
    by_cases h1 : a < b <;> by_cases h2 : a = b <;> by_cases h3 : x < y <;> simp [h1, h2, h3]
theorem ba_ext {a b : ByteArray} (h : a.toList = b.toList) : a = b := by
  rw [ByteArray.toList_eq, ByteArray.toList_eq] at h
  cases a; cases b; congr 1; exact Array.toList_inj.1 h
theorem ltS_irrefl (a : ByteArray) : ltS a a = false := by
  rw [ltS, bytesLess_lt]; simp
theorem ltS_trans {a b c : ByteArray} (h1 : ltS a b = true) (h2 : ltS b c = true) : ltS a c = true := by
  rw [ltS, bytesLess_lt, decide_eq_true_eq] at *
  exact List.lt_trans h1 h2
theorem ltS_asymm {a b : ByteArray} (h1 : ltS a b = true) : ltS b a = false := by
  cases h : ltS b a with
  | false => rfl
  | true => have := ltS_trans h1 h; rw [ltS_irrefl] at this; cases this
theorem ltS_eq {a b : ByteArray} (h1 : ltS a b = false) (h2 : ltS b a = false) : a = b := by
  rw [ltS, bytesLess_lt, decide_eq_false_iff_not] at *
  exact ba_ext (List.le_antisymm (List.not_lt.1 h2) (List.not_lt.1 h1))
/-- a is not behind b, b is ahead of c. -/
theorem ltS_le_lt {a b c : ByteArray} (h1 : ltS b a = false) (h2 : ltS b c = true) : ltS a c = true := by
  cases h : ltS a b with
  | true => exact ltS_trans h h2
  | false => rw [ltS_eq h h1]; exact h2
theorem ltS_le_ge {a b c : ByteArray} (h1 : ltS b a = false) (h2 : ltS a c = false) : ltS b c = false := by
  cases h : ltS b c with
  | false => rfl
  | true => rw [ltS_le_lt h1 h] at h2; cases h2

/-- How many stand ahead of t. -/
def rankS (ks : List ByteArray) (t : ByteArray) : Nat := ks.countP (fun k => ltS k t)
def UpS (ks : List ByteArray) : Prop := ks.Pairwise (fun a b => ltS a b = true)
theorem rankS_le (ks : List ByteArray) (t : ByteArray) : rankS ks t ≤ ks.length := List.countP_le_length
theorem rankS_of {ks : List ByteArray} {t : ByteArray} : ∀ {r : Nat}, r ≤ ks.length → (∀ i (h : i < ks.length), i < r → ltS ks[i] t = true) → (∀ i (h : i < ks.length), r ≤ i → ltS ks[i] t = false) → rankS ks t = r := by
  unfold rankS
  induction ks with
  | nil => intro r hr _ _; simp at hr; simp [hr]
  | cons a l ih =>
    intro r hr h1 h2
    cases r with
    | zero =>
      rw [List.countP_eq_zero]
      intro x hx
      obtain ⟨i, hi, rfl⟩ := List.getElem_of_mem hx
      have := h2 i hi (Nat.zero_le _)
      simp [this]
    | succ r =>
      have ha : ltS a t = true := h1 0 (by simp) (by omega)
      rw [List.countP_cons_of_pos (by simpa using ha)]
      rw [ih (r := r) (by simpa using hr) (fun i h hi => h1 (i + 1) (by simpa using h) (by omega)) (fun i h hi => h2 (i + 1) (by simpa using h) (by omega))]
/-- Is a text there? -/
def memS (t : ByteArray) (ks : List ByteArray) : Bool := ks.any (fun k => decide (k = t))
theorem memS_iff {t : ByteArray} {ks : List ByteArray} : memS t ks = true ↔ t ∈ ks := by simp [memS]
theorem memS_not {t : ByteArray} {ks : List ByteArray} : memS t ks = false ↔ t ∉ ks := by rw [← memS_iff]; simp
theorem rankS_mem {ks : List ByteArray} {t : ByteArray} {r : Nat} (hr : r ≤ ks.length) (h1 : ∀ i (h : i < ks.length), i < r → ltS ks[i] t = true) (hu : UpS ks) (h2 : ∀ i (h : i < ks.length), r ≤ i → ltS ks[i] t = false) : memS t ks = decide (ks[r]? = some t) := by
  rw [Bool.eq_iff_iff, memS_iff, decide_eq_true_eq]
  constructor
  · intro hm
    obtain ⟨i, hi, he⟩ := List.getElem_of_mem hm
    have hri : r ≤ i := by
      refine Nat.le_of_not_lt fun h => ?_
      have := h1 i hi h; rw [he, ltS_irrefl] at this; cases this
    rcases Nat.lt_or_ge r i with h | h
    · have a1 := (List.pairwise_iff_getElem.1 hu) r i (by omega) hi h
      have a2 := h2 r (by omega) (Nat.le_refl _)
      rw [he, a2] at a1; cases a1
    · obtain rfl : r = i := by omega
      rw [List.getElem?_eq_getElem hi, he]
  · intro h
    exact List.mem_of_getElem? h
/-- What stands ahead of the place is ahead; what stands behind it is not. -/
theorem rankS_lt {ks : List ByteArray} {t : ByteArray} (hu : UpS ks) : (∀ i (h : i < ks.length), i < rankS ks t → ltS ks[i] t = true) ∧ (∀ i (h : i < ks.length), rankS ks t ≤ i → ltS ks[i] t = false) := by
  obtain ⟨r, hr, h1, h2⟩ : ∃ r, r ≤ ks.length ∧ (∀ i (h : i < ks.length), i < r → ltS ks[i] t = true) ∧ (∀ i (h : i < ks.length), r ≤ i → ltS ks[i] t = false) := by
    induction ks with
    | nil => exact ⟨0, by simp, by simp, by simp⟩
    | cons a l ih =>
      obtain ⟨r, hr, h1, h2⟩ := ih (List.pairwise_cons.1 hu).2
      cases ha : ltS a t with
      | true =>
        refine ⟨r + 1, by simp; omega, fun i h hi => ?_, fun i h hi => ?_⟩
        · cases i with
          | zero => exact ha
          | succ i => exact h1 i (by simpa using h) (by omega)
        · cases i with
          | zero => omega
          | succ i => exact h2 i (by simpa using h) (by omega)
      | false =>
        refine ⟨0, by simp, fun i h hi => by omega, fun i h _ => ?_⟩
        cases i with
        | zero => exact ha
        | succ i =>
          have h' : i < l.length := by simpa using h
          have := (List.pairwise_cons.1 hu).1 l[i] (by simp)
          exact ltS_le_ge (a := a) (ltS_asymm this) ha
  rw [rankS_of hr h1 h2]
  exact ⟨h1, h2⟩

/-- cmp.Compare at strings. -/
def cmpS (a b : ByteArray) : Int := if ltS a b = true then -1 else if ltS b a = true then 1 else 0
theorem cmpS_neg (a b : ByteArray) : cmpS a b < 0 ↔ ltS a b = true := by unfold cmpS; split <;> (try split) <;> simp_all
theorem cmpS_zero (a b : ByteArray) : cmpS a b = 0 ↔ a = b := by
  unfold cmpS
  constructor
  · intro h
    split at h
    · omega
    · split at h
      · omega
      · exact ltS_eq (by simpa using ‹¬ ltS a b = true›) (by simpa using ‹¬ ltS b a = true›)
  · rintro rfl; simp [ltS_irrefl]

theorem isNaN_str (a : ByteArray) (w : World) : Calls Tryz.prog 104 #[.string a] w fun e w' => e = .returned (.bool false) ∧ w' = w := by
  go_enter Tryz.func104, Tryz.ntmps104
  go_wp2
  go_ret
  exact ⟨by simp, rfl⟩
theorem sisNaN_str (a : ByteArray) (w : World) : Calls Tryz.prog 80 #[.string a] w fun e w' => e = .returned (.bool false) ∧ w' = w := by
  go_enter Tryz.func80, Tryz.ntmps80
  go_wp2
  go_ret
  exact ⟨by simp, rfl⟩
theorem less_str (a b : ByteArray) (w : World) : Calls Tryz.prog 79 #[.string a, .string b] w fun e w' => e = .returned (.bool (ltS a b)) ∧ w' = w := by
  go_enter Tryz.func79, Tryz.ntmps79
  go_wp2_with (go_at_call 104; refine (isNaN_str _ _).mono ?_; rintro e w' ⟨rfl, rfl⟩)
  go_ret
  exact ⟨rfl, rfl⟩
theorem eqL_false {a b : ByteArray} (h : a ≠ b) : (a.toList == b.toList) = false := by
  rw [beq_eq_false_iff_ne]; exact fun e => h (ba_ext e)
theorem cmp_str (a b : ByteArray) (w : World) : Calls Tryz.prog 108 #[.string a, .string b] w fun e w' => e = .returned (.int .i64 (cmpS a b)) ∧ w' = w := by
  cases h : ltS a b with
  | true =>
    have e : cmpS a b = -1 := by simp [cmpS, h]
    have h1 : Op.bytesLess a.toList b.toList = true := h
    rw [e]
    clear e h
    go_enter Tryz.func108, Tryz.ntmps108
    go_wp2_with (go_at_call 104; refine (isNaN_str _ _).mono ?_; rintro e w' ⟨rfl, rfl⟩)
    go_ret
    exact ⟨rfl, rfl⟩
  | false =>
    cases h2 : ltS b a with
    | true =>
      have e : cmpS a b = 1 := by simp [cmpS, h, h2]
      have hne : a ≠ b := by rintro rfl; rw [ltS_irrefl] at h2; cases h2
      have h1 : Op.bytesLess a.toList b.toList = false := h
      have h3 : (a.toList == b.toList) = false := eqL_false hne
      rw [e]
      clear e h h2 hne
      go_enter Tryz.func108, Tryz.ntmps108
      go_wp2_with (go_at_call 104; refine (isNaN_str _ _).mono ?_; rintro e w' ⟨rfl, rfl⟩)
      go_ret
      exact ⟨rfl, rfl⟩
    | false =>
      obtain rfl := ltS_eq h h2
      have e : cmpS a a = 0 := by simp [cmpS, h]
      have h1 : Op.bytesLess a.toList a.toList = false := h
      rw [e]
      clear e h h2
      go_enter Tryz.func108, Tryz.ntmps108
      go_wp2_with (go_at_call 104; refine (isNaN_str _ _).mono ?_; rintro e w' ⟨rfl, rfl⟩)
      go_ret
      exact ⟨rfl, rfl⟩
theorem cmp_prop (p : Pr) (t : ByteArray) (w : World) : Calls Tryz.prog 85 #[.agg #[.string p.name, .string p.val], .string t] w fun x w' => x = .returned (.int .i64 (cmpS p.name t)) ∧ Frame [] w w' := by
  go_enter Tryz.func85, Tryz.ntmps85
  go_wp2_with fail
  refine (cmp_str _ _ _).mono ?_
  rintro x w' ⟨rfl, rfl⟩
  go_wp2_with fail
  go_ret
  exact ⟨rfl, Frame.alloc _ _ _⟩
end Go.Proofs.YtjcajidgaejhoaaGreat

