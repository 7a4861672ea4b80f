/- Numbers as rows of digits: pure. nat's functions at whatever digits: whole, May, Inf. -/
import Derived.Test.YtbnhhmejlglbcaaMg01
import Derived.Test.YtbnhhmejlglbcaaMg08
import Derived.Test.YtbnhhmejlglbcaaMg09
namespace Go.Proofs.Ytbnhhmejlglbcaa
open Go.RowKit
set_option linter.unusedSimpArgs false
set_option linter.unusedVariables false

/-- Two to the thirty-second. -/
def BB : Nat := 4294967296
theorem BB_pos : 0 < BB := by decide
/-- What digits are worth, the least first. -/
def valD : List Int → Nat
  | [] => 0
  | d :: ds => d.toNat + BB * valD ds
/-- Digits that may be. -/
def DOk (ds : List Int) : Prop := ∀ d ∈ ds, 0 ≤ d ∧ d < 4294967296
/-- A number's digits. -/
def digs (n : Nat) : List Int := if h : n = 0 then [] else ((n % BB : Nat) : Int) :: digs (n / BB)
termination_by n
decreasing_by exact Nat.div_lt_self (by omega) (by decide)
theorem digs_zero : digs 0 = [] := by unfold digs; rfl
theorem digs_pos {n : Nat} (h : n ≠ 0) : digs n = ((n % BB : Nat) : Int) :: digs (n / BB) := by rw [digs]; simp [h]
theorem digs_nil {n : Nat} : digs n = [] ↔ n = 0 := by
  constructor
  · intro h
    by_cases e : n = 0
    · exact e
    · rw [digs_pos e] at h; cases h
  · rintro rfl; exact digs_zero
theorem valD_digs (n : Nat) : valD (digs n) = n := by
  induction n using Nat.strongRecOn with
  | _ n ih =>
    by_cases e : n = 0
    · subst e; rw [digs_zero]; rfl
    · rw [digs_pos e, valD, ih _ (Nat.div_lt_self (by omega) (by decide)), Int.toNat_natCast]
      exact Nat.mod_add_div n BB
theorem digs_ok (n : Nat) : DOk (digs n) := by
  induction n using Nat.strongRecOn with
  | _ n ih =>
    by_cases e : n = 0
    · subst e; rw [digs_zero]; exact fun d h => by simp at h
    · rw [digs_pos e]
      intro d hd
      simp only [List.mem_cons] at hd
      rcases hd with rfl | hd
      · have := Nat.mod_lt n BB_pos
        unfold BB at *
        omega
      · exact ih _ (Nat.div_lt_self (by omega) (by decide)) d hd
theorem DOk.tail {d : Int} {ds : List Int} (h : DOk (d :: ds)) : DOk ds := fun x hx => h x (by simp [hx])
theorem valD_zero {ds : List Int} (ok : DOk ds) (h : valD ds = 0) : ∀ d ∈ ds, d = 0 := by
  induction ds with
  | nil => simp
  | cons a t ih =>
    intro d hd
    rw [valD] at h
    have h1 := Nat.add_eq_zero_iff.mp h
    have ha := ok a (by simp)
    simp only [List.mem_cons] at hd
    rcases hd with rfl | hd
    · omega
    · exact ih ok.tail ((Nat.mul_eq_zero.mp h1.2).resolve_left (by decide)) d hd
/-- Digits without noughts at the end are a number's. -/
theorem digs_of {ds : List Int} (ok : DOk ds) (h : ∀ d, ds.getLast? = some d → d ≠ 0) : ds = digs (valD ds) := by
  induction ds with
  | nil => rw [valD, digs_zero]
  | cons a t ih =>
    have ha := ok a (by simp)
    have hlt : a.toNat < BB := by unfold BB; omega
    have hne : valD (a :: t) ≠ 0 := by
      intro e
      have hz := valD_zero ok e
      cases hl : (a :: t).getLast? with
      | none => simp at hl
      | some d => exact h d hl (hz d (List.mem_of_getLast? hl))
    rw [digs_pos hne]
    have e1 : valD (a :: t) % BB = a.toNat := by
      rw [valD, Nat.add_mul_mod_self_left, Nat.mod_eq_of_lt hlt]
    have e2 : valD (a :: t) / BB = valD t := by
      rw [valD, Nat.add_mul_div_left _ _ BB_pos, Nat.div_eq_of_lt hlt, Nat.zero_add]
    rw [e1, e2, ← ih ok.tail]
    · rw [Int.toNat_of_nonneg ha.1]
    · intro d hd
      refine h d ?_
      cases t with
      | nil => simp at hd
      | cons b t => simpa [List.getLast?_cons_cons] using hd
theorem valD_app (us bs : List Int) : valD (us ++ bs) = valD us + BB ^ us.length * valD bs := by
  induction us with
  | nil => simp [valD]
  | cons a t ih =>
    rw [List.cons_append, valD, valD, ih, List.length_cons, Nat.pow_succ, Nat.mul_add, Nat.add_assoc, ← Nat.mul_assoc, Nat.mul_comm (BB ^ t.length) BB]
theorem valD_lt {ds : List Int} (ok : DOk ds) : valD ds < BB ^ ds.length := by
  induction ds with
  | nil => simp [valD]
  | cons a t ih =>
    have := ih ok.tail
    have ha := ok a (by simp)
    have hlt : a.toNat < BB := by unfold BB; omega
    rw [valD, List.length_cons, Nat.pow_succ, Nat.mul_comm _ BB]
    calc a.toNat + BB * valD t < BB + BB * valD t := by omega
      _ = BB * (valD t + 1) := by rw [Nat.mul_add, Nat.mul_one, Nat.add_comm]
      _ ≤ BB * BB ^ t.length := Nat.mul_le_mul_left _ this
theorem valD_zeros {ds : List Int} (h : ∀ d ∈ ds, d = 0) : valD ds = 0 := by
  induction ds with
  | nil => rfl
  | cons a t ih => rw [valD, h a (by simp), ih (fun d hd => h d (by simp [hd]))]; rfl
theorem DOk.app {us bs : List Int} (h : DOk us) (k : DOk bs) : DOk (us ++ bs) := fun d hd => by
  rcases List.mem_append.mp hd with hd | hd
  · exact h d hd
  · exact k d hd
theorem DOk.take {us : List Int} (h : DOk us) (n : Nat) : DOk (us.take n) := fun d hd => h d (List.mem_of_mem_take hd)
theorem DOk.drop {us : List Int} (h : DOk us) (n : Nat) : DOk (us.drop n) := fun d hd => h d (List.mem_of_mem_drop hd)
theorem DOk.at {us : List Int} (h : DOk us) {n : Nat} {x : Int} (hx : us[n]? = some x) : 0 ≤ x ∧ x < 4294967296 := h x (List.mem_of_getElem? hx)
/-- Cut behind the last digit that is not 0. -/
theorem take_digs {xs : List Int} (ok : DOk xs) {k : Nat} (hk : k ≤ xs.length) (hz : ∀ j x, k ≤ j → xs[j]? = some x → x = 0) (hl : ∀ x, 0 < k → xs[k - 1]? = some x → x ≠ 0) : xs.take k = digs (valD xs) := by
  have hv : valD xs = valD (xs.take k) := by
    rw [← List.take_append_drop k xs, valD_app, List.take_append_drop, valD_zeros (ds := xs.drop k), Nat.mul_zero, Nat.add_zero]
    intro d hd
    obtain ⟨i, hi, rfl⟩ := List.mem_iff_getElem.mp hd
    refine hz (k + i) _ (by omega) ?_
    rw [List.getElem_drop]
    rw [List.length_drop] at hi
    exact List.getElem?_eq_getElem (by omega)
  rw [hv]
  refine digs_of (ok.take k) fun d hd => ?_
  rw [List.getLast?_eq_getElem?, List.length_take, Nat.min_eq_left hk] at hd
  have h0 : 0 < k := by
    rcases Nat.eq_zero_or_pos k with e | e
    · subst e; simp at hd
    · exact e
  rw [List.getElem?_take_of_lt (by omega)] at hd
  exact hl d h0 hd
theorem digs_len_le {xs : List Int} (ok : DOk xs) : (digs (valD xs)).length ≤ xs.length := by
  generalize hk : (digs (valD xs)).length = k
  rcases Nat.lt_or_ge xs.length k with h | h
  · exfalso
    cases hn : valD xs with
    | zero => rw [hn, digs_zero] at hk; simp at hk; omega
    | succ n =>
      have hlast : ∀ n, n ≠ 0 → BB ^ ((digs n).length - 1) ≤ n := by
        intro n
        induction n using Nat.strongRecOn with
        | _ n ih =>
          intro h0
          rw [digs_pos h0, List.length_cons, Nat.add_sub_cancel]
          by_cases e : n / BB = 0
          · rw [e, digs_zero]; simp; omega
          · have := ih _ (Nat.div_lt_self (by omega) (by decide)) e
            have hp : (digs (n / BB)).length ≠ 0 := fun h => e (digs_nil.mp (List.length_eq_zero_iff.mp h))
            calc BB ^ (digs (n / BB)).length = BB ^ ((digs (n / BB)).length - 1) * BB := by rw [← Nat.pow_succ]; congr 1; omega
              _ ≤ n / BB * BB := Nat.mul_le_mul_right _ this
              _ ≤ n := Nat.div_mul_le_self _ _
      have h1 := hlast (valD xs) (by omega)
      have h2 := valD_lt ok
      rw [hk] at h1
      have := Nat.pow_le_pow_right (n := BB) BB_pos (show xs.length ≤ k - 1 by omega)
      omega
  · exact h
/-- The last digit of a number is not 0. -/
theorem digs_last {n : Nat} {d : Int} (h : (digs n).getLast? = some d) : d ≠ 0 := by
  induction n using Nat.strongRecOn with
  | _ n ih =>
    by_cases e : n = 0
    · subst e; rw [digs_zero] at h; simp at h
    · rw [digs_pos e] at h
      by_cases e2 : n / BB = 0
      · rw [e2, digs_zero] at h
        simp at h
        subst h
        have : n % BB = n := Nat.mod_eq_of_lt (by
          rcases Nat.lt_or_ge n BB with h | h
          · exact h
          · have := Nat.div_pos h BB_pos; omega)
        omega
      · rw [digs_pos e2, List.getLast?_cons_cons, ← digs_pos e2] at h
        exact ih _ (Nat.div_lt_self (by omega) (by decide)) h
theorem digs_ge {n : Nat} (h0 : n ≠ 0) : BB ^ ((digs n).length - 1) ≤ n := by
  induction n using Nat.strongRecOn with
  | _ n ih =>
    rw [digs_pos h0, List.length_cons, Nat.add_sub_cancel]
    by_cases e : n / BB = 0
    · rw [e, digs_zero]; simp; omega
    · have := ih _ (Nat.div_lt_self (by omega) (by decide)) e
      have hp : (digs (n / BB)).length ≠ 0 := fun h => e (digs_nil.mp (List.length_eq_zero_iff.mp h))
      calc BB ^ (digs (n / BB)).length = BB ^ ((digs (n / BB)).length - 1) * BB := by rw [← Nat.pow_succ]; congr 1; omega
        _ ≤ n / BB * BB := Nat.mul_le_mul_right _ this
        _ ≤ n := Nat.div_mul_le_self _ _
theorem digs_lt (n : Nat) : n < BB ^ (digs n).length := by
  have := valD_lt (digs_ok n)
  rwa [valD_digs] at this
theorem digs_len_lt {m n : Nat} (h : (digs m).length < (digs n).length) : m < n := by
  have h0 : n ≠ 0 := by rintro rfl; rw [digs_zero] at h; simp at h
  have h1 := digs_lt m
  have h2 := digs_ge h0
  have h3 := Nat.pow_le_pow_right (n := BB) BB_pos (show (digs m).length ≤ (digs n).length - 1 by omega)
  omega
theorem digs_len_mono {m n : Nat} (h : m ≤ n) : (digs m).length ≤ (digs n).length := by
  rcases Nat.lt_or_ge (digs n).length (digs m).length with h1 | h1
  · have := digs_len_lt h1; omega
  · exact h1
/-- The topmost digit that differs decides. -/
theorem top_lt {xs ys : List Int} (okx : DOk xs) (oky : DOk ys) {k : Nat} {x y : Int} (hd : xs.drop (k + 1) = ys.drop (k + 1)) (hx : xs[k]? = some x) (hy : ys[k]? = some y) (h : x < y) : valD xs < valD ys := by
  obtain ⟨hkx, ex⟩ := List.getElem?_eq_some_iff.mp hx
  obtain ⟨hky, ey⟩ := List.getElem?_eq_some_iff.mp hy
  have bx := okx.at hx
  have by_ := oky.at hy
  have e1 : valD xs = valD (xs.take k) + BB ^ k * (x.toNat + BB * valD (xs.drop (k + 1))) := by
    have := valD_app (xs.take k) (xs.drop k)
    rw [List.take_append_drop, List.length_take, Nat.min_eq_left (by omega), ← List.getElem_cons_drop (h := hkx), ex, valD] at this
    exact this
  have e2 : valD ys = valD (ys.take k) + BB ^ k * (y.toNat + BB * valD (ys.drop (k + 1))) := by
    have := valD_app (ys.take k) (ys.drop k)
    rw [List.take_append_drop, List.length_take, Nat.min_eq_left (by omega), ← List.getElem_cons_drop (h := hky), ey, valD] at this
    exact this
  have l1 := valD_lt (okx.take k)
  rw [List.length_take, Nat.min_eq_left (by omega)] at l1
  rw [hd] at e1
  have hn : x.toNat + 1 ≤ y.toNat := by omega
  rw [e1, e2]
  generalize BB * valD (ys.drop (k + 1)) = r at *
  have h5 : BB ^ k * (x.toNat + r + 1) ≤ BB ^ k * (y.toNat + r) := Nat.mul_le_mul_left _ (by omega)
  rw [Nat.mul_add, Nat.mul_one] at h5
  omega
theorem digs_inj {m n : Nat} (h : digs m = digs n) : m = n := by rw [← valD_digs m, h, valD_digs]
end Go.Proofs.Ytbnhhmejlglbcaa

namespace Go.Proofs.Ytbnhhmejlglbcaa
open Go.RowKit
set_option linter.unusedSimpArgs false
set_option linter.unusedVariables false

/-- A slice of digits, wherever it lies. -/
def DR (w : World) (a : Option Addr) (c : Nat) (xs : List Int) : Prop :=
  DOk xs ∧ xs.length ≤ c ∧ c ≤ maxLen ∧ (xs = [] ∨ ∃ b off cs fz, a = some ⟨b, off, none⟩ ∧ w.heap[b]? = some (.cells cs 77 fz) ∧ ∀ k x, xs[k]? = some x → cs[off + k]? = some (.int .u32 x))
theorem DR.kept {w w' : World} {a : Option Addr} {c : Nat} {xs : List Int} (h : DR w a c xs) (k : KeepD w w') : DR w' a c xs := by
  obtain ⟨h1, h2, h3, h4⟩ := h
  refine ⟨h1, h2, h3, ?_⟩
  rcases h4 with h4 | ⟨b, off, cs, fz, h5, h6, h7⟩
  · exact .inl h4
  · exact .inr ⟨b, off, cs, fz, h5, (k b cs fz h6).trans h6, h7⟩
theorem DR.frame {w w' : World} {a : Option Addr} {c : Nat} {xs : List Int} (h : DR w a c xs) (f : Frame [] w w') : DR w' a c xs := h.kept (KeepD.of0 f)
theorem DR.cell {w : World} {a : Option Addr} {c : Nat} {xs : List Int} (h : DR w a c xs) {k : Nat} {x : Int} (hx : xs[k]? = some x) : ∃ b off, a = some ⟨b, off, none⟩ ∧ w.cell? ⟨b, off + k, none⟩ = some (.int .u32 x) := by
  obtain ⟨h1, h2, h3, h4⟩ := h
  rcases h4 with h4 | ⟨b, off, cs, fz, h5, h6, h7⟩
  · subst h4; simp at hx
  · exact ⟨b, off, h5, by simp [World.cell?, h6, h7 k x hx]⟩
/-- All cells, at one address. -/
theorem DR.cells {w : World} {a : Option Addr} {c : Nat} {xs : List Int} (h : DR w a c xs) (h0 : xs ≠ []) : ∃ b off, a = some ⟨b, off, none⟩ ∧ ∀ k x, xs[k]? = some x → w.cell? ⟨b, off + k, none⟩ = some (.int .u32 x) := by
  obtain ⟨h1, h2, h3, h4⟩ := h
  rcases h4 with h4 | ⟨b, off, cs, fz, h5, h6, h7⟩
  · exact absurd h4 h0
  · exact ⟨b, off, h5, fun k x hx => by simp [World.cell?, h6, h7 k x hx]⟩
theorem DR.take {w : World} {a : Option Addr} {c : Nat} {xs : List Int} (h : DR w a c xs) (n : Nat) : DR w a c (xs.take n) := by
  obtain ⟨h1, h2, h3, h4⟩ := h
  refine ⟨h1.take n, by rw [List.length_take]; omega, h3, ?_⟩
  rcases h4 with h4 | ⟨b, off, cs, fz, h5, h6, h7⟩
  · left; subst h4; simp
  · refine .inr ⟨b, off, cs, fz, h5, h6, fun k x hx => h7 k x ?_⟩
    rw [List.getElem?_take] at hx
    split at hx
    · exact hx
    · cases hx
theorem DR.nil {w : World} (a : Option Addr) (c : Nat) (hc : c ≤ maxLen) : DR w a c [] := ⟨by intro d h; simp at h, Nat.zero_le _, hc, .inl rfl⟩
theorem DR.of_blk {w : World} {b : Nat} {cs : Array Value} {xs : List Int} {c : Nat} (ok : DOk xs) (h : Blk w b 77 cs) (hl : xs.length ≤ c) (hc : c ≤ maxLen) (hx : ∀ (k : Nat) (x : Int), xs[k]? = some x → cs[k]? = some (Value.int .u32 x)) : DR w (some ⟨b, 0, none⟩) c xs :=
  ⟨ok, hl, hc, .inr ⟨b, 0, cs, (0, 0), rfl, h, fun k x hk => by rw [Nat.zero_add]; exact hx k x hk⟩⟩
/-- Cut to a number's digits. -/
def digW (xs : List Int) : List Int := digs (valD xs)
theorem digW_len {xs : List Int} (ok : DOk xs) : (digW xs).length ≤ xs.length := digs_len_le ok
theorem digW_take {xs : List Int} (ok : DOk xs) {k : Nat} (hk : k ≤ xs.length) (hz : ∀ j x, k ≤ j → xs[j]? = some x → x = 0) (hl : ∀ x, 0 < k → xs[k - 1]? = some x → x ≠ 0) : xs.take k = digW xs ∧ k = (digW xs).length := by
  have := take_digs ok hk hz hl
  refine ⟨this, ?_⟩
  unfold digW
  rw [← this, List.length_take, Nat.min_eq_left hk]
theorem DR.whole {w : World} {a : Option Addr} {c : Nat} {xs : List Int} (h : DR w a c xs) (hz : digW xs = xs.take (digW xs).length) : DR w a c (digW xs) := by
  rw [hz]; exact h.take _
theorem digW_prefix {xs : List Int} (ok : DOk xs) : digW xs = xs.take (digW xs).length := by
  -- cut off noughts one by one
  have key : ∀ k, k ≤ xs.length → (∀ j x, k ≤ j → xs[j]? = some x → x = 0) → digW xs = xs.take (digW xs).length := by
    intro k
    induction k with
    | zero => intro hk hz
              have := digW_take ok hk hz (fun x h => by omega)
              rw [← this.2]; exact this.1.symm
    | succ k ih =>
      intro hk hz
      have hx : xs[k]? = some xs[k] := List.getElem?_eq_getElem (by omega)
      by_cases h0 : xs[k] = 0
      · refine ih (by omega) (fun j x hj he => ?_)
        rcases Nat.eq_or_lt_of_le hj with e | e
        · subst e; rw [hx] at he; injection he with he; rw [← he]; exact h0
        · exact hz j x e he
      · have := digW_take ok hk hz (fun x _ he => by rw [Nat.add_sub_cancel, hx] at he; injection he with he; rw [← he]; exact h0)
        rw [← this.2]; exact this.1.symm
  exact key xs.length (Nat.le_refl _) (fun j x hj he => by rw [List.getElem?_eq_none hj] at he; cases he)
theorem DR.dig {w : World} {a : Option Addr} {c : Nat} {xs : List Int} (h : DR w a c xs) : DR w a c (digW xs) := h.whole (digW_prefix h.1)
theorem digW_digs (n : Nat) : digW (digs n) = digs n := by unfold digW; rw [valD_digs]
def lenS : Value → Nat
  | .slice _ n _ => n
  | _ => 0

set_option maxHeartbeats 2000000 in
theorem whole_dr (a : Option Addr) (c : Nat) (xs : List Int) (w : World) (h : DR w a c xs) (hl : xs.length ≤ 4000000000) :
    Calls Try.prog 83 #[.slice a xs.length c] w fun e w' => e = .returned (.slice a (digW xs).length c) ∧ w' = w := by
  have H := Lib.hid h
  have hc : xs.length ≤ c := h.2.1
  have hc9 : c ≤ 9223372036854775807 := h.2.2.1
  clear h
  obtain ⟨n, hn⟩ : ∃ n, (digW xs).length = n := ⟨_, rfl⟩
  rw [hn]
  have HN := Lib.hid hn
  clear hn
  go_enter Try.func83, Try.ntmps83
  go_wp2_with fail
  go_loopw [0] (fun v wr => ∃ k : Nat, k ≤ xs.length ∧ v = .slice a k c ∧ wr = w ∧ Hid (∀ j x, k ≤ j → xs[j]? = some x → x = 0)) (fun v _ => lenS v)
  case atStart => exact ⟨xs.length, Nat.le_refl _, rfl, rfl, fun j x hj he => by rw [List.getElem?_eq_none hj] at he; cases he⟩
  case round =>
    obtain ⟨k, hk, rfl, rfl, hz⟩ := hrel
    cases k with
    | zero =>
      have e := (digW_take H.out.1 hk hz.out (fun x h => by omega)).2
      rw [HN.out] at e
      subst e
      go_wp2_with fail
      go_ret
      exact ⟨rfl, rfl⟩
    | succ k =>
      have hx : xs[k]? = some xs[k] := List.getElem?_eq_getElem (by omega)
      obtain ⟨b, off, rfl, x0⟩ := H.out.cell hx
      have hW := @digW_take xs H.out.1 (k + 1) hk hz.out
      rw [Nat.add_sub_cancel, hx] at hW
      have HW := Lib.hid hW
      have hzz : ∀ x, xs[k]? = some x → x = xs[k] := fun x he => by rw [hx] at he; injection he with he; exact he.symm
      have HZ := Lib.hid hzz
      generalize xs[k] = x at *
      clear hW hx hzz
      by_cases h0 : x = 0
      · subst h0
        go_wp2_with fail
        go_roundw
        case rel =>
          refine ⟨k, by omega, by first | trivial | rfl, by first | trivial | rfl, fun j x hj he => ?_⟩
          rcases Nat.eq_or_lt_of_le hj with e | e
          · subst e; exact HZ.out x he
          · exact hz.out j x e he
        case measure => simp [lenS]
      · have e := (HW.out (fun y _ he => by injection he with he; rw [← he]; exact h0)).2
        rw [HN.out] at e
        subst e
        clear HW
        have hb : (x == 0) = false := by simpa using h0
        clear h0
        go_wp2_with fail
        go_ret
        exact ⟨rfl, rfl⟩
end Go.Proofs.Ytbnhhmejlglbcaa

