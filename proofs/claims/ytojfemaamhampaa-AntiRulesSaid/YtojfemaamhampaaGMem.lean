/- A graph's records, as they lie in memory. -/
import Derived.Test.YtojfemaamhampaaSl
import Derived.Test.YtojfemaamhampaaBail
namespace Go.Proofs.Ytojfemaamhampaa
open Go.RowKit
set_option linter.unusedSimpArgs false
set_option linter.unusedVariables false

/-- An edge. -/
structure Ed where
  tok : Int
  src : Int
  lab : ByteArray
  dst : Int
  deriving DecidableEq
def Ed.cs (e : Ed) : List Value := [.int .i64 e.tok, .int .i64 e.src, .string e.lab, .int .i64 e.dst]
theorem ed_len (e : Ed) : e.cs.length = 4 := rfl
theorem ed_one (e : Ed) : ∀ u ∈ e.cs, u.oneCell' = true := by simp [Ed.cs, Value.oneCell']
/-- A node, its two slices by their headers. -/
structure Nd where
  id : Int
  la : Option Addr
  ln : Nat
  lc : Nat
  pa : Option Addr
  pn : Nat
  pc : Nat
def Nd.cs (n : Nd) : List Value := [.int .i64 n.id, .slice n.la n.ln n.lc, .slice n.pa n.pn n.pc]
theorem nd_len (n : Nd) : n.cs.length = 3 := rfl
theorem nd_one (n : Nd) : ∀ u ∈ n.cs, u.oneCell' = true := by simp [Nd.cs, Value.oneCell']
/-- How many stand ahead of t; is t there? -/
def rank (ks : List Int) (t : Int) : Nat := ks.countP (fun k => decide (k < t))
def Up (ks : List Int) : Prop := ks.Pairwise (· < ·)

theorem rank_le (ks : List Int) (t : Int) : rank ks t ≤ ks.length := List.countP_le_length
theorem rank_of {ks : List Int} {t : Int} : ∀ {r : Nat}, r ≤ ks.length → (∀ i (h : i < ks.length), i < r → ks[i] < t) → (∀ i (h : i < ks.length), r ≤ i → t ≤ ks[i]) → rank ks t = r := by
  unfold rank
  induction ks with
  | nil => intro r hr _ _; simp at hr; simp [hr]
  | cons a l ih =>
    intro r hr h1 h2
    cases r with
    | zero =>
      rw [List.countP_eq_zero]
      intro x hx
      obtain ⟨i, hi, rfl⟩ := List.getElem_of_mem hx
      have := h2 i hi (Nat.zero_le _)
      simp; omega
    | succ r =>
      have ha : a < t := h1 0 (by simp) (by omega)
      rw [List.countP_cons_of_pos (by simpa using ha)]
      rw [ih (r := r) (by simpa using hr) (fun i h hi => h1 (i + 1) (by simpa using h) (by omega)) (fun i h hi => h2 (i + 1) (by simpa using h) (by omega))]
theorem rank_mem {ks : List Int} {t : Int} {r : Nat} (hr : r ≤ ks.length) (h1 : ∀ i (h : i < ks.length), i < r → ks[i] < t) (hu : Up ks) (h2 : ∀ i (h : i < ks.length), r ≤ i → t ≤ ks[i]) : decide (t ∈ ks) = decide (ks[r]? = some t) := by
  rw [decide_eq_decide]
  constructor
  · intro hm
    obtain ⟨i, hi, he⟩ := List.getElem_of_mem hm
    have hri : r ≤ i := by
      refine Nat.le_of_not_lt fun h => ?_
      have := h1 i hi h; omega
    rcases Nat.lt_or_ge r i with h | h
    · have a1 := (List.pairwise_iff_getElem.1 hu) r i (by omega) hi h
      have a2 := h2 r (by omega) (Nat.le_refl _)
      omega
    · obtain rfl : r = i := by omega
      rw [List.getElem?_eq_getElem hi, he]
  · intro h
    exact List.mem_of_getElem? h

/-- cmp.Compare at ints. -/
def cmpI (a b : Int) : Int := if a < b then -1 else if a > b then 1 else 0
theorem cmpI_neg (a b : Int) : cmpI a b < 0 ↔ a < b := by unfold cmpI; split <;> (try split) <;> omega
theorem cmpI_zero (a b : Int) : cmpI a b = 0 ↔ a = b := by unfold cmpI; split <;> (try split) <;> omega

theorem cmp_int (a b : Int) (w : World) : Calls Try.prog 77 #[.int .i64 a, .int .i64 b] w fun e w' => e = .returned (.int .i64 (cmpI a b)) ∧ w' = w := by
  rcases (by omega : a < b ∨ b < a ∨ a = b) with h | h | h
  · have e : cmpI a b = -1 := by simp [cmpI, h]
    rw [e]
    clear e
    go_enter Try.func77, Try.ntmps77
    go_wp2
    go_ret
    exact ⟨rfl, rfl⟩
  · have e : cmpI a b = 1 := by unfold cmpI; rw [if_neg (by omega), if_pos (by omega)]
    rw [e]
    clear e
    have h2 : ¬ a < b := by omega
    go_enter Try.func77, Try.ntmps77
    go_wp2
    go_ret
    exact ⟨rfl, rfl⟩
  · subst h
    have e : cmpI a a = 0 := by simp [cmpI]
    rw [e]
    clear e
    go_enter Try.func77, Try.ntmps77
    go_wp2
    go_ret
    exact ⟨rfl, rfl⟩

end Go.Proofs.Ytojfemaamhampaa
