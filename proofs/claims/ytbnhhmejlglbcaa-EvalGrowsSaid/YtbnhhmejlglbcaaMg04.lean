/- slices.IndexFunc, ContainsFunc over []int. -/
import Derived.Test.YtbnhhmejlglbcaaMg02
namespace Go.Proofs.Ytbnhhmejlglbcaa
open Go.RowKit
set_option linter.unusedSimpArgs false
set_option linter.unusedVariables false

/-- A slice of ints, as it is read: nothing, or cells in a row. -/
def RdI (w : World) (a : Option Addr) (xs : List Int) : Prop :=
  xs = [] ∨ ∃ b off, a = some ⟨b, off, none⟩ ∧ b < w.heap.size ∧ ∀ k (h : k < xs.length), w.cell? ⟨b, off + k, none⟩ = some (.int .i64 xs[k])
theorem RdI.frame {w w' : World} {a : Option Addr} {xs : List Int} (h : RdI w a xs) (f : Frame [] w w') : RdI w' a xs := by
  rcases h with h | ⟨b, off, h1, h2, h3⟩
  · exact .inl h
  · exact .inr ⟨b, off, h1, Nat.lt_of_lt_of_le h2 f.size, fun k h => f.cell (h3 k h) (by simp)⟩
theorem RdI.at {w : World} {a : Option Addr} {xs : List Int} (h : RdI w a xs) {k : Nat} (hk : k < xs.length) : ∃ b off, a = some ⟨b, off, none⟩ ∧ w.cell? ⟨b, off + k, none⟩ = some (.int .i64 xs[k]) := by
  rcases h with h | ⟨b, off, h1, h2, h3⟩
  · subst h; simp at hk
  · exact ⟨b, off, h1, h3 k hk⟩

/-- A function value that tells a Bool of an int, and writes nothing that was there. -/
def TellsI (w : World) (K : Nat) (caps : Array Value) (p : Int → Bool) : Prop :=
  Entered K ∧ ∀ w', Frame [] w w' → ∀ n : Int, Calls Try.prog K (#[.int .i64 n] ++ caps) w' fun e w'' => e = .returned (.bool (p n)) ∧ Frame [] w' w''

def idxI (p : Int → Bool) (xs : List Int) : Int := match xs.findIdx? p with | some k => k | none => -1

theorem idxI_at {p : Int → Bool} {xs : List Int} {k : Nat} (hk : k < xs.length) (h : ∀ j (hj : j < k), p xs[j] = false) (hp : p xs[k] = true) : idxI p xs = k := by
  have : xs.findIdx? p = some k := by
    rw [List.findIdx?_eq_some_iff_getElem]
    exact ⟨hk, hp, fun j hj => by simp [h j hj]⟩
  simp [idxI, this]
theorem idxI_none {p : Int → Bool} {xs : List Int} (h : ∀ j (hj : j < xs.length), p xs[j] = false) : idxI p xs = -1 := by
  have : xs.findIdx? p = none := by
    rw [List.findIdx?_eq_none_iff]
    intro x hx
    obtain ⟨j, hj, rfl⟩ := List.getElem_of_mem hx
    exact h j hj
  simp [idxI, this]

theorem indexFunc_int (a : Option Addr) (cap : Nat) (xs : List Int) (K : Nat) (caps : Array Value) (p : Int → Bool) (w : World) (hx : RdI w a xs) (hl : xs.length ≤ 1073741824) (hp : TellsI w K caps p) :
    Calls Try.prog 81 #[.slice a xs.length cap, .func (.func K) #[] caps] w fun e w' => e = .returned (.int .i64 (idxI p xs)) ∧ Frame [] w w' := by
  obtain ⟨hK, hP⟩ := hp
  have HX := Lib.hid hx
  have HP := Lib.hid hP
  clear hx hP
  go_enter Try.func81, Try.ntmps81
  go_wp2_with fail
  go_loopw [8] (fun i wr => ∃ k : Nat, k ≤ xs.length ∧ i = .int .i64 k ∧ Frame [] w wr ∧ Hid (∀ j (hj : j < xs.length), j < k → p xs[j] = false)) (fun i _ => xs.length - (intOf i).toNat)
  case atStart => exact ⟨0, Nat.zero_le _, rfl, Frame.refl _ _, fun j hj h => by omega⟩
  case round =>
    obtain ⟨k, hk, rfl, hf, hq⟩ := hrel
    by_cases hlt : k < xs.length
    · obtain ⟨b, off, rfl, hc⟩ := (HX.out.frame hf).at hlt
      have hcall := hK (#[.int .i64 xs[k]] ++ caps)
      go_wp2_with fail
      refine (HP.out wr hf xs[k]).mono ?_
      rintro e w2 ⟨rfl, f2⟩
      cases hpk : p xs[k] with
      | true =>
        go_wp2_with fail
        go_ret
        exact ⟨by rw [idxI_at hlt (fun j hj => hq.out j (by omega) hj) hpk]; rfl, hf.trans0 f2⟩
      | false =>
        go_wp2_with fail
        go_roundw
        case rel => exact ⟨k + 1, by omega, by go_num, hf.trans0 f2, fun j hj hjk => by
          rcases Nat.lt_or_ge j k with h | h
          · exact hq.out j hj h
          · have : j = k := by omega
            subst this; exact hpk⟩
        case measure => simp [intOf]; omega
    · go_wp2_with fail
      go_ret
      exact ⟨by rw [idxI_none (fun j hj => hq.out j hj (by omega))]; rfl, hf⟩

theorem containsFunc_int (a : Option Addr) (cap : Nat) (xs : List Int) (K : Nat) (caps : Array Value) (p : Int → Bool) (w : World) (hx : RdI w a xs) (hl : xs.length ≤ 1073741824) (hp : TellsI w K caps p) :
    Calls Try.prog 55 #[.slice a xs.length cap, .func (.func K) #[] caps] w fun e w' => e = .returned (.bool (xs.any p)) ∧ Frame [] w w' := by
  have H := Lib.hid (indexFunc_int a cap xs K caps p w hx hl hp)
  have hi : Hid (decide (0 ≤ idxI p xs) = xs.any p) := by
    show decide (0 ≤ idxI p xs) = xs.any p
    unfold idxI
    cases h : xs.findIdx? p with
    | none => rw [List.findIdx?_eq_none_iff] at h; simp; exact h
    | some k =>
      rw [List.findIdx?_eq_some_iff_getElem] at h
      obtain ⟨h1, h2, _⟩ := h
      have : xs.any p = true := by rw [List.any_eq_true]; exact ⟨xs[k], List.getElem_mem h1, h2⟩
      rw [this]; simp
  generalize idxI p xs = ix at *
  clear hx hp
  go_enter Try.func55, Try.ntmps55
  go_wp2_with fail
  refine H.out.mono ?_
  rintro e w' ⟨rfl, f⟩
  go_wp2_with fail
  go_ret
  exact ⟨by rw [hi.out]; rfl, f⟩

end Go.Proofs.Ytbnhhmejlglbcaa

