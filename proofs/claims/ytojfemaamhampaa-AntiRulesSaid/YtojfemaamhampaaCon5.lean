/- slices.IndexFunc, ContainsFunc over rows of sets. -/
import Derived.Test.YtojfemaamhampaaCfw5
import Derived.Test.YtojfemaamhampaaCatch
namespace Go.Proofs.Ytojfemaamhampaa
open Go.RowKit
set_option linter.unusedSimpArgs false
set_option linter.unusedVariables false

theorem RF.atV {U : Nat → Prop} {w : World} {a : Option Addr} {vs : List SV} (h : RF U w 1 encV a vs) {k : Nat} {s : SV} (hs : vs[k]? = some s) : ∃ b off, a = some ⟨b, off, none⟩ ∧ w.cell? ⟨b, off + k, none⟩ = some (.slice s.a s.l.length s.c) := by
  obtain ⟨b, off, h1, _, h3⟩ := h k s hs
  refine ⟨b, off, h1, ?_⟩
  have := h3 0 _ rfl
  rw [Nat.mul_one, Nat.add_zero] at this
  exact this
/-- A function value that tells a Bool of a set, and writes nothing that was there. -/
def TellsV (w : World) (K : Nat) (caps : Array Value) (vs : List SV) (p : SV → Bool) : Prop :=
  Entered K ∧ ∀ w', Frame [] w w' → ∀ s ∈ vs, Calls Try.prog K (#[.slice s.a s.l.length s.c] ++ caps) w' fun e w'' => e = .returned (.bool (p s)) ∧ Frame [] w' w''
def idxV (p : SV → Bool) (xs : List SV) : Int := match xs.findIdx? p with | some k => k | none => -1
theorem idxV_at {p : SV → Bool} {xs : List SV} {k : Nat} (hk : k < xs.length) (h : ∀ j (hj : j < k), p xs[j] = false) (hp : p xs[k] = true) : idxV p xs = k := by
  have : xs.findIdx? p = some k := by
    rw [List.findIdx?_eq_some_iff_getElem]
    exact ⟨hk, hp, fun j hj => by simp [h j hj]⟩
  simp [idxV, this]
theorem idxV_none {p : SV → Bool} {xs : List SV} (h : ∀ j (hj : j < xs.length), p xs[j] = false) : idxV p xs = -1 := by
  have : xs.findIdx? p = none := by
    rw [List.findIdx?_eq_none_iff]
    intro x hx
    obtain ⟨j, hj, rfl⟩ := List.getElem_of_mem hx
    exact h j hj
  simp [idxV, this]
theorem indexFunc_ints (U : Nat → Prop) (a : Option Addr) (cap : Nat) (xs : List SV) (K : Nat) (caps : Array Value) (p : SV → Bool) (w : World) (hx : RF U w 1 encV a xs) (hl : xs.length ≤ 1073741824) (hp : TellsV w K caps xs p) :
    Calls Try.prog 59 #[.slice a xs.length cap, .func (.func K) #[] caps] w fun e w' => e = .returned (.int .i64 (idxV p xs)) ∧ Frame [] w w' := by
  obtain ⟨hK, hP⟩ := hp
  have HX := Lib.hid hx
  have HP := Lib.hid hP
  clear hx hP
  go_enter Try.func59, Try.ntmps59
  go_wp2_with fail
  go_loopw [8] (fun i wr => ∃ k : Nat, k ≤ xs.length ∧ i = .int .i64 k ∧ Frame [] w wr ∧ Hid (∀ j (hj : j < xs.length), j < k → p xs[j] = false)) (fun i _ => xs.length - (intOf i).toNat)
  case atStart => exact ⟨0, Nat.zero_le _, rfl, Frame.refl _ _, fun j hj h => by omega⟩
  case round =>
    obtain ⟨k, hk, rfl, hf, hq⟩ := hrel
    by_cases hlt : k < xs.length
    · have g : xs[k]? = some xs[k] := by simp [hlt]
      obtain ⟨b, off, rfl, hc⟩ := (HX.out.frame0 hf).atV g
      have hcc := HP.out wr hf xs[k] (List.getElem_mem hlt)
      have hpx : Hid (p xs[k] = p xs[k]) := rfl
      cases hpk : p xs[k] with
      | true =>
        rw [hpk] at hcc
        have hcall := hK (#[.slice xs[k].a xs[k].l.length xs[k].c] ++ caps)
        have HPK := Lib.hid hpk
        clear hpk hpx
        have HC := Lib.hid hcc
        clear hcc
        go_wp2_with fail
        refine HC.out.mono ?_
        rintro e w2 ⟨rfl, f2⟩
        go_wp2_with fail
        go_ret
        exact ⟨by rw [idxV_at hlt (fun j hj => hq.out j (by omega) hj) HPK.out]; rfl, hf.trans0 f2⟩
      | false =>
        rw [hpk] at hcc
        have hcall := hK (#[.slice xs[k].a xs[k].l.length xs[k].c] ++ caps)
        have HPK := Lib.hid hpk
        clear hpk hpx
        have HC := Lib.hid hcc
        clear hcc
        go_wp2_with fail
        refine HC.out.mono ?_
        rintro e w2 ⟨rfl, f2⟩
        go_wp2_with fail
        go_roundw
        case rel => exact ⟨k + 1, by omega, by go_num, hf.trans0 f2, fun j hj hjk => by
          rcases Nat.lt_or_ge j k with h | h
          · exact hq.out j hj h
          · obtain rfl : j = k := by omega
            exact HPK.out⟩
        case measure => simp [intOf]; omega
    · go_wp2_with fail
      go_ret
      exact ⟨by rw [idxV_none (fun j hj => hq.out j hj (by omega))]; rfl, hf⟩
theorem containsFunc_ints (U : Nat → Prop) (a : Option Addr) (cap : Nat) (xs : List SV) (K : Nat) (caps : Array Value) (p : SV → Bool) (w : World) (hx : RF U w 1 encV a xs) (hl : xs.length ≤ 1073741824) (hp : TellsV w K caps xs p) :
    Calls Try.prog 39 #[.slice a xs.length cap, .func (.func K) #[] caps] w fun e w' => e = .returned (.bool (xs.any p)) ∧ Frame [] w w' := by
  have H := Lib.hid (indexFunc_ints U a cap xs K caps p w hx hl hp)
  have hi : Hid (decide (0 ≤ idxV p xs) = xs.any p) := by
    show decide (0 ≤ idxV p xs) = xs.any p
    unfold idxV
    cases h : xs.findIdx? p with
    | none => rw [List.findIdx?_eq_none_iff] at h; simp; exact h
    | some k =>
      rw [List.findIdx?_eq_some_iff_getElem] at h
      obtain ⟨h1, h2, _⟩ := h
      have : xs.any p = true := by rw [List.any_eq_true]; exact ⟨xs[k], List.getElem_mem h1, h2⟩
      rw [this]; simp
  generalize idxV p xs = ix at *
  clear hx hp
  go_enter Try.func39, Try.ntmps39
  go_wp2_with fail
  refine H.out.mono ?_
  rintro e w' ⟨rfl, f⟩
  go_wp2_with fail
  go_ret
  exact ⟨by rw [hi.out]; rfl, f⟩
end Go.Proofs.Ytojfemaamhampaa
