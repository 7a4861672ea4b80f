/- slices.IndexFunc, ContainsFunc over edges; DropNode's question. -/
import Derived.Test.YtjcajidgaejhoaaGreatMi06
import Derived.Test.YtjcajidgaejhoaaGreatMi02
namespace Go.Proofs.YtjcajidgaejhoaaGreat
open Go.RowKit
set_option linter.unusedSimpArgs false
set_option linter.unusedVariables false

/-- A function value that tells a Bool of an edge, and writes nothing that was there. -/
def TellsE (w : World) (K : Nat) (caps : Array Value) (p : Ed → Bool) : Prop :=
  Entered K ∧ ∀ w', Frame [] w w' → ∀ e : Ed, Calls Tryz.prog K (#[.agg #[.int .i64 e.tok, .int .i64 e.src, .string e.lab, .int .i64 e.dst]] ++ caps) w' fun x w'' => x = .returned (.bool (p e)) ∧ Frame [] w' w''

def idxE (p : Ed → Bool) (xs : List Ed) : Int := match xs.findIdx? p with | some k => k | none => -1
theorem idxE_at {p : Ed → Bool} {xs : List Ed} {k : Nat} (hk : k < xs.length) (h : ∀ j (hj : j < k), p xs[j] = false) (hp : p xs[k] = true) : idxE p xs = k := by
  have : xs.findIdx? p = some k := by
    rw [List.findIdx?_eq_some_iff_getElem]
    exact ⟨hk, hp, fun j hj => by simp [h j hj]⟩
  simp [idxE, this]
theorem idxE_none {p : Ed → Bool} {xs : List Ed} (h : ∀ j (hj : j < xs.length), p xs[j] = false) : idxE p xs = -1 := by
  have : xs.findIdx? p = none := by
    rw [List.findIdx?_eq_none_iff]
    intro x hx
    obtain ⟨j, hj, rfl⟩ := List.getElem_of_mem hx
    exact h j hj
  simp [idxE, this]

theorem indexFunc_edge (a : Option Addr) (cap : Nat) (xs : List Ed) (G : List Nat) (K : Nat) (caps : Array Value) (p : Ed → Bool) (w : World) (hx : Sl w 44 4 Ed.cs (.slice a xs.length cap) xs G) (hl : xs.length ≤ 1073741824) (hp : TellsE w K caps p) :
    Calls Tryz.prog 91 #[.slice a xs.length cap, .func (.func K) #[] caps] w fun e w' => e = .returned (.int .i64 (idxE p xs)) ∧ Frame [] w w' := by
  obtain ⟨hK, hP⟩ := hp
  have HX := Lib.hid hx
  have HP := Lib.hid hP
  clear hx hP
  go_enter Tryz.func91, Tryz.ntmps91
  go_wp2_with fail
  go_loopw [8] (fun i wr => ∃ k : Nat, k ≤ xs.length ∧ i = .int .i64 k ∧ Frame [] w wr ∧ Hid (∀ j (hj : j < xs.length), j < k → p xs[j] = false)) (fun i _ => xs.length - (intOf i).toNat)
  case atStart => exact ⟨0, Nat.zero_le _, rfl, Frame.refl _ _, fun j hj h => by omega⟩
  case round =>
    obtain ⟨k, hk, rfl, hf, hq⟩ := hrel
    by_cases hlt : k < xs.length
    · obtain ⟨b, cap', e9, _, _, hc⟩ := (HX.out.frame0 hf).cell ed_len (show xs[k]? = some xs[k] by simp [hlt])
      injection e9 with e91 _ e93
      subst e91 e93
      have d0 := hc 0 _ rfl
      have d1 := hc 1 _ rfl
      have d2 := hc 2 _ rfl
      have d3 := hc 3 _ rfl
      simp only [Nat.add_zero] at d0
      have hcall := hK (#[.agg #[.int .i64 xs[k].tok, .int .i64 xs[k].src, .string xs[k].lab, .int .i64 xs[k].dst]] ++ caps)
      clear hc
      go_wp2_with fail
      refine (HP.out wr hf xs[k]).mono ?_
      rintro e w2 ⟨rfl, f2⟩
      cases hpk : p xs[k] with
      | true =>
        go_wp2_with fail
        go_ret
        exact ⟨by rw [idxE_at hlt (fun j hj => hq.out j (by omega) hj) hpk]; rfl, hf.trans0 f2⟩
      | false =>
        go_wp2_with fail
        go_roundw
        case rel => exact ⟨k + 1, by omega, by go_num, hf.trans0 f2, fun j hj hjk => by
          rcases Nat.lt_or_ge j k with h | h
          · exact hq.out j hj h
          · have : j = k := by omega
            subst this; exact hpk⟩
        case measure => simp [intOf]; omega
    · go_wp2_with fail
      go_ret
      exact ⟨by rw [idxE_none (fun j hj => hq.out j hj (by omega))]; rfl, hf⟩

/-- Does an edge begin or end at a node? -/
def meets (t : Int) (e : Ed) : Bool := decide (e.src = t) || decide (e.dst = t)
end Go.Proofs.YtjcajidgaejhoaaGreat

