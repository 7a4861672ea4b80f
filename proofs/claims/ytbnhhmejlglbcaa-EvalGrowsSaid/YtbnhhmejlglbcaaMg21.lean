/- slices.Index, slices.Contains at numbers. -/
import Derived.Test.YtbnhhmejlglbcaaMg04
namespace Go.Proofs.Ytbnhhmejlglbcaa
open Go.RowKit
set_option linter.unusedSimpArgs false
set_option linter.unusedVariables false

def InEndI (P : Prop) (w : World) (e : Ending) (w' : World) : Prop := ∃ i : Int, e = .returned (.int .i64 i) ∧ (0 ≤ i ↔ P) ∧ Frame [] w w'
set_option maxHeartbeats 4000000 in
theorem idxConI (a : Option Addr) (c : Nat) (xs : List Int) (x : Int) (w : World) (h : RdI w a xs) (hl : xs.length ≤ 1000000) :
    Calls Try.prog 65 #[.slice a xs.length c, .int .i64 x] w (InEndI (x ∈ xs) w) := by
  have H := Lib.hid h
  clear h
  go_enter Try.func65, Try.ntmps65
  go_wp2_with fail
  have FR := Lib.hid (Frame.refl [] w)
  go_loopw [8] (fun i wr => ∃ k : Nat, k ≤ xs.length ∧ i = .int .i64 k ∧ Hid (Frame [] w wr ∧ ∀ j z, j < k → xs[j]? = some z → z ≠ x)) (fun i _ => xs.length - (intOf i).toNat)
  case atStart => exact ⟨0, Nat.zero_le _, rfl, Frame.refl _ _, fun j _ h => by omega⟩
  case round =>
    obtain ⟨k, hk, rfl, hR⟩ := hrel
    rename World => wr

    by_cases hlt : k < xs.length
    · have g1 : xs[k]? = some xs[k] := by simp [hlt]
      obtain ⟨b, off, rfl, x0⟩ : ∃ b off, a = some ⟨b, off, none⟩ ∧ wr.cell? ⟨b, off + k, none⟩ = some (.int .i64 xs[k]) := by
        rcases H.out.frame (FR.out.trans1 hR.out.1) with h | ⟨b, off, h1, _, h3⟩
        · subst h; simp at hlt
        · exact ⟨b, off, h1, h3 k hlt⟩
      generalize xs[k] = y at *
      have G1 := Lib.hid g1
      clear g1
      by_cases hxy : x = y
      · have hb : (x == y) = true := by simp [hxy]
        have HX := Lib.hid hxy
        clear hxy
        go_wp2_with fail
        go_ret
        exact ⟨k, rfl, ⟨fun _ => HX.out ▸ List.mem_of_getElem? G1.out, fun _ => by omega⟩, (FR.out.trans1 hR.out.1).trans1 (by (repeat first | assumption | exact Frame.refl _ _ | refine Frame.trans1 ?_ (Frame.alloc _ _ _) | refine Frame.trans1 ?_ (Frame.drew _ _) | refine Frame.trans1 ?_ (Frame.drewN _ _ _)))⟩
      · have hb : (x == y) = false := by simpa using hxy
        have HX := Lib.hid hxy
        clear hxy
        go_wp2_with fail
        go_roundw
        case rel => exact ⟨k + 1, by omega, by first | rfl | go_num, Lib.hid ⟨hR.out.1.trans1 (by (repeat first | assumption | exact Frame.refl _ _ | refine Frame.trans1 ?_ (Frame.alloc _ _ _) | refine Frame.trans1 ?_ (Frame.drew _ _) | refine Frame.trans1 ?_ (Frame.drewN _ _ _))), fun j z hj hz => by
          rcases Nat.lt_or_ge j k with h | h
          · exact hR.out.2 j z h hz
          · have : j = k := by omega
            subst this
            rw [G1.out] at hz
            cases hz
            exact fun e => HX.out e.symm⟩⟩
        case measure => first | (simp [intOf]; done) | (simp [intOf]; omega)
    · obtain rfl : k = xs.length := by omega
      go_wp2_with fail
      go_ret
      exact ⟨-1, rfl, ⟨fun h => absurd h (by omega), fun hm => by
        obtain ⟨j, hj, e⟩ := List.mem_iff_getElem.mp hm
        exact absurd e (hR.out.2 j xs[j] hj (by simp))⟩, (FR.out.trans1 hR.out.1).trans1 (by (repeat first | assumption | exact Frame.refl _ _ | refine Frame.trans1 ?_ (Frame.alloc _ _ _) | refine Frame.trans1 ?_ (Frame.drew _ _) | refine Frame.trans1 ?_ (Frame.drewN _ _ _)))⟩
theorem conI (a : Option Addr) (c : Nat) (xs : List Int) (x : Int) (w : World) (h : RdI w a xs) (hl : xs.length ≤ 1000000) (b : Bool) (hb : b = true ↔ x ∈ xs) :
    Calls Try.prog 43 #[.slice a xs.length c, .int .i64 x] w fun e w' => e = .returned (.bool b) ∧ Frame [] w w' := by
  have HI := Lib.hid (fun w' (f : Frame [] w w') => idxConI a c xs x w' (h.frame f) hl)
  have HB := Lib.hid hb
  clear h hb
  go_enter Try.func43, Try.ntmps43
  go_wp2_with fail
  refine (HI.out _ (by (repeat first | assumption | exact Frame.refl _ _ | refine Frame.trans1 ?_ (Frame.alloc _ _ _) | refine Frame.trans1 ?_ (Frame.drew _ _) | refine Frame.trans1 ?_ (Frame.drewN _ _ _)))).mono ?_
  rintro e w3 ⟨i, rfl, hi, f3⟩
  have F3 := Lib.hid (And.intro hi f3)
  clear hi f3
  go_wp2_with fail
  go_ret
  have E : decide (0 ≤ i) = b := by
    cases b with
    | true => exact decide_eq_true (F3.out.1.2 (HB.out.1 rfl))
    | false => exact decide_eq_false (fun h => by have := HB.out.2 (F3.out.1.1 h); simp at this)
  exact ⟨by rw [← E]; rfl, (show Frame [] w _ from by (repeat first | assumption | exact Frame.refl _ _ | refine Frame.trans1 ?_ (Frame.alloc _ _ _) | refine Frame.trans1 ?_ (Frame.drew _ _) | refine Frame.trans1 ?_ (Frame.drewN _ _ _))).trans1 F3.out.2⟩
end Go.Proofs.Ytbnhhmejlglbcaa

