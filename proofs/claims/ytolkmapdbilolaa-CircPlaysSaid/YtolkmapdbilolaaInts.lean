/- tansyref22.Ints at rows alike, walked; the reference's Sorted at rows without twins. -/
import Derived.Test.YtolkmapdbilolaaTok
import Derived.BigQuiet
namespace Go.Proofs.Ytolkmapdbilolaa
open Go.RowKit
set_option linter.unusedSimpArgs false
set_option linter.unusedVariables false

set_option maxHeartbeats 4000000 in
set_option maxRecDepth 100000 in
theorem ints_same (w : World) (v1 v2 : Value) (xs : List Int) (G1 G2 : List Nat) (h1 : Sl w 3 1 encI v1 xs G1) (h2 : Sl w 3 1 encI v2 xs G2) (hl : xs.length ≤ 1000000) :
    Calls Try.prog 57 #[v1, v2] w fun e w' => e = .returned (.bool true) ∧ Frame [] w w' := by
  obtain ⟨va, ca, hv⟩ := h1.form
  subst hv
  obtain ⟨vb, cb, hv⟩ := h2.form
  subst hv
  have H1 := Lib.hid h1
  have H2 := Lib.hid h2
  clear h1 h2
  generalize hn : xs.length = n at *
  go_enter Try.func57, Try.ntmps57
  go_wp2_with fail
  go_loopw [5] (fun i wr => ∃ t : Nat, t ≤ n ∧ i = .int .i64 t ∧ Hid (Frame [] w wr)) (fun i _ => (n - intOf i).toNat)
  case atStart => exact ⟨0, Nat.zero_le _, rfl, Lib.hid (Frame.refl _ _)⟩
  case round =>
    obtain ⟨t, ht, rfl, hR⟩ := hrel
    by_cases hlt : t < n
    · have hx : xs[t]? = some (xs[t]'(by omega)) := by simp [hn, hlt]
      generalize xs[t]'(by omega) = x at hx
      obtain ⟨b1, c1, hq1, -, -, k1⟩ := (H1.out.frame0 hR.out).cell encI_len hx
      obtain ⟨b2, c2, hq2, -, -, k2⟩ := (H2.out.frame0 hR.out).cell encI_len hx
      simp only [Value.slice.injEq] at hq1 hq2
      obtain ⟨rfl, -, rfl⟩ := hq1
      obtain ⟨rfl, -, rfl⟩ := hq2
      have r1 := k1 0 _ rfl
      have r2 := k2 0 _ rfl
      simp only [Nat.mul_one, Nat.add_zero] at r1 r2
      clear k1 k2 hx
      go_wp2_with fail
      go_quiet (fail)
      go_wp2_with fail
      go_roundw
      case rel => exact ⟨t + 1, by omega, by first | rfl | go_num, Lib.hid (hR.out.trans1 (by (repeat first | assumption | exact Frame.refl _ _ | refine Frame.trans1 ?_ (Frame.alloc _ _ _) | refine Frame.trans1 ?_ (Frame.drew _ _) | refine Frame.trans1 ?_ (Frame.drewN _ _ _))))⟩
      case measure => first | (simp [intOf]; done) | (simp [intOf]; omega)
    · obtain rfl : t = n := by omega
      go_wp2_with fail
      go_ret
      exact ⟨rfl, hR.out⟩
end Go.Proofs.Ytolkmapdbilolaa
