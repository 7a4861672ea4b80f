/- tansyalike.Round: the rest, from 0 on. -/
import Derived.Test.YtbnhhmejlglbcaaMg01
namespace Go.Proofs.Ytbnhhmejlglbcaa
open Go.RowKit
set_option linter.unusedSimpArgs false
set_option linter.unusedVariables false

theorem round_any (k n : Int) (w : World) (h1 : 1 ≤ n) (h2 : n ≤ 1073741824) (h3 : -9223372036854775808 ≤ k) (h4 : k ≤ 9223372036854775807) :
    Calls Try.prog 7 #[.int .i64 k, .int .i64 n] w fun e w' => e = .returned (.int .i64 (k % n)) ∧ w' = w := by
  have hn0 : ¬ n = 0 := by omega
  have b1 : k.tmod n < n := Int.tmod_lt_of_pos k (by omega)
  have b2 : -n < k.tmod n := by
    have := Int.lt_tmod_of_pos k (show 0 < n by omega)
    omega
  have hd : Hid (k % n = if k.tmod n < 0 then k.tmod n + n else k.tmod n) := by
    show k % n = if k.tmod n < 0 then k.tmod n + n else k.tmod n
    have e := Int.tmod_eq_emod (a := k) (b := n)
    have r1 := Int.emod_nonneg k hn0
    have r2 := Int.emod_lt_of_pos k (show 0 < n by omega)
    have e2 : (n.natAbs : Int) = n := by omega
    by_cases hk : 0 ≤ k ∨ n ∣ k
    · rw [if_pos hk] at e
      rw [if_neg (by omega)]; omega
    · rw [if_neg hk] at e
      rw [if_pos (by omega)]; omega
  clear h3 h4
  go_enter Try.func7, Try.ntmps7
  by_cases hlt : k.tmod n < 0
  · go_wp2_with fail
    go_ret
    exact ⟨by rw [hd.out, if_pos hlt]; rfl, rfl⟩
  · go_wp2_with fail
    go_ret
    exact ⟨by rw [hd.out, if_neg (by omega)]; rfl, rfl⟩

end Go.Proofs.Ytbnhhmejlglbcaa

