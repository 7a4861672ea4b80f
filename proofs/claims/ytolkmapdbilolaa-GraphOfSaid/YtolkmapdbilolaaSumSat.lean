/- tansyalike.Sum: a sum, held at a limit. -/
import Derived.Test.YtolkmapdbilolaaOps
namespace Go.Proofs.Ytolkmapdbilolaa
open Go.RowKit
set_option linter.unusedSimpArgs false
set_option linter.unusedVariables false

/-- A sum of numbers from 0 on, held at 2^40. -/
def satTo : Int → List Int → Int
  | n, [] => n
  | n, x :: xs => if 1099511627776 < n ∨ 1099511627776 - n < x then 1099511627776 else satTo (n + x) xs

set_option maxHeartbeats 400000 in
theorem sat_any (n : Int) (a : Option Addr) (cap : Nat) (xs : List Int) (w : World) (h0 : 0 ≤ n) (h1 : n ≤ 1099511627776) (hx : RdI w a xs) (hl : xs.length ≤ 1073741824) (hp : ∀ x ∈ xs, 0 ≤ x ∧ x ≤ 9223372036854775807) :
    Calls Try.prog 62 #[.int .i64 n, .slice a xs.length cap] w fun e w' => e = .returned (.int .i64 (satTo n xs)) ∧ w' = w := by
  have HX := Lib.hid hx
  have HP := Lib.hid hp
  generalize hr : satTo n xs = r
  have HR := Lib.hid hr
  clear hx hp hr
  go_enter Try.func62, Try.ntmps62
  go_wp2_with fail
  go_loop [0, 5] (fun v i => ∃ (k : Nat) (m : Int), k ≤ xs.length ∧ i = .int .i64 k ∧ v = .int .i64 m ∧ 0 ≤ m ∧ m ≤ 1099511627776 ∧ Hid (satTo m (xs.drop k) = r)) (fun _ i => xs.length - (intOf i).toNat)
  case atStart => exact ⟨0, n, Nat.zero_le _, rfl, rfl, h0, h1, HR.out⟩
  case round =>
    obtain ⟨k, m, hk, rfl, rfl, m0, m1, hq⟩ := hrel
    by_cases hlt : k < xs.length
    · obtain ⟨b, off, rfl, hc⟩ := HX.out.at hlt
      have hm : Hid (satTo m (xs.drop k) = r) := hq.out
      rw [List.drop_eq_getElem_cons hlt, satTo] at hm
      have hb := HP.out xs[k] (List.getElem_mem hlt)
      generalize xs[k] = x at *
      have x0 := hb.1
      have x1 := hb.2
      clear hb
      by_cases hov : 1099511627776 - m < x
      · rw [if_pos (.inr hov)] at hm
        have hm' := hm.out
        subst hm'
        clear hm
        go_wp2_with fail
        go_ret
        exact ⟨rfl, rfl⟩
      · rw [if_neg (by omega)] at hm
        go_wp2_with fail
        go_round
        case rel => exact ⟨k + 1, m + x, by omega, by go_num, rfl, by omega, by omega, hm⟩
        case measure => simp [intOf]; omega
    · have hkn : k = xs.length := by omega
      subst hkn
      have hm := hq.out
      rw [List.drop_length, satTo] at hm
      subst hm
      go_wp2_with fail
      go_ret
      exact ⟨rfl, rfl⟩

theorem sat_two (n x : Int) (h0 : 0 ≤ n) (h1 : n ≤ 1000) (hx : 0 ≤ x) : satTo n [x, 1] = if n + x + 1 ≤ 1099511627776 then n + x + 1 else 1099511627776 := by
  simp only [satTo]
  repeat' split
  all_goals omega

end Go.Proofs.Ytolkmapdbilolaa
