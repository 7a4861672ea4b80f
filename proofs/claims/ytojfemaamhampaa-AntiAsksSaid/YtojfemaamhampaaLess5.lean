/- tansyref5.lessSet. -/
import Derived.Test.YtojfemaamhampaaRef5
namespace Go.Proofs.Ytojfemaamhampaa
open Go.RowKit
set_option linter.unusedSimpArgs false
set_option linter.unusedVariables false

def ltOB (xs ys : List Int) : Bool := decide (cfO xs ys < 0)
theorem ltOB_iff (xs ys : List Int) : ltOB xs ys = true ↔ LtO xs ys := by simp [ltOB, LtO]
theorem ltOB_len {xs ys : List Int} (h : xs.length ≠ ys.length) : ltOB xs ys = decide (xs.length < ys.length) := by
  unfold ltOB cfO
  by_cases h1 : xs.length < ys.length
  · simp [h1]
  · have h2 : ys.length < xs.length := by omega
    simp [h1, h2]
theorem ltOB_same {xs ys : List Int} (h : xs.length = ys.length) : ltOB xs ys = decide (cmpL xs ys < 0) := by
  unfold ltOB cfO
  rw [if_neg (by omega), if_neg (by omega)]
set_option maxRecDepth 100000 in
theorem lessSet_any (a1 a2 : Option Addr) (c1 c2 : Nat) (xs ys : List Int) (w : World) (h1 : RdI w a1 xs) (h2 : RdI w a2 ys) (l1 : xs.length ≤ 1000000) (l2 : ys.length ≤ 1000000) :
    Calls Try.prog 48 #[.slice a1 xs.length c1, .slice a2 ys.length c2] w fun e w' => e = .returned (.bool (ltOB xs ys)) ∧ Frame [] w w' := by
  have H1 := Lib.hid h1
  have H2 := Lib.hid h2
  clear h1 h2
  by_cases hl : xs.length = ys.length
  · have HR := Lib.hid (ltOB_same hl)
    generalize ltOB xs ys = r at *
    go_enter Try.func48, Try.ntmps48
    go_wp2_with fail
    go_loopw [5] (fun i wr => ∃ k : Nat, k ≤ xs.length ∧ i = .int .i64 k ∧ Hid (Frame [] w wr ∧ cmpL xs ys = cmpL (xs.drop k) (ys.drop k))) (fun i _ => xs.length - (intOf i).toNat)
    case atStart => exact ⟨0, Nat.zero_le _, rfl, Frame.refl _ _, rfl⟩
    case round =>
      obtain ⟨k, hk, rfl, hQ⟩ := hrel
      rename World => wr
      by_cases hlt : k < xs.length
      · have hlt2 : k < ys.length := by omega
        have hn := cmpL_at hlt hlt2
        obtain ⟨b, off, rfl, hc⟩ := (H1.out.frame hQ.out.1).at hlt
        obtain ⟨b2, off2, rfl, hc2⟩ := (H2.out.frame hQ.out.1).at hlt2
        generalize xs[k] = x at *
        generalize ys[k] = y at *
        have HN := Lib.hid hn
        clear hn
        by_cases hxy : x = y
        · subst hxy
          go_wp2_with fail
          go_quiet (fail)
          go_wp2_with fail
          go_roundw
          case rel => exact ⟨k + 1, by omega, by first | rfl | go_num, hQ.out.1.trans1 (Frame.drewN _ _ _), by
            rw [hQ.out.2, HN.out, if_neg (by omega), if_neg (by omega)]⟩
          case measure => first | (simp [intOf]; done) | (simp [intOf]; omega)
        · have hb : (x == y) = false := by simp [hxy]
          have HXY := Lib.hid hxy
          clear hxy
          have hcd : Hid (decide (x < y) = r) := by
            show decide (x < y) = r
            rw [HR.out, hQ.out.2, HN.out]
            have := HXY.out
            by_cases h : x < y
            · simp [h]
            · have h' : y < x := by omega
              simp [h, h']
          go_wp2_with fail
          go_quiet (fail)
          go_wp2_with fail
          go_quiet (fail)
          go_wp2_with fail
          go_ret
          exact ⟨by rw [← hcd.out]; rfl, hQ.out.1.trans1 ((Frame.drewN _ _ _).trans1 (Frame.drewN _ _ _))⟩
      · obtain rfl : k = xs.length := by omega
        have hend : Hid (r = false) := by
          show r = false
          rw [HR.out, hQ.out.2, cmpL_end (Nat.le_refl _) (by omega)]
          simp
        go_wp2_with fail
        go_ret
        exact ⟨by rw [hend.out]; rfl, hQ.out.1⟩
  · have HR := Lib.hid (ltOB_len hl)
    have hd : ((xs.length : Int) == ys.length) = false := by
      have : (xs.length : Int) ≠ ys.length := by omega
      simp [this]
    generalize ltOB xs ys = r at *
    go_enter Try.func48, Try.ntmps48
    go_wp2_with fail
    go_ret
    exact ⟨by rw [HR.out]; simp, Frame.refl _ _⟩
end Go.Proofs.Ytojfemaamhampaa
