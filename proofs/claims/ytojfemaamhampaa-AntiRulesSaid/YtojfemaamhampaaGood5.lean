/- tansylaw5.good. -/
import Derived.Test.YtojfemaamhampaaFam5
namespace Go.Proofs.Ytojfemaamhampaa
open Go.RowKit
set_option linter.unusedSimpArgs false
set_option linter.unusedVariables false

theorem goodL_iff {l : List (List Int)} : goodL l = true ↔ ∀ s ∈ l, ∀ n ∈ s, ¬ n < 0 := by
  simp [goodL, negI]
set_option maxRecDepth 100000 in
theorem good_any (a : Option Addr) (c : Nat) (vs : List SV) (w : World) (h : RV w a vs) (hl : vs.length ≤ 1000000) :
    Calls Try.prog 14 #[.slice a vs.length c] w fun e w' => e = .returned (.bool (goodL (vs.map (·.l)))) ∧ Frame [] w w' := by
  have H := Lib.hid h
  clear h
  have HR : Hid (∀ r, (r = true ↔ ∀ s ∈ vs, ∀ n ∈ s.l, ¬ n < 0) → r = goodL (vs.map (·.l))) := fun r h => by
    rw [Bool.eq_iff_iff, h, goodL_iff]
    exact ⟨fun k x hx => by obtain ⟨s, hs, rfl⟩ := List.mem_map.1 hx; exact k s hs, fun k s hs => k s.l (List.mem_map_of_mem hs)⟩
  generalize goodL (vs.map (·.l)) = r at *
  go_enter Try.func14, Try.ntmps14
  go_wp2_with fail
  go_loopw [3] (fun i wr => ∃ k : Nat, k ≤ vs.length ∧ i = .int .i64 k ∧ Hid (Frame [] w wr ∧ ∀ j (h : j < vs.length), j < k → ∀ n ∈ vs[j].l, ¬ n < 0)) (fun i _ => vs.length - (intOf i).toNat)
  case atStart => exact ⟨0, Nat.zero_le _, rfl, Frame.refl _ _, fun j _ h => by omega⟩
  case round =>
    obtain ⟨k, hk, rfl, hQ⟩ := hrel
    rename World => wr
    by_cases hlt : k < vs.length
    · have g1 : vs[k]? = some vs[k] := by simp [hlt]
      have hms : vs[k] ∈ vs := List.getElem_mem _
      have Hw := H.out.frame hQ.out.1
      obtain ⟨b1, o1, rfl, q1⟩ := RF.atV Hw.rf g1
      have OK := Hw.ok _ hms
      generalize hs : vs[k] = s at q1 OK hms
      have HSs := Lib.hid hs
      have OKH := Lib.hid OK
      have hsl := OK.len
      have Q1 := Lib.hid q1
      clear hs g1 OK Hw q1
      go_wp2_with fail
      go_loopw [4] (fun i wq => ∃ m : Nat, m ≤ s.l.length ∧ i = .int .i64 m ∧ Hid (Frame [] wr wq ∧ ∀ j (h : j < s.l.length), j < m → ¬ s.l[j] < 0)) (fun i _ => s.l.length - (intOf i).toNat)
      case atStart => exact ⟨0, Nat.zero_le _, rfl, Frame.refl _ _, fun j _ h => by omega⟩
      case round =>
        obtain ⟨m, hm, rfl, hP⟩ := hrel
        rename World => wq
        have q1 := hP.out.1.cell Q1.out (by simp)
        by_cases hlt2 : m < s.l.length
        · obtain ⟨b2, o2, e2, hc⟩ := (OKH.out.frame hP.out.1 (by simp)).rd.at hlt2
          rw [e2] at q1
          generalize hx : s.l[m] = x at hc
          have HX := Lib.hid hx
          have E2 := Lib.hid e2
          clear hx e2
          by_cases hneg : x < 0
          · have hd : decide (x < 0) = true := decide_eq_true hneg
            have HNG := Lib.hid hneg
            clear hneg
            go_wp2_with fail
            go_ret
            exact ⟨by
              rw [← HR.out false ⟨(fun e => by cases e), fun hh => by
                have := hh s hms x (by rw [← HX.out]; exact List.getElem_mem _)
                have h2 := HNG.out
                omega⟩]
              rfl, hQ.out.1.trans1 hP.out.1⟩
          · have hd : decide (x < 0) = false := decide_eq_false hneg
            have HNG := Lib.hid hneg
            clear hneg
            go_wp2_with fail
            go_roundw
            case rel => exact ⟨m + 1, by omega, by first | rfl | go_num, hP.out.1, fun j hj hjm => by
              rcases Nat.lt_or_ge j m with h | h
              · exact hP.out.2 j hj h
              · obtain rfl : j = m := by omega
                rw [HX.out]; exact HNG.out⟩
            case measure => first | (simp [intOf]; done) | (simp [intOf]; omega)
        · obtain rfl : m = s.l.length := by omega
          go_wp2_with fail
          go_roundw
          case rel => exact ⟨k + 1, by omega, by first | rfl | go_num, hQ.out.1.trans1 hP.out.1, fun j hj hjk => by
            rcases Nat.lt_or_ge j k with h | h
            · intro n hn
              have := hQ.out.2 j hj h n hn
              omega
            · obtain rfl : j = k := by omega
              rw [HSs.out]
              intro n hn
              obtain ⟨i, hi, rfl⟩ := List.getElem_of_mem hn
              have := hP.out.2 i hi hi
              omega⟩
          case measure => first | (simp [intOf]; done) | (simp [intOf]; omega)
    · obtain rfl : k = vs.length := by omega
      go_wp2_with fail
      go_ret
      exact ⟨by
        rw [← HR.out true ⟨fun _ s hs => by
          obtain ⟨j, hj, rfl⟩ := List.getElem_of_mem hs
          intro n hn
          have := hQ.out.2 j hj hj n hn
          omega, fun _ => rfl⟩]
        rfl, hQ.out.1⟩
end Go.Proofs.Ytojfemaamhampaa
