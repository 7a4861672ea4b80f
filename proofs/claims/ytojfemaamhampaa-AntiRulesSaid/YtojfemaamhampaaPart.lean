/- anti.part: a part of another one, both sorted; slices.Equal over ints. -/
import Derived.Test.YtojfemaamhampaaOrd
namespace Go.Proofs.Ytojfemaamhampaa
open Go.RowKit
set_option linter.unusedSimpArgs false
set_option linter.unusedVariables false

set_option maxRecDepth 100000 in
theorem part_any (a1 a2 : Option Addr) (c1 c2 : Nat) (xs ys : List Int) (w : World) (h1 : RdI w a1 xs) (h2 : RdI w a2 ys) (l1 : xs.length ≤ 1000000) (l2 : ys.length ≤ 1000000) (u1 : Up xs) (u2 : Up ys) :
    Calls Try.prog 41 #[.slice a1 xs.length c1, .slice a2 ys.length c2] w fun e w' => e = .returned (.bool (subB xs ys)) ∧ w' = w := by
  have H1 := Lib.hid h1
  have H2 := Lib.hid h2
  have U1 := Lib.hid (List.pairwise_iff_getElem.1 u1)
  have U2 := Lib.hid (List.pairwise_iff_getElem.1 u2)
  clear h1 h2 u1 u2
  have HR : Hid (∀ r, (r = true ↔ Sub xs ys) → r = subB xs ys) := fun r h => by
    cases r with
    | true => exact (subB_iff.2 (h.1 rfl)).symm
    | false => exact (subB_false.2 fun k => by cases h.2 k).symm
  generalize subB xs ys = r at *
  go_enter Try.func41, Try.ntmps41
  go_wp2_with fail
  go_loopw [5, 10] (fun u i wr => ∃ k m : Nat, k ≤ xs.length ∧ m ≤ ys.length ∧ i = .int .i64 k ∧ u = .int .i64 m ∧ wr = w ∧ Hid ((∀ j (h : j < xs.length), j < k → xs[j] ∈ ys) ∧ ∀ q (h : q < ys.length), q < m → ∀ j (h' : j < xs.length), k ≤ j → ys[q] < xs[j])) (fun _ i _ => xs.length - (intOf i).toNat)
  case atStart => exact ⟨0, 0, Nat.zero_le _, Nat.zero_le _, rfl, rfl, rfl, fun j _ h => by omega, fun q _ h => by omega⟩
  case round =>
    obtain ⟨k, m, hk, hm, rfl, rfl, rfl, hQ⟩ := hrel
    by_cases hlt : k < xs.length
    · obtain ⟨b, off, rfl, hc⟩ := H1.out.at hlt
      have QX : Hid (∀ q (h : q < ys.length), q < m → ys[q] < xs[k]) := fun q h hq => hQ.out.2 q h hq k hlt (Nat.le_refl _)
      generalize hx : xs[k] = x at hc QX
      have HX := Lib.hid hx
      clear hx
      go_wp2_with fail
      go_loopw [5] (fun u wq => ∃ n : Nat, m ≤ n ∧ n ≤ ys.length ∧ u = .int .i64 n ∧ wq = wr ∧ Hid (∀ q (h : q < ys.length), q < n → ys[q] < x)) (fun u _ => ys.length - (intOf u).toNat)
      case atStart => exact ⟨m, Nat.le_refl _, hm, rfl, rfl, QX.out⟩
      case round =>
        obtain ⟨n, hmn, hn, rfl, rfl, hN⟩ := hrel
        by_cases hlt2 : n < ys.length
        · obtain ⟨b2, off2, rfl, hc2⟩ := H2.out.at hlt2
          generalize hy : ys[n] = y at hc2
          have HY := Lib.hid hy
          clear hy
          rcases Int.lt_trichotomy y x with h | h | h
          · have hd : decide (y < x) = true := decide_eq_true h
            have HL := Lib.hid h
            clear h
            go_wp2_with fail
            go_roundw
            case rel => exact ⟨n + 1, by omega, by omega, by first | rfl | go_num, by first | rfl | trivial, fun q hq hqn => by
              rcases Nat.lt_or_ge q n with h | h
              · exact hN.out q hq h
              · obtain rfl : q = n := by omega
                rw [HY.out]; exact HL.out⟩
            case measure => first | (simp [intOf]; done) | (simp [intOf]; omega)
          · subst h
            have hd : decide (y < y) = false := decide_eq_false (by omega)
            have hnl : ((n : Int) == ys.length) = false := by
              have : (n : Int) ≠ ys.length := by omega
              simp [this]
            go_wp2_with fail
            go_roundw
            case rel => exact ⟨k + 1, n, by omega, by omega, by first | rfl | go_num, rfl, by first | rfl | trivial, (fun j hj hjk => by
              rcases Nat.lt_or_ge j k with h | h
              · exact hQ.out.1 j hj h
              · obtain rfl : j = k := by omega
                rw [HX.out, ← HY.out]; exact List.getElem_mem hlt2), fun q hq hqn j hj hkj => by
                have a := hN.out q hq hqn
                have b := U1.out k j hlt hj (by omega)
                rw [HX.out] at b
                omega⟩
            case measure => first | (simp [intOf]; done) | (simp [intOf]; omega)
          · have hd : decide (y < x) = false := decide_eq_false (by omega)
            have hyx : y ≠ x := by omega
            have hne : (y == x) = false := by simp [hyx]
            have hne2 : (y != x) = true := by simp [hyx]
            have hnl : ((n : Int) == ys.length) = false := by
              have : (n : Int) ≠ ys.length := by omega
              simp [this]
            clear hyx
            have HL := Lib.hid h
            clear h
            go_wp2_with fail
            go_ret
            exact ⟨by
              rw [← HR.out false ⟨(fun e => by cases e), fun hs => by
                have hx := hs xs[k] (List.getElem_mem hlt)
                obtain ⟨q, hq, e⟩ := List.getElem_of_mem hx
                rw [HX.out] at e
                have := HL.out
                rcases Nat.lt_trichotomy q n with h | h | h
                · have := hN.out q hq h; omega
                · subst h; rw [HY.out] at e; omega
                · have h3 := U2.out n q hlt2 hq h
                  rw [HY.out] at h3; omega⟩]
              rfl, rfl⟩
        · obtain rfl : n = ys.length := by omega
          go_wp2_with fail
          go_ret
          exact ⟨by
            rw [← HR.out false ⟨(fun e => by cases e), fun hs => by
              have hx := hs xs[k] (List.getElem_mem hlt)
              obtain ⟨q, hq, e⟩ := List.getElem_of_mem hx
              rw [HX.out] at e
              have := hN.out q hq hq
              omega⟩]
            rfl, rfl⟩
    · obtain rfl : k = xs.length := by omega
      go_wp2_with fail
      go_ret
      exact ⟨by
        rw [← HR.out true ⟨fun _ z hz => by
          obtain ⟨j, hj, rfl⟩ := List.getElem_of_mem hz
          exact hQ.out.1 j hj hj, fun _ => rfl⟩]
        rfl, rfl⟩

set_option maxRecDepth 100000 in
theorem equal_ints (a1 a2 : Option Addr) (c1 c2 : Nat) (xs ys : List Int) (w : World) (h1 : RdI w a1 xs) (h2 : RdI w a2 ys) (l1 : xs.length ≤ 1000000) (l2 : ys.length ≤ 1000000) :
    Calls Try.prog 57 #[.slice a1 xs.length c1, .slice a2 ys.length c2] w fun e w' => e = .returned (.bool (decide (xs = ys))) ∧ Frame [] w w' := by
  have H1 := Lib.hid h1
  have H2 := Lib.hid h2
  clear h1 h2
  have HR : Hid (∀ r, (r = true ↔ xs = ys) → r = decide (xs = ys)) := fun r h => by
    cases r with
    | true => exact (decide_eq_true (h.1 rfl)).symm
    | false => exact (decide_eq_false fun k => by cases h.2 k).symm
  generalize decide (xs = ys) = r at *
  by_cases hl : xs.length = ys.length
  · go_enter Try.func57, Try.ntmps57
    go_wp2_with fail
    go_loopw [13] (fun i wr => ∃ k : Nat, k ≤ xs.length ∧ i = .int .i64 k ∧ Hid (Frame [] w wr ∧ ∀ j (h : j < xs.length) (h' : j < ys.length), j < k → xs[j] = ys[j])) (fun i _ => xs.length - (intOf i).toNat)
    case atStart => exact ⟨0, Nat.zero_le _, rfl, Frame.refl _ _, fun j _ _ h => by omega⟩
    case round =>
      obtain ⟨k, hk, rfl, hQ⟩ := hrel
      by_cases hlt : k < xs.length
      · have hlt2 : k < ys.length := by omega
        obtain ⟨b, off, rfl, hc⟩ := (H1.out.frame hQ.out.1).at hlt
        obtain ⟨b2, off2, rfl, hc2⟩ := (H2.out.frame hQ.out.1).at hlt2
        generalize hx : xs[k] = x at hc
        generalize hy : ys[k] = y at hc2
        have HX := Lib.hid hx
        have HY := Lib.hid hy
        clear hx hy
        have q1 := (Frame.drew [] wr).cell hc (by simp)
        have q2 := (Frame.drew [] wr).cell hc2 (by simp)
        by_cases hxy : x = y
        · subst hxy
          go_wp2_with fail
          go_quiet (fail)
          go_wp2_with fail
          go_roundw
          case rel => exact ⟨k + 1, by omega, by first | rfl | go_num, hQ.out.1.trans1 (Frame.drewN _ _ _), fun j hj hj' hjk => by
            rcases Nat.lt_or_ge j k with h | h
            · exact hQ.out.2 j hj hj' h
            · obtain rfl : j = k := by omega
              rw [HX.out, HY.out]⟩
          case measure => first | (simp [intOf]; done) | (simp [intOf]; omega)
        · have hb : (x == y) = false := by simp [hxy]
          have HXY := Lib.hid hxy
          clear hxy
          go_wp2_with fail
          go_quiet (fail)
          go_wp2_with fail
          go_ret
          exact ⟨by
            rw [← HR.out false ⟨(fun e => by cases e), fun e => by
              subst e
              exact absurd (HX.out.symm.trans HY.out) HXY.out⟩]
            rfl, hQ.out.1.trans1 (Frame.drewN _ _ _)⟩
      · obtain rfl : k = xs.length := by omega
        go_wp2_with fail
        go_ret
        exact ⟨by
          rw [← HR.out true ⟨fun _ => List.ext_getElem hl fun j h h' => hQ.out.2 j h h' h, fun _ => rfl⟩]
          rfl, hQ.out.1⟩
  · have hd : ((xs.length : Int) == ys.length) = false := by
      have : (xs.length : Int) ≠ ys.length := by omega
      simp [this]
    go_enter Try.func57, Try.ntmps57
    go_wp2_with fail
    go_ret
    exact ⟨by
      rw [← HR.out false ⟨(fun e => by cases e), fun e => by subst e; exact absurd rfl hl⟩]
      rfl, Frame.refl _ _⟩
end Go.Proofs.Ytojfemaamhampaa
