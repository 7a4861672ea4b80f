/- anti.order: how two sets stand to one another. anti.part: a part of another one, both sorted; slices.Equal over ints. -/
import Derived.Test.YtbnhhmejlglbcaaGreatMa27
import Derived.Test.YtbnhhmejlglbcaaGreatMa28
import Derived.Test.YtbnhhmejlglbcaaGreatMa04
import Derived.IntWalk
import Derived.BigQuiet
import Derived.Sort.Grow
namespace Go.Proofs.YtbnhhmejlglbcaaGreat
open Go.RowKit
set_option linter.unusedSimpArgs false
set_option linter.unusedVariables false

theorem cmpL_at {xs ys : List Int} {k : Nat} (h1 : k < xs.length) (h2 : k < ys.length) : cmpL (xs.drop k) (ys.drop k) = if xs[k] < ys[k] then -1 else if ys[k] < xs[k] then 1 else cmpL (xs.drop (k + 1)) (ys.drop (k + 1)) := by
  rw [List.drop_eq_getElem_cons h1, List.drop_eq_getElem_cons h2]; rfl
theorem cmpL_long {xs ys : List Int} {k : Nat} (h1 : k < xs.length) (h2 : ys.length ≤ k) : cmpL (xs.drop k) (ys.drop k) = 1 := by
  rw [List.drop_eq_getElem_cons h1, List.drop_eq_nil_of_le h2]; rfl
theorem cmpL_short {xs ys : List Int} {k : Nat} (h1 : xs.length ≤ k) (h2 : k < ys.length) : cmpL (xs.drop k) (ys.drop k) = -1 := by
  rw [List.drop_eq_getElem_cons h2, List.drop_eq_nil_of_le h1]; rfl
theorem cmpL_end {xs ys : List Int} {k : Nat} (h1 : xs.length ≤ k) (h2 : ys.length ≤ k) : cmpL (xs.drop k) (ys.drop k) = 0 := by
  rw [List.drop_eq_nil_of_le h1, List.drop_eq_nil_of_le h2]; rfl

set_option maxRecDepth 100000 in
theorem compare_ints (a1 a2 : Option Addr) (c1 c2 : Nat) (xs ys : List Int) (w : World) (h1 : RdI w a1 xs) (h2 : RdI w a2 ys) (l1 : xs.length ≤ 1000000) (l2 : ys.length ≤ 1000000) :
    Calls Tryz.prog 206 #[.slice a1 xs.length c1, .slice a2 ys.length c2] w fun e w' => e = .returned (.int .i64 (cmpL xs ys)) ∧ w' = w := by
  have H1 := Lib.hid h1
  have H2 := Lib.hid h2
  clear h1 h2
  generalize hr : cmpL xs ys = r
  have HR := Lib.hid hr
  clear hr
  go_enter Tryz.func206, Tryz.ntmps206
  go_wp2_with fail
  go_loopw [11] (fun i wr => ∃ k : Nat, k ≤ xs.length ∧ k ≤ ys.length ∧ i = .int .i64 k ∧ wr = w ∧ Hid (r = cmpL (xs.drop k) (ys.drop k))) (fun i _ => xs.length - (intOf i).toNat)
  case atStart => exact ⟨0, Nat.zero_le _, Nat.zero_le _, rfl, rfl, HR.out.symm⟩
  case round =>
    obtain ⟨k, hk, hk2, rfl, rfl, hQ⟩ := hrel
    by_cases hlt : k < xs.length
    · by_cases hlt2 : k < ys.length
      · have hn := cmpL_at hlt hlt2
        obtain ⟨b, off, rfl, hc⟩ := H1.out.at hlt
        obtain ⟨b2, off2, rfl, hc2⟩ := H2.out.at hlt2
        generalize xs[k] = x at *
        generalize ys[k] = y at *
        have hcc := cmp_int x y
        have HN := Lib.hid hn
        clear hn
        have hge : decide ((k : Int) ≥ ys.length) = false := decide_eq_false (by omega)
        rcases Int.lt_trichotomy x y with h | h | h
        · have hci : cmpI x y = -1 := by simp [cmpI, h]
          rw [hci] at hcc
          have HL := Lib.hid h
          clear h
          go_wp2_with fail
          refine (hcc _).mono ?_
          rintro e w' ⟨rfl, rfl⟩
          go_wp2_with fail
          go_ret
          exact ⟨by rw [hQ.out, HN.out, if_pos HL.out]; rfl, rfl⟩
        · subst h
          have hci : cmpI x x = 0 := by simp [cmpI]
          rw [hci] at hcc
          go_wp2_with fail
          refine (hcc _).mono ?_
          rintro e w' ⟨rfl, rfl⟩
          go_wp2_with fail
          go_roundw
          case rel => exact ⟨k + 1, by omega, by omega, by first | rfl | go_num, by first | rfl | trivial, by
            show r = _
            rw [hQ.out, HN.out, if_neg (by omega), if_neg (by omega)]⟩
          case measure => first | (simp [intOf]; done) | (simp [intOf]; omega)
        · have hci : cmpI x y = 1 := by
            have : ¬ x < y := by omega
            simp [cmpI, h, this]
          rw [hci] at hcc
          have HL := Lib.hid h
          clear h
          go_wp2_with fail
          refine (hcc _).mono ?_
          rintro e w' ⟨rfl, rfl⟩
          go_wp2_with fail
          go_ret
          exact ⟨by
            have := HL.out
            rw [hQ.out, HN.out, if_neg (by omega), if_pos this]; rfl, rfl⟩
      · have hn := cmpL_long (ys := ys) hlt (by omega)
        obtain ⟨b, off, rfl, hc⟩ := H1.out.at hlt
        generalize xs[k] = x at *
        have HN := Lib.hid hn
        clear hn
        go_wp2_with fail
        go_ret
        exact ⟨by rw [hQ.out, HN.out]; rfl, rfl⟩
    · obtain rfl : k = xs.length := by omega
      by_cases hlt2 : xs.length < ys.length
      · have HN := Lib.hid (cmpL_short (Nat.le_refl xs.length) hlt2)
        go_wp2_with fail
        go_ret
        exact ⟨by rw [hQ.out, HN.out]; rfl, rfl⟩
      · have HN := Lib.hid (cmpL_end (ys := ys) (Nat.le_refl xs.length) (by omega))
        go_wp2_with fail
        go_ret
        exact ⟨by rw [hQ.out, HN.out]; rfl, rfl⟩

set_option maxRecDepth 100000 in
theorem cmp_or {blk : Nat} (a b : Int) (w : World) (h : Blk w blk 3 #[.int .i64 a, .int .i64 b]) :
    Calls Tryz.prog 205 #[.slice (some ⟨blk, 0, none⟩) 2 2] w fun e w' => e = .returned (.int .i64 (if a = 0 then b else a)) ∧ w' = w := by
  have q0 := h.at 0 rfl
  have q1 := h.at 1 rfl
  clear h
  generalize hr : (if a = 0 then b else a) = r
  have HR := Lib.hid hr
  clear hr
  go_enter Tryz.func205, Tryz.ntmps205
  go_wp2_with fail
  go_loopw [8] (fun i wr => ∃ k : Nat, k ≤ 2 ∧ i = .int .i64 k ∧ wr = w ∧ Hid ((1 ≤ k → a = 0) ∧ (2 ≤ k → b = 0))) (fun i _ => 2 - (intOf i).toNat)
  case atStart => exact ⟨0, by omega, rfl, rfl, fun h => by omega, fun h => by omega⟩
  case round =>
    obtain ⟨k, hk, rfl, rfl, hQ⟩ := hrel
    obtain rfl | rfl | rfl : k = 0 ∨ k = 1 ∨ k = 2 := by omega
    · by_cases ha : a = 0
      · subst ha
        go_wp2_with fail
        go_roundw
        case rel => exact ⟨1, by omega, by first | rfl | go_num, by first | rfl | trivial, (fun _ => by first | rfl | trivial), fun h => by omega⟩
        case measure => first | (simp [intOf]; done) | (simp [intOf]; omega)
      · have HA := Lib.hid ha
        have hne : (a == 0) = false := by simp [ha]
        clear ha
        go_wp2_with fail
        go_ret
        exact ⟨by rw [← HR.out, if_neg HA.out]; rfl, rfl⟩
    · by_cases hb : b = 0
      · subst hb
        go_wp2_with fail
        go_roundw
        case rel => exact ⟨2, by omega, by first | rfl | go_num, by first | rfl | trivial, fun _ => hQ.out.1 (by omega), fun _ => by first | rfl | trivial⟩
        case measure => first | (simp [intOf]; done) | (simp [intOf]; omega)
      · have HB := Lib.hid hb
        have hne : (b == 0) = false := by simp [hb]
        clear hb
        go_wp2_with fail
        go_ret
        exact ⟨by rw [← HR.out, if_pos (hQ.out.1 (by omega))]; rfl, rfl⟩
    · go_wp2_with fail
      go_ret
      exact ⟨by rw [← HR.out, if_pos (hQ.out.1 (by omega)), hQ.out.2 (by omega)]; rfl, rfl⟩

theorem cfO_or (xs ys : List Int) : (if cmpI xs.length ys.length = 0 then cmpL xs ys else cmpI xs.length ys.length) = cfO xs ys := by
  unfold cfO cmpI
  by_cases h1 : xs.length < ys.length
  · have : (xs.length : Int) < ys.length := by omega
    simp [h1]
  · by_cases h2 : ys.length < xs.length
    · simp [h1, h2]
    · simp [h1, h2]
set_option maxRecDepth 100000 in
theorem order_any (a1 a2 : Option Addr) (c1 c2 : Nat) (xs ys : List Int) (w : World) (h1 : RdI w a1 xs) (h2 : RdI w a2 ys) (l1 : xs.length ≤ 1000000) (l2 : ys.length ≤ 1000000) :
    Calls Tryz.prog 191 #[.slice a1 xs.length c1, .slice a2 ys.length c2] w fun e w' => e = .returned (.int .i64 (cfO xs ys)) ∧ ∃ o, w' = w.alloc o := by
  have A := Lib.hid (cmp_int xs.length ys.length)
  have B := Lib.hid (compare_ints a1 a2 c1 c2 xs ys w h1 h2 l1 l2)
  have hr := cfO_or xs ys
  generalize cmpI xs.length ys.length = p at *
  generalize cmpL xs ys = q at *
  generalize cfO xs ys = r at *
  have C : Hid (∀ (blk : Nat) (w : World), Blk w blk 3 #[.int .i64 p, .int .i64 q] → Calls Tryz.prog 205 #[.slice (some ⟨blk, 0, none⟩) 2 2] w fun e w' => e = .returned (.int .i64 r) ∧ w' = w) := by
    intro blk w h
    rw [← hr]
    exact cmp_or p q w h
  clear h1 h2 hr
  go_enter Tryz.func191, Tryz.ntmps191
  go_wp2_with fail
  refine (A.out _).mono ?_
  rintro e w1 ⟨rfl, rfl⟩
  go_wp2_with fail
  refine B.out.mono ?_
  rintro e w1 ⟨rfl, rfl⟩
  go_wp2_with fail
  refine (C.out _ _ (Blk.new _ _ _)).mono ?_
  rintro e w1 ⟨rfl, rfl⟩
  go_wp2_with fail
  go_ret
  exact ⟨rfl, _, rfl⟩
end Go.Proofs.YtbnhhmejlglbcaaGreat

namespace Go.Proofs.YtbnhhmejlglbcaaGreat
open Go.RowKit
set_option linter.unusedSimpArgs false
set_option linter.unusedVariables false

set_option maxRecDepth 100000 in
theorem part_any (a1 a2 : Option Addr) (c1 c2 : Nat) (xs ys : List Int) (w : World) (h1 : RdI w a1 xs) (h2 : RdI w a2 ys) (l1 : xs.length ≤ 1000000) (l2 : ys.length ≤ 1000000) (u1 : Up xs) (u2 : Up ys) :
    Calls Tryz.prog 98 #[.slice a1 xs.length c1, .slice a2 ys.length c2] w fun e w' => e = .returned (.bool (subB xs ys)) ∧ w' = w := by
  have H1 := Lib.hid h1
  have H2 := Lib.hid h2
  have U1 := Lib.hid (List.pairwise_iff_getElem.1 u1)
  have U2 := Lib.hid (List.pairwise_iff_getElem.1 u2)
  clear h1 h2 u1 u2
  have HR : Hid (∀ r, (r = true ↔ Sub xs ys) → r = subB xs ys) := fun r h => by
    cases r with
    | true => exact (subB_iff.2 (h.1 rfl)).symm
    | false => exact (subB_false.2 fun k => by cases h.2 k).symm
  generalize subB xs ys = r at *
  go_enter Tryz.func98, Tryz.ntmps98
  go_wp2_with fail
  go_loopw [5, 10] (fun u i wr => ∃ k m : Nat, k ≤ xs.length ∧ m ≤ ys.length ∧ i = .int .i64 k ∧ u = .int .i64 m ∧ wr = w ∧ Hid ((∀ j (h : j < xs.length), j < k → xs[j] ∈ ys) ∧ ∀ q (h : q < ys.length), q < m → ∀ j (h' : j < xs.length), k ≤ j → ys[q] < xs[j])) (fun _ i _ => xs.length - (intOf i).toNat)
  case atStart => exact ⟨0, 0, Nat.zero_le _, Nat.zero_le _, rfl, rfl, rfl, fun j _ h => by omega, fun q _ h => by omega⟩
  case round =>
    obtain ⟨k, m, hk, hm, rfl, rfl, rfl, hQ⟩ := hrel
    by_cases hlt : k < xs.length
    · obtain ⟨b, off, rfl, hc⟩ := H1.out.at hlt
      have QX : Hid (∀ q (h : q < ys.length), q < m → ys[q] < xs[k]) := fun q h hq => hQ.out.2 q h hq k hlt (Nat.le_refl _)
      generalize hx : xs[k] = x at hc QX
      have HX := Lib.hid hx
      clear hx
      go_wp2_with fail
      go_loopw [5] (fun u wq => ∃ n : Nat, m ≤ n ∧ n ≤ ys.length ∧ u = .int .i64 n ∧ wq = wr ∧ Hid (∀ q (h : q < ys.length), q < n → ys[q] < x)) (fun u _ => ys.length - (intOf u).toNat)
      case atStart => exact ⟨m, Nat.le_refl _, hm, rfl, rfl, QX.out⟩
      case round =>
        obtain ⟨n, hmn, hn, rfl, rfl, hN⟩ := hrel
        by_cases hlt2 : n < ys.length
        · obtain ⟨b2, off2, rfl, hc2⟩ := H2.out.at hlt2
          generalize hy : ys[n] = y at hc2
          have HY := Lib.hid hy
          clear hy
          rcases Int.lt_trichotomy y x with h | h | h
          · have hd : decide (y < x) = true := decide_eq_true h
            have HL := Lib.hid h
            clear h
            go_wp2_with fail
            go_roundw
            case rel => exact ⟨n + 1, by omega, by omega, by first | rfl | go_num, by first | rfl | trivial, fun q hq hqn => by
              rcases Nat.lt_or_ge q n with h | h
              · exact hN.out q hq h
              · obtain rfl : q = n := by omega
                rw [HY.out]; exact HL.out⟩
            case measure => first | (simp [intOf]; done) | (simp [intOf]; omega)
          · subst h
            have hd : decide (y < y) = false := decide_eq_false (by omega)
            have hnl : ((n : Int) == ys.length) = false := by
              have : (n : Int) ≠ ys.length := by omega
              simp [this]
            go_wp2_with fail
            go_roundw
            case rel => exact ⟨k + 1, n, by omega, by omega, by first | rfl | go_num, rfl, by first | rfl | trivial, (fun j hj hjk => by
              rcases Nat.lt_or_ge j k with h | h
              · exact hQ.out.1 j hj h
              · obtain rfl : j = k := by omega
                rw [HX.out, ← HY.out]; exact List.getElem_mem hlt2), fun q hq hqn j hj hkj => by
                have a := hN.out q hq hqn
                have b := U1.out k j hlt hj (by omega)
                rw [HX.out] at b
                omega⟩
            case measure => first | (simp [intOf]; done) | (simp [intOf]; omega)
          · have hd : decide (y < x) = false := decide_eq_false (by omega)
            have hyx : y ≠ x := by omega
            have hne : (y == x) = false := by simp [hyx]
            have hne2 : (y != x) = true := by simp [hyx]
            have hnl : ((n : Int) == ys.length) = false := by
              have : (n : Int) ≠ ys.length := by omega
              simp [this]
            clear hyx
            have HL := Lib.hid h
            clear h
            go_wp2_with fail
            go_ret
            exact ⟨by
              rw [← HR.out false ⟨(fun e => by cases e), fun hs => by
                have hx := hs xs[k] (List.getElem_mem hlt)
                obtain ⟨q, hq, e⟩ := List.getElem_of_mem hx
                rw [HX.out] at e
                have := HL.out
                rcases Nat.lt_trichotomy q n with h | h | h
                · have := hN.out q hq h; omega
                · subst h; rw [HY.out] at e; omega
                · have h3 := U2.out n q hlt2 hq h
                  rw [HY.out] at h3; omega⟩]
              rfl, rfl⟩
        · obtain rfl : n = ys.length := by omega
          go_wp2_with fail
          go_ret
          exact ⟨by
            rw [← HR.out false ⟨(fun e => by cases e), fun hs => by
              have hx := hs xs[k] (List.getElem_mem hlt)
              obtain ⟨q, hq, e⟩ := List.getElem_of_mem hx
              rw [HX.out] at e
              have := hN.out q hq hq
              omega⟩]
            rfl, rfl⟩
    · obtain rfl : k = xs.length := by omega
      go_wp2_with fail
      go_ret
      exact ⟨by
        rw [← HR.out true ⟨fun _ z hz => by
          obtain ⟨j, hj, rfl⟩ := List.getElem_of_mem hz
          exact hQ.out.1 j hj hj, fun _ => rfl⟩]
        rfl, rfl⟩

set_option maxRecDepth 100000 in
theorem equal_ints (a1 a2 : Option Addr) (c1 c2 : Nat) (xs ys : List Int) (w : World) (h1 : RdI w a1 xs) (h2 : RdI w a2 ys) (l1 : xs.length ≤ 1000000) (l2 : ys.length ≤ 1000000) :
    Calls Tryz.prog 193 #[.slice a1 xs.length c1, .slice a2 ys.length c2] w fun e w' => e = .returned (.bool (decide (xs = ys))) ∧ Frame [] w w' := by
  have H1 := Lib.hid h1
  have H2 := Lib.hid h2
  clear h1 h2
  have HR : Hid (∀ r, (r = true ↔ xs = ys) → r = decide (xs = ys)) := fun r h => by
    cases r with
    | true => exact (decide_eq_true (h.1 rfl)).symm
    | false => exact (decide_eq_false fun k => by cases h.2 k).symm
  generalize decide (xs = ys) = r at *
  by_cases hl : xs.length = ys.length
  · go_enter Tryz.func193, Tryz.ntmps193
    go_wp2_with fail
    go_loopw [13] (fun i wr => ∃ k : Nat, k ≤ xs.length ∧ i = .int .i64 k ∧ Hid (Frame [] w wr ∧ ∀ j (h : j < xs.length) (h' : j < ys.length), j < k → xs[j] = ys[j])) (fun i _ => xs.length - (intOf i).toNat)
    case atStart => exact ⟨0, Nat.zero_le _, rfl, Frame.refl _ _, fun j _ _ h => by omega⟩
    case round =>
      obtain ⟨k, hk, rfl, hQ⟩ := hrel
      by_cases hlt : k < xs.length
      · have hlt2 : k < ys.length := by omega
        obtain ⟨b, off, rfl, hc⟩ := (H1.out.frame hQ.out.1).at hlt
        obtain ⟨b2, off2, rfl, hc2⟩ := (H2.out.frame hQ.out.1).at hlt2
        generalize hx : xs[k] = x at hc
        generalize hy : ys[k] = y at hc2
        have HX := Lib.hid hx
        have HY := Lib.hid hy
        clear hx hy
        have q1 := (Frame.drew [] wr).cell hc (by simp)
        have q2 := (Frame.drew [] wr).cell hc2 (by simp)
        by_cases hxy : x = y
        · subst hxy
          go_wp2_with fail
          go_quiet (fail)
          go_wp2_with fail
          go_roundw
          case rel => exact ⟨k + 1, by omega, by first | rfl | go_num, hQ.out.1.trans1 (Frame.drewN _ _ _), fun j hj hj' hjk => by
            rcases Nat.lt_or_ge j k with h | h
            · exact hQ.out.2 j hj hj' h
            · obtain rfl : j = k := by omega
              rw [HX.out, HY.out]⟩
          case measure => first | (simp [intOf]; done) | (simp [intOf]; omega)
        · have hb : (x == y) = false := by simp [hxy]
          have HXY := Lib.hid hxy
          clear hxy
          go_wp2_with fail
          go_quiet (fail)
          go_wp2_with fail
          go_ret
          exact ⟨by
            rw [← HR.out false ⟨(fun e => by cases e), fun e => by
              subst e
              exact absurd (HX.out.symm.trans HY.out) HXY.out⟩]
            rfl, hQ.out.1.trans1 (Frame.drewN _ _ _)⟩
      · obtain rfl : k = xs.length := by omega
        go_wp2_with fail
        go_ret
        exact ⟨by
          rw [← HR.out true ⟨fun _ => List.ext_getElem hl fun j h h' => hQ.out.2 j h h' h, fun _ => rfl⟩]
          rfl, hQ.out.1⟩
  · have hd : ((xs.length : Int) == ys.length) = false := by
      have : (xs.length : Int) ≠ ys.length := by omega
      simp [this]
    go_enter Tryz.func193, Tryz.ntmps193
    go_wp2_with fail
    go_ret
    exact ⟨by
      rw [← HR.out false ⟨(fun e => by cases e), fun e => by subst e; exact absurd rfl hl⟩]
      rfl, Frame.refl _ _⟩
end Go.Proofs.YtbnhhmejlglbcaaGreat

