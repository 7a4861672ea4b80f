/- anti.order: how two sets stand to one another. -/
import Derived.Test.YtojfemaamhampaaAntiPure
import Derived.Test.YtojfemaamhampaaRf
import Derived.Test.YtojfemaamhampaaIdxInt
import Derived.IntWalk
import Derived.BigQuiet
import Derived.Sort.Grow
namespace Go.Proofs.Ytojfemaamhampaa
open Go.RowKit
set_option linter.unusedSimpArgs false
set_option linter.unusedVariables false

theorem cmpL_at {xs ys : List Int} {k : Nat} (h1 : k < xs.length) (h2 : k < ys.length) : cmpL (xs.drop k) (ys.drop k) = if xs[k] < ys[k] then -1 else if ys[k] < xs[k] then 1 else cmpL (xs.drop (k + 1)) (ys.drop (k + 1)) := by
  rw [List.drop_eq_getElem_cons h1, List.drop_eq_getElem_cons h2]; rfl
theorem cmpL_long {xs ys : List Int} {k : Nat} (h1 : k < xs.length) (h2 : ys.length ≤ k) : cmpL (xs.drop k) (ys.drop k) = 1 := by
  rw [List.drop_eq_getElem_cons h1, List.drop_eq_nil_of_le h2]; rfl
theorem cmpL_short {xs ys : List Int} {k : Nat} (h1 : xs.length ≤ k) (h2 : k < ys.length) : cmpL (xs.drop k) (ys.drop k) = -1 := by
  rw [List.drop_eq_getElem_cons h2, List.drop_eq_nil_of_le h1]; rfl
theorem cmpL_end {xs ys : List Int} {k : Nat} (h1 : xs.length ≤ k) (h2 : ys.length ≤ k) : cmpL (xs.drop k) (ys.drop k) = 0 := by
  rw [List.drop_eq_nil_of_le h1, List.drop_eq_nil_of_le h2]; rfl

set_option maxRecDepth 100000 in
theorem compare_ints (a1 a2 : Option Addr) (c1 c2 : Nat) (xs ys : List Int) (w : World) (h1 : RdI w a1 xs) (h2 : RdI w a2 ys) (l1 : xs.length ≤ 1000000) (l2 : ys.length ≤ 1000000) :
    Calls Try.prog 78 #[.slice a1 xs.length c1, .slice a2 ys.length c2] w fun e w' => e = .returned (.int .i64 (cmpL xs ys)) ∧ w' = w := by
  have H1 := Lib.hid h1
  have H2 := Lib.hid h2
  clear h1 h2
  generalize hr : cmpL xs ys = r
  have HR := Lib.hid hr
  clear hr
  go_enter Try.func78, Try.ntmps78
  go_wp2_with fail
  go_loopw [11] (fun i wr => ∃ k : Nat, k ≤ xs.length ∧ k ≤ ys.length ∧ i = .int .i64 k ∧ wr = w ∧ Hid (r = cmpL (xs.drop k) (ys.drop k))) (fun i _ => xs.length - (intOf i).toNat)
  case atStart => exact ⟨0, Nat.zero_le _, Nat.zero_le _, rfl, rfl, HR.out.symm⟩
  case round =>
    obtain ⟨k, hk, hk2, rfl, rfl, hQ⟩ := hrel
    by_cases hlt : k < xs.length
    · by_cases hlt2 : k < ys.length
      · have hn := cmpL_at hlt hlt2
        obtain ⟨b, off, rfl, hc⟩ := H1.out.at hlt
        obtain ⟨b2, off2, rfl, hc2⟩ := H2.out.at hlt2
        generalize xs[k] = x at *
        generalize ys[k] = y at *
        have hcc := cmp_int x y
        have HN := Lib.hid hn
        clear hn
        have hge : decide ((k : Int) ≥ ys.length) = false := decide_eq_false (by omega)
        rcases Int.lt_trichotomy x y with h | h | h
        · have hci : cmpI x y = -1 := by simp [cmpI, h]
          rw [hci] at hcc
          have HL := Lib.hid h
          clear h
          go_wp2_with fail
          refine (hcc _).mono ?_
          rintro e w' ⟨rfl, rfl⟩
          go_wp2_with fail
          go_ret
          exact ⟨by rw [hQ.out, HN.out, if_pos HL.out]; rfl, rfl⟩
        · subst h
          have hci : cmpI x x = 0 := by simp [cmpI]
          rw [hci] at hcc
          go_wp2_with fail
          refine (hcc _).mono ?_
          rintro e w' ⟨rfl, rfl⟩
          go_wp2_with fail
          go_roundw
          case rel => exact ⟨k + 1, by omega, by omega, by first | rfl | go_num, by first | rfl | trivial, by
            show r = _
            rw [hQ.out, HN.out, if_neg (by omega), if_neg (by omega)]⟩
          case measure => first | (simp [intOf]; done) | (simp [intOf]; omega)
        · have hci : cmpI x y = 1 := by
            have : ¬ x < y := by omega
            simp [cmpI, h, this]
          rw [hci] at hcc
          have HL := Lib.hid h
          clear h
          go_wp2_with fail
          refine (hcc _).mono ?_
          rintro e w' ⟨rfl, rfl⟩
          go_wp2_with fail
          go_ret
          exact ⟨by
            have := HL.out
            rw [hQ.out, HN.out, if_neg (by omega), if_pos this]; rfl, rfl⟩
      · have hn := cmpL_long (ys := ys) hlt (by omega)
        obtain ⟨b, off, rfl, hc⟩ := H1.out.at hlt
        generalize xs[k] = x at *
        have HN := Lib.hid hn
        clear hn
        go_wp2_with fail
        go_ret
        exact ⟨by rw [hQ.out, HN.out]; rfl, rfl⟩
    · obtain rfl : k = xs.length := by omega
      by_cases hlt2 : xs.length < ys.length
      · have HN := Lib.hid (cmpL_short (Nat.le_refl xs.length) hlt2)
        go_wp2_with fail
        go_ret
        exact ⟨by rw [hQ.out, HN.out]; rfl, rfl⟩
      · have HN := Lib.hid (cmpL_end (ys := ys) (Nat.le_refl xs.length) (by omega))
        go_wp2_with fail
        go_ret
        exact ⟨by rw [hQ.out, HN.out]; rfl, rfl⟩

set_option maxRecDepth 100000 in
theorem cmp_or {blk : Nat} (a b : Int) (w : World) (h : Blk w blk 3 #[.int .i64 a, .int .i64 b]) :
    Calls Try.prog 76 #[.slice (some ⟨blk, 0, none⟩) 2 2] w fun e w' => e = .returned (.int .i64 (if a = 0 then b else a)) ∧ w' = w := by
  have q0 := h.at 0 rfl
  have q1 := h.at 1 rfl
  clear h
  generalize hr : (if a = 0 then b else a) = r
  have HR := Lib.hid hr
  clear hr
  go_enter Try.func76, Try.ntmps76
  go_wp2_with fail
  go_loopw [8] (fun i wr => ∃ k : Nat, k ≤ 2 ∧ i = .int .i64 k ∧ wr = w ∧ Hid ((1 ≤ k → a = 0) ∧ (2 ≤ k → b = 0))) (fun i _ => 2 - (intOf i).toNat)
  case atStart => exact ⟨0, by omega, rfl, rfl, fun h => by omega, fun h => by omega⟩
  case round =>
    obtain ⟨k, hk, rfl, rfl, hQ⟩ := hrel
    obtain rfl | rfl | rfl : k = 0 ∨ k = 1 ∨ k = 2 := by omega
    · by_cases ha : a = 0
      · subst ha
        go_wp2_with fail
        go_roundw
        case rel => exact ⟨1, by omega, by first | rfl | go_num, by first | rfl | trivial, (fun _ => by first | rfl | trivial), fun h => by omega⟩
        case measure => first | (simp [intOf]; done) | (simp [intOf]; omega)
      · have HA := Lib.hid ha
        have hne : (a == 0) = false := by simp [ha]
        clear ha
        go_wp2_with fail
        go_ret
        exact ⟨by rw [← HR.out, if_neg HA.out]; rfl, rfl⟩
    · by_cases hb : b = 0
      · subst hb
        go_wp2_with fail
        go_roundw
        case rel => exact ⟨2, by omega, by first | rfl | go_num, by first | rfl | trivial, fun _ => hQ.out.1 (by omega), fun _ => by first | rfl | trivial⟩
        case measure => first | (simp [intOf]; done) | (simp [intOf]; omega)
      · have HB := Lib.hid hb
        have hne : (b == 0) = false := by simp [hb]
        clear hb
        go_wp2_with fail
        go_ret
        exact ⟨by rw [← HR.out, if_pos (hQ.out.1 (by omega))]; rfl, rfl⟩
    · go_wp2_with fail
      go_ret
      exact ⟨by rw [← HR.out, if_pos (hQ.out.1 (by omega)), hQ.out.2 (by omega)]; rfl, rfl⟩

theorem cfO_or (xs ys : List Int) : (if cmpI xs.length ys.length = 0 then cmpL xs ys else cmpI xs.length ys.length) = cfO xs ys := by
  unfold cfO cmpI
  by_cases h1 : xs.length < ys.length
  · have : (xs.length : Int) < ys.length := by omega
    simp [h1]
  · by_cases h2 : ys.length < xs.length
    · simp [h1, h2]
    · simp [h1, h2]
set_option maxRecDepth 100000 in
theorem order_any (a1 a2 : Option Addr) (c1 c2 : Nat) (xs ys : List Int) (w : World) (h1 : RdI w a1 xs) (h2 : RdI w a2 ys) (l1 : xs.length ≤ 1000000) (l2 : ys.length ≤ 1000000) :
    Calls Try.prog 55 #[.slice a1 xs.length c1, .slice a2 ys.length c2] w fun e w' => e = .returned (.int .i64 (cfO xs ys)) ∧ ∃ o, w' = w.alloc o := by
  have A := Lib.hid (cmp_int xs.length ys.length)
  have B := Lib.hid (compare_ints a1 a2 c1 c2 xs ys w h1 h2 l1 l2)
  have hr := cfO_or xs ys
  generalize cmpI xs.length ys.length = p at *
  generalize cmpL xs ys = q at *
  generalize cfO xs ys = r at *
  have C : Hid (∀ (blk : Nat) (w : World), Blk w blk 3 #[.int .i64 p, .int .i64 q] → Calls Try.prog 76 #[.slice (some ⟨blk, 0, none⟩) 2 2] w fun e w' => e = .returned (.int .i64 r) ∧ w' = w) := by
    intro blk w h
    rw [← hr]
    exact cmp_or p q w h
  clear h1 h2 hr
  go_enter Try.func55, Try.ntmps55
  go_wp2_with fail
  refine (A.out _).mono ?_
  rintro e w1 ⟨rfl, rfl⟩
  go_wp2_with fail
  refine B.out.mono ?_
  rintro e w1 ⟨rfl, rfl⟩
  go_wp2_with fail
  refine (C.out _ _ (Blk.new _ _ _)).mono ?_
  rintro e w1 ⟨rfl, rfl⟩
  go_wp2_with fail
  go_ret
  exact ⟨rfl, _, rfl⟩
end Go.Proofs.Ytojfemaamhampaa
