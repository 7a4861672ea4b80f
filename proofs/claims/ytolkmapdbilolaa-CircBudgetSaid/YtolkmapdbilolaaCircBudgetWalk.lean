/- The law CircBudget, walked. -/
import Derived.Test.YtolkmapdbilolaaAwake13
namespace Go.Proofs.Ytolkmapdbilolaa
open Go.RowKit
set_option linter.unusedSimpArgs false
set_option linter.unusedVariables false

/-- So many tokens' gates. -/
def vl (k : Nat) : List Gt := init ++ (List.range k).map fun (j : Nat) => (⟨3, (j : Int) + 1, 0⟩ : Gt)
theorem vl_len (k : Nat) : (vl k).length = k + 2 := by simp [vl, init]
theorem find_app (g : Gt) (l m : List Gt) (i : Nat) : find g (l ++ m) i = (match find g l i with | some k => some k | none => find g m (i + l.length)) := by
  induction l generalizing i with
  | nil => simp [find]
  | cons h t ih =>
    simp only [List.cons_append, find]
    by_cases e : g = h
    · simp [e]
    · simp only [if_neg e, ih]
      simp [Nat.add_comm, Nat.add_left_comm]
theorem find_range (i : Nat) : ∀ (k s : Nat), find ⟨3, (i : Int) + 1, 0⟩ ((List.range k).map fun (j : Nat) => (⟨3, (j : Int) + 1, 0⟩ : Gt)) s = if i < k then some (s + i) else none := by
  intro k
  induction k with
  | zero => intro s; simp [find]
  | succ k ih =>
    intro s
    rw [List.range_succ, List.map_append, find_app, ih]
    by_cases h : i < k
    · simp [h, Nat.lt_succ_of_lt h]
    · simp only [if_neg h, List.map_cons, List.map_nil, find, Gt.mk.injEq, List.length_map, List.length_range]
      by_cases e : i = k
      · subst e; simp
      · have : ¬ i < k + 1 := by omega
        simp [this]; omega
theorem find_vl (i k : Nat) : find ⟨3, (i : Int) + 1, 0⟩ (vl k) 0 = if i < k then some (i + 2) else none := by
  unfold vl
  rw [find_app, find_range]
  simp [init, find]
  by_cases h : i < k <;> simp [h]; omega
theorem vl_succ (k : Nat) : vl k ++ [⟨3, (k : Int) + 1, 0⟩] = vl (k + 1) := by simp [vl, List.range_succ]

theorem var_old (i k : Nat) (left : Int) (h : i < k) : mkVar ((i : Int) + 1) (vl k) left = (((i : Int) + 2, 0), vl k, left) := by
  have h1 : ¬ ((i : Int) + 1 < 1) := by omega
  simp [mkVar, put, find_vl, h, h1]
theorem var_new (k : Nat) (left : Int) (h : 1 ≤ left) : mkVar ((k : Int) + 1) (vl k) left = (((k : Int) + 2, 0), vl (k + 1), left - 1) := by
  have h1 : ¬ ((k : Int) + 1 < 1) := by omega
  simp [mkVar, put, find_vl, h, h1, vl_succ, vl_len]
theorem var_full (i k : Nat) (h : k ≤ i) : mkVar ((i : Int) + 1) (vl k) 0 = ((0, 10), vl k, 0) := by
  have h1 : ¬ ((i : Int) + 1 < 1) := by omega
  have h2 : ¬ i < k := by omega
  simp [mkVar, put, find_vl, h2, h1]

theorem circBudget_out (b n : Int) (w : World) (h : b < 0 ∨ 60 < b ∨ n < 0 ∨ 80 < n) :
    Calls Try.prog 3 #[.int .i64 b, .int .i64 n] w fun e w' => e = .returned (.bool true) ∧ Frame [] w w' := by
  by_cases h1 : b < 0
  · clear h
    go_enter Try.func3, Try.ntmps3
    go_wp2_with (go_at_call 15; refine (awake13 _).mono ?_; rintro e w' ⟨rfl, f⟩)
    go_ret
    exact ⟨rfl, f⟩
  by_cases h2 : 60 < b
  · clear h
    go_enter Try.func3, Try.ntmps3
    go_wp2_with (go_at_call 15; refine (awake13 _).mono ?_; rintro e w' ⟨rfl, f⟩)
    go_ret
    exact ⟨rfl, f⟩
  by_cases h3 : n < 0
  · clear h
    go_enter Try.func3, Try.ntmps3
    go_wp2_with (go_at_call 15; refine (awake13 _).mono ?_; rintro e w' ⟨rfl, f⟩)
    go_ret
    exact ⟨rfl, f⟩
  · have h4 : 80 < n := by omega
    clear h
    go_enter Try.func3, Try.ntmps3
    go_wp2_with (go_at_call 15; refine (awake13 _).mono ?_; rintro e w' ⟨rfl, f⟩)
    go_ret
    exact ⟨rfl, f⟩

set_option maxRecDepth 100000 in
set_option maxHeartbeats 1000000 in
theorem circBudget_in (b : Int) (n r : Nat) (w : World) (h1 : 0 ≤ b) (h2 : b ≤ 60) (h3 : n ≤ 80) (hr : (b < 2 ∧ r = 0) ∨ (2 ≤ b ∧ b = r + 2)) :
    Calls Try.prog 3 #[.int .i64 b, .int .i64 n] w fun e w' => e = .returned (.bool true) ∧ Frame [] w w' := by
  have hroom : Hid (room b = r) := by show room b = r; unfold room; omega
  go_enter Try.func3, Try.ntmps3
  go_wp2_with fail
  refine (new_any b _).mono ?_
  rintro e w1 ⟨pb, rfl, F1, s1, f1, n1⟩
  rw [hroom.out] at s1
  have O := Lib.hid (show Own w pb (vl 0) (r : Int) w1 from ⟨F1, s1, f1, n1⟩)
  clear s1 f1 n1
  rcases hr with ⟨q1, rfl⟩ | ⟨q1, rfl⟩
  · go_wp2_with fail
    go_loopw [7] (fun i wr => ∃ k : Nat, k ≤ n ∧ i = .int .i64 k ∧ Hid (Own w pb (vl (min k 0)) (((0 : Nat) : Int) - ((min k 0 : Nat) : Int)) wr)) (fun i _ => n - (intOf i).toNat)
    case atStart => exact ⟨0, Nat.zero_le _, rfl, by simpa [Hid] using O.out⟩
    case round =>
      obtain ⟨k, hk, rfl, hO⟩ := hrel
      by_cases hlt : k < n
      · obtain ⟨F2, s2, f2, n2⟩ := hO.out
        rw [Nat.min_eq_right (by omega)] at s2
        have hc := var_any pb F2 (vl 0) 0 ((k : Int) + 1) wr (by simpa using s2) (by rw [vl_len]; omega)
        rw [var_full k 0 (by omega)] at hc
        go_wp2_with fail
        refine hc.mono ?_
        clear hc
        rintro e w3 ⟨rfl, he⟩
        have O3 := Lib.hid (Own.next f2 n2 he)
        clear he s2 f2 n2
        go_wp2_with fail
        go_roundw
        case rel =>
          refine ⟨k + 1, by omega, by go_num, ?_⟩
          rw [Nat.min_eq_right (by omega)]
          simp only [Hid]
          simpa using O3.out
        case measure => simp [intOf]; omega
      · have hkn : k = n := by omega
        subst hkn
        go_wp2_with fail
        go_loopw [10] (fun i wr => ∃ j : Nat, j ≤ k ∧ i = .int .i64 j ∧ Hid (Own w pb (vl (min k 0)) (((0 : Nat) : Int) - ((min k 0 : Nat) : Int)) wr)) (fun i _ => k - (intOf i).toNat)
        case atStart => exact ⟨0, Nat.zero_le _, rfl, hO.out⟩
        case round =>
            rename World => wr2
            obtain ⟨j, hj, rfl, hP⟩ := hrel
            obtain ⟨F2, s2, f2, n2⟩ := hP.out
            have hl := vl_len (min k 0)
            have hL := len_any pb F2 _ _ wr2 s2
            rw [hl] at hL
            clear hl s2
            rw [show min k 0 = 0 from by omega, show ((0 + 2 : Nat) : Int) = 2 from rfl] at hL
            rcases Nat.eq_zero_or_pos k with hk0 | hk0
            · subst hk0
              have hjk : ¬ j < 0 := by omega
              simp only [Int.natCast_zero] at *
              go_wp2_with fail
              refine hL.mono ?_
              rintro e w3 ⟨rfl, rfl⟩
              clear hL
              go_wp2_with fail
              refine (awake13 _).mono ?_
              rintro e w4 ⟨rfl, f4⟩
              go_wp2_with fail
              go_ret
              exact ⟨rfl, f2.trans1 f4⟩
            · by_cases hjk : j < k
              all_goals
                go_wp2_with fail
                refine hL.mono ?_
                rintro e w3 ⟨rfl, rfl⟩
                clear hL
                go_wp2_with fail
                refine (awake13 _).mono ?_
                rintro e w4 ⟨rfl, f4⟩
                go_wp2_with fail
                go_ret
                exact ⟨rfl, f2.trans1 f4⟩
  · go_wp2_with fail
    go_loopw [7] (fun i wr => ∃ k : Nat, k ≤ n ∧ i = .int .i64 k ∧ Hid (Own w pb (vl (min k r)) (((r : Nat) : Int) - ((min k r : Nat) : Int)) wr)) (fun i _ => n - (intOf i).toNat)
    case atStart => exact ⟨0, Nat.zero_le _, rfl, by simpa [Hid] using O.out⟩
    case round =>
      obtain ⟨k, hk, rfl, hO⟩ := hrel
      by_cases hlt : k < n
      · obtain ⟨F2, s2, f2, n2⟩ := hO.out
        by_cases hkr : k < r
        · rw [Nat.min_eq_left (Nat.le_of_lt hkr)] at s2
          have hc := var_any pb F2 (vl k) ((r : Int) - k) ((k : Int) + 1) wr s2 (by rw [vl_len]; omega)
          rw [var_new k _ (by omega)] at hc
          go_wp2_with fail
          refine hc.mono ?_
          clear hc
          rintro e w3 ⟨rfl, he⟩
          have O3 := Lib.hid (Own.next f2 n2 he)
          clear he s2 f2 n2
          go_wp2_with fail
          go_roundw
          case rel =>
            refine ⟨k + 1, by omega, by go_num, ?_⟩
            rw [Nat.min_eq_left (by omega)]
            have := O3.out
            simp only [Hid]
            rw [show ((r : Int) - ((k + 1 : Nat) : Int)) = (r : Int) - k - 1 from by omega]
            exact this
          case measure => simp [intOf]; omega
        · rw [Nat.min_eq_right (by omega)] at s2
          have hc := var_any pb F2 (vl r) 0 ((k : Int) + 1) wr (by simpa using s2) (by rw [vl_len]; omega)
          rw [var_full k r (by omega)] at hc
          go_wp2_with fail
          refine hc.mono ?_
          clear hc
          rintro e w3 ⟨rfl, he⟩
          have O3 := Lib.hid (Own.next f2 n2 he)
          clear he s2 f2 n2
          go_wp2_with fail
          go_roundw
          case rel =>
            refine ⟨k + 1, by omega, by go_num, ?_⟩
            rw [Nat.min_eq_right (by omega)]
            simp only [Hid]
            simpa using O3.out
          case measure => simp [intOf]; omega
      · have hkn : k = n := by omega
        subst hkn
        go_wp2_with fail
        go_loopw [10] (fun i wr => ∃ j : Nat, j ≤ k ∧ i = .int .i64 j ∧ Hid (Own w pb (vl (min k r)) (((r : Nat) : Int) - ((min k r : Nat) : Int)) wr)) (fun i _ => k - (intOf i).toNat)
        case atStart => exact ⟨0, Nat.zero_le _, rfl, hO.out⟩
        case round =>
            rename World => wr2
            obtain ⟨j, hj, rfl, hP⟩ := hrel
            by_cases hlt2 : j < k ∧ j < r
            · obtain ⟨hj1, hj2⟩ := hlt2
              obtain ⟨F2, s2, f2, n2⟩ := hP.out
              have hc := var_any pb F2 (vl (min k r)) ((r : Int) - ((min k r : Nat) : Int)) ((j : Int) + 1) wr2 s2 (by rw [vl_len]; omega)
              rw [var_old j (min k r) _ (by omega)] at hc
              go_wp2_with fail
              refine hc.mono ?_
              clear hc
              rintro e w3 ⟨rfl, he⟩
              have O3 := Lib.hid (Own.next f2 n2 he)
              clear he s2 f2 n2
              go_wp2_with fail
              go_roundw
              case rel => exact ⟨j + 1, by omega, by go_num, O3.out⟩
              case measure => simp [intOf]; omega
            · obtain ⟨F2, s2, f2, n2⟩ := hP.out
              have hl := vl_len (min k r)
              have hL := len_any pb F2 _ _ wr2 s2
              rw [hl] at hL
              clear hl s2
              rcases (by omega : k ≤ r ∨ r < k) with hkr | hkr
              · rw [show min k r = k from by omega] at hL
                have hjk : ¬ j < k := by omega
                all_goals
                  go_wp2_with fail
                  refine hL.mono ?_
                  rintro e w3 ⟨rfl, rfl⟩
                  clear hL
                  go_wp2_with fail
                  refine (awake13 _).mono ?_
                  rintro e w4 ⟨rfl, f4⟩
                  go_wp2_with fail
                  go_ret
                  exact ⟨rfl, f2.trans1 f4⟩
              · rw [show min k r = r from by omega] at hL
                by_cases hjk : j < k
                all_goals
                  go_wp2_with fail
                  refine hL.mono ?_
                  rintro e w3 ⟨rfl, rfl⟩
                  clear hL
                  go_wp2_with fail
                  refine (awake13 _).mono ?_
                  rintro e w4 ⟨rfl, f4⟩
                  go_wp2_with fail
                  go_ret
                  exact ⟨rfl, f2.trans1 f4⟩

end Go.Proofs.Ytolkmapdbilolaa
