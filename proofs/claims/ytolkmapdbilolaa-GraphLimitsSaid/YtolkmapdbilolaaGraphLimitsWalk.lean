/- The law GraphLimits, walked. -/
import Derived.Test.YtolkmapdbilolaaGval2
import Derived.Test.YtolkmapdbilolaaAwake10
import Derived.Test.YtolkmapdbilolaaRound
import Derived.Laws.BytesArg
namespace Go.Proofs.Ytolkmapdbilolaa
open Go.RowKit
set_option linter.unusedSimpArgs false
set_option linter.unusedVariables false

/-- The name with a number. -/
def nm (i : Nat) : ByteArray := ⟨#[UInt8.ofNat (97 + i % 26), UInt8.ofNat (97 + i / 26)]⟩
theorem nm_size (i : Nat) : (nm i).size ≤ 9223372036854775807 := by show 2 ≤ 9223372036854775807; omega
theorem conv_two (x y : Int) (w : World) : (convert 62 9 (.slice (some ⟨w.heap.size, 0, none⟩) 2 2)).run Try.prog (w.alloc (.cells #[.int .u8 x, .int .u8 y] 5)) = .ok (.string (strOfNums [x, y])) (w.alloc (.cells #[.int .u8 x, .int .u8 y] 5)) :=
  run_convert_bytes_arg _ 62 5 Try.underlying62 Try.underlying5 _ 0 2 2 [x, y] rfl (fun i hi => by
    rw [Nat.zero_add]
    rcases (by omega : i = 0 ∨ i = 1) with rfl | rfl
    · exact (Blk.new w _ _).at 0 rfl
    · exact (Blk.new w _ _).at 1 rfl) 9 Try.underlying9
set_option maxRecDepth 100000 in
theorem names_any (i : Nat) (w : World) (h : i ≤ 80) : Calls Try.prog 35 #[.int .i64 i] w fun e w' => e = .returned (.string (nm i)) ∧ Frame [] w w' := by
  have a1 : (0 : Int) ≤ (i : Int) := by omega
  have a2 : (i : Int) ≤ 80 := by omega
  have hcv := conv_two
  have he : Hid (strOfNums [97 + (i : Int) % 26, 97 + (i : Int) / 26] = nm i) := by
    show strOfNums [97 + (i : Int) % 26, 97 + (i : Int) / 26] = nm i
    unfold strOfNums nm
    simp only [List.map_cons, List.map_nil]
    rw [show (97 + (i : Int) % 26).toNat = 97 + i % 26 by omega, show (97 + (i : Int) / 26).toNat = 97 + i / 26 by omega]
  go_enter Try.func35, Try.ntmps35
  go_wp2_with fail
  go_ret
  rw [he.out]
  exact ⟨rfl, Frame.alloc _ _ _⟩
theorem entered_names : Entered 35 := by intro args w; simp [go_sem]

def L0 (i : Nat) : List Nv := (List.range (min i 12)).map fun (j : Nat) => ((j : Int) + 1, [], [])
def E1 (i : Nat) : List Ed := (List.range (min i 60)).map fun (j : Nat) => ⟨(j : Int) + 1, 1, ⟨#[97]⟩, 1⟩
def L2 (i : Nat) : List Nv := [(1, (List.range (min i 8)).map nm, [])]
def L3 (i : Nat) : List Nv := [(1, [], (List.range (min i 8)).map fun (j : Nat) => ⟨nm j, ⟨#[120]⟩⟩)]
set_option maxRecDepth 100000 in
theorem fact0 : ∀ i : Fin 80, vAddNode (L0 i.val) ((i.val : Int) + 1) = (if i.val < 12 then 0 else 5, L0 (i.val + 1)) := by decide +kernel
set_option maxRecDepth 100000 in
theorem fact1 : ∀ i : Fin 80, vAdd [(1, [], [])] (E1 i.val) ((min i.val 60 : Nat) : Int) 1 ⟨#[97]⟩ 1 = ((if i.val < 60 then (i.val : Int) + 1 else 0, if i.val < 60 then 0 else 5), E1 (i.val + 1), ((min (i.val + 1) 60 : Nat) : Int)) := by decide +kernel
set_option maxRecDepth 100000 in
theorem fact2 : ∀ i : Fin 80, vLabel (L2 i.val) 1 (nm i.val) = (if i.val < 8 then 0 else 5, L2 (i.val + 1)) := by decide +kernel
set_option maxRecDepth 100000 in
theorem fact2e : ∀ i : Fin 80, vLabel (L2 (i.val + 1)) 1 (nm 0) = (0, L2 (i.val + 1)) := by decide +kernel
set_option maxRecDepth 100000 in
theorem fact3 : ∀ i : Fin 80, vSet (L3 i.val) 1 (nm i.val) ⟨#[120]⟩ = (if i.val < 8 then 0 else 5, L3 (i.val + 1)) := by decide +kernel
set_option maxRecDepth 100000 in
theorem fact3e : ∀ i : Fin 80, (vSet (L3 (i.val + 1)) 1 (nm 0) ⟨#[121]⟩).1 = 0 := by decide +kernel

set_option maxRecDepth 100000 in
theorem graphLimits_out (a b : Int) (w : World) (h : a < 0 ∨ 80 < a) :
    Calls Try.prog 9 #[.int .i64 a, .int .i64 b] w fun e w' => e = .returned (.bool true) ∧ Frame [] w w' := by
  by_cases h0 : a < 0
  · clear h
    go_enter Try.func9, Try.ntmps9
    go_wp2_with (go_at_call 26; refine (awake10 _).mono ?_; rintro e w' ⟨rfl, f⟩)
    go_ret
    exact ⟨rfl, f⟩
  · have h1 : 80 < a := by omega
    clear h
    go_enter Try.func9, Try.ntmps9
    go_wp2_with (go_at_call 26; refine (awake10 _).mono ?_; rintro e w' ⟨rfl, f⟩)
    go_ret
    exact ⟨rfl, f⟩

set_option maxRecDepth 100000 in
set_option maxHeartbeats 4000000 in
theorem graphLimits_0 (n : Nat) (b : Int) (w : World) (hn : n ≤ 80) (hm : b % 4 = 0) (hb1 : -9223372036854775808 ≤ b) (hb2 : b ≤ 9223372036854775807) :
    Calls Try.prog 9 #[.int .i64 n, .int .i64 b] w fun e w' => e = .returned (.bool true) ∧ Frame [] w w' := by
  have hr := fun w => round_any b 4 w (by omega) (by omega) hb1 hb2
  rw [hm] at hr
  have HR := Lib.hid hr
  clear hr hm hb1 hb2
  have hn0 : ¬ (n : Int) < 0 := by omega
  have hn1 : ¬ 80 < (n : Int) := by omega
  go_enter Try.func9, Try.ntmps9
  go_wp2_with fail
  refine (gv_new _).mono ?_
  rintro e w1 ⟨pb, rfl, s1, f1, n1⟩
  have f1 : Frame [] w w1 := f1
  have n1 : ∀ x ∈ [pb], w.heap.size ≤ x := by simpa using n1
  have O := Lib.hid (show VOwn w pb (L0 0) [] 0 w1 ∧ VOk (L0 0) ∧ EOk [] 0 from ⟨⟨_, s1, f1, n1⟩, VOk.nil, EOk.nil⟩)
  clear s1 f1 n1
  go_wp2_with fail
  refine (HR.out _).mono ?_
  rintro e w' ⟨rfl, rfl⟩
  go_wp2_with fail
  go_loopw [8] (fun i wr => ∃ k : Nat, k ≤ n ∧ i = .int .i64 k ∧ Hid (VOwn w pb (L0 k) ([]) (0) wr ∧ VOk (L0 k) ∧ EOk ([]) (0))) (fun i _ => n - (intOf i).toNat)
  case atStart => exact ⟨0, Nat.zero_le _, rfl, O.out⟩
  case round =>
    obtain ⟨k, hk, rfl, hG⟩ := hrel
    by_cases hlt : k < n
    · obtain ⟨⟨F, s2, f2, n2⟩, hv, he⟩ := hG.out
      by_cases hlim : k < 12
      all_goals
        have hc := gv_addNode s2 hv.up (by have := hv.len; omega) ((k : Int) + 1)
        rw [fact0 ⟨k, by omega⟩] at hc
        have hv' := hv.addNode ((k : Int) + 1)
        rw [fact0 ⟨k, by omega⟩] at hv'
        have he' : EOk [] 0 := EOk.nil
        first | (simp only [if_pos hlim] at hc hv' he') | (simp only [if_neg hlim] at hc hv' he')
        have HC := Lib.hid hc
        have HV := Lib.hid (And.intro f2 (And.intro n2 (And.intro hv' he')))
        clear hc s2 f2 n2 hv he hv' he' hG
        have hlb : decide ((k : Int) < 12) = decide (k < 12) := by rw [decide_eq_decide]; omega
        first | rw [decide_eq_true hlim] at hlb | rw [decide_eq_false hlim] at hlb
        go_wp2_with fail
        refine (HR.out _).mono ?_
        rintro e w' ⟨rfl, rfl⟩
        go_wp2_with fail
        refine HC.out.mono ?_
        rintro e w4 ⟨rfl, he⟩
        have T := Lib.hid (show VOwn w pb (L0 (k + 1)) ([]) (0) w4 ∧ VOk (L0 (k + 1)) ∧ EOk ([]) (0) from ⟨VOwn.next HV.out.1 HV.out.2.1 he, HV.out.2.2.1, HV.out.2.2.2⟩)
        clear he
        go_wp2_with fail
        go_roundw
        case rel => exact ⟨k + 1, by omega, by go_num, T⟩
        case measure => simp [intOf]; omega
    · obtain rfl : k = n := by omega
      obtain ⟨F, s2, f2, n2⟩ := hG.out.1
      have HF := Lib.hid f2
      clear s2 f2 n2 hG
      by_cases hk0 : 0 < k
      · go_wp2_with (first | (go_at_call 20; refine (HR.out _).mono ?_; rintro e w' ⟨rfl, rfl⟩) | (go_at_call 26; refine (awake10 _).mono ?_; rintro e w' ⟨rfl, f⟩))
        go_ret
        exact ⟨rfl, HF.out.trans1 f⟩
      · obtain rfl : k = 0 := by omega
        go_wp2_with (first | (go_at_call 20; refine (HR.out _).mono ?_; rintro e w' ⟨rfl, rfl⟩) | (go_at_call 26; refine (awake10 _).mono ?_; rintro e w' ⟨rfl, f⟩))
        go_ret
        exact ⟨rfl, HF.out.trans1 f⟩

set_option maxRecDepth 100000 in
set_option maxHeartbeats 4000000 in
theorem graphLimits_1 (n : Nat) (b : Int) (w : World) (hn : n ≤ 80) (hm : b % 4 = 1) (hb1 : -9223372036854775808 ≤ b) (hb2 : b ≤ 9223372036854775807) :
    Calls Try.prog 9 #[.int .i64 n, .int .i64 b] w fun e w' => e = .returned (.bool true) ∧ Frame [] w w' := by
  have hr := fun w => round_any b 4 w (by omega) (by omega) hb1 hb2
  rw [hm] at hr
  have HR := Lib.hid hr
  clear hr hm hb1 hb2
  have hn0 : ¬ (n : Int) < 0 := by omega
  have hn1 : ¬ 80 < (n : Int) := by omega
  go_enter Try.func9, Try.ntmps9
  go_wp2_with fail
  refine (gv_new _).mono ?_
  rintro e w1 ⟨pb, rfl, s1, f1, n1⟩
  have f1 : Frame [] w w1 := f1
  have n1 : ∀ x ∈ [pb], w.heap.size ≤ x := by simpa using n1
  have S1 := Lib.hid (And.intro s1 (And.intro f1 n1))
  clear s1 f1 n1
  go_wp2_with fail
  refine (HR.out _).mono ?_
  rintro e w' ⟨rfl, rfl⟩
  go_wp2_with fail
  have hc := gv_addNode S1.out.1 (by simp [Up]) (by simp) 1
  rw [show vAddNode [] 1 = (0, [(1, [], [])]) from by decide] at hc
  refine hc.mono ?_
  clear hc
  rintro e w2 ⟨rfl, he⟩
  have O := Lib.hid (show VOwn w pb ([(1, [], [])]) (E1 0) (((min 0 60 : Nat) : Int)) w2 ∧ VOk ([(1, [], [])]) ∧ EOk (E1 0) (((min 0 60 : Nat) : Int)) from ⟨VOwn.next S1.out.2.1 S1.out.2.2 he, VOk.nil.addNode 1, EOk.nil⟩)
  clear he S1
  go_wp2_with fail
  go_loopw [8] (fun i wr => ∃ k : Nat, k ≤ n ∧ i = .int .i64 k ∧ Hid (VOwn w pb ([(1, [], [])]) (E1 k) (((min k 60 : Nat) : Int)) wr ∧ VOk ([(1, [], [])]) ∧ EOk (E1 k) (((min k 60 : Nat) : Int)))) (fun i _ => n - (intOf i).toNat)
  case atStart => exact ⟨0, Nat.zero_le _, rfl, O.out⟩
  case round =>
    obtain ⟨k, hk, rfl, hG⟩ := hrel
    by_cases hlt : k < n
    · obtain ⟨⟨F, s2, f2, n2⟩, hv, he⟩ := hG.out
      by_cases hlim : k < 60
      all_goals
        have hc := gv_add s2 hv he 1 ⟨#[97]⟩ 1 (by decide)
        rw [fact1 ⟨k, by omega⟩] at hc
        have hv' := hv
        have he' := he.add [(1, [], [])] 1 ⟨#[97]⟩ 1
        rw [fact1 ⟨k, by omega⟩] at he'
        first | (simp only [if_pos hlim] at hc hv' he') | (simp only [if_neg hlim] at hc hv' he')
        have HC := Lib.hid hc
        have HV := Lib.hid (And.intro f2 (And.intro n2 (And.intro hv' he')))
        clear hc s2 f2 n2 hv he hv' he' hG
        have hlb : decide ((k : Int) < 60) = decide (k < 60) := by rw [decide_eq_decide]; omega
        first | rw [decide_eq_true hlim] at hlb | rw [decide_eq_false hlim] at hlb
        go_wp2_with fail
        refine (HR.out _).mono ?_
        rintro e w' ⟨rfl, rfl⟩
        go_wp2_with fail
        refine HC.out.mono ?_
        rintro e w4 ⟨rfl, he⟩
        have T := Lib.hid (show VOwn w pb ([(1, [], [])]) (E1 (k + 1)) (((min (k + 1) 60 : Nat) : Int)) w4 ∧ VOk ([(1, [], [])]) ∧ EOk (E1 (k + 1)) (((min (k + 1) 60 : Nat) : Int)) from ⟨VOwn.next HV.out.1 HV.out.2.1 he, HV.out.2.2.1, HV.out.2.2.2⟩)
        clear he
        go_wp2_with fail
        go_roundw
        case rel => exact ⟨k + 1, by omega, by go_num, T⟩
        case measure => simp [intOf]; omega
    · obtain rfl : k = n := by omega
      obtain ⟨F, s2, f2, n2⟩ := hG.out.1
      have HF := Lib.hid f2
      clear s2 f2 n2 hG
      by_cases hk0 : 0 < k
      · go_wp2_with (first | (go_at_call 20; refine (HR.out _).mono ?_; rintro e w' ⟨rfl, rfl⟩) | (go_at_call 26; refine (awake10 _).mono ?_; rintro e w' ⟨rfl, f⟩))
        go_ret
        exact ⟨rfl, HF.out.trans1 f⟩
      · obtain rfl : k = 0 := by omega
        go_wp2_with (first | (go_at_call 20; refine (HR.out _).mono ?_; rintro e w' ⟨rfl, rfl⟩) | (go_at_call 26; refine (awake10 _).mono ?_; rintro e w' ⟨rfl, f⟩))
        go_ret
        exact ⟨rfl, HF.out.trans1 f⟩

set_option maxRecDepth 100000 in
set_option maxHeartbeats 4000000 in
theorem graphLimits_2 (n : Nat) (b : Int) (w : World) (hn : n ≤ 80) (hm : b % 4 = 2) (hb1 : -9223372036854775808 ≤ b) (hb2 : b ≤ 9223372036854775807) :
    Calls Try.prog 9 #[.int .i64 n, .int .i64 b] w fun e w' => e = .returned (.bool true) ∧ Frame [] w w' := by
  have hr := fun w => round_any b 4 w (by omega) (by omega) hb1 hb2
  rw [hm] at hr
  have HR := Lib.hid hr
  clear hr hm hb1 hb2
  have hn0 : ¬ (n : Int) < 0 := by omega
  have hn1 : ¬ 80 < (n : Int) := by omega
  go_enter Try.func9, Try.ntmps9
  go_wp2_with fail
  refine (gv_new _).mono ?_
  rintro e w1 ⟨pb, rfl, s1, f1, n1⟩
  have f1 : Frame [] w w1 := f1
  have n1 : ∀ x ∈ [pb], w.heap.size ≤ x := by simpa using n1
  have S1 := Lib.hid (And.intro s1 (And.intro f1 n1))
  clear s1 f1 n1
  go_wp2_with fail
  refine (HR.out _).mono ?_
  rintro e w' ⟨rfl, rfl⟩
  go_wp2_with fail
  have hc := gv_addNode S1.out.1 (by simp [Up]) (by simp) 1
  rw [show vAddNode [] 1 = (0, [(1, [], [])]) from by decide] at hc
  refine hc.mono ?_
  clear hc
  rintro e w2 ⟨rfl, he⟩
  have O := Lib.hid (show VOwn w pb (L2 0) ([]) (0) w2 ∧ VOk (L2 0) ∧ EOk ([]) (0) from ⟨VOwn.next S1.out.2.1 S1.out.2.2 he, VOk.nil.addNode 1, EOk.nil⟩)
  clear he S1
  go_wp2_with fail
  go_loopw [8] (fun i wr => ∃ k : Nat, k ≤ n ∧ i = .int .i64 k ∧ Hid (VOwn w pb (L2 k) ([]) (0) wr ∧ VOk (L2 k) ∧ EOk ([]) (0))) (fun i _ => n - (intOf i).toNat)
  case atStart => exact ⟨0, Nat.zero_le _, rfl, O.out⟩
  case round =>
    obtain ⟨k, hk, rfl, hG⟩ := hrel
    by_cases hlt : k < n
    · obtain ⟨⟨F, s2, f2, n2⟩, hv, he⟩ := hG.out
      by_cases hlim : k < 8
      all_goals
        have hc := fun w' (f : Frame [] wr w') => gv_label (s2.frame0 f) hv 1 (nm k) (nm_size k)
        rw [fact2 ⟨k, by omega⟩] at hc
        have hv' := hv.label 1 (nm k)
        rw [fact2 ⟨k, by omega⟩] at hv'
        have he' : EOk [] 0 := EOk.nil
        first | (simp only [if_pos hlim] at hc hv' he') | (simp only [if_neg hlim] at hc hv' he')
        have HC := Lib.hid hc
        have HV := Lib.hid (And.intro f2 (And.intro n2 (And.intro hv' he')))
        clear hc s2 f2 n2 hv he hv' he' hG
        have hlb : decide ((k : Int) < 8) = decide (k < 8) := by rw [decide_eq_decide]; omega
        first | rw [decide_eq_true hlim] at hlb | rw [decide_eq_false hlim] at hlb
        go_wp2_with fail
        refine (HR.out _).mono ?_
        rintro e w' ⟨rfl, rfl⟩
        go_wp2_with fail
        refine (names_any k _ (by omega)).mono ?_
        rintro e w3 ⟨rfl, f3⟩
        go_wp2_with fail
        refine (HC.out _ f3).mono ?_
        rintro e w4 ⟨rfl, he⟩
        have T := Lib.hid (show VOwn w pb (L2 (k + 1)) ([]) (0) w4 ∧ VOk (L2 (k + 1)) ∧ EOk ([]) (0) from ⟨VOwn.next (HV.out.1.trans1 f3) HV.out.2.1 he, HV.out.2.2.1, HV.out.2.2.2⟩)
        clear he f3
        go_wp2_with fail
        go_roundw
        case rel => exact ⟨k + 1, by omega, by go_num, T⟩
        case measure => simp [intOf]; omega
    · obtain rfl : k = n := by omega
      obtain ⟨⟨F, s2, f2, n2⟩, hv, he⟩ := hG.out
      by_cases hk0 : 0 < k
      · have hc := fun w' (f : Frame [] wr w') => gv_label (s2.frame0 f) hv 1 (nm 0) (nm_size 0)
        rw [show (vLabel (L2 k) 1 (nm 0)).1 = 0 from by obtain ⟨j, rfl⟩ : ∃ j, k = j + 1 := ⟨k - 1, by omega⟩; rw [fact2e ⟨j, by omega⟩]] at hc
        have HC := Lib.hid hc
        have HF := Lib.hid (And.intro f2 n2)
        clear hc s2 f2 n2 hv he hG
        go_wp2_with (go_at_call 20; refine (HR.out _).mono ?_; rintro e w' ⟨rfl, rfl⟩)
        refine (names_any 0 _ (by omega)).mono ?_
        rintro e w3 ⟨rfl, f3⟩
        go_wp2_with fail
        refine (HC.out _ f3).mono ?_
        rintro e w4 ⟨rfl, he⟩
        obtain ⟨F4, s4, f4, n4⟩ := VOwn.next (HF.out.1.trans1 f3) HF.out.2 he
        have F4' := Lib.hid f4
        clear he s4 f4 n4 f3
        go_wp2_with (first | (go_at_call 20; refine (HR.out _).mono ?_; rintro e w' ⟨rfl, rfl⟩) | (go_at_call 26; refine (awake10 _).mono ?_; rintro e w' ⟨rfl, f⟩))
        go_ret
        exact ⟨rfl, F4'.out.trans1 f⟩
      · obtain rfl : k = 0 := by omega
        have HF := Lib.hid f2
        clear s2 f2 n2 hv he hG
        go_wp2_with (first | (go_at_call 20; refine (HR.out _).mono ?_; rintro e w' ⟨rfl, rfl⟩) | (go_at_call 26; refine (awake10 _).mono ?_; rintro e w' ⟨rfl, f⟩))
        go_ret
        exact ⟨rfl, HF.out.trans1 f⟩

set_option maxRecDepth 100000 in
set_option maxHeartbeats 4000000 in
theorem graphLimits_3 (n : Nat) (b : Int) (w : World) (hn : n ≤ 80) (hm : b % 4 = 3) (hb1 : -9223372036854775808 ≤ b) (hb2 : b ≤ 9223372036854775807) :
    Calls Try.prog 9 #[.int .i64 n, .int .i64 b] w fun e w' => e = .returned (.bool true) ∧ Frame [] w w' := by
  have hr := fun w => round_any b 4 w (by omega) (by omega) hb1 hb2
  rw [hm] at hr
  have HR := Lib.hid hr
  clear hr hm hb1 hb2
  have hn0 : ¬ (n : Int) < 0 := by omega
  have hn1 : ¬ 80 < (n : Int) := by omega
  go_enter Try.func9, Try.ntmps9
  go_wp2_with fail
  refine (gv_new _).mono ?_
  rintro e w1 ⟨pb, rfl, s1, f1, n1⟩
  have f1 : Frame [] w w1 := f1
  have n1 : ∀ x ∈ [pb], w.heap.size ≤ x := by simpa using n1
  have S1 := Lib.hid (And.intro s1 (And.intro f1 n1))
  clear s1 f1 n1
  go_wp2_with fail
  refine (HR.out _).mono ?_
  rintro e w' ⟨rfl, rfl⟩
  go_wp2_with fail
  have hc := gv_addNode S1.out.1 (by simp [Up]) (by simp) 1
  rw [show vAddNode [] 1 = (0, [(1, [], [])]) from by decide] at hc
  refine hc.mono ?_
  clear hc
  rintro e w2 ⟨rfl, he⟩
  have O := Lib.hid (show VOwn w pb (L3 0) ([]) (0) w2 ∧ VOk (L3 0) ∧ EOk ([]) (0) from ⟨VOwn.next S1.out.2.1 S1.out.2.2 he, VOk.nil.addNode 1, EOk.nil⟩)
  clear he S1
  go_wp2_with fail
  go_loopw [8] (fun i wr => ∃ k : Nat, k ≤ n ∧ i = .int .i64 k ∧ Hid (VOwn w pb (L3 k) ([]) (0) wr ∧ VOk (L3 k) ∧ EOk ([]) (0))) (fun i _ => n - (intOf i).toNat)
  case atStart => exact ⟨0, Nat.zero_le _, rfl, O.out⟩
  case round =>
    obtain ⟨k, hk, rfl, hG⟩ := hrel
    by_cases hlt : k < n
    · obtain ⟨⟨F, s2, f2, n2⟩, hv, he⟩ := hG.out
      by_cases hlim : k < 8
      all_goals
        have hc := fun w' (f : Frame [] wr w') => gv_set (s2.frame0 f) hv 1 (nm k) ⟨#[120]⟩ (nm_size k) (by decide)
        rw [fact3 ⟨k, by omega⟩] at hc
        have hv' := hv.set 1 (nm k) ⟨#[120]⟩
        rw [fact3 ⟨k, by omega⟩] at hv'
        have he' : EOk [] 0 := EOk.nil
        first | (simp only [if_pos hlim] at hc hv' he') | (simp only [if_neg hlim] at hc hv' he')
        have HC := Lib.hid hc
        have HV := Lib.hid (And.intro f2 (And.intro n2 (And.intro hv' he')))
        clear hc s2 f2 n2 hv he hv' he' hG
        have hlb : decide ((k : Int) < 8) = decide (k < 8) := by rw [decide_eq_decide]; omega
        first | rw [decide_eq_true hlim] at hlb | rw [decide_eq_false hlim] at hlb
        go_wp2_with fail
        refine (HR.out _).mono ?_
        rintro e w' ⟨rfl, rfl⟩
        go_wp2_with fail
        refine (names_any k _ (by omega)).mono ?_
        rintro e w3 ⟨rfl, f3⟩
        go_wp2_with fail
        refine (HC.out _ f3).mono ?_
        rintro e w4 ⟨rfl, he⟩
        have T := Lib.hid (show VOwn w pb (L3 (k + 1)) ([]) (0) w4 ∧ VOk (L3 (k + 1)) ∧ EOk ([]) (0) from ⟨VOwn.next (HV.out.1.trans1 f3) HV.out.2.1 he, HV.out.2.2.1, HV.out.2.2.2⟩)
        clear he f3
        go_wp2_with fail
        go_roundw
        case rel => exact ⟨k + 1, by omega, by go_num, T⟩
        case measure => simp [intOf]; omega
    · obtain rfl : k = n := by omega
      obtain ⟨⟨F, s2, f2, n2⟩, hv, he⟩ := hG.out
      by_cases hk0 : 0 < k
      · have hc := fun w' (f : Frame [] wr w') => gv_set (s2.frame0 f) hv 1 (nm 0) ⟨#[121]⟩ (nm_size 0) (by decide)
        rw [show (vSet (L3 k) 1 (nm 0) ⟨#[121]⟩).1 = 0 from by obtain ⟨j, rfl⟩ : ∃ j, k = j + 1 := ⟨k - 1, by omega⟩; exact fact3e ⟨j, by omega⟩] at hc
        have HC := Lib.hid hc
        have HF := Lib.hid (And.intro f2 n2)
        clear hc s2 f2 n2 hv he hG
        go_wp2_with (go_at_call 20; refine (HR.out _).mono ?_; rintro e w' ⟨rfl, rfl⟩)
        refine (names_any 0 _ (by omega)).mono ?_
        rintro e w3 ⟨rfl, f3⟩
        go_wp2_with fail
        refine (HC.out _ f3).mono ?_
        rintro e w4 ⟨rfl, he⟩
        obtain ⟨F4, s4, f4, n4⟩ := VOwn.next (HF.out.1.trans1 f3) HF.out.2 he
        have F4' := Lib.hid f4
        clear he s4 f4 n4 f3
        go_wp2_with (first | (go_at_call 20; refine (HR.out _).mono ?_; rintro e w' ⟨rfl, rfl⟩) | (go_at_call 26; refine (awake10 _).mono ?_; rintro e w' ⟨rfl, f⟩))
        go_ret
        exact ⟨rfl, F4'.out.trans1 f⟩
      · obtain rfl : k = 0 := by omega
        have HF := Lib.hid f2
        clear s2 f2 n2 hv he hG
        go_wp2_with (first | (go_at_call 20; refine (HR.out _).mono ?_; rintro e w' ⟨rfl, rfl⟩) | (go_at_call 26; refine (awake10 _).mono ?_; rintro e w' ⟨rfl, f⟩))
        go_ret
        exact ⟨rfl, HF.out.trans1 f⟩
end Go.Proofs.Ytolkmapdbilolaa
