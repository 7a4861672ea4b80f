/- The law GraphNothing, walked. -/
import Derived.Test.YtolkmapdbilolaaAwake10
import Derived.Test.YtolkmapdbilolaaGnil
namespace Go.Proofs.Ytolkmapdbilolaa
open Go.RowKit
set_option linter.unusedSimpArgs false
set_option linter.unusedVariables false

set_option maxRecDepth 100000 in
theorem graphNothing_out (a : Int) (s : ByteArray) (w : World) (h : 100 < s.size) (hl : s.size ≤ 9223372036854775807) :
    Calls Try.prog 8 #[.int .i64 a, .string s] w fun e w' => e = .returned (.bool true) ∧ Frame [] w w' := by
  go_enter Try.func8, Try.ntmps8
  go_wp2_with (go_at_call 26; refine (awake10 _).mono ?_; rintro e w' ⟨rfl, f⟩)
  go_ret
  exact ⟨rfl, f⟩

theorem size_toList (s : ByteArray) : s.toList.length = s.size := by rw [ByteArray.toList_eq]; simp

set_option maxRecDepth 100000 in
set_option maxHeartbeats 1000000 in
theorem graphNothing_empty_low (a : Int) (s : ByteArray) (w : World) (hs : s = ⟨#[]⟩) (h1 : a < 1) :
    Calls Try.prog 8 #[.int .i64 a, .string s] w fun e w' => e = .returned (.bool true) ∧ Frame [] w w' := by
  subst hs
  have HA := Lib.hid (fun w' => nadd_name a a ⟨#[]⟩ (by decide) (by decide) w')
  have HB := Lib.hid (fun w' => naddNode_arg a (by omega) w')
  have fd := fld_next
  go_enter Try.func8, Try.ntmps8
  go_wp2_with fail
  have bz := Blk.new w 59 #[.slice none 0 0, .slice none 0 0, .int .i64 0]
  have fz : Frame [] w (w.alloc (.cells #[.slice none 0 0, .slice none 0 0, .int .i64 0] 59)) := Frame.alloc _ _ _
  have hsz : w.heap.size < (w.alloc (.cells #[.slice none 0 0, .slice none 0 0, .int .i64 0] 59)).heap.size := by simp
  generalize w.alloc (.cells #[.slice none 0 0, .slice none 0 0, .int .i64 0] 59) = wz at *
  have SZ := Lib.hid (show GSt wz w.heap.size [w.heap.size] [] [] 0 from ⟨none, 0, none, 0, [], [], bz, Sl.nil _ _ _ _, Sl.nil _ _ _ _, by simp, by simp, by simp, by simp⟩)
  generalize hzb : w.heap.size = zb at *
  have HZB := Lib.hid hzb
  clear hzb bz
  refine (HA.out _).mono ?_
  rintro e w' ⟨rfl, rfl⟩
  go_wp2_with fail
  refine (HB.out _).mono ?_
  rintro e w' ⟨rfl, rfl⟩
  go_wp2_with fail
  refine (ndrop _ _).mono ?_
  rintro e w' ⟨rfl, rfl⟩
  go_wp2_with fail
  refine (ndropNode _ _).mono ?_
  rintro e w1 ⟨rfl, f1⟩
  go_wp2_with fail
  refine (nwithout _).mono ?_
  rintro e w2 ⟨rfl, f2⟩
  go_wp2_with fail
  refine (nall _).mono ?_
  rintro e w3 ⟨rfl, f3⟩
  go_wp2_with fail
  have f0 := (f1.trans1 f2).trans1 f3
  refine (addNode_end (SZ.out.frame0 f0) (by simp [Up]) (by simp) 5 (by omega) (by omega) (by simp) (by simp [rank])).mono ?_
  rintro e w4 ⟨rfl, he⟩
  have O4 := Lib.hid (show GOwn w zb [nd0 5] [] 0 w4 from GOwn.next (fz.trans1 f0) (by simp; have := HZB.out; omega) he)
  clear he
  obtain ⟨F4, s4, f4, n4⟩ := O4.out
  have hc := gall_any [rn0 5] s4 (by intro r hr; simp at hr; subst hr; exact rn0_ok _ _) (by simp) (by simp) (by omega)
  rw [show (0 : Int) + 1 = 1 from rfl] at hc
  have HC := Lib.hid hc
  have F4 := Lib.hid f4
  clear hc s4 n4 f4 f1 f2 f3 f0
  go_wp2_with fail
  refine HC.out.mono ?_
  rintro e w7 ⟨rs', an, nc, ae, ec, G, H, rfl, -, -, -, -, f7, -⟩
  have F7 := Lib.hid (F4.out.trans1 f7)
  clear f7
  go_wp2_with (go_at_call 26; refine (awake10 _).mono ?_; rintro e w' ⟨rfl, f⟩)
  go_ret
  exact ⟨rfl, F7.out.trans1 f⟩

set_option maxRecDepth 100000 in
set_option maxHeartbeats 1000000 in
theorem graphNothing_empty_high (a : Int) (s : ByteArray) (w : World) (hs : s = ⟨#[]⟩) (h1 : 1000 < a) :
    Calls Try.prog 8 #[.int .i64 a, .string s] w fun e w' => e = .returned (.bool true) ∧ Frame [] w w' := by
  subst hs
  have HA := Lib.hid (fun w' => nadd_name a a ⟨#[]⟩ (by decide) (by decide) w')
  have h3 : ¬ a < 1 := by omega
  have HB := Lib.hid (fun w' => naddNode_arg a (by omega) w')
  have fd := fld_next
  go_enter Try.func8, Try.ntmps8
  go_wp2_with fail
  have bz := Blk.new w 59 #[.slice none 0 0, .slice none 0 0, .int .i64 0]
  have fz : Frame [] w (w.alloc (.cells #[.slice none 0 0, .slice none 0 0, .int .i64 0] 59)) := Frame.alloc _ _ _
  have hsz : w.heap.size < (w.alloc (.cells #[.slice none 0 0, .slice none 0 0, .int .i64 0] 59)).heap.size := by simp
  generalize w.alloc (.cells #[.slice none 0 0, .slice none 0 0, .int .i64 0] 59) = wz at *
  have SZ := Lib.hid (show GSt wz w.heap.size [w.heap.size] [] [] 0 from ⟨none, 0, none, 0, [], [], bz, Sl.nil _ _ _ _, Sl.nil _ _ _ _, by simp, by simp, by simp, by simp⟩)
  generalize hzb : w.heap.size = zb at *
  have HZB := Lib.hid hzb
  clear hzb bz
  refine (HA.out _).mono ?_
  rintro e w' ⟨rfl, rfl⟩
  go_wp2_with fail
  refine (HB.out _).mono ?_
  rintro e w' ⟨rfl, rfl⟩
  go_wp2_with fail
  refine (ndrop _ _).mono ?_
  rintro e w' ⟨rfl, rfl⟩
  go_wp2_with fail
  refine (ndropNode _ _).mono ?_
  rintro e w1 ⟨rfl, f1⟩
  go_wp2_with fail
  refine (nwithout _).mono ?_
  rintro e w2 ⟨rfl, f2⟩
  go_wp2_with fail
  refine (nall _).mono ?_
  rintro e w3 ⟨rfl, f3⟩
  go_wp2_with fail
  have f0 := (f1.trans1 f2).trans1 f3
  refine (addNode_end (SZ.out.frame0 f0) (by simp [Up]) (by simp) 5 (by omega) (by omega) (by simp) (by simp [rank])).mono ?_
  rintro e w4 ⟨rfl, he⟩
  have O4 := Lib.hid (show GOwn w zb [nd0 5] [] 0 w4 from GOwn.next (fz.trans1 f0) (by simp; have := HZB.out; omega) he)
  clear he
  obtain ⟨F4, s4, f4, n4⟩ := O4.out
  have hc := gall_any [rn0 5] s4 (by intro r hr; simp at hr; subst hr; exact rn0_ok _ _) (by simp) (by simp) (by omega)
  rw [show (0 : Int) + 1 = 1 from rfl] at hc
  have HC := Lib.hid hc
  have F4 := Lib.hid f4
  clear hc s4 n4 f4 f1 f2 f3 f0
  go_wp2_with fail
  refine HC.out.mono ?_
  rintro e w7 ⟨rs', an, nc, ae, ec, G, H, rfl, -, -, -, -, f7, -⟩
  have F7 := Lib.hid (F4.out.trans1 f7)
  clear f7
  go_wp2_with (go_at_call 26; refine (awake10 _).mono ?_; rintro e w' ⟨rfl, f⟩)
  go_ret
  exact ⟨rfl, F7.out.trans1 f⟩

set_option maxRecDepth 100000 in
set_option maxHeartbeats 1000000 in
theorem graphNothing_empty_good (a : Int) (s : ByteArray) (w : World) (hs : s = ⟨#[]⟩) (h1 : 1 ≤ a) (h2 : a ≤ 1000) :
    Calls Try.prog 8 #[.int .i64 a, .string s] w fun e w' => e = .returned (.bool true) ∧ Frame [] w w' := by
  subst hs
  have HA := Lib.hid (fun w' => nadd_name a a ⟨#[]⟩ (by decide) (by decide) w')
  have h3 : ¬ a < 1 := by omega
  have h4 : ¬ 1000 < a := by omega
  have HB := Lib.hid (fun w' => naddNode_big a h1 h2 w')
  have fd := fld_next
  go_enter Try.func8, Try.ntmps8
  go_wp2_with fail
  have bz := Blk.new w 59 #[.slice none 0 0, .slice none 0 0, .int .i64 0]
  have fz : Frame [] w (w.alloc (.cells #[.slice none 0 0, .slice none 0 0, .int .i64 0] 59)) := Frame.alloc _ _ _
  have hsz : w.heap.size < (w.alloc (.cells #[.slice none 0 0, .slice none 0 0, .int .i64 0] 59)).heap.size := by simp
  generalize w.alloc (.cells #[.slice none 0 0, .slice none 0 0, .int .i64 0] 59) = wz at *
  have SZ := Lib.hid (show GSt wz w.heap.size [w.heap.size] [] [] 0 from ⟨none, 0, none, 0, [], [], bz, Sl.nil _ _ _ _, Sl.nil _ _ _ _, by simp, by simp, by simp, by simp⟩)
  generalize hzb : w.heap.size = zb at *
  have HZB := Lib.hid hzb
  clear hzb bz
  refine (HA.out _).mono ?_
  rintro e w' ⟨rfl, rfl⟩
  go_wp2_with fail
  refine (HB.out _).mono ?_
  rintro e w' ⟨rfl, rfl⟩
  go_wp2_with fail
  refine (ndrop _ _).mono ?_
  rintro e w' ⟨rfl, rfl⟩
  go_wp2_with fail
  refine (ndropNode _ _).mono ?_
  rintro e w1 ⟨rfl, f1⟩
  go_wp2_with fail
  refine (nwithout _).mono ?_
  rintro e w2 ⟨rfl, f2⟩
  go_wp2_with fail
  refine (nall _).mono ?_
  rintro e w3 ⟨rfl, f3⟩
  go_wp2_with fail
  have f0 := (f1.trans1 f2).trans1 f3
  refine (addNode_end (SZ.out.frame0 f0) (by simp [Up]) (by simp) 5 (by omega) (by omega) (by simp) (by simp [rank])).mono ?_
  rintro e w4 ⟨rfl, he⟩
  have O4 := Lib.hid (show GOwn w zb [nd0 5] [] 0 w4 from GOwn.next (fz.trans1 f0) (by simp; have := HZB.out; omega) he)
  clear he
  obtain ⟨F4, s4, f4, n4⟩ := O4.out
  have hc := gall_any [rn0 5] s4 (by intro r hr; simp at hr; subst hr; exact rn0_ok _ _) (by simp) (by simp) (by omega)
  rw [show (0 : Int) + 1 = 1 from rfl] at hc
  have HC := Lib.hid hc
  have F4 := Lib.hid f4
  clear hc s4 n4 f4 f1 f2 f3 f0
  go_wp2_with fail
  refine HC.out.mono ?_
  rintro e w7 ⟨rs', an, nc, ae, ec, G, H, rfl, -, -, -, -, f7, -⟩
  have F7 := Lib.hid (F4.out.trans1 f7)
  clear f7
  go_wp2_with (go_at_call 26; refine (awake10 _).mono ?_; rintro e w' ⟨rfl, f⟩)
  go_ret
  exact ⟨rfl, F7.out.trans1 f⟩

set_option maxRecDepth 100000 in
set_option maxHeartbeats 1000000 in
theorem graphNothing_long_low (a : Int) (s : ByteArray) (w : World) (hs : 20 < s.size) (hl : s.size ≤ 100) (h1 : a < 1) :
    Calls Try.prog 8 #[.int .i64 a, .string s] w fun e w' => e = .returned (.bool true) ∧ Frame [] w w' := by
  have he : s.toList.isEmpty = false := by
    cases hq : s.toList with
    | nil => have : s.size = 0 := by rw [← size_toList, hq]; rfl
             omega
    | cons _ _ => rfl
  have he2 : ¬ s.toList = [] := by intro h; rw [h] at he; simp at he
  have HA := Lib.hid (fun w' => nadd_name a a s (by simp [namedB]; omega) (by omega) w')
  have HB := Lib.hid (fun w' => naddNode_arg a (by omega) w')
  have fd := fld_next
  go_enter Try.func8, Try.ntmps8
  go_wp2_with fail
  have bz := Blk.new w 59 #[.slice none 0 0, .slice none 0 0, .int .i64 0]
  have fz : Frame [] w (w.alloc (.cells #[.slice none 0 0, .slice none 0 0, .int .i64 0] 59)) := Frame.alloc _ _ _
  have hsz : w.heap.size < (w.alloc (.cells #[.slice none 0 0, .slice none 0 0, .int .i64 0] 59)).heap.size := by simp
  generalize w.alloc (.cells #[.slice none 0 0, .slice none 0 0, .int .i64 0] 59) = wz at *
  have SZ := Lib.hid (show GSt wz w.heap.size [w.heap.size] [] [] 0 from ⟨none, 0, none, 0, [], [], bz, Sl.nil _ _ _ _, Sl.nil _ _ _ _, by simp, by simp, by simp, by simp⟩)
  generalize hzb : w.heap.size = zb at *
  have HZB := Lib.hid hzb
  clear hzb bz
  refine (HA.out _).mono ?_
  rintro e w' ⟨rfl, rfl⟩
  go_wp2_with fail
  refine (HB.out _).mono ?_
  rintro e w' ⟨rfl, rfl⟩
  go_wp2_with fail
  refine (ndrop _ _).mono ?_
  rintro e w' ⟨rfl, rfl⟩
  go_wp2_with fail
  refine (ndropNode _ _).mono ?_
  rintro e w1 ⟨rfl, f1⟩
  go_wp2_with fail
  refine (nwithout _).mono ?_
  rintro e w2 ⟨rfl, f2⟩
  go_wp2_with fail
  refine (nall _).mono ?_
  rintro e w3 ⟨rfl, f3⟩
  go_wp2_with fail
  have f0 := (f1.trans1 f2).trans1 f3
  refine (addNode_end (SZ.out.frame0 f0) (by simp [Up]) (by simp) 5 (by omega) (by omega) (by simp) (by simp [rank])).mono ?_
  rintro e w4 ⟨rfl, he⟩
  have O4 := Lib.hid (show GOwn w zb [nd0 5] [] 0 w4 from GOwn.next (fz.trans1 f0) (by simp; have := HZB.out; omega) he)
  clear he
  obtain ⟨F4, s4, f4, n4⟩ := O4.out
  have hc := gall_any [rn0 5] s4 (by intro r hr; simp at hr; subst hr; exact rn0_ok _ _) (by simp) (by simp) (by omega)
  rw [show (0 : Int) + 1 = 1 from rfl] at hc
  have HC := Lib.hid hc
  have F4 := Lib.hid f4
  clear hc s4 n4 f4 f1 f2 f3 f0
  go_wp2_with fail
  refine HC.out.mono ?_
  rintro e w7 ⟨rs', an, nc, ae, ec, G, H, rfl, -, -, -, -, f7, -⟩
  have F7 := Lib.hid (F4.out.trans1 f7)
  clear f7
  go_wp2_with (go_at_call 26; refine (awake10 _).mono ?_; rintro e w' ⟨rfl, f⟩)
  go_ret
  exact ⟨rfl, F7.out.trans1 f⟩

set_option maxRecDepth 100000 in
set_option maxHeartbeats 1000000 in
theorem graphNothing_long_high (a : Int) (s : ByteArray) (w : World) (hs : 20 < s.size) (hl : s.size ≤ 100) (h1 : 1000 < a) :
    Calls Try.prog 8 #[.int .i64 a, .string s] w fun e w' => e = .returned (.bool true) ∧ Frame [] w w' := by
  have he : s.toList.isEmpty = false := by
    cases hq : s.toList with
    | nil => have : s.size = 0 := by rw [← size_toList, hq]; rfl
             omega
    | cons _ _ => rfl
  have he2 : ¬ s.toList = [] := by intro h; rw [h] at he; simp at he
  have HA := Lib.hid (fun w' => nadd_name a a s (by simp [namedB]; omega) (by omega) w')
  have h3 : ¬ a < 1 := by omega
  have HB := Lib.hid (fun w' => naddNode_arg a (by omega) w')
  have fd := fld_next
  go_enter Try.func8, Try.ntmps8
  go_wp2_with fail
  have bz := Blk.new w 59 #[.slice none 0 0, .slice none 0 0, .int .i64 0]
  have fz : Frame [] w (w.alloc (.cells #[.slice none 0 0, .slice none 0 0, .int .i64 0] 59)) := Frame.alloc _ _ _
  have hsz : w.heap.size < (w.alloc (.cells #[.slice none 0 0, .slice none 0 0, .int .i64 0] 59)).heap.size := by simp
  generalize w.alloc (.cells #[.slice none 0 0, .slice none 0 0, .int .i64 0] 59) = wz at *
  have SZ := Lib.hid (show GSt wz w.heap.size [w.heap.size] [] [] 0 from ⟨none, 0, none, 0, [], [], bz, Sl.nil _ _ _ _, Sl.nil _ _ _ _, by simp, by simp, by simp, by simp⟩)
  generalize hzb : w.heap.size = zb at *
  have HZB := Lib.hid hzb
  clear hzb bz
  refine (HA.out _).mono ?_
  rintro e w' ⟨rfl, rfl⟩
  go_wp2_with fail
  refine (HB.out _).mono ?_
  rintro e w' ⟨rfl, rfl⟩
  go_wp2_with fail
  refine (ndrop _ _).mono ?_
  rintro e w' ⟨rfl, rfl⟩
  go_wp2_with fail
  refine (ndropNode _ _).mono ?_
  rintro e w1 ⟨rfl, f1⟩
  go_wp2_with fail
  refine (nwithout _).mono ?_
  rintro e w2 ⟨rfl, f2⟩
  go_wp2_with fail
  refine (nall _).mono ?_
  rintro e w3 ⟨rfl, f3⟩
  go_wp2_with fail
  have f0 := (f1.trans1 f2).trans1 f3
  refine (addNode_end (SZ.out.frame0 f0) (by simp [Up]) (by simp) 5 (by omega) (by omega) (by simp) (by simp [rank])).mono ?_
  rintro e w4 ⟨rfl, he⟩
  have O4 := Lib.hid (show GOwn w zb [nd0 5] [] 0 w4 from GOwn.next (fz.trans1 f0) (by simp; have := HZB.out; omega) he)
  clear he
  obtain ⟨F4, s4, f4, n4⟩ := O4.out
  have hc := gall_any [rn0 5] s4 (by intro r hr; simp at hr; subst hr; exact rn0_ok _ _) (by simp) (by simp) (by omega)
  rw [show (0 : Int) + 1 = 1 from rfl] at hc
  have HC := Lib.hid hc
  have F4 := Lib.hid f4
  clear hc s4 n4 f4 f1 f2 f3 f0
  go_wp2_with fail
  refine HC.out.mono ?_
  rintro e w7 ⟨rs', an, nc, ae, ec, G, H, rfl, -, -, -, -, f7, -⟩
  have F7 := Lib.hid (F4.out.trans1 f7)
  clear f7
  go_wp2_with (go_at_call 26; refine (awake10 _).mono ?_; rintro e w' ⟨rfl, f⟩)
  go_ret
  exact ⟨rfl, F7.out.trans1 f⟩

set_option maxRecDepth 100000 in
set_option maxHeartbeats 1000000 in
theorem graphNothing_long_good (a : Int) (s : ByteArray) (w : World) (hs : 20 < s.size) (hl : s.size ≤ 100) (h1 : 1 ≤ a) (h2 : a ≤ 1000) :
    Calls Try.prog 8 #[.int .i64 a, .string s] w fun e w' => e = .returned (.bool true) ∧ Frame [] w w' := by
  have he : s.toList.isEmpty = false := by
    cases hq : s.toList with
    | nil => have : s.size = 0 := by rw [← size_toList, hq]; rfl
             omega
    | cons _ _ => rfl
  have he2 : ¬ s.toList = [] := by intro h; rw [h] at he; simp at he
  have HA := Lib.hid (fun w' => nadd_name a a s (by simp [namedB]; omega) (by omega) w')
  have h3 : ¬ a < 1 := by omega
  have h4 : ¬ 1000 < a := by omega
  have HB := Lib.hid (fun w' => naddNode_big a h1 h2 w')
  have fd := fld_next
  go_enter Try.func8, Try.ntmps8
  go_wp2_with fail
  have bz := Blk.new w 59 #[.slice none 0 0, .slice none 0 0, .int .i64 0]
  have fz : Frame [] w (w.alloc (.cells #[.slice none 0 0, .slice none 0 0, .int .i64 0] 59)) := Frame.alloc _ _ _
  have hsz : w.heap.size < (w.alloc (.cells #[.slice none 0 0, .slice none 0 0, .int .i64 0] 59)).heap.size := by simp
  generalize w.alloc (.cells #[.slice none 0 0, .slice none 0 0, .int .i64 0] 59) = wz at *
  have SZ := Lib.hid (show GSt wz w.heap.size [w.heap.size] [] [] 0 from ⟨none, 0, none, 0, [], [], bz, Sl.nil _ _ _ _, Sl.nil _ _ _ _, by simp, by simp, by simp, by simp⟩)
  generalize hzb : w.heap.size = zb at *
  have HZB := Lib.hid hzb
  clear hzb bz
  refine (HA.out _).mono ?_
  rintro e w' ⟨rfl, rfl⟩
  go_wp2_with fail
  refine (HB.out _).mono ?_
  rintro e w' ⟨rfl, rfl⟩
  go_wp2_with fail
  refine (ndrop _ _).mono ?_
  rintro e w' ⟨rfl, rfl⟩
  go_wp2_with fail
  refine (ndropNode _ _).mono ?_
  rintro e w1 ⟨rfl, f1⟩
  go_wp2_with fail
  refine (nwithout _).mono ?_
  rintro e w2 ⟨rfl, f2⟩
  go_wp2_with fail
  refine (nall _).mono ?_
  rintro e w3 ⟨rfl, f3⟩
  go_wp2_with fail
  have f0 := (f1.trans1 f2).trans1 f3
  refine (addNode_end (SZ.out.frame0 f0) (by simp [Up]) (by simp) 5 (by omega) (by omega) (by simp) (by simp [rank])).mono ?_
  rintro e w4 ⟨rfl, he⟩
  have O4 := Lib.hid (show GOwn w zb [nd0 5] [] 0 w4 from GOwn.next (fz.trans1 f0) (by simp; have := HZB.out; omega) he)
  clear he
  obtain ⟨F4, s4, f4, n4⟩ := O4.out
  have hc := gall_any [rn0 5] s4 (by intro r hr; simp at hr; subst hr; exact rn0_ok _ _) (by simp) (by simp) (by omega)
  rw [show (0 : Int) + 1 = 1 from rfl] at hc
  have HC := Lib.hid hc
  have F4 := Lib.hid f4
  clear hc s4 n4 f4 f1 f2 f3 f0
  go_wp2_with fail
  refine HC.out.mono ?_
  rintro e w7 ⟨rs', an, nc, ae, ec, G, H, rfl, -, -, -, -, f7, -⟩
  have F7 := Lib.hid (F4.out.trans1 f7)
  clear f7
  go_wp2_with (go_at_call 26; refine (awake10 _).mono ?_; rintro e w' ⟨rfl, f⟩)
  go_ret
  exact ⟨rfl, F7.out.trans1 f⟩

set_option maxRecDepth 100000 in
set_option maxHeartbeats 1000000 in
theorem graphNothing_good_low (a : Int) (s : ByteArray) (w : World) (hs : 0 < s.size) (hl : s.size ≤ 20) (h1 : a < 1) :
    Calls Try.prog 8 #[.int .i64 a, .string s] w fun e w' => e = .returned (.bool true) ∧ Frame [] w w' := by
  have he : s.toList.isEmpty = false := by
    cases hq : s.toList with
    | nil => have : s.size = 0 := by rw [← size_toList, hq]; rfl
             omega
    | cons _ _ => rfl
  have he2 : ¬ s.toList = [] := by intro h; rw [h] at he; simp at he
  have HA := Lib.hid (fun w' => nadd_node a a s (by simp [namedB]; omega) (by omega) w')
  have HB := Lib.hid (fun w' => naddNode_arg a (by omega) w')
  have fd := fld_next
  go_enter Try.func8, Try.ntmps8
  go_wp2_with fail
  have bz := Blk.new w 59 #[.slice none 0 0, .slice none 0 0, .int .i64 0]
  have fz : Frame [] w (w.alloc (.cells #[.slice none 0 0, .slice none 0 0, .int .i64 0] 59)) := Frame.alloc _ _ _
  have hsz : w.heap.size < (w.alloc (.cells #[.slice none 0 0, .slice none 0 0, .int .i64 0] 59)).heap.size := by simp
  generalize w.alloc (.cells #[.slice none 0 0, .slice none 0 0, .int .i64 0] 59) = wz at *
  have SZ := Lib.hid (show GSt wz w.heap.size [w.heap.size] [] [] 0 from ⟨none, 0, none, 0, [], [], bz, Sl.nil _ _ _ _, Sl.nil _ _ _ _, by simp, by simp, by simp, by simp⟩)
  generalize hzb : w.heap.size = zb at *
  have HZB := Lib.hid hzb
  clear hzb bz
  refine (HA.out _).mono ?_
  rintro e w' ⟨rfl, rfl⟩
  go_wp2_with fail
  refine (HB.out _).mono ?_
  rintro e w' ⟨rfl, rfl⟩
  go_wp2_with fail
  refine (ndrop _ _).mono ?_
  rintro e w' ⟨rfl, rfl⟩
  go_wp2_with fail
  refine (ndropNode _ _).mono ?_
  rintro e w1 ⟨rfl, f1⟩
  go_wp2_with fail
  refine (nwithout _).mono ?_
  rintro e w2 ⟨rfl, f2⟩
  go_wp2_with fail
  refine (nall _).mono ?_
  rintro e w3 ⟨rfl, f3⟩
  go_wp2_with fail
  have f0 := (f1.trans1 f2).trans1 f3
  refine (addNode_end (SZ.out.frame0 f0) (by simp [Up]) (by simp) 5 (by omega) (by omega) (by simp) (by simp [rank])).mono ?_
  rintro e w4 ⟨rfl, he⟩
  have O4 := Lib.hid (show GOwn w zb [nd0 5] [] 0 w4 from GOwn.next (fz.trans1 f0) (by simp; have := HZB.out; omega) he)
  clear he
  obtain ⟨F4, s4, f4, n4⟩ := O4.out
  have hc := gall_any [rn0 5] s4 (by intro r hr; simp at hr; subst hr; exact rn0_ok _ _) (by simp) (by simp) (by omega)
  rw [show (0 : Int) + 1 = 1 from rfl] at hc
  have HC := Lib.hid hc
  have F4 := Lib.hid f4
  clear hc s4 n4 f4 f1 f2 f3 f0
  go_wp2_with fail
  refine HC.out.mono ?_
  rintro e w7 ⟨rs', an, nc, ae, ec, G, H, rfl, -, -, -, -, f7, -⟩
  have F7 := Lib.hid (F4.out.trans1 f7)
  clear f7
  go_wp2_with (go_at_call 26; refine (awake10 _).mono ?_; rintro e w' ⟨rfl, f⟩)
  go_ret
  exact ⟨rfl, F7.out.trans1 f⟩

set_option maxRecDepth 100000 in
set_option maxHeartbeats 1000000 in
theorem graphNothing_good_high (a : Int) (s : ByteArray) (w : World) (hs : 0 < s.size) (hl : s.size ≤ 20) (h1 : 1000 < a) :
    Calls Try.prog 8 #[.int .i64 a, .string s] w fun e w' => e = .returned (.bool true) ∧ Frame [] w w' := by
  have he : s.toList.isEmpty = false := by
    cases hq : s.toList with
    | nil => have : s.size = 0 := by rw [← size_toList, hq]; rfl
             omega
    | cons _ _ => rfl
  have he2 : ¬ s.toList = [] := by intro h; rw [h] at he; simp at he
  have HA := Lib.hid (fun w' => nadd_node a a s (by simp [namedB]; omega) (by omega) w')
  have h3 : ¬ a < 1 := by omega
  have HB := Lib.hid (fun w' => naddNode_arg a (by omega) w')
  have fd := fld_next
  go_enter Try.func8, Try.ntmps8
  go_wp2_with fail
  have bz := Blk.new w 59 #[.slice none 0 0, .slice none 0 0, .int .i64 0]
  have fz : Frame [] w (w.alloc (.cells #[.slice none 0 0, .slice none 0 0, .int .i64 0] 59)) := Frame.alloc _ _ _
  have hsz : w.heap.size < (w.alloc (.cells #[.slice none 0 0, .slice none 0 0, .int .i64 0] 59)).heap.size := by simp
  generalize w.alloc (.cells #[.slice none 0 0, .slice none 0 0, .int .i64 0] 59) = wz at *
  have SZ := Lib.hid (show GSt wz w.heap.size [w.heap.size] [] [] 0 from ⟨none, 0, none, 0, [], [], bz, Sl.nil _ _ _ _, Sl.nil _ _ _ _, by simp, by simp, by simp, by simp⟩)
  generalize hzb : w.heap.size = zb at *
  have HZB := Lib.hid hzb
  clear hzb bz
  refine (HA.out _).mono ?_
  rintro e w' ⟨rfl, rfl⟩
  go_wp2_with fail
  refine (HB.out _).mono ?_
  rintro e w' ⟨rfl, rfl⟩
  go_wp2_with fail
  refine (ndrop _ _).mono ?_
  rintro e w' ⟨rfl, rfl⟩
  go_wp2_with fail
  refine (ndropNode _ _).mono ?_
  rintro e w1 ⟨rfl, f1⟩
  go_wp2_with fail
  refine (nwithout _).mono ?_
  rintro e w2 ⟨rfl, f2⟩
  go_wp2_with fail
  refine (nall _).mono ?_
  rintro e w3 ⟨rfl, f3⟩
  go_wp2_with fail
  have f0 := (f1.trans1 f2).trans1 f3
  refine (addNode_end (SZ.out.frame0 f0) (by simp [Up]) (by simp) 5 (by omega) (by omega) (by simp) (by simp [rank])).mono ?_
  rintro e w4 ⟨rfl, he⟩
  have O4 := Lib.hid (show GOwn w zb [nd0 5] [] 0 w4 from GOwn.next (fz.trans1 f0) (by simp; have := HZB.out; omega) he)
  clear he
  obtain ⟨F4, s4, f4, n4⟩ := O4.out
  have hc := gall_any [rn0 5] s4 (by intro r hr; simp at hr; subst hr; exact rn0_ok _ _) (by simp) (by simp) (by omega)
  rw [show (0 : Int) + 1 = 1 from rfl] at hc
  have HC := Lib.hid hc
  have F4 := Lib.hid f4
  clear hc s4 n4 f4 f1 f2 f3 f0
  go_wp2_with fail
  refine HC.out.mono ?_
  rintro e w7 ⟨rs', an, nc, ae, ec, G, H, rfl, -, -, -, -, f7, -⟩
  have F7 := Lib.hid (F4.out.trans1 f7)
  clear f7
  go_wp2_with (go_at_call 26; refine (awake10 _).mono ?_; rintro e w' ⟨rfl, f⟩)
  go_ret
  exact ⟨rfl, F7.out.trans1 f⟩

set_option maxRecDepth 100000 in
set_option maxHeartbeats 1000000 in
theorem graphNothing_good_good (a : Int) (s : ByteArray) (w : World) (hs : 0 < s.size) (hl : s.size ≤ 20) (h1 : 1 ≤ a) (h2 : a ≤ 1000) :
    Calls Try.prog 8 #[.int .i64 a, .string s] w fun e w' => e = .returned (.bool true) ∧ Frame [] w w' := by
  have he : s.toList.isEmpty = false := by
    cases hq : s.toList with
    | nil => have : s.size = 0 := by rw [← size_toList, hq]; rfl
             omega
    | cons _ _ => rfl
  have he2 : ¬ s.toList = [] := by intro h; rw [h] at he; simp at he
  have HA := Lib.hid (fun w' => nadd_node a a s (by simp [namedB]; omega) (by omega) w')
  have h3 : ¬ a < 1 := by omega
  have h4 : ¬ 1000 < a := by omega
  have HB := Lib.hid (fun w' => naddNode_big a h1 h2 w')
  have fd := fld_next
  go_enter Try.func8, Try.ntmps8
  go_wp2_with fail
  have bz := Blk.new w 59 #[.slice none 0 0, .slice none 0 0, .int .i64 0]
  have fz : Frame [] w (w.alloc (.cells #[.slice none 0 0, .slice none 0 0, .int .i64 0] 59)) := Frame.alloc _ _ _
  have hsz : w.heap.size < (w.alloc (.cells #[.slice none 0 0, .slice none 0 0, .int .i64 0] 59)).heap.size := by simp
  generalize w.alloc (.cells #[.slice none 0 0, .slice none 0 0, .int .i64 0] 59) = wz at *
  have SZ := Lib.hid (show GSt wz w.heap.size [w.heap.size] [] [] 0 from ⟨none, 0, none, 0, [], [], bz, Sl.nil _ _ _ _, Sl.nil _ _ _ _, by simp, by simp, by simp, by simp⟩)
  generalize hzb : w.heap.size = zb at *
  have HZB := Lib.hid hzb
  clear hzb bz
  refine (HA.out _).mono ?_
  rintro e w' ⟨rfl, rfl⟩
  go_wp2_with fail
  refine (HB.out _).mono ?_
  rintro e w' ⟨rfl, rfl⟩
  go_wp2_with fail
  refine (ndrop _ _).mono ?_
  rintro e w' ⟨rfl, rfl⟩
  go_wp2_with fail
  refine (ndropNode _ _).mono ?_
  rintro e w1 ⟨rfl, f1⟩
  go_wp2_with fail
  refine (nwithout _).mono ?_
  rintro e w2 ⟨rfl, f2⟩
  go_wp2_with fail
  refine (nall _).mono ?_
  rintro e w3 ⟨rfl, f3⟩
  go_wp2_with fail
  have f0 := (f1.trans1 f2).trans1 f3
  refine (addNode_end (SZ.out.frame0 f0) (by simp [Up]) (by simp) 5 (by omega) (by omega) (by simp) (by simp [rank])).mono ?_
  rintro e w4 ⟨rfl, he⟩
  have O4 := Lib.hid (show GOwn w zb [nd0 5] [] 0 w4 from GOwn.next (fz.trans1 f0) (by simp; have := HZB.out; omega) he)
  clear he
  obtain ⟨F4, s4, f4, n4⟩ := O4.out
  have hc := gall_any [rn0 5] s4 (by intro r hr; simp at hr; subst hr; exact rn0_ok _ _) (by simp) (by simp) (by omega)
  rw [show (0 : Int) + 1 = 1 from rfl] at hc
  have HC := Lib.hid hc
  have F4 := Lib.hid f4
  clear hc s4 n4 f4 f1 f2 f3 f0
  go_wp2_with fail
  refine HC.out.mono ?_
  rintro e w7 ⟨rs', an, nc, ae, ec, G, H, rfl, -, -, -, -, f7, -⟩
  have F7 := Lib.hid (F4.out.trans1 f7)
  clear f7
  go_wp2_with (go_at_call 26; refine (awake10 _).mono ?_; rintro e w' ⟨rfl, f⟩)
  go_ret
  exact ⟨rfl, F7.out.trans1 f⟩

end Go.Proofs.Ytolkmapdbilolaa
