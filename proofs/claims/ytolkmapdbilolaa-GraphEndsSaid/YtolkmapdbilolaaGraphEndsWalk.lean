/- The law GraphEnds, walked. -/
import Derived.Test.YtolkmapdbilolaaAwake10
import Derived.Test.YtolkmapdbilolaaGdropn
namespace Go.Proofs.Ytolkmapdbilolaa
open Go.RowKit
set_option linter.unusedSimpArgs false
set_option linter.unusedVariables false

set_option maxRecDepth 100000 in
theorem graphEnds_out (a b : Int) (w : World) (h : a < 1 ∨ 1000 < a ∨ b < 1 ∨ 1000 < b) :
    Calls Try.prog 7 #[.int .i64 a, .int .i64 b] w fun e w' => e = .returned (.bool true) ∧ Frame [] w w' := by
  by_cases h0 : a < 1
  · clear h
    go_enter Try.func7, Try.ntmps7
    go_wp2_with (go_at_call 26; refine (awake10 _).mono ?_; rintro e w' ⟨rfl, f⟩)
    go_ret
    exact ⟨rfl, f⟩
  by_cases h1 : 1000 < a
  · clear h
    go_enter Try.func7, Try.ntmps7
    go_wp2_with (go_at_call 26; refine (awake10 _).mono ?_; rintro e w' ⟨rfl, f⟩)
    go_ret
    exact ⟨rfl, f⟩
  by_cases h2 : b < 1
  · clear h
    go_enter Try.func7, Try.ntmps7
    go_wp2_with (go_at_call 26; refine (awake10 _).mono ?_; rintro e w' ⟨rfl, f⟩)
    go_ret
    exact ⟨rfl, f⟩
  · have h3 : 1000 < b := by omega
    clear h
    go_enter Try.func7, Try.ntmps7
    go_wp2_with (go_at_call 26; refine (awake10 _).mono ?_; rintro e w' ⟨rfl, f⟩)
    go_ret
    exact ⟨rfl, f⟩

theorem fld_nodes (a : Option Addr) (n c : Nat) (b : Option Addr) (m d : Nat) (k : Int) (w : World) : (Instr.field 55 (.agg #[.slice a n c, .slice b m d, .int .i64 k]) 0).run Try.prog w = .ok (.slice a n c) w := by kernel_rfl

/-- Two nodes. -/
structure Two (f t : Int) (ns : List Nd) : Prop where
  up : Up (ns.map (·.id))
  mf : f ∈ ns.map (·.id)
  mt : t ∈ ns.map (·.id)
  len : ns.length = 2
  drop : ns.eraseIdx (rank (ns.map (·.id)) f) = [nd0 t]
theorem two_of (f t : Int) (h : f ≠ t) : Two f t ([nd0 f].take (rank ([nd0 f].map (·.id)) t) ++ nd0 t :: [nd0 f].drop (rank ([nd0 f].map (·.id)) t)) := by
  rcases (by omega : f < t ∨ t < f) with h1 | h1
  · have hr : rank ([nd0 f].map (·.id)) t = 1 := by simp [rank, nd0, h1]
    rw [hr]
    have h2 : ¬ t < f := by omega
    exact ⟨by simp [Up, nd0, h1], by simp [nd0], by simp [nd0], by simp, by simp [rank, nd0, h2]⟩
  · have h2 : ¬ f < t := by omega
    have hr : rank ([nd0 f].map (·.id)) t = 0 := by simp [rank, nd0, h2]
    rw [hr]
    exact ⟨by simp [Up, nd0, h1], by simp [nd0], by simp [nd0], by simp, by simp [rank, nd0, h1]⟩

set_option maxRecDepth 100000 in
set_option maxHeartbeats 4000000 in
theorem graphEnds_eq (a : Int) (w : World) (h1 : 1 ≤ a) (h2 : a ≤ 1000) :
    Calls Try.prog 7 #[.int .i64 a, .int .i64 a] w fun e w' => e = .returned (.bool true) ∧ Frame [] w w' := by
  have q1 : ¬ a < 1 := by omega
  have q2 : ¬ 1000 < a := by omega
  go_enter Try.func7, Try.ntmps7
  go_wp2_with fail
  refine (gnew_any _).mono ?_
  rintro e w1 ⟨pb, rfl, s1, f1, n1⟩
  have f1 : Frame [] w w1 := f1
  have n1 : ∀ x ∈ [pb], w.heap.size ≤ x := by simpa using n1
  go_wp2_with fail
  refine (addNode_end s1 (by simp [Up]) (by simp) a (by omega) (by omega) (by simp) (by simp [rank])).mono ?_
  rintro e w2 ⟨rfl, he⟩
  have O2 := Lib.hid (show GOwn w pb [nd0 a] [] 0 w2 from GOwn.next f1 n1 he)
  clear he s1 f1 n1
  obtain ⟨F2, s2, f2, n2⟩ := O2.out
  have S2 := Lib.hid (And.intro s2 (And.intro f2 n2))
  clear s2 f2 n2
  go_wp2_with fail
  obtain ⟨ns, hns, T⟩ : ∃ ns, Hid (ns = [nd0 a]) ∧ Hid (GOwn w pb ns [] 0 w2) := ⟨_, rfl, O2⟩
  have HU : Hid (Up (ns.map (·.id))) := Lib.hid (by rw [hns.out]; simp [Up])
  have HA : Hid (a ∈ ns.map (·.id)) := Lib.hid (by rw [hns.out]; simp [nd0])
  have HL : Hid (ns.length ≤ 1000000) := Lib.hid (by rw [hns.out]; simp)
  clear S2 O2
  obtain ⟨F3, s3, f3, n3⟩ := T.out
  have hc := gadd_ok s3 HU.out HL.out (by simp) (by omega) (by omega) a a ⟨#[97]⟩ (by decide) HA.out HA.out
  rw [show (0 : Int) + 1 = 1 from rfl] at hc
  have HC := Lib.hid hc
  have S3 := Lib.hid (And.intro f3 n3)
  clear hc s3 f3 n3 T
  go_wp2_with fail
  refine HC.out.mono ?_
  rintro e w4 ⟨rfl, he⟩
  have T := Lib.hid (show GOwn w pb ns [⟨1, a, ⟨#[97]⟩, a⟩] 1 w4 from GOwn.next S3.out.1 S3.out.2 he)
  clear he
  obtain ⟨F4, s4, f4, n4⟩ := T.out
  have D1 := Lib.hid (fun w' (f : Frame [] w4 w') => dropNode_edge (s4.frame0 f) HU.out HL.out (by simp) a HA.out (by simp [meets]))
  have D2 := Lib.hid (fun w' (f : Frame [] w4 w') => dropNode_edge (s4.frame0 f) HU.out HL.out (by simp) a HA.out (by simp [meets]))
  have D3 := Lib.hid (fun w' (f : Frame [] w4 w') => gdrop_ok (s4.frame0 f) (by simp [Up]) (by simp) 1 (by simp))
  have S4 := Lib.hid (And.intro f4 n4)
  clear s4 f4 n4 T
  go_wp2_with fail
  refine (D1.out _ (Frame.refl _ _)).mono ?_
  rintro e w5 ⟨rfl, f5⟩
  have F5 := Lib.hid f5
  clear f5
  go_wp2_with fail
  refine (D2.out _ F5.out).mono ?_
  rintro e w6 ⟨rfl, f6⟩
  have F6 := Lib.hid (F5.out.trans1 f6)
  clear f6
  go_wp2_with fail
  refine (D3.out _ F6.out).mono ?_
  rintro e w7 ⟨rfl, he⟩
  have T := Lib.hid (show GOwn w pb ns [] 1 w7 from by have := GOwn.next (S4.out.1.trans1 F6.out) S4.out.2 he; simpa [rank] using this)
  clear he D1 D2 D3
  obtain ⟨F7, s7, f7, n7⟩ := T.out
  have D1 := Lib.hid (gdrop_none s7 (by simp [Up]) (by simp) 1 (by simp))
  have D2 := Lib.hid (fun w' (f : Frame [] w7 w') => dropNode_ok (s7.frame0 f) HU.out HL.out (by simp) a HA.out (by simp))
  have S7 := Lib.hid (And.intro f7 n7)
  clear s7 f7 n7 T
  go_wp2_with fail
  refine D1.out.mono ?_
  rintro e w8 ⟨rfl, f8⟩
  have F8 := Lib.hid f8
  clear f8
  go_wp2_with fail
  refine (D2.out _ F8.out).mono ?_
  rintro e w9 ⟨rfl, he⟩
  have T := Lib.hid (show GOwn w pb [] [] 1 w9 from by have := GOwn.next (S7.out.1.trans1 F8.out) S7.out.2 he; rw [hns.out] at this; simpa [rank, nd0] using this)
  clear he D1 D2
  obtain ⟨Fz, sz, fz, nz⟩ := T.out
  have D1 := Lib.hid (dropNode_none sz (by simp [Up]) (by simp) a (by simp))
  have D2 := Lib.hid (fun w' (f : Frame [] w9 w') => gall_any [] (sz.frame0 f) (by simp) (by simp) (by simp) (by omega))
  have SZ := Lib.hid fz
  clear sz fz nz T
  go_wp2_with fail
  refine D1.out.mono ?_
  rintro e wa ⟨rfl, fa⟩
  have FA := Lib.hid fa
  clear fa
  go_wp2_with fail
  have hc := D2.out _ FA.out
  rw [show (1 : Int) + 1 = 2 from rfl] at hc
  refine hc.mono ?_
  clear hc
  rintro e wb ⟨rs', an, nc, ae, ec, G, H, rfl, ht, -, -, -, fb, -⟩
  obtain rfl : rs' = [] := by simpa using ht
  have FB := Lib.hid (FA.out.trans1 fb)
  clear fb ht
  have fd1 := fld_nodes
  have fd2 := fld_next
  go_wp2_with fail
  have hc := D2.out _ FB.out
  rw [show (1 : Int) + 1 = 2 from rfl] at hc
  refine hc.mono ?_
  clear hc
  rintro e wc ⟨rs', an, nc, ae, ec, G, H, rfl, -, -, -, -, fc, -⟩
  have FC := Lib.hid (FB.out.trans1 fc)
  clear fc
  go_wp2_with (go_at_call 26; refine (awake10 _).mono ?_; rintro e w' ⟨rfl, f⟩)
  go_ret
  exact ⟨rfl, (SZ.out.trans1 FC.out).trans1 f⟩

set_option maxRecDepth 100000 in
set_option maxHeartbeats 4000000 in
theorem graphEnds_ne (a b : Int) (w : World) (h1 : 1 ≤ a) (h2 : a ≤ 1000) (h3 : 1 ≤ b) (h4 : b ≤ 1000) (hne : a ≠ b) :
    Calls Try.prog 7 #[.int .i64 a, .int .i64 b] w fun e w' => e = .returned (.bool true) ∧ Frame [] w w' := by
  have q1 : ¬ a < 1 := by omega
  have q2 : ¬ 1000 < a := by omega
  have q3 : ¬ b < 1 := by omega
  have q4 : ¬ 1000 < b := by omega
  have q5 : (a == b) = false := by simpa using hne
  have q6 : (a != b) = true := by simpa using hne
  have TW := Lib.hid (two_of a b hne)
  have NE := Lib.hid hne
  clear hne
  go_enter Try.func7, Try.ntmps7
  go_wp2_with fail
  refine (gnew_any _).mono ?_
  rintro e w1 ⟨pb, rfl, s1, f1, n1⟩
  have f1 : Frame [] w w1 := f1
  have n1 : ∀ x ∈ [pb], w.heap.size ≤ x := by simpa using n1
  go_wp2_with fail
  refine (addNode_end s1 (by simp [Up]) (by simp) a (by omega) (by omega) (by simp) (by simp [rank])).mono ?_
  rintro e w2 ⟨rfl, he⟩
  have O2 := Lib.hid (show GOwn w pb [nd0 a] [] 0 w2 from GOwn.next f1 n1 he)
  clear he s1 f1 n1
  obtain ⟨F2, s2, f2, n2⟩ := O2.out
  have S2 := Lib.hid (And.intro s2 (And.intro f2 n2))
  clear s2 f2 n2
  go_wp2_with fail
  refine (addNode_new S2.out.1 (by simp [Up]) (by simp) b (by omega) (by omega) (by simp [nd0]; exact fun e => NE.out e.symm)).mono ?_
  rintro e w3 ⟨rfl, he⟩
  obtain ⟨ns, hns, T⟩ : ∃ ns, Hid (Two a b ns) ∧ Hid (GOwn w pb ns [] 0 w3) := ⟨_, TW, Lib.hid (GOwn.next S2.out.2.1 S2.out.2.2 he)⟩
  have HU : Hid (Up (ns.map (·.id))) := Lib.hid hns.out.up
  have HA : Hid (a ∈ ns.map (·.id)) := Lib.hid hns.out.mf
  have HB : Hid (b ∈ ns.map (·.id)) := Lib.hid hns.out.mt
  have HL : Hid (ns.length ≤ 1000000) := Lib.hid (by rw [hns.out.len]; omega)
  clear he
  go_wp2_with fail
  clear S2 O2
  obtain ⟨F3, s3, f3, n3⟩ := T.out
  have hc := gadd_ok s3 HU.out HL.out (by simp) (by omega) (by omega) a b ⟨#[97]⟩ (by decide) HA.out HB.out
  rw [show (0 : Int) + 1 = 1 from rfl] at hc
  have HC := Lib.hid hc
  have S3 := Lib.hid (And.intro f3 n3)
  clear hc s3 f3 n3 T
  refine HC.out.mono ?_
  rintro e w4 ⟨rfl, he⟩
  have T := Lib.hid (show GOwn w pb ns [⟨1, a, ⟨#[97]⟩, b⟩] 1 w4 from GOwn.next S3.out.1 S3.out.2 he)
  clear he
  obtain ⟨F4, s4, f4, n4⟩ := T.out
  have D1 := Lib.hid (fun w' (f : Frame [] w4 w') => dropNode_edge (s4.frame0 f) HU.out HL.out (by simp) a HA.out (by simp [meets]))
  have D2 := Lib.hid (fun w' (f : Frame [] w4 w') => dropNode_edge (s4.frame0 f) HU.out HL.out (by simp) b HB.out (by simp [meets]))
  have D3 := Lib.hid (fun w' (f : Frame [] w4 w') => gdrop_ok (s4.frame0 f) (by simp [Up]) (by simp) 1 (by simp))
  have S4 := Lib.hid (And.intro f4 n4)
  clear s4 f4 n4 T
  go_wp2_with fail
  refine (D1.out _ (Frame.refl _ _)).mono ?_
  rintro e w5 ⟨rfl, f5⟩
  have F5 := Lib.hid f5
  clear f5
  go_wp2_with fail
  refine (D2.out _ F5.out).mono ?_
  rintro e w6 ⟨rfl, f6⟩
  have F6 := Lib.hid (F5.out.trans1 f6)
  clear f6
  go_wp2_with fail
  refine (D3.out _ F6.out).mono ?_
  rintro e w7 ⟨rfl, he⟩
  have T := Lib.hid (show GOwn w pb ns [] 1 w7 from by have := GOwn.next (S4.out.1.trans1 F6.out) S4.out.2 he; simpa [rank] using this)
  clear he D1 D2 D3
  obtain ⟨F7, s7, f7, n7⟩ := T.out
  have D1 := Lib.hid (gdrop_none s7 (by simp [Up]) (by simp) 1 (by simp))
  have D2 := Lib.hid (fun w' (f : Frame [] w7 w') => dropNode_ok (s7.frame0 f) HU.out HL.out (by simp) a HA.out (by simp))
  have S7 := Lib.hid (And.intro f7 n7)
  clear s7 f7 n7 T
  go_wp2_with fail
  refine D1.out.mono ?_
  rintro e w8 ⟨rfl, f8⟩
  have F8 := Lib.hid f8
  clear f8
  go_wp2_with fail
  refine (D2.out _ F8.out).mono ?_
  rintro e w9 ⟨rfl, he⟩
  have T := Lib.hid (show GOwn w pb [nd0 b] [] 1 w9 from by have := GOwn.next (S7.out.1.trans1 F8.out) S7.out.2 he; rw [hns.out.drop] at this; exact this)
  clear he D1 D2
  obtain ⟨F9, s9, f9, n9⟩ := T.out
  have D2 := Lib.hid (dropNode_ok s9 (by simp [Up]) (by simp) (by simp) b (by simp [nd0]) (by simp))
  have S9 := Lib.hid (And.intro f9 n9)
  clear s9 f9 n9 T
  go_wp2_with fail
  refine D2.out.mono ?_
  rintro e w10 ⟨rfl, he⟩
  have T := Lib.hid (show GOwn w pb [] [] 1 w10 from by have := GOwn.next S9.out.1 S9.out.2 he; simpa [rank, nd0] using this)
  clear he D2
  obtain ⟨Fz, sz, fz, nz⟩ := T.out
  have D1 := Lib.hid (dropNode_none sz (by simp [Up]) (by simp) a (by simp))
  have D2 := Lib.hid (fun w' (f : Frame [] w10 w') => gall_any [] (sz.frame0 f) (by simp) (by simp) (by simp) (by omega))
  have SZ := Lib.hid fz
  clear sz fz nz T
  go_wp2_with fail
  refine D1.out.mono ?_
  rintro e wa ⟨rfl, fa⟩
  have FA := Lib.hid fa
  clear fa
  go_wp2_with fail
  have hc := D2.out _ FA.out
  rw [show (1 : Int) + 1 = 2 from rfl] at hc
  refine hc.mono ?_
  clear hc
  rintro e wb ⟨rs', an, nc, ae, ec, G, H, rfl, ht, -, -, -, fb, -⟩
  obtain rfl : rs' = [] := by simpa using ht
  have FB := Lib.hid (FA.out.trans1 fb)
  clear fb ht
  have fd1 := fld_nodes
  have fd2 := fld_next
  go_wp2_with fail
  have hc := D2.out _ FB.out
  rw [show (1 : Int) + 1 = 2 from rfl] at hc
  refine hc.mono ?_
  clear hc
  rintro e wc ⟨rs', an, nc, ae, ec, G, H, rfl, -, -, -, -, fc, -⟩
  have FC := Lib.hid (FB.out.trans1 fc)
  clear fc
  go_wp2_with (go_at_call 26; refine (awake10 _).mono ?_; rintro e w' ⟨rfl, f⟩)
  go_ret
  exact ⟨rfl, (SZ.out.trans1 FC.out).trans1 f⟩

end Go.Proofs.Ytolkmapdbilolaa
