/- The law CutBudget, walked. -/
import Derived.Test.YtoidafgeckhkcaaGreatMc46
import Derived.Test.YtoidafgeckhkcaaGreatMc47
namespace Go.Proofs.YtoidafgeckhkcaaGreat
open Go.RowKit
set_option linter.unusedSimpArgs false
set_option linter.unusedVariables false

set_option maxRecDepth 100000 in
theorem cutBudget_out (a : Option Addr) (n cap : Nat) (r : Int) (ta : Option Addr) (tn tc : Nat) (w : World) (h : 40 < n ∨ 20 < tn) (hn : n ≤ 9223372036854775807) (htn : tn ≤ 9223372036854775807) :
    Calls Tryz.prog 3 #[.slice a n cap, .int .i64 r, .slice ta tn tc] w fun e w' => e = .returned (.bool true) ∧ Frame [] w w' := by
  by_cases h1 : 40 < n
  · have d1 : decide ((40 : Int) < n) = true := decide_eq_true (by omega)
    clear h
    go_enter Tryz.func3, Tryz.ntmps3
    go_wp2_with fail
    refine (awake15 _).mono ?_
    rintro e w1 ⟨rfl, f1⟩
    go_wp2_with fail
    go_ret
    exact ⟨rfl, f1⟩
  · have d1 : decide ((40 : Int) < n) = false := decide_eq_false (by omega)
    have d2 : decide ((20 : Int) < tn) = true := decide_eq_true (by omega)
    clear h
    go_enter Tryz.func3, Tryz.ntmps3
    go_wp2_with fail
    refine (awake15 _).mono ?_
    rintro e w1 ⟨rfl, f1⟩
    go_wp2_with fail
    go_ret
    exact ⟨rfl, f1⟩
/-- A number, gone round. -/
theorem round_nat (r : Int) (n : Nat) (hn : 1 ≤ n) : ∃ root : Nat, r % (n : Int) = root ∧ root < n := by
  have h1 := Int.emod_nonneg r (show (n : Int) ≠ 0 by omega)
  have h2 := Int.emod_lt_of_pos r (show (0 : Int) < n by omega)
  exact ⟨(r % n).toNat, by omega, by omega⟩

set_option maxHeartbeats 4000000 in
set_option maxRecDepth 100000 in
theorem cutBudget_in (a : Option Addr) (cap : Nat) (xs : List St3) (r : Int) (ta : Option Addr) (tc : Nat) (ts : List Int) (w : World) (hx : RdS w 3 St3.enc St3.ok a xs) (hl : xs.length ≤ 40) (ht : RdI w ta ts) (htl : ts.length ≤ 20) (hta : ts ≠ [] → ∀ b off, ta = some ⟨b, off, none⟩ → b < w.heap.size) (hr : okI w r) :
    Calls Tryz.prog 3 #[.slice a xs.length cap, .int .i64 r, .slice ta ts.length tc] w fun e w' => e = .returned (.bool true) ∧ Frame [] w w' := by
  have d1 : decide ((40 : Int) < xs.length) = false := decide_eq_false (by omega)
  have d2 : decide ((20 : Int) < ts.length) = false := decide_eq_false (by omega)
  have MA := Lib.hid (made15_any a cap xs w hx (by omega))
  have hok := gatesM_ok xs
  have HT := Lib.hid (And.intro ht hta)
  clear hx ht hta
  generalize gatesM xs = l at *
  have hl1 := hok.len
  have hl2 := hok.two
  have HOK := Lib.hid hok
  clear hok
  go_enter Tryz.func3, Tryz.ntmps3
  go_wp2_with fail
  refine MA.out.mono ?_
  rintro e w2 ⟨pb, rb, rfl, F, F2, s2, r2, f2, n2, -⟩
  obtain ⟨ra, rc, rG, rb1, -, -, -⟩ := r2
  have z0 := rb1.at 0 rfl
  obtain ⟨root, hroot, hrl⟩ := round_nat r l.length (by omega)
  have RA := Lib.hid (fun w => round_any r l.length w (by omega) (by omega) hr.1 hr.2)
  rw [hroot] at RA
  have A := Lib.hid (And.intro s2 f2)
  have LS := Lib.hid s2.lens
  clear s2 f2 n2 rb1 hroot hr MA
  go_wp2_with fail
  refine (RA.out _).mono ?_
  rintro e wq ⟨rfl, rfl⟩
  clear z0 RA
  go_wp2_with fail
  refine (LS.out _ (Frame.refl _ _)).mono ?_
  rintro e wq2 ⟨rfl, rfl⟩
  have RS := Lib.hid (fun w' (f : Frame [] wq2 w') budget => restrict_any pb F l (1000 - l.length) HOK.out.inv root hrl (by omega) budget ta tc ts (by omega) w' (A.out.1.frame0 f) (HT.out.1.frame (A.out.2.trans1 f)) (fun h0 b off e => Nat.lt_of_lt_of_le (HT.out.2 h0 b off e) (A.out.2.trans1 f).size))
  have hkl := reach_len l root
  have hci := cutV_ok (dead := fun t => decide (t ∈ ts)) (reach_closed HOK.out.inv hrl) (fun g hg h3 => (HOK.out.tk g hg h3).1) (T := 1000) (by omega) (reach l root).length (Nat.le_refl _)
  rw [List.take_length] at hci
  have hbud := fun (T' : Int) (h2 : 2 ≤ T') => cutV_bud (dead := fun t => decide (t ∈ ts)) (l := l) (ks := reach l root) (reach_closed HOK.out.inv hrl).lt (T := 1000) (T' := T') h2 hci.e
  have hR := RS.out wq2 (Frame.refl _ _) 1000
  rw [show room 1000 = 1000 - 2 from by decide] at hR
  have hRn := fun w' f (n : Nat) (hn : 2 ≤ n ∧ n ≤ 1000) => RS.out w' f n
  generalize hfin : cutV (fun t => decide (t ∈ ts)) l (reach l root) (1000 - 2) = fin at *
  have he := hci.e
  have hfl := hci.len
  have hf2 := hci.two
  have HR := Lib.hid hR
  have HB := Lib.hid hbud
  clear hfin hci hR hbud hRn
  go_wp2_with fail
  refine HR.out.mono ?_
  rintro e w3 ⟨hres, -, f3⟩
  obtain ⟨qb, Q, rfl, s3, -⟩ := hres he
  have F3 := Lib.hid f3
  have LQ := Lib.hid s3.lens
  clear hres f3 s3 HR
  generalize hbm : fin.bm root = bmr at *
  have HBM := Lib.hid hbm
  clear hbm
  go_wp2_with fail
  refine (LQ.out _ (Frame.refl _ _)).mono ?_
  rintro e wq3 ⟨rfl, rfl⟩
  clear LQ
  generalize hnl : fin.l.length = n at *
  have HNL := Lib.hid hnl
  clear hnl
  have e1 : IntKind.i64.wrap ((n : Int) - 1) = (n : Int) - 1 := IntWalk.i64_in _ (by omega)
  have hR1 := RS.out wq3 F3.out n
  rw [show room (n : Int) = (n : Int) - 2 from by unfold room; omega, (HB.out n (by omega)).1 (by omega)] at hR1
  have HR1 := Lib.hid hR1
  clear hR1
  go_wp2_with fail
  refine HR1.out.mono ?_
  rintro e w4 ⟨hres, -, f4⟩
  obtain ⟨qb4, Q4, rfl, s4, -⟩ := hres rfl
  simp only at s4 ⊢
  rw [HBM.out]
  have F4 := Lib.hid (F3.out.trans1 f4)
  have LQ4 := Lib.hid s4.lens
  rw [HNL.out] at LQ4
  clear hres f4 s4 HR1
  by_cases hn2 : n = 2
  · subst hn2
    have hR2 := RS.out w4 F4.out (((2 : Nat) : Int) - 1)
    rw [show room (((2 : Nat) : Int) - 1) = (2 : Int) - 2 from by decide, (HB.out 2 (by omega)).1 (by omega)] at hR2
    have HR2 := Lib.hid hR2
    clear hR2
    go_wp2_with fail
    refine HR2.out.mono ?_
    rintro e w5 ⟨hres, -, f5⟩
    obtain ⟨qb5, Q5, rfl, s5, -⟩ := hres rfl
    have F5 := Lib.hid (F4.out.trans1 f5)
    clear hres f5 s5 HR2
    go_wp2_with fail
    refine (LS.out _ F5.out).mono ?_
    rintro e wq5 ⟨rfl, rfl⟩
    go_wp2_with fail
    refine (awake15 _).mono ?_
    rintro e w6 ⟨rfl, f6⟩
    go_wp2_with fail
    go_ret
    exact ⟨rfl, (A.out.2.trans1 F5.out).trans1 f6⟩
  · have hR2 := RS.out w4 F4.out ((n : Int) - 1)
    have h10 := (HB.out ((n : Int) - 1) (by omega)).2 (by omega)
    rw [show room ((n : Int) - 1) = (n : Int) - 1 - 2 from by unfold room; omega] at hR2
    generalize cutV (fun t => decide (t ∈ ts)) l (reach l root) ((n : Int) - 1 - 2) = fin2 at *
    have HR2 := Lib.hid hR2
    have H10 := Lib.hid h10
    have hb2 : ((n : Int) == 2) = false := by simp; omega
    clear hR2 h10 hn2
    go_wp2_with fail
    refine HR2.out.mono ?_
    rintro e w5 ⟨-, hres, f5⟩
    obtain rfl := hres (by rw [H10.out]; decide)
    rw [H10.out]
    have F5 := Lib.hid (F4.out.trans1 f5)
    have f45 := Lib.hid f5
    clear hres f5 HR2
    go_wp2_with fail
    refine (LQ4.out _ f45.out).mono ?_
    rintro e wq5 ⟨rfl, rfl⟩
    go_wp2_with fail
    refine (LS.out _ F5.out).mono ?_
    rintro e wq5 ⟨rfl, rfl⟩
    go_wp2_with fail
    refine (awake15 _).mono ?_
    rintro e w6 ⟨rfl, f6⟩
    go_wp2_with fail
    go_ret
    exact ⟨rfl, (A.out.2.trans1 F5.out).trans1 f6⟩
end Go.Proofs.YtoidafgeckhkcaaGreat

