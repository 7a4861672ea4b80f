/- The law CutAsks, walked. -/
import Derived.Test.YtbnhhmejlglbcaaGreatCutAsksOMa
import Derived.Test.YtbnhhmejlglbcaaGreatMa36
namespace Go.Proofs.YtbnhhmejlglbcaaGreat
open Go.RowKit
set_option linter.unusedSimpArgs false
set_option linter.unusedVariables false

set_option maxRecDepth 100000 in
theorem cutAsks_out (a : Option Addr) (n cap : Nat) (r : Int) (ta : Option Addr) (tn tc : Nat) (bud : Int) (w : World) (h : 60 < n ∨ 50 < tn) (hn : n ≤ 9223372036854775807) (htn : tn ≤ 9223372036854775807) :
    Calls Tryz.prog 7 #[.slice a n cap, .int .i64 r, .slice ta tn tc, .int .i64 bud] w fun e w' => e = .returned (.bool true) ∧ Frame [] w w' := by
  by_cases h1 : 60 < n
  · have d1 : decide ((60 : Int) < n) = true := decide_eq_true (by omega)
    clear h
    go_enter Tryz.func7, Tryz.ntmps7
    go_wp2_with fail
    refine (awake15 _).mono ?_
    rintro e w1 ⟨rfl, f1⟩
    go_wp2_with fail
    go_ret
    exact ⟨rfl, f1⟩
  · have d1 : decide ((60 : Int) < n) = false := decide_eq_false (by omega)
    have d2 : decide ((50 : Int) < tn) = true := decide_eq_true (by omega)
    clear h
    go_enter Tryz.func7, Tryz.ntmps7
    go_wp2_with fail
    refine (awake15 _).mono ?_
    rintro e w1 ⟨rfl, f1⟩
    go_wp2_with fail
    go_ret
    exact ⟨rfl, f1⟩

set_option maxHeartbeats 4000000 in
set_option maxRecDepth 100000 in
theorem cutAsks_in (a : Option Addr) (cap : Nat) (xs : List St3) (root : Int) (ta : Option Addr) (tc : Nat) (ts : List Int) (bud : Int) (w : World) (hx : RdS w 3 St3.enc St3.ok a xs) (hl : xs.length ≤ 60) (ht : RdI w ta ts) (htl : ts.length ≤ 50) (hta : ts ≠ [] → ∀ b off, ta = some ⟨b, off, none⟩ → b < w.heap.size) :
    Calls Tryz.prog 7 #[.slice a xs.length cap, .int .i64 root, .slice ta ts.length tc, .int .i64 bud] w fun e w' => e = .returned (.bool true) ∧ Frame [] w w' := by
  have d1 : decide ((60 : Int) < xs.length) = false := decide_eq_false (by omega)
  have d2 : decide ((50 : Int) < ts.length) = false := decide_eq_false (by omega)
  have MA := Lib.hid (made15_any a cap xs w hx (by omega))
  have hok := gatesM_ok xs
  have HT := Lib.hid (And.intro ht hta)
  clear hx ht hta
  generalize gatesM xs = l at *
  have hl1 := hok.len
  have hl2 := hok.two
  have HI := Lib.hid hok.inv
  have HK := Lib.hid (hok.kn.knd)
  have hL1 := cutO_len (dead := fun t => decide (t ∈ ts)) (root := root) (budget := bud) hok.inv
  have hL2 := cutO_len (dead := fun t => decide (t ∈ ([] : List Int))) (root := root) (budget := bud) hok.inv
  clear hok
  go_enter Tryz.func7, Tryz.ntmps7
  go_wp2_with fail
  refine MA.out.mono ?_
  rintro e w2 ⟨pb, rb, rfl, F, F2, s2, r2, f2, n2, -⟩
  have A := Lib.hid (And.intro s2 (And.intro r2 f2))
  clear s2 r2 f2 n2 MA
  have P1 := Lib.hid (fun w' (f : Frame [] w2 w') => restrict_o pb F l (1000 - l.length) HI.out root (by omega) bud ta tc ts (by omega) w' (A.out.1.frame0 f) (HT.out.1.frame (A.out.2.2.trans1 f)) (fun h0 b off e => Nat.lt_of_lt_of_le (HT.out.2 h0 b off e) (A.out.2.2.trans1 f).size))
  have P2 := Lib.hid (fun w' (f : Frame [] w2 w') => copy_o pb F l (1000 - l.length) HI.out root (by omega) bud w' (A.out.1.frame0 f))
  have Q1 := Lib.hid (fun w' (f : Frame [] w2 w') => rrestrict_o rb F2 l 1000 HI.out HK.out root (by omega) bud ta tc ts (by omega) w' (A.out.2.1.frame0 f) (HT.out.1.frame (A.out.2.2.trans1 f)))
  have Q2 := Lib.hid (fun w' (f : Frame [] w2 w') => rrestrict_o rb F2 l 1000 HI.out HK.out root (by omega) bud none 0 [] (by simp) w' (A.out.2.1.frame0 f) (.inl rfl))
  have EM := Lib.hid (fun w' (f : Frame [] w2 w') => empty_o pb F l (1000 - l.length) HI.out root (by omega) w' (A.out.1.frame0 f))
  have RT := Lib.hid (fun w' (f : Frame [] w2 w') => rtruth_o rb F2 l 1000 HI.out HK.out root (by omega) none 0 [] w' (A.out.2.1.frame0 f) (.inl rfl) (by simp))
  have LE := Lib.hid (fun w' (f : Frame [] w2 w') => least_o pb F l (1000 - l.length) HI.out root (by omega) ta tc ts w' (A.out.1.frame0 f) (HT.out.1.frame (A.out.2.2.trans1 f)) (by omega))
  have RL := Lib.hid (fun w' (f : Frame [] w2 w') => rleast_o rb F2 l 1000 HI.out HK.out root (by omega) ta tc ts w' (A.out.2.1.frame0 f) (HT.out.1.frame (A.out.2.2.trans1 f)) (by omega))
  have hll : (leastO l root ts).length ≤ 1000000 := leastO_len _ _ _ (by omega)
  have FW := Lib.hid A.out.2.2
  clear A HT HI HK
  generalize truthO l root [] = tb at *
  generalize leastO l root ts = A at *
  generalize cutO (fun t => decide (t ∈ ts)) l root bud = o1 at *
  generalize cutO (fun t => decide (t ∈ ([] : List Int))) l root bud = o2 at *
  obtain ⟨e1, l1, n1, k1⟩ := o1
  obtain ⟨e2, l2, n2, k2⟩ := o2
  simp only at hL1 hL2
  -- the end, out of any world
  have fin : ∀ w', Frame [] w2 w' → True := fun _ _ => trivial
  clear fin
  go_wp2_with fail
  refine (P1.out _ (Frame.refl _ _)).mono ?_
  rintro e w3 ⟨p1, p2, f3⟩
  have F3 := Lib.hid f3
  clear f3 P1
  by_cases he1 : e1 = 0
  · subst he1
    obtain ⟨qb, Q, rfl, s3⟩ := p1 rfl
    have S3 := Lib.hid s3
    clear p1 p2 s3
    go_wp2_with fail
    refine (Q1.out _ F3.out).mono ?_
    rintro e w4 ⟨p1, p2, f4⟩
    obtain ⟨qc, Q', rfl, r4⟩ := p1 rfl
    have AL := Lib.hid (fun w' (f : Frame [] w4 w') => alike15_any qb qc Q Q' l1 k1 (room bud + 2) w' (S3.out.frame0 (f4.trans1 f)) (r4.frame0 f) (by omega))
    have F4 := Lib.hid (F3.out.trans1 f4)
    clear p1 p2 r4 f4 S3 Q1
    go_wp2_with fail
    refine (AL.out _ (Frame.refl _ _)).mono ?_
    rintro e w5 ⟨rfl, f5⟩
    have F5 := Lib.hid (F4.out.trans1 f5)
    clear f5 AL
    go_wp2_with fail
    refine (P2.out _ F5.out).mono ?_
    rintro e w6 ⟨p1, p2, f6⟩
    have F6 := Lib.hid (F5.out.trans1 f6)
    have f6h := Lib.hid f6
    clear f6 P2
    by_cases he2 : e2 = 0
    · subst he2
      obtain ⟨qd, Q2', rfl, s6⟩ := p1 rfl
      have S6 := Lib.hid s6
      clear p1 p2 s6
      go_wp2_with fail
      refine (Q2.out _ F6.out).mono ?_
      rintro e w7 ⟨p1, p2, f7⟩
      obtain ⟨qe, Q3', rfl, r7⟩ := p1 rfl
      have AL := Lib.hid (fun w' (f : Frame [] w7 w') => alike15_any qd qe Q2' Q3' l2 k2 (room bud + 2) w' (S6.out.frame0 (f7.trans1 f)) (r7.frame0 f) (by omega))
      have F7 := Lib.hid (F6.out.trans1 f7)
      clear p1 p2 r7 f7 S6 Q2
      go_wp2_with fail
      refine (AL.out _ (Frame.refl _ _)).mono ?_
      rintro e w8 ⟨rfl, f8⟩
      have F8 := Lib.hid (F7.out.trans1 f8)
      clear f8 AL
      go_wp2_with fail
      refine (EM.out _ F8.out).mono ?_
      rintro e w9 ⟨rfl, f9⟩
      have F9 := Lib.hid (F8.out.trans1 f9)
      clear f9
      go_wp2_with fail
      refine (RT.out _ F9.out).mono ?_
      rintro e w10 ⟨rfl, f10⟩
      have F10 := Lib.hid (F9.out.trans1 f10)
      have tt : (tb == tb) = true := by simp
      clear f10
      go_wp2_with fail
      refine (LE.out _ F10.out).mono ?_
      rintro e w11 ⟨a1, c1, rfl, i1, f11, -, -⟩
      have F11 := Lib.hid (F10.out.trans1 f11)
      have I1 := Lib.hid i1
      clear f11 i1
      go_wp2_with fail
      refine (RL.out _ F11.out).mono ?_
      rintro e w12 ⟨a2, c2, rfl, i2, f12, -, -⟩
      have F12 := Lib.hid (F11.out.trans1 f12)
      have IN := Lib.hid (Ans.yes (ints_any (fun _ => True) (fun _ => True) a1 a2 c1 c2 A A w12 (rdI_rf (I1.out.frame f12)) (rdI_rf i2) hll hll) rfl)
      clear f12 i2 I1
      go_wp2_with fail
      refine IN.out.mono ?_
      rintro e w13 ⟨rfl, f13⟩
      have F13 := Lib.hid (F12.out.trans1 f13)
      clear f13 IN
      go_wp2_with fail
      refine (awake15 _).mono ?_
      rintro e w14 ⟨rfl, f14⟩
      go_wp2_with fail
      go_ret
      exact ⟨rfl, (FW.out.trans1 F13.out).trans1 f14⟩
    · have E2 := Lib.hid he2
      obtain rfl := p2 he2
      clear p1 p2 he2
      have nb : (e2 != e2) = false := by simp
      go_wp2_with fail
      refine (Q2.out _ F6.out).mono ?_
      rintro e w8 ⟨p1, p2, f7⟩
      obtain rfl := p2 E2.out
      have F8 := Lib.hid (F6.out.trans1 f7)
      clear p1 p2 f7 Q2
      go_wp2_with fail
      refine (EM.out _ F8.out).mono ?_
      rintro e w9 ⟨rfl, f9⟩
      have F9 := Lib.hid (F8.out.trans1 f9)
      clear f9
      go_wp2_with fail
      refine (RT.out _ F9.out).mono ?_
      rintro e w10 ⟨rfl, f10⟩
      have F10 := Lib.hid (F9.out.trans1 f10)
      have tt : (tb == tb) = true := by simp
      clear f10
      go_wp2_with fail
      refine (LE.out _ F10.out).mono ?_
      rintro e w11 ⟨a1, c1, rfl, i1, f11, -, -⟩
      have F11 := Lib.hid (F10.out.trans1 f11)
      have I1 := Lib.hid i1
      clear f11 i1
      go_wp2_with fail
      refine (RL.out _ F11.out).mono ?_
      rintro e w12 ⟨a2, c2, rfl, i2, f12, -, -⟩
      have F12 := Lib.hid (F11.out.trans1 f12)
      have IN := Lib.hid (Ans.yes (ints_any (fun _ => True) (fun _ => True) a1 a2 c1 c2 A A w12 (rdI_rf (I1.out.frame f12)) (rdI_rf i2) hll hll) rfl)
      clear f12 i2 I1
      go_wp2_with fail
      refine IN.out.mono ?_
      rintro e w13 ⟨rfl, f13⟩
      have F13 := Lib.hid (F12.out.trans1 f13)
      clear f13 IN
      go_wp2_with fail
      refine (awake15 _).mono ?_
      rintro e w14 ⟨rfl, f14⟩
      go_wp2_with fail
      go_ret
      exact ⟨rfl, (FW.out.trans1 F13.out).trans1 f14⟩
  · have E1 := Lib.hid he1
    obtain rfl := p2 he1
    clear p1 p2 he1
    go_wp2_with fail
    refine (Q1.out _ F3.out).mono ?_
    rintro e w5 ⟨p1, p2, f4⟩
    obtain rfl := p2 E1.out
    have F5 := Lib.hid (F3.out.trans1 f4)
    clear p1 p2 f4 Q1
    go_wp2_with fail
    refine (P2.out _ F5.out).mono ?_
    rintro e w6 ⟨p1, p2, f6⟩
    have F6 := Lib.hid (F5.out.trans1 f6)
    clear f6 P2
    by_cases he2 : e2 = 0
    · subst he2
      obtain ⟨qd, Q2', rfl, s6⟩ := p1 rfl
      have S6 := Lib.hid s6
      clear p1 p2 s6
      go_wp2_with fail
      refine (Q2.out _ F6.out).mono ?_
      rintro e w7 ⟨p1, p2, f7⟩
      obtain ⟨qe, Q3', rfl, r7⟩ := p1 rfl
      have AL := Lib.hid (fun w' (f : Frame [] w7 w') => alike15_any qd qe Q2' Q3' l2 k2 (room bud + 2) w' (S6.out.frame0 (f7.trans1 f)) (r7.frame0 f) (by omega))
      have F7 := Lib.hid (F6.out.trans1 f7)
      clear p1 p2 r7 f7 S6 Q2
      go_wp2_with fail
      refine (AL.out _ (Frame.refl _ _)).mono ?_
      rintro e w8 ⟨rfl, f8⟩
      have F8 := Lib.hid (F7.out.trans1 f8)
      clear f8 AL
      go_wp2_with fail
      refine (EM.out _ F8.out).mono ?_
      rintro e w9 ⟨rfl, f9⟩
      have F9 := Lib.hid (F8.out.trans1 f9)
      clear f9
      go_wp2_with fail
      refine (RT.out _ F9.out).mono ?_
      rintro e w10 ⟨rfl, f10⟩
      have F10 := Lib.hid (F9.out.trans1 f10)
      have tt : (tb == tb) = true := by simp
      clear f10
      go_wp2_with fail
      refine (LE.out _ F10.out).mono ?_
      rintro e w11 ⟨a1, c1, rfl, i1, f11, -, -⟩
      have F11 := Lib.hid (F10.out.trans1 f11)
      have I1 := Lib.hid i1
      clear f11 i1
      go_wp2_with fail
      refine (RL.out _ F11.out).mono ?_
      rintro e w12 ⟨a2, c2, rfl, i2, f12, -, -⟩
      have F12 := Lib.hid (F11.out.trans1 f12)
      have IN := Lib.hid (Ans.yes (ints_any (fun _ => True) (fun _ => True) a1 a2 c1 c2 A A w12 (rdI_rf (I1.out.frame f12)) (rdI_rf i2) hll hll) rfl)
      clear f12 i2 I1
      go_wp2_with fail
      refine IN.out.mono ?_
      rintro e w13 ⟨rfl, f13⟩
      have F13 := Lib.hid (F12.out.trans1 f13)
      clear f13 IN
      go_wp2_with fail
      refine (awake15 _).mono ?_
      rintro e w14 ⟨rfl, f14⟩
      go_wp2_with fail
      go_ret
      exact ⟨rfl, (FW.out.trans1 F13.out).trans1 f14⟩
    · have E2 := Lib.hid he2
      obtain rfl := p2 he2
      clear p1 p2 he2
      go_wp2_with fail
      refine (Q2.out _ F6.out).mono ?_
      rintro e w8 ⟨p1, p2, f7⟩
      obtain rfl := p2 E2.out
      have F8 := Lib.hid (F6.out.trans1 f7)
      clear p1 p2 f7 Q2
      go_wp2_with fail
      refine (EM.out _ F8.out).mono ?_
      rintro e w9 ⟨rfl, f9⟩
      have F9 := Lib.hid (F8.out.trans1 f9)
      clear f9
      go_wp2_with fail
      refine (RT.out _ F9.out).mono ?_
      rintro e w10 ⟨rfl, f10⟩
      have F10 := Lib.hid (F9.out.trans1 f10)
      have tt : (tb == tb) = true := by simp
      clear f10
      go_wp2_with fail
      refine (LE.out _ F10.out).mono ?_
      rintro e w11 ⟨a1, c1, rfl, i1, f11, -, -⟩
      have F11 := Lib.hid (F10.out.trans1 f11)
      have I1 := Lib.hid i1
      clear f11 i1
      go_wp2_with fail
      refine (RL.out _ F11.out).mono ?_
      rintro e w12 ⟨a2, c2, rfl, i2, f12, -, -⟩
      have F12 := Lib.hid (F11.out.trans1 f12)
      have IN := Lib.hid (Ans.yes (ints_any (fun _ => True) (fun _ => True) a1 a2 c1 c2 A A w12 (rdI_rf (I1.out.frame f12)) (rdI_rf i2) hll hll) rfl)
      clear f12 i2 I1
      go_wp2_with fail
      refine IN.out.mono ?_
      rintro e w13 ⟨rfl, f13⟩
      have F13 := Lib.hid (F12.out.trans1 f13)
      clear f13 IN
      go_wp2_with fail
      refine (awake15 _).mono ?_
      rintro e w14 ⟨rfl, f14⟩
      go_wp2_with fail
      go_ret
      exact ⟨rfl, (FW.out.trans1 F13.out).trans1 f14⟩
end Go.Proofs.YtbnhhmejlglbcaaGreat

