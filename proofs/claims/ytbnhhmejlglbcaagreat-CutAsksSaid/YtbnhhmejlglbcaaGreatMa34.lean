/- tansylaw15.made: a store on both sides. (printed by gen_made.py) -/
import Derived.Test.YtbnhhmejlglbcaaGreatMa32
import Derived.Test.YtbnhhmejlglbcaaGreatMa18
import Derived.Test.YtbnhhmejlglbcaaGreatMa33
import Derived.Test.YtbnhhmejlglbcaaGreatMa19
import Derived.IntWalk
namespace Go.Proofs.YtbnhhmejlglbcaaGreat
open Go.RowKit
set_option linter.unusedSimpArgs false
set_option linter.unusedVariables false

def MadeEnd15 (l : List Gt) (w : World) (e : Ending) (w' : World) : Prop := ∃ pb rb, e = .returned (.tuple #[.pointer (some ⟨pb, 0, none⟩), .pointer (some ⟨rb, 0, none⟩), .bool true]) ∧ BSg [] (fun _ => True) w pb rb l (1000 - l.length) l 1000 w'
set_option maxHeartbeats 4000000 in
set_option maxRecDepth 100000 in
theorem made15_any (a : Option Addr) (cap : Nat) (xs : List St3) (w : World) (hx : RdS w 3 St3.enc St3.ok a xs) (hl : xs.length ≤ 60) :
    Calls Tryz.prog 30 #[.slice a xs.length cap] w fun e w' => MadeEnd15 (gatesM xs) w e w' := by
  have HX := Lib.hid hx
  clear hx
  go_enter Tryz.func30, Tryz.ntmps30
  go_wp2_with fail
  refine (new_any 1000 _).mono ?_
  rintro e w2 ⟨pb, rfl, F2, s2, f2, n2⟩
  have A2 := Lib.hid (And.intro s2 (And.intro f2 n2))
  clear s2 f2 n2
  go_wp2_with fail
  refine (rnew_any 1000 _).mono ?_
  rintro e w3 ⟨rb, F3, rfl, s3, f3, n3⟩
  have hB : BSg [] (fun _ => True) w pb rb init (1000 - init.length) init 1000 w3 := by
    refine ⟨F2, F3, ?_, by rw [show (1000 : Int) = room 1000 + 2 from by decide]; exact s3, A2.out.2.1.trans1 f3, fun x hx => A2.out.2.2 x hx, fun x hx => Nat.le_trans A2.out.2.1.size (n3 x hx), fun x hx hm => ?_, trivial, by simp⟩
    · have := A2.out.1.frame0 f3
      have e : (1000 : Int) - (init.length : Int) = room 1000 := by decide
      rw [e]; exact this
    · have h1 := A2.out.1.lt x hx
      have h2 := n3 x hm
      omega
  have B0 := Lib.hid hB
  clear hB s3 f3 n3 A2
  have hl60 : decide ((60 : Int) < xs.length) = false := decide_eq_false (by omega)
  go_wp2_with fail
  go_loopw [7, 8, 9, 10, 11] (fun i _ _ _ _ wr => ∃ (j : Nat) (l : List Gt), j ≤ xs.length ∧ i = .int .i64 j ∧ Hid (l = gatesM (xs.take j) ∧ BSg [] (fun _ => True) w pb rb l (1000 - l.length) l 1000 wr)) (fun i _ _ _ _ _ => xs.length - (intOf i).toNat)
  case atStart => exact ⟨0, init, Nat.zero_le _, rfl, Lib.hid ⟨rfl, B0.out⟩⟩
  case round =>
    rename World => wr
    obtain ⟨j, l, hj, rfl, hG⟩ := hrel
    have mok := gatesM_ok (xs.take j)
    rw [← hG.out.1] at mok
    have hl1 := mok.len
    have hl2 := mok.two
    rw [List.length_take] at hl1
    by_cases hlt : j < xs.length
    · have hjs : xs[j]? = some xs[j] := by simp [hlt]
      obtain ⟨b', off, rfl, hc, hok⟩ := (HX.out.frame hG.out.2.frame (fun x => St3.ok_frame hG.out.2.frame x)).at hlt
      have c0 := hc 0 _ rfl
      have c1 := hc 1 _ rfl
      have c2 := hc 2 _ rfl
      simp only [Nat.add_zero] at c0
      generalize xs[j] = s at *
      have HJ := Lib.hid (And.intro hjs hG.out.1)
      have B := Lib.hid hG.out.2
      obtain ⟨Fq, Fr, -, qr, -⟩ := id B.out
      obtain ⟨ra, rc, rG, rb1, -, -, -⟩ := qr
      have z0 := rb1.at 0 rfl
      obtain ⟨o1, o2, o3⟩ := hok
      obtain ⟨sk, sa, sb⟩ := s
      simp only [okI] at o1 o2 o3
      have RA := Lib.hid (fun w => round_any sa l.length w (by omega) (by omega) (by omega) (by omega))
      have RB := Lib.hid (fun w => round_any sb l.length w (by omega) (by omega) (by omega) (by omega))
      have R6 := Lib.hid (fun w => round_any sa 6 w (by omega) (by omega) (by omega) (by omega))
      clear hc hjs mok B0 rb1 hG
      go_wp2_with fail
      refine (RA.out _).mono ?_
      rintro e wq ⟨rfl, rfl⟩
      go_wp2_with fail
      refine (RB.out _).mono ?_
      rintro e wq ⟨rfl, rfl⟩
      by_cases k1 : sk = 1
      · subst k1
        have e : opS (St3.stp ⟨1, sa, sb⟩ l.length) l (1000 - l.length) = mkVar (1 + sa % 6) l (1000 - l.length) := by simp [opS, St3.stp]
        have hs1 : stepM l ⟨1, sa, sb⟩ = (mkVar (1 + sa % 6) l (1000 - l.length)).2.1 := by rw [stepM, e]
        have hs2 : (mkVar (1 + sa % 6) l (1000 - l.length)).2.2 = 1000 - (stepM l ⟨1, sa, sb⟩).length := by rw [← e]; exact stepM_left l ⟨1, sa, sb⟩
        have hv := fun w1 h => BSg.var (w0 := w) (w := w1) (pb := pb) (rb := rb) (l1 := l) (left := 1000 - l.length) (l2 := l) (bud := 1000) keep_none h (1 + sa % 6) (by omega)
        have hr := fun w1 l1 left h => BSg.rvar (w0 := w) (w := w1) (pb := pb) (rb := rb) (l1 := l1) (left := left) (l2 := l) (bud := 1000) keep_none h (1 + sa % 6) (by omega)
        generalize mkVar (1 + sa % 6) l (1000 - l.length) = q at *
        obtain ⟨⟨q1, q2⟩, ql, qf⟩ := q
        simp only at hs1 hs2 hv hr
        subst hs2
        have HS1 := Lib.hid hs1
        have HV := Lib.hid hv
        have HR := Lib.hid hr
        clear hs1 hv hr e
        have e6 : IntKind.i64.wrap (1 + sa % 6) = 1 + sa % 6 := IntWalk.i64_in _ (by omega)
        go_wp2_with fail
        refine (R6.out _).mono ?_
        rintro e wq ⟨rfl, rfl⟩
        go_wp2_with fail
        refine (HV.out _ B.out).mono ?_
        rintro e w5 ⟨rfl, b5⟩
        have B5 := Lib.hid b5
        clear b5 HV
        go_wp2_with fail
        refine (HR.out _ _ _ B5.out).mono ?_
        rintro e w6 ⟨rfl, b6⟩
        have B6 := Lib.hid b6
        clear b6 HR B5
        go_wp2_with fail
        go_roundw
        case rel => exact ⟨j + 1, ql, by omega, by first | rfl | go_num, Lib.hid ⟨by rw [gatesM_take HJ.out.1, ← HJ.out.2, HS1.out], by rw [← HS1.out] at *; exact B6.out⟩⟩
        case measure => first | (simp [intOf]; done) | (simp [intOf]; omega)
      by_cases k2 : sk = 2
      · subst k2
        have e : opS (St3.stp ⟨2, sa, sb⟩ l.length) l (1000 - l.length) = mkPlus (sa % l.length) (sb % l.length) l (1000 - l.length) := by simp [opS, St3.stp]
        have hs1 : stepM l ⟨2, sa, sb⟩ = (mkPlus (sa % l.length) (sb % l.length) l (1000 - l.length)).2.1 := by rw [stepM, e]
        have hs2 : (mkPlus (sa % l.length) (sb % l.length) l (1000 - l.length)).2.2 = 1000 - (stepM l ⟨2, sa, sb⟩).length := by rw [← e]; exact stepM_left l ⟨2, sa, sb⟩
        have hv := fun w1 h => BSg.plus (w0 := w) (w := w1) (pb := pb) (rb := rb) (l1 := l) (left := 1000 - l.length) (l2 := l) (bud := 1000) keep_none h (sa % l.length) (sb % l.length) (by omega)
        have hr := fun w1 l1 left h => BSg.rplus (w0 := w) (w := w1) (pb := pb) (rb := rb) (l1 := l1) (left := left) (l2 := l) (bud := 1000) keep_none h (sa % l.length) (sb % l.length) (by omega)
        generalize mkPlus (sa % l.length) (sb % l.length) l (1000 - l.length) = q at *
        obtain ⟨⟨q1, q2⟩, ql, qf⟩ := q
        simp only at hs1 hs2 hv hr
        subst hs2
        have HS1 := Lib.hid hs1
        have HV := Lib.hid hv
        have HR := Lib.hid hr
        clear hs1 hv hr e
        go_wp2_with fail
        refine (HV.out _ B.out).mono ?_
        rintro e w5 ⟨rfl, b5⟩
        have B5 := Lib.hid b5
        clear b5 HV
        go_wp2_with fail
        refine (HR.out _ _ _ B5.out).mono ?_
        rintro e w6 ⟨rfl, b6⟩
        have B6 := Lib.hid b6
        clear b6 HR B5
        go_wp2_with fail
        go_roundw
        case rel => exact ⟨j + 1, ql, by omega, by first | rfl | go_num, Lib.hid ⟨by rw [gatesM_take HJ.out.1, ← HJ.out.2, HS1.out], by rw [← HS1.out] at *; exact B6.out⟩⟩
        case measure => first | (simp [intOf]; done) | (simp [intOf]; omega)
      by_cases k3 : sk = 3
      · subst k3
        have e : opS (St3.stp ⟨3, sa, sb⟩ l.length) l (1000 - l.length) = mkTimes (sa % l.length) (sb % l.length) l (1000 - l.length) := by simp [opS, St3.stp]
        have hs1 : stepM l ⟨3, sa, sb⟩ = (mkTimes (sa % l.length) (sb % l.length) l (1000 - l.length)).2.1 := by rw [stepM, e]
        have hs2 : (mkTimes (sa % l.length) (sb % l.length) l (1000 - l.length)).2.2 = 1000 - (stepM l ⟨3, sa, sb⟩).length := by rw [← e]; exact stepM_left l ⟨3, sa, sb⟩
        have hv := fun w1 h => BSg.times (w0 := w) (w := w1) (pb := pb) (rb := rb) (l1 := l) (left := 1000 - l.length) (l2 := l) (bud := 1000) keep_none h (sa % l.length) (sb % l.length) (by omega)
        have hr := fun w1 l1 left h => BSg.rtimes (w0 := w) (w := w1) (pb := pb) (rb := rb) (l1 := l1) (left := left) (l2 := l) (bud := 1000) keep_none h (sa % l.length) (sb % l.length) (by omega)
        generalize mkTimes (sa % l.length) (sb % l.length) l (1000 - l.length) = q at *
        obtain ⟨⟨q1, q2⟩, ql, qf⟩ := q
        simp only at hs1 hs2 hv hr
        subst hs2
        have HS1 := Lib.hid hs1
        have HV := Lib.hid hv
        have HR := Lib.hid hr
        clear hs1 hv hr e
        go_wp2_with fail
        refine (HV.out _ B.out).mono ?_
        rintro e w5 ⟨rfl, b5⟩
        have B5 := Lib.hid b5
        clear b5 HV
        go_wp2_with fail
        refine (HR.out _ _ _ B5.out).mono ?_
        rintro e w6 ⟨rfl, b6⟩
        have B6 := Lib.hid b6
        clear b6 HR B5
        go_wp2_with fail
        go_roundw
        case rel => exact ⟨j + 1, ql, by omega, by first | rfl | go_num, Lib.hid ⟨by rw [gatesM_take HJ.out.1, ← HJ.out.2, HS1.out], by rw [← HS1.out] at *; exact B6.out⟩⟩
        case measure => first | (simp [intOf]; done) | (simp [intOf]; omega)
      by_cases k4 : sk = 4
      · subst k4
        have e : opS (St3.stp ⟨4, sa, sb⟩ l.length) l (1000 - l.length) = mkStar (sa % l.length) l (1000 - l.length) := by simp [opS, St3.stp]
        have hs1 : stepM l ⟨4, sa, sb⟩ = (mkStar (sa % l.length) l (1000 - l.length)).2.1 := by rw [stepM, e]
        have hs2 : (mkStar (sa % l.length) l (1000 - l.length)).2.2 = 1000 - (stepM l ⟨4, sa, sb⟩).length := by rw [← e]; exact stepM_left l ⟨4, sa, sb⟩
        have hv := fun w1 h => BSg.star (w0 := w) (w := w1) (pb := pb) (rb := rb) (l1 := l) (left := 1000 - l.length) (l2 := l) (bud := 1000) keep_none h (sa % l.length) (by omega)
        have hr := fun w1 l1 left h => BSg.rstar (w0 := w) (w := w1) (pb := pb) (rb := rb) (l1 := l1) (left := left) (l2 := l) (bud := 1000) keep_none h (sa % l.length) (by omega)
        generalize mkStar (sa % l.length) l (1000 - l.length) = q at *
        obtain ⟨⟨q1, q2⟩, ql, qf⟩ := q
        simp only at hs1 hs2 hv hr
        subst hs2
        have HS1 := Lib.hid hs1
        have HV := Lib.hid hv
        have HR := Lib.hid hr
        clear hs1 hv hr e
        go_wp2_with fail
        refine (HV.out _ B.out).mono ?_
        rintro e w5 ⟨rfl, b5⟩
        have B5 := Lib.hid b5
        clear b5 HV
        go_wp2_with fail
        refine (HR.out _ _ _ B5.out).mono ?_
        rintro e w6 ⟨rfl, b6⟩
        have B6 := Lib.hid b6
        clear b6 HR B5
        go_wp2_with fail
        go_roundw
        case rel => exact ⟨j + 1, ql, by omega, by first | rfl | go_num, Lib.hid ⟨by rw [gatesM_take HJ.out.1, ← HJ.out.2, HS1.out], by rw [← HS1.out] at *; exact B6.out⟩⟩
        case measure => first | (simp [intOf]; done) | (simp [intOf]; omega)
      · have hs1 : stepM l ⟨sk, sa, sb⟩ = l := by
          have h0 : (if 1 ≤ sk ∧ sk ≤ 4 then sk else 0) = 0 := by split <;> omega
          simp [stepM, opS, St3.stp, h0]
        have HS1 := Lib.hid hs1
        have b1 : (sk == 1) = false := by simp [k1]
        have b2 : (sk == 2) = false := by simp [k2]
        have b3 : (sk == 3) = false := by simp [k3]
        have b4 : (sk == 4) = false := by simp [k4]
        clear hs1 k1 k2 k3 k4
        go_wp2_with fail
        go_roundw
        case rel => exact ⟨j + 1, l, by omega, by first | rfl | go_num, Lib.hid ⟨by rw [gatesM_take HJ.out.1, ← HJ.out.2, HS1.out], B.out⟩⟩
        case measure => first | (simp [intOf]; done) | (simp [intOf]; omega)
    · obtain rfl : j = xs.length := by omega
      have B := Lib.hid hG.out.2
      obtain ⟨Fq, Fr, qs, qr, -⟩ := id B.out
      have LN := Lib.hid qs.lens
      obtain ⟨ra, rc, rG, rb1, -, -, -⟩ := qr
      have he : Hid (l = gatesM xs) := by have := hG.out.1; rw [List.take_length] at this; exact this
      have y0 := framed_cell (rb1.at 0 rfl)
      have LEN := Lib.hid (fun w' (f : Frame [] wr w') => LN.out w' f)
      clear qs rb1 hG mok B0
      go_wp2_with fail
      refine wp_region_framed (by kernel_rfl) (by kernel_rfl) ?_
      repeat (go_big_quiet_step (exact framed_same (LEN.out _ (FramedBy.h _))))
      refine wpQuiet_nil ?_
      intro w6 hw
      have f6 := framed_out hw
      clear hw
      go_wp2_with fail
      refine bodyPost_ret (v := .tuple #[.pointer (some ⟨pb, 0, none⟩), .pointer (some ⟨rb, 0, none⟩), .bool true]) (by simp [results, Tryz.results30, go_sem]) rfl ⟨pb, rb, rfl, by rw [← he.out]; exact B.out.quiet keep_none f6⟩
end Go.Proofs.YtbnhhmejlglbcaaGreat

