/- The law CutTwice, walked. -/
import Derived.Test.YtoidafgeckhkcaaGreatMt46
import Derived.Test.YtoidafgeckhkcaaGreatMt44
import Derived.Test.YtoidafgeckhkcaaGreatMt43
import Derived.Test.YtoidafgeckhkcaaGreatMt42
namespace Go.Proofs.YtoidafgeckhkcaaGreat
open Go.RowKit
set_option linter.unusedSimpArgs false
set_option linter.unusedVariables false

set_option maxRecDepth 100000 in
theorem cutTwice_out (a : Option Addr) (n cap : Nat) (r : Int) (ta : Option Addr) (tn tc : Nat) (ua : Option Addr) (un uc : Nat) (w : World) (h : 40 < n ∨ 20 < tn ∨ 20 < un) (hn : n ≤ 9223372036854775807) (htn : tn ≤ 9223372036854775807) (hun : un ≤ 9223372036854775807) :
    Calls Tryz.prog 6 #[.slice a n cap, .int .i64 r, .slice ta tn tc, .slice ua un uc] w fun e w' => e = .returned (.bool true) ∧ Frame [] w w' := by
  by_cases h1 : 40 < n
  · have d1 : decide ((40 : Int) < n) = true := decide_eq_true (by omega)
    clear h
    go_enter Tryz.func6, Tryz.ntmps6
    go_wp2_with fail
    refine (awake15 _).mono ?_
    rintro e w1 ⟨rfl, f1⟩
    go_wp2_with fail
    go_ret
    exact ⟨rfl, f1⟩
  · have d1 : decide ((40 : Int) < n) = false := decide_eq_false (by omega)
    by_cases h2 : 20 < tn
    · have d2 : decide ((20 : Int) < tn) = true := decide_eq_true (by omega)
      clear h
      go_enter Tryz.func6, Tryz.ntmps6
      go_wp2_with fail
      refine (awake15 _).mono ?_
      rintro e w1 ⟨rfl, f1⟩
      go_wp2_with fail
      go_ret
      exact ⟨rfl, f1⟩
    · have d2 : decide ((20 : Int) < tn) = false := decide_eq_false (by omega)
      have d3 : decide ((20 : Int) < un) = true := decide_eq_true (by omega)
      clear h
      go_enter Tryz.func6, Tryz.ntmps6
      go_wp2_with fail
      refine (awake15 _).mono ?_
      rintro e w1 ⟨rfl, f1⟩
      go_wp2_with fail
      go_ret
      exact ⟨rfl, f1⟩

set_option maxHeartbeats 4000000 in
set_option maxRecDepth 100000 in
theorem cutTwice_in (a : Option Addr) (cap : Nat) (xs : List St3) (r : Int) (ta : Option Addr) (tc : Nat) (ts : List Int) (ua : Option Addr) (uc : Nat) (us : List Int) (w : World) (hx : RdS w 3 St3.enc St3.ok a xs) (hl : xs.length ≤ 40)
    (ht : RdI w ta ts) (htl : ts.length ≤ 20) (hta : ts ≠ [] → ∀ b off, ta = some ⟨b, off, none⟩ → b < w.heap.size) (hu : RdI w ua us) (hul : us.length ≤ 20) (hua : us ≠ [] → ∀ b off, ua = some ⟨b, off, none⟩ → b < w.heap.size) (hr : okI w r) :
    Calls Tryz.prog 6 #[.slice a xs.length cap, .int .i64 r, .slice ta ts.length tc, .slice ua us.length uc] w fun e w' => e = .returned (.bool true) ∧ Frame [] w w' := by
  have d1 : decide ((40 : Int) < xs.length) = false := decide_eq_false (by omega)
  have d2 : decide ((20 : Int) < ts.length) = false := decide_eq_false (by omega)
  have d3 : decide ((20 : Int) < us.length) = false := decide_eq_false (by omega)
  have MA := Lib.hid (made15_any a cap xs w hx (by omega))
  have hok := gatesM_ok xs
  have hnrm := gatesM_nrm xs
  have HT := Lib.hid (And.intro ht hta)
  have HU := Lib.hid (And.intro hu hua)
  clear hx ht hta hu hua
  generalize gatesM xs = l at *
  have hl1 := hok.len
  have hl2 := hok.two
  have HOK := Lib.hid (And.intro hok.inv hnrm)
  clear hok hnrm
  go_enter Tryz.func6, Tryz.ntmps6
  go_wp2_with fail
  refine MA.out.mono ?_
  rintro e w2 ⟨pb, rb, rfl, F, F2, s2, r2, f2, n2, -⟩
  obtain ⟨ra, rc, rG, rb1, -, -, -⟩ := r2
  have z0 := rb1.at 0 rfl
  obtain ⟨root, hroot, hrl⟩ := round_nat r l.length (by omega)
  have RA := Lib.hid (fun w => round_any r l.length w (by omega) (by omega) hr.1 hr.2)
  rw [hroot] at RA
  have A := Lib.hid (And.intro s2 f2)
  clear s2 f2 n2 rb1 hroot hr MA
  go_wp2_with fail
  refine (RA.out _).mono ?_
  rintro e wq ⟨rfl, rfl⟩
  clear z0 RA
  -- x
  obtain ⟨nx, okx⟩ := cut_ok (fun t => decide (t ∈ ts)) HOK.out.1 HOK.out.2 hrl (by omega)
  have hRX := fun fin (hf : cutV (fun t => decide (t ∈ ts)) l (reach l root) (1000 - 2) = fin) (ok : CutOk (fun t => decide (t ∈ ts)) l root fin nx) => restrict_made pb F l (1000 - l.length) HOK.out.1 root hrl (by omega) ta tc ts (by omega) wq A.out.1 (HT.out.1.frame A.out.2) (fun h0 b off e => Nat.lt_of_lt_of_le (HT.out.2 h0 b off e) A.out.2.size) hf ok
  obtain ⟨fx, hfx⟩ : ∃ fx, cutV (fun t => decide (t ∈ ts)) l (reach l root) (1000 - 2) = fx := ⟨_, rfl⟩
  have RX := Lib.hid (hRX fx hfx (hfx ▸ okx))
  rw [hfx] at okx
  clear hRX hfx
  -- y
  have hlx := okx.len
  obtain ⟨ny, oky⟩ := cut_ok (fun t => decide (t ∈ us)) okx.inv okx.nrm okx.lt (by omega)
  obtain ⟨fy, hfy⟩ : ∃ fy, cutV (fun t => decide (t ∈ us)) fx.l (reach fx.l nx) (1000 - 2) = fy := ⟨_, rfl⟩
  have HFY := Lib.hid hfy
  rw [hfy] at oky
  -- z
  obtain ⟨nz, okz⟩ := cut_ok (fun t => decide (t ∈ ts ++ us)) HOK.out.1 HOK.out.2 hrl (by omega)
  obtain ⟨fz, hfz⟩ : ∃ fz, cutV (fun t => decide (t ∈ ts ++ us)) l (reach l root) (1000 - 2) = fz := ⟨_, rfl⟩
  have HFZ := Lib.hid hfz
  rw [hfz] at okz
  -- c
  obtain ⟨nc, okc⟩ := cut_ok (fun t => decide (t ∈ ([] : List Int))) HOK.out.1 HOK.out.2 hrl (by omega)
  have cic := copy_ok (dead := fun t => decide (t ∈ ([] : List Int))) (by simp) HOK.out.1 HOK.out.2 hrl (by omega)
  obtain ⟨fc, hfc⟩ : ∃ fc, cutV (fun t => decide (t ∈ ([] : List Int))) l (reach l root) (1000 - 2) = fc := ⟨_, rfl⟩
  have HFC := Lib.hid hfc
  rw [hfc] at okc cic
  -- d
  have hlc := okc.len
  obtain ⟨nd, okd⟩ := cut_ok (fun t => decide (t ∈ ([] : List Int))) okc.inv okc.nrm okc.lt (by omega)
  have cid := copy_ok (dead := fun t => decide (t ∈ ([] : List Int))) (by simp) okc.inv okc.nrm okc.lt (by omega)
  obtain ⟨fd, hfd⟩ : ∃ fd, cutV (fun t => decide (t ∈ ([] : List Int))) fc.l (reach fc.l nc) (1000 - 2) = fd := ⟨_, rfl⟩
  have HFD := Lib.hid hfd
  rw [hfd] at okd cid
  obtain ⟨hdl, hdn⟩ := copy_copy HOK.out.1 cic okc.bm cid
  obtain rfl : nd = nc := by have := okd.bm; omega
  have hYZ : ∀ s, truth fy.l ny s = truth fz.l nz s := fun s => by
    unfold truth
    rw [oky.worth, okx.worth, okz.worth, killed_twice]
  have hCS : ∀ s, truth fc.l nd s = truth l root s := fun s => by
    unfold truth
    rw [okc.worth, killed_none]
  have YZ := Lib.hid (And.intro hYZ hCS)
  have OK := Lib.hid (And.intro okx (And.intro oky (And.intro okz (And.intro okc okd))))
  have hly := oky.len
  have hlz := okz.len
  have hnx := okx.lt
  have hny := oky.lt
  have hnz := okz.lt
  have hnc := okc.lt
  have HDL := Lib.hid hdl
  clear hYZ hCS okx oky okz okc okd cic cid hdl hdn hfy hfz hfc hfd
  go_wp2_with fail
  refine RX.out.mono ?_
  rintro e w3 ⟨qx, Qx, rfl, sx, -, f3⟩
  have SX := Lib.hid (And.intro sx (A.out.2.trans1 f3))
  have f23 := Lib.hid f3
  have RY := Lib.hid (restrict_made qx Qx fx.l fx.left OK.out.1.inv nx hnx (by omega) ua uc us (by omega) w3 sx (HU.out.1.frame SX.out.2) (fun h0 b off e => Nat.lt_of_lt_of_le (HU.out.2 h0 b off e) SX.out.2.size) HFY.out OK.out.2.1)
  clear sx f3 RX
  go_wp2_with fail
  refine RY.out.mono ?_
  rintro e w4 ⟨qy, Qy, rfl, sy, -, f4⟩
  have SY := Lib.hid (And.intro sy (SX.out.2.trans1 f4))
  have f24 := Lib.hid (f23.out.trans1 f4)
  clear sy f4 RY
  go_wp2_with (at_builtin; first
    | (refine wpList_append_rf rfl (.tmp 84) (.tmp 85) 23 rfl 3 1 8 _ encI Tryz.underlying23 infoInt rfl (by omega) (.slice (some ⟨w4.heap.size, 0, none⟩) 0 0) [] 0 rfl [w4.heap.size] rfl (sl_empty w4 _ _ _) (fun _ => True) ta ts.length tc ts rfl (rdI_rf (HT.out.1.frame (SY.out.2.trans1 (by (repeat first | assumption | exact Frame.refl _ _ | refine Frame.trans1 ?_ (Frame.alloc _ _ _) | refine Frame.trans1 ?_ (Frame.drew _ _) | refine Frame.trans1 ?_ (Frame.drewN _ _ _)))))) rfl encI_len encI_one ts.length (by omega) (by omega) (by omega) ?_
       intro a5 cap5 w5 G5 sl5 f5 hG5
       have hF5 : Frame [] w4 w5 := (show Frame [] w4 _ from by (repeat first | assumption | exact Frame.refl _ _ | refine Frame.trans1 ?_ (Frame.alloc _ _ _) | refine Frame.trans1 ?_ (Frame.drew _ _) | refine Frame.trans1 ?_ (Frame.drewN _ _ _))).trans f5 (fun x hx => .inr (by simp at hx; omega))
       have hz5 : w4.heap.size < w5.heap.size := Nat.lt_of_lt_of_le (by simp) f5.size
       have E5 := Lib.hid (And.intro sl5 (And.intro hF5 (fun x (hx : x ∈ G5) => (show w4.heap.size ≤ x from by rcases hG5 x hx with h | h; simp at h; omega; exact Nat.le_trans (by simp) h))))
       clear sl5 f5 hF5 hG5)
    | (refine wpList_append_rf rfl (.tmp 86) (.tmp 87) 23 rfl 3 1 8 _ encI Tryz.underlying23 infoInt rfl (by omega) (.slice a5 ts.length cap5) ([] ++ ts) ts.length rfl G5 rfl E5.out.1 (fun _ => True) ua us.length uc us rfl (rdI_rf (HU.out.1.frame (SY.out.2.trans1 E5.out.2.1))) rfl encI_len encI_one (ts.length + us.length) rfl (by omega) (by omega) ?_
       intro a6 cap6 w6 G6 sl6 f6 hG6
       have hF6 : Frame [] w4 w6 := E5.out.2.1.trans f6 (fun x hx => .inr (E5.out.2.2 x hx))
       have hl6 : (([] ++ ts) ++ us).length = ts.length + us.length := by simp
       have E6 := Lib.hid (And.intro (sl_rdI sl6) hF6)
       have RZ := Lib.hid (restrict_made pb F l (1000 - l.length) HOK.out.1 root hrl (by omega) a6 cap6 (ts ++ us) (by rw [List.length_append]; omega) w6 (A.out.1.frame0 (f24.out.trans1 hF6)) (sl_rdI sl6) (rdI_lt (sl_rdI sl6)) HFZ.out OK.out.2.2.1)
       rw [List.length_append] at RZ
       clear sl6 f6 hF6 hG6 E5))
  refine RZ.out.mono ?_
  rintro e w7 ⟨qz, Qz, rfl, sz, -, f7⟩
  have F7 := Lib.hid (E6.out.2.trans1 f7)
  have SZ := Lib.hid sz
  have RC := Lib.hid (copy_made pb F l (1000 - l.length) HOK.out.1 root hrl (by omega) w7 (A.out.1.frame0 (f24.out.trans1 F7.out)) HFC.out OK.out.2.2.2.1)
  clear sz f7 RZ E6
  go_wp2_with fail
  refine RC.out.mono ?_
  rintro e w8 ⟨qc, Qc, rfl, sc, -, f8⟩
  have F8 := Lib.hid f8
  have SC := Lib.hid sc
  have LC := Lib.hid sc.lens
  have RD := Lib.hid (copy_made qc Qc fc.l fc.left OK.out.2.2.2.1.inv nd hnc (by omega) w8 sc HFD.out OK.out.2.2.2.2)
  clear sc f8 RC
  go_wp2_with fail
  refine RD.out.mono ?_
  rintro e w9 ⟨qd, Qd, rfl, sd, -, f9⟩
  have F9 := Lib.hid f9
  have LD := Lib.hid sd.lens
  rw [HDL.out] at LD
  clear sd f9 RD
  go_wp2_with fail
  refine (LD.out _ (Frame.refl _ _)).mono ?_
  rintro e wd ⟨rfl, rfl⟩
  go_wp2_with fail
  refine (LC.out _ F9.out).mono ?_
  rintro e wd2 ⟨rfl, rfl⟩
  clear LC LD
  have TY := fun w' (f : Frame [] wd2 w') a c xs (hx : RdI w' a xs) (hl : xs.length ≤ 1000000) => truth_any qy Qy fy.l fy.left OK.out.2.1.inv ny hny (by omega) a c xs w' (SY.out.1.frame0 (F7.out.trans1 (F8.out.trans1 (F9.out.trans1 f)))) hx hl
  have TZ := fun w' (f : Frame [] wd2 w') a c xs (hx : RdI w' a xs) (hl : xs.length ≤ 1000000) => truth_any qz Qz fz.l fz.left OK.out.2.2.1.inv nz hnz (by omega) a c xs w' (SZ.out.frame0 (F8.out.trans1 (F9.out.trans1 f))) hx hl
  have TC := fun w' (f : Frame [] wd2 w') a c xs (hx : RdI w' a xs) (hl : xs.length ≤ 1000000) => truth_any qc Qc fc.l fc.left OK.out.2.2.2.1.inv nd hnc (by omega) a c xs w' (SC.out.frame0 (F9.out.trans1 f)) hx hl
  have TS := fun w' (f : Frame [] wd2 w') a c xs (hx : RdI w' a xs) (hl : xs.length ≤ 1000000) => truth_any pb F l (1000 - l.length) HOK.out.1 root hrl (by omega) a c xs w' (A.out.1.frame0 (f24.out.trans1 (F7.out.trans1 (F8.out.trans1 (F9.out.trans1 f))))) hx hl
  simp only [YZ.out.1] at TY
  simp only [YZ.out.2] at TC
  generalize truth fz.l nz = tz at *
  generalize truth l root = tS at *
  have T1 := Lib.hid TY
  have T2 := Lib.hid TZ
  have T3 := Lib.hid TC
  have T4 := Lib.hid TS
  have FW := Lib.hid ((A.out.2.trans1 f24.out).trans1 (F7.out.trans1 (F8.out.trans1 F9.out)))
  clear TY TZ TC TS YZ OK HFY HFZ HFC HFD HDL SX SY SZ SC f23 f24 F7 F8 F9 A HT HU HOK
  go_wp2_with fail
  go_loopw [27, 28, 29] (fun t _ _ wr => ∃ k : Nat, k ≤ 64 ∧ t = .int .i64 k ∧ Hid (Frame [] wd2 wr)) (fun t _ _ _ => (64 - intOf t).toNat)
  case atStart => exact ⟨0, by omega, rfl, Lib.hid (Frame.refl _ _)⟩
  case round =>
    rename World => wr
    obtain ⟨k, hk, rfl, hR⟩ := hrel
    by_cases hlt : k < 64
    · have hd64 : decide ((k : Int) < 64) = true := decide_eq_true (by omega)
      go_wp2_with fail
      go_loopw [28, 29] (fun u i wq => ∃ (q : Nat) (vA : Option Addr) (vc : Nat) (os : List Int), q ≤ 6 ∧ os.length ≤ q ∧ i = .int .i64 q ∧ u = .slice vA os.length vc ∧ Hid (Frame [] wr wq ∧ ∃ G, Sl wq 3 1 encI (.slice vA os.length vc) os G ∧ ∀ x ∈ G, wr.heap.size ≤ x)) (fun _ i _ => (6 - intOf i).toNat)
      case atStart => exact ⟨0, none, 0, [], by omega, by simp, rfl, rfl, Lib.hid ⟨Frame.refl _ _, [], Sl.nil _ _ _ _, by simp⟩⟩
      case round =>
        rename World => wq
        obtain ⟨q, vA, vc, os, hq, hos, rfl, rfl, hQ⟩ := hrel
        by_cases hql : q < 6
        · have HQ := Lib.hid hQ.out
          clear hQ
          by_cases hb : (bits BinOp.and IntKind.i64 ((k : Int) / 2 ^ q) 1 == 1) = true
          · obtain ⟨fq, G, sl, hG⟩ := HQ.out
            have SL := Lib.hid (And.intro sl (And.intro fq hG))
            clear fq sl hG HQ
            go_wp2_with (at_builtin; refine wpList_append_sl _ rfl (.tmp 160) (.tmp 163) 23 rfl 3 1 8 _ encI Tryz.underlying23 infoInt rfl (by omega) (.slice vA os.length vc) os G rfl (SL.out.1.frame0 (by (repeat first | assumption | exact Frame.refl _ _ | refine Frame.trans1 ?_ (Frame.alloc _ _ _) | refine Frame.trans1 ?_ (Frame.drew _ _) | refine Frame.trans1 ?_ (Frame.drewN _ _ _)))) _ 1 1 [(q : Int) + 1] _ rfl (Blk.new _ _ _) rfl rfl encI_len encI_one (by omega) (by omega) (by omega) ?_; intro b' cap' w7 sl7 f7 hb7; have f7w : Frame G wq w7 := (show Frame G wq _ from by (repeat first | assumption | exact Frame.refl _ _ | refine Frame.trans1 ?_ (Frame.alloc _ _ _) | refine Frame.trans1 ?_ (Frame.drew _ _) | refine Frame.trans1 ?_ (Frame.drewN _ _ _))).trans1 f7; have R7 := Lib.hid (And.intro sl7 (And.intro f7w hb7)); clear sl7 f7w f7 hb7)
            go_roundw
            case rel =>
              obtain ⟨sl, fq, hG⟩ := SL.out
              have hl1 : os.length + 1 = (os ++ [(q : Int) + 1]).length := by simp
              refine ⟨q + 1, _, _, os ++ [(q : Int) + 1], by omega, by simp; omega, by first | rfl | go_num, by rw [← hl1], Lib.hid ⟨fq.trans R7.out.2.1 (fun x hx => .inr (hG x hx)), [b'], by rw [← hl1]; exact R7.out.1, ?_⟩⟩
              intro x hx
              simp at hx
              subst hx
              have hsz := fq.size
              rcases R7.out.2.2 with hb | hb
              · exact hG _ hb
              · rw [hb, show ∀ (a : World) o, (a.alloc o).heap.size = a.heap.size + 1 from fun _ _ => Array.size_push ..]; omega
            case measure => first | (simp [intOf]; done) | (simp [intOf]; omega)
          · go_wp2_with fail
            go_roundw
            case rel => exact ⟨q + 1, vA, vc, os, by omega, by omega, by first | rfl | go_num, rfl, HQ⟩
            case measure => first | (simp [intOf]; done) | (simp [intOf]; omega)
        · obtain rfl : q = 6 := by omega
          obtain ⟨fq, G, sl, hG⟩ := hQ.out
          have RO := Lib.hid (sl_rdI sl)
          have FQ := Lib.hid (hR.out.trans1 fq)
          generalize hol : os.length = ol at *
          have C1 := Lib.hid (fun w' (f : Frame [] wq w') => T1.out w' (FQ.out.trans1 f) vA vc os (RO.out.frame f) (by omega))
          have C2 := Lib.hid (fun w' (f : Frame [] wq w') => T2.out w' (FQ.out.trans1 f) vA vc os (RO.out.frame f) (by omega))
          have C3 := Lib.hid (fun w' (f : Frame [] wq w') => T3.out w' (FQ.out.trans1 f) vA vc os (RO.out.frame f) (by omega))
          have C4 := Lib.hid (fun w' (f : Frame [] wq w') => T4.out w' (FQ.out.trans1 f) vA vc os (RO.out.frame f) (by omega))
          rw [hol] at C1 C2 C3 C4
          generalize tz os = b1 at *
          generalize tS os = b2 at *
          clear sl hG hQ fq hol
          go_wp2_with fail
          refine (C1.out _ (Frame.refl _ _)).mono ?_
          rintro e w10 ⟨rfl, f10⟩
          go_wp2_with fail
          refine (C2.out _ f10).mono ?_
          rintro e w11 ⟨rfl, f11⟩
          have F11 := Lib.hid (f10.trans1 f11)
          clear f10 f11
          go_wp2_with fail
          refine (C3.out _ F11.out).mono ?_
          rintro e w12 ⟨rfl, f12⟩
          have F12 := Lib.hid (F11.out.trans1 f12)
          clear f12
          go_wp2_with fail
          refine (C4.out _ F12.out).mono ?_
          rintro e w13 ⟨rfl, f13⟩
          have F13 := Lib.hid (FQ.out.trans1 (F12.out.trans1 f13))
          clear f13
          go_wp2_with fail
          go_roundw
          case rel => exact ⟨k + 1, by omega, by first | rfl | go_num, F13⟩
          case measure => first | (simp [intOf]; done) | (simp [intOf]; omega)
    · obtain rfl : k = 64 := by omega
      go_wp2_with fail
      refine (awake15 _).mono ?_
      rintro e w14 ⟨rfl, f14⟩
      go_wp2_with fail
      go_ret
      exact ⟨rfl, (FW.out.trans1 hR.out).trans1 f14⟩
end Go.Proofs.YtoidafgeckhkcaaGreat

