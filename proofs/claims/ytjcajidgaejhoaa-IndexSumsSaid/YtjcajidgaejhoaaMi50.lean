/- The law IndexSums, walked. (printed by gen_index.py) -/
import Derived.Test.YtjcajidgaejhoaaMi48
import Derived.Test.YtjcajidgaejhoaaMi49
import Derived.Test.YtjcajidgaejhoaaMi33
namespace Go.Proofs.Ytjcajidgaejhoaa
open Go.RowKit
set_option linter.unusedSimpArgs false
set_option linter.unusedVariables false

set_option maxHeartbeats 8000000 in
set_option maxRecDepth 100000 in
theorem indexSums_any (U : Nat → Prop) (v : Value) (x : Gx) (w : World) (h : RG U w v x) (hlx : LenX x) (hst : StrX x) :
    Calls Try.prog 3 #[v] w fun e w' => e = .returned (.bool true) ∧ Frame [] w w' := by
  have R1 := Lib.hid h
  have W1 := Lib.hid (fun w' (f : Frame [] w w') => weight_any U v x w' (h.frame0 f) hlx hst)
  have T1 := Lib.hid hst
  obtain ⟨an, nc, ae, ec, rfl, -, -⟩ := h
  clear hlx hst
  go_enter Try.func3, Try.ntmps3
  go_wp2_with fail
  have fr : Frame [] w (w.alloc (.cells #[.slice an x.ns.length nc, .slice ae x.es.length ec, .int .i64 x.next] 25)) := Frame.alloc _ _ _
  have b0 := Blk.new w 25 #[.slice an x.ns.length nc, .slice ae x.es.length ec, .int .i64 x.next]
  generalize w.alloc (.cells #[.slice an x.ns.length nc, .slice ae x.es.length ec, .int .i64 x.next] 25) = wa at *
  refine (W1.out wa fr).mono ?_
  clear W1
  rintro e w1 ⟨n1, rfl, hn1, f1⟩
  have F1 := Lib.hid (fr.trans1 f1)
  have B0 := Lib.hid (b0.frame f1 (by simp))
  clear fr b0 f1
  by_cases hb1 : 2000 < n1
  case pos =>
    have hd : decide (2000 < n1) = true := by simpa using hb1
    have y0 := B0.out.at 0 rfl
    have y1 := B0.out.at 1 rfl
    have y2 := B0.out.at 2 rfl
    clear hn1
    go_wp2_with fail
    refine (awake12 _).mono ?_
    rintro e wk ⟨rfl, fk⟩
    have FK := Lib.hid (F1.out.trans1 fk)
    clear fk
    go_wp2_with fail
    go_ret
    exact ⟨rfl, FK.out⟩
  have hd : decide (2000 < n1) = false := by simpa using hb1
  have S1 := Lib.hid (hn1 (by omega))
  clear hn1 hb1
  have y0 := B0.out.at 0 rfl
  have y1 := B0.out.at 1 rfl
  have y2 := B0.out.at 2 rfl
  by_cases hmay : MayX x
  case neg =>
    have HM := Lib.hid (Ans.no (may_any U _ x w1 (R1.out.frame0 F1.out) S1.out T1.out) hmay)
    clear hmay
    go_wp2_with fail
    refine HM.out.mono ?_
    clear HM
    rintro e w2 ⟨rfl, f2⟩
    have F2 := Lib.hid (F1.out.trans1 f2)
    clear f2
    go_wp2_with fail
    refine (awake12 _).mono ?_
    rintro e wk ⟨rfl, fk⟩
    have FK := Lib.hid (F2.out.trans1 fk)
    clear fk
    go_wp2_with fail
    go_ret
    exact ⟨rfl, FK.out⟩
  have HM := Lib.hid (Ans.yes (may_any U _ x w1 (R1.out.frame0 F1.out) S1.out T1.out) hmay)
  have MY := Lib.hid hmay
  have GK := Lib.hid hmay.gok
  clear hmay
  go_wp2_with fail
  refine HM.out.mono ?_
  clear HM
  rintro e w2 ⟨rfl, f2⟩
  have F2 := Lib.hid (F1.out.trans1 f2)
  have B0 := Lib.hid (B0.out.frame f2 (by simp))
  clear f2 y0 y1 y2 F1 hd
  have y0 := B0.out.at 0 rfl
  have y1 := B0.out.at 1 rfl
  have y2 := B0.out.at 2 rfl
  go_wp2_with fail
  refine (of_any U _ x w2 (R1.out.frame0 F2.out) S1.out T1.out).mono ?_
  clear y0 y1 y2
  rintro e w3 (⟨hno, -⟩ | ⟨-, pb, rfl, o3⟩)
  · exact absurd MY.out hno
  have O3 := Lib.hid o3
  have F3 := Lib.hid (F2.out.trans1 (VOwn.frame o3))
  clear o3
  go_wp2_with fail
  refine (inew_any O3.out GK.out).mono ?_
  rintro e w4 ⟨xb, rfl, ix, f4⟩
  have IX4 := Lib.hid ix
  have F4 := Lib.hid (F3.out.trans1 f4)
  have B0 := Lib.hid ((B0.out.frame (VOwn.frame O3.out) (by simp)).frame f4 (by simp))
  have hel := GK.out.e.len
  have hnl := GK.out.v.len
  clear ix f4 F3 F2
  go_wp2_with fail
  refine (ilabels_any IX4.out (by omega)).mono ?_
  rintro e w5 ⟨la, lc, LG, rfl, sl, f5, -⟩
  have HL := Lib.hid (sl.rf encS_len (U := fun _ => True) (fun _ _ => trivial))
  have F5 := Lib.hid (F4.out.trans1 f5)
  have B0 := Lib.hid (B0.out.frame f5 (by simp))
  have hsn := Sn_all x.es
  have hsl := Sn_le x.es
  have hss : ∀ i s, (srtS (x.es.map (·.lab)))[i]? = some s → Sn x.es (i + 1) = Sn x.es i + (x.es.filter (labP s)).length := fun i s h => Sn_succ h
  have HSN := Lib.hid (And.intro hsn (And.intro hsl hss))
  have HCNT := Lib.hid (fun w' (f : Frame [] w5 w') s => icount_any ((IX4.out.frame0 f5).frame0 f) (by omega) s)
  have HOUT := Lib.hid (fun w' (f : Frame [] w5 w') t s bk => iout_any ((IX4.out.frame0 f5).frame0 f) (by omega) t s bk)
  have RN5 : Hid (RN U w5 an x.ns) := Lib.hid (by
    obtain ⟨_, _, _, _, e, q, -⟩ := R1.out
    simp only [Value.agg.injEq, Array.mk.injEq, List.cons.injEq, Value.slice.injEq] at e
    obtain ⟨⟨rfl, -⟩, -⟩ := e
    exact q.frame0 F5.out)
  have hLl : (srtS (x.es.map (·.lab))).length ≤ 60 := by
    have := srtS_len (x.es.map (·.lab))
    simp at this; omega
  generalize srtS (x.es.map (·.lab)) = L at *
  clear sl f5 hsn hsl hss IX4 O3 F4
  go_wp2_with fail
  have s00 : Sn x.es 0 = 0 := by simp [Sn]
  go_loopw [7, 8, 9, 10] (fun n o q i wr => ∃ k : Nat, k ≤ L.length ∧ n = .int .i64 (Sn x.es k) ∧ o = .int .i64 (Sn x.es k) ∧ q = .int .i64 (Sn x.es k) ∧ i = .int .i64 k ∧ Hid (Frame [] w5 wr)) (fun _ _ _ i _ => L.length - (intOf i).toNat)
  case atStart => exact ⟨0, Nat.zero_le _, by rw [s00]; rfl, by rw [s00]; rfl, by rw [s00]; rfl, rfl, Lib.hid (Frame.refl _ _)⟩
  case round =>
    rename World => wo
    obtain ⟨k, hk, rfl, rfl, rfl, rfl, hF⟩ := hrel
    clear s00
    have b1 := B0.out.frame hF.out (by simp)
    have y0 := b1.at 0 rfl
    have y1 := b1.at 1 rfl
    by_cases hlt : k < L.length
    · have g1 : L[k]? = some L[k] := by simp [hlt]
      have hs1 := HSN.out.2.2 _ _ g1
      have hs2 := HSN.out.2.1 (k + 1)
      obtain ⟨lb, lo, rfl, -, q⟩ := (HL.out.frame0 hF.out) k _ g1
      have d0 := q 0 _ rfl
      simp only [Nat.add_zero, Nat.mul_one] at d0
      generalize L[k] = s at *
      have hta := fun bk => Tn_all GK.out s bk
      have htl := fun bk => Tn_le GK.out s bk
      generalize hcn : (x.es.filter (labP s)).length = cn at *
      have HC := Lib.hid (HCNT.out wo hF.out s)
      rw [hcn] at HC
      have HT := Lib.hid (And.intro hta htl)
      have HS1 := Lib.hid hs1
      generalize hsk : Sn x.es k = sk at *
      generalize hsk1 : Sn x.es (k + 1) = sk1 at *
      have hsum : sk + cn ≤ 60 := by omega
      have HK := Lib.hid (And.intro hsk hsk1)
      have D0 := Lib.hid d0
      have HB := Lib.hid b1
      clear q g1 hs1 hs2 hta htl hcn hsk hsk1 b1
      go_wp2_with fail
      refine HC.out.mono ?_
      clear HC
      rintro e w6 ⟨rfl, f6⟩
      have F6 := Lib.hid f6
      clear f6 d0 y0 y1
      go_wp2_with fail
      have t0 : ∀ bk, Tn x.ns x.es s bk 0 = 0 := fun bk => by simp [Tn]
      go_loopw [8, 9, 11] (fun o q i wr => ∃ m : Nat, m ≤ x.ns.length ∧ o = .int .i64 ((sk : Int) + Tn x.ns x.es s false m) ∧ q = .int .i64 ((sk : Int) + Tn x.ns x.es s true m) ∧ i = .int .i64 m ∧ Hid (Frame [] wo wr)) (fun _ _ i _ => x.ns.length - (intOf i).toNat)
      case atStart => exact ⟨0, Nat.zero_le _, by rw [t0]; simp, by rw [t0]; simp, rfl, F6⟩
      case round =>
        rename World => wm
        obtain ⟨m, hm, rfl, rfl, rfl, hFm⟩ := hrel
        clear t0 F6
        have b2 := HB.out.frame hFm.out (by simp)
        have y0 := b2.at 0 rfl
        have y1 := b2.at 1 rfl
        by_cases hltm : m < x.ns.length
        · have g2 : x.ns[m]? = some x.ns[m] := by simp [hltm]
          have ht1 := Tn_succ (es := x.es) (s := s) (back := false) g2
          have ht2 := Tn_succ (es := x.es) (s := s) (back := true) g2
          have ht3 := HT.out.2 false (m + 1)
          have ht4 := HT.out.2 true (m + 1)
          obtain ⟨nb, no, l9, c9, p9, pc9, rfl, -, q0, -⟩ := (RN5.out.frame0 (hF.out.trans1 hFm.out)) m _ g2
          generalize x.ns[m].1 = nid at *
          have D1 := Lib.hid (hFm.out.cell D0.out (by simp))
          have d1 := D1.out
          have HO1 := Lib.hid (fun w' (f : Frame [] wm w') => HOUT.out w' ((hF.out.trans1 hFm.out).trans1 f) nid s false)
          have HO2 := Lib.hid (fun w' (f : Frame [] wm w') => HOUT.out w' ((hF.out.trans1 hFm.out).trans1 f) nid s true)
          have hup : Up ((x.es.filter (outP nid s false)).map (·.tok)) := GK.out.e.up.sublist (List.filter_sublist.map _)
          have hmem : ∀ e ∈ x.es.filter (outP nid s false), e.src = nid ∧ e.lab = s := fun e he => by
            have := (List.mem_filter.1 he).2
            simpa [outP] using this
          generalize x.es.filter (outP nid s false) = A at *
          generalize x.es.filter (outP nid s true) = A2 at *
          generalize hta : Tn x.ns x.es s false m = ta at *
          generalize htb : Tn x.ns x.es s true m = tb at *
          generalize hta1 : Tn x.ns x.es s false (m + 1) = ta1 at *
          generalize htb1 : Tn x.ns x.es s true (m + 1) = tb1 at *
          have hA1 : sk + ta + A.length ≤ 60 := by omega
          have hA2 : sk + tb + A2.length ≤ 60 := by omega
          have HTM := Lib.hid (And.intro hta1 (And.intro htb1 (And.intro ht1 ht2)))
          have HUP := Lib.hid (And.intro hup hmem)
          clear g2 ht1 ht2 ht3 ht4 hup hmem hta htb hta1 htb1
          have B2 := Lib.hid b2
          have Y0 : ∀ w', Frame [] wm w' → w'.cell? ⟨w.heap.size, 0, none⟩ = some (.slice (some ⟨nb, no, none⟩) x.ns.length nc) := fun w' f => (B2.out.frame f (by simp)).at 0 rfl
          have Y1 : ∀ w', Frame [] wm w' → w'.cell? ⟨nb, no + m * 3, none⟩ = some (.int .i64 nid) := fun w' f => f.cell q0 (by simp)
          have Y2 : ∀ w', Frame [] wm w' → w'.cell? ⟨lb, lo + k, none⟩ = some (.string s) := fun w' f => f.cell D1.out (by simp)
          have Y1h : Hid (∀ w', Frame [] wm w' → w'.cell? ⟨nb, no + m * 3, none⟩ = some (.int .i64 nid)) := Lib.hid Y1
          clear b2 q0 d1 y0 y1
          have y0 := B2.out.at 0 rfl
          go_wp2_with fail
          clear y0
          go_region_held3 (fun w' => Frame [] wm w') ((repeat first | assumption | exact Frame.refl _ _ | refine Frame.trans1 ?_ (Frame.alloc _ _ _) | refine Frame.trans1 ?_ (Frame.drew _ _) | refine Frame.trans1 ?_ (Frame.drewN _ _ _)))
            ((first | (go_at_call 11; refine (HO1.out _ (by (repeat first | assumption | exact Frame.refl _ _ | refine Frame.trans1 ?_ (Frame.alloc _ _ _) | refine Frame.trans1 ?_ (Frame.drew _ _) | refine Frame.trans1 ?_ (Frame.drewN _ _ _)))).mono ?_; rintro e w7 ⟨a7, c7, G7, rfl, s7, f7, -⟩; have F7 : Frame [] wm w7 := (show Frame [] wm _ from by (repeat first | assumption | exact Frame.refl _ _ | refine Frame.trans1 ?_ (Frame.alloc _ _ _) | refine Frame.trans1 ?_ (Frame.drew _ _) | refine Frame.trans1 ?_ (Frame.drewN _ _ _))).trans1 f7; have S7 := Lib.hid (s7.rf ed_len (U := fun _ => True) (fun _ _ => trivial)); clear s7 f7)))
          go_wp2_with fail
          have F7' := Lib.hid F7
          go_region_held3 (fun w' => Frame [] wm w') ((repeat first | assumption | exact Frame.refl _ _ | refine Frame.trans1 ?_ (Frame.alloc _ _ _) | refine Frame.trans1 ?_ (Frame.drew _ _) | refine Frame.trans1 ?_ (Frame.drewN _ _ _)))
            ((first | (go_at_call 11; refine (HO2.out _ (by (repeat first | assumption | exact Frame.refl _ _ | refine Frame.trans1 ?_ (Frame.alloc _ _ _) | refine Frame.trans1 ?_ (Frame.drew _ _) | refine Frame.trans1 ?_ (Frame.drewN _ _ _)))).mono ?_; rintro e w8 ⟨a8, c8, G8, rfl, s8, f8, -⟩; have F8 : Frame [] wm w8 := (show Frame [] wm _ from by (repeat first | assumption | exact Frame.refl _ _ | refine Frame.trans1 ?_ (Frame.alloc _ _ _) | refine Frame.trans1 ?_ (Frame.drew _ _) | refine Frame.trans1 ?_ (Frame.drewN _ _ _))).trans1 f8; have F78 := Lib.hid (show Frame [] w7 w8 from (show Frame [] w7 _ from by (repeat first | assumption | exact Frame.refl _ _ | refine Frame.trans1 ?_ (Frame.alloc _ _ _) | refine Frame.trans1 ?_ (Frame.drew _ _) | refine Frame.trans1 ?_ (Frame.drewN _ _ _))).trans1 f8); clear s8 f8)))
          have F8' := Lib.hid F8
          clear F8 F7 HO1 HO2 Y0 Y1
          go_wp2_with fail
          go_loopw [14] (fun i wr => ∃ z : Nat, (i = .int .i64 0 ∧ z = 0 ∨ ∃ t : Nat, i = .int .i64 ((t : Int) + 1) ∧ z = t + 1) ∧ z ≤ A.length ∧ Hid (Frame [] w7 wr)) (fun i _ => A.length - (intOf i).toNat)
          case atStart => exact ⟨0, .inl ⟨rfl, rfl⟩, Nat.zero_le _, F78⟩
          case round =>
            rename World => wz
            obtain ⟨z, hz, hzl, hFz⟩ := hrel
            have fz := F7'.out.trans1 hFz.out
            have z0 := (B2.out.frame fz (by simp)).at 0 rfl
            have z1 := Y1h.out wz fz
            have z2 := Y2 wz fz
            by_cases hltz : z < A.length
            · rcases hz with ⟨rfl, rfl⟩ | ⟨t, rfl, rfl⟩
              · have g3 : A[0]? = some A[0] := by simp [hltz]
                have hm3 := HUP.out.2 _ (List.getElem_mem hltz)
                obtain ⟨b3, o3, rfl, -, q3⟩ := (S7.out.frame0 hFz.out) 0 _ g3
                have r1 := q3 1 _ rfl
                have r2 := q3 2 _ rfl
                rw [hm3.1] at r1
                rw [hm3.2] at r2
                simp only [Nat.zero_mul, Nat.add_zero] at r1 r2
                have hpos : decide ((0 : Int) < (A.length : Int)) = true := decide_eq_true (by omega)
                clear g3 hm3 q3
                go_wp2_with fail
                go_quiet (fail)
                go_wp2_with fail
                go_roundw
                case rel => exact ⟨1, .inr ⟨0, by first | rfl | go_num, rfl⟩, by omega, Lib.hid (hFz.out.trans1 (by (repeat first | assumption | exact Frame.refl _ _ | refine Frame.trans1 ?_ (Frame.alloc _ _ _) | refine Frame.trans1 ?_ (Frame.drew _ _) | refine Frame.trans1 ?_ (Frame.drewN _ _ _))))⟩
                case measure => first | (simp [intOf]; done) | (simp [intOf]; omega)
              · have g3 : A[t + 1]? = some A[t + 1] := by simp [hltz]
                have hltt : t < A.length := by omega
                have g4 : A[t]? = some A[t] := by simp [hltt]
                have hm3 := HUP.out.2 _ (List.getElem_mem hltz)
                have hup : A[t].tok < A[t + 1].tok := by
                  have := List.pairwise_iff_getElem.1 HUP.out.1 t (t + 1) (by simp; omega) (by simp; omega) (by omega)
                  simpa using this
                obtain ⟨b3, o3, rfl, -, q3⟩ := (S7.out.frame0 hFz.out) (t + 1) _ g3
                obtain ⟨b4, o4, e4, -, q4⟩ := (S7.out.frame0 hFz.out) t _ g4
                simp only [Option.some.injEq, Addr.mk.injEq, and_true] at e4
                obtain ⟨rfl, rfl⟩ := e4
                have r0 := q3 0 _ rfl
                have r1 := q3 1 _ rfl
                have r2 := q3 2 _ rfl
                have r3 := q4 0 _ rfl
                rw [hm3.1] at r1
                rw [hm3.2] at r2
                simp only [Nat.add_zero] at r0 r3
                generalize A[t].tok = t0 at *
                generalize A[t + 1].tok = t1 at *
                have hle : decide (t1 ≤ t0) = false := decide_eq_false (by omega)
                have q1 : (t : Int) + 1 - 1 = t := by omega
                have q2 : ((t : Int) + 1).toNat = t + 1 := by omega
                have hgt : decide ((0 : Int) < (t : Int) + 1) = true := decide_eq_true (by omega)
                clear g3 g4 hm3 q3 q4 hup
                go_wp2_with fail
                go_quiet (fail)
                go_wp2_with fail
                go_roundw
                case rel => exact ⟨t + 1 + 1, .inr ⟨t + 1, by first | rfl | go_num, rfl⟩, by omega, Lib.hid (hFz.out.trans1 (by (repeat first | assumption | exact Frame.refl _ _ | refine Frame.trans1 ?_ (Frame.alloc _ _ _) | refine Frame.trans1 ?_ (Frame.drew _ _) | refine Frame.trans1 ?_ (Frame.drewN _ _ _))))⟩
                case measure => first | (simp [intOf]; done) | (simp [intOf]; omega)
            · have hi : ∃ zi : Int, Hid (zi = A.length) ∧ (.int .i64 zi : Value) = .int .i64 zi := ⟨_, rfl, rfl⟩
              rcases hz with ⟨rfl, rfl⟩ | ⟨t, rfl, rfl⟩
              · have hA0 : A.length = 0 := by omega
                have hpos : decide ((0 : Int) < (A.length : Int)) = false := decide_eq_false (by omega)
                go_wp2_with fail
                go_roundw
                case rel => exact ⟨m + 1, by omega, by rw [HTM.out.1]; have := HTM.out.2.2.1; congr 1; omega, by rw [HTM.out.2.1]; have := HTM.out.2.2.2; congr 1; omega, by first | rfl | go_num, Lib.hid (hFm.out.trans1 fz)⟩
                case measure => first | (simp [intOf]; done) | (simp [intOf]; omega)
              · have hpos : decide ((t : Int) + 1 < (A.length : Int)) = false := decide_eq_false (by omega)
                go_wp2_with fail
                go_roundw
                case rel => exact ⟨m + 1, by omega, by rw [HTM.out.1]; have := HTM.out.2.2.1; congr 1; omega, by rw [HTM.out.2.1]; have := HTM.out.2.2.2; congr 1; omega, by first | rfl | go_num, Lib.hid (hFm.out.trans1 fz)⟩
                case measure => first | (simp [intOf]; done) | (simp [intOf]; omega)
        · obtain rfl : m = x.ns.length := by omega
          rw [HT.out.1 false, HT.out.1 true]
          go_wp2_with fail
          go_roundw
          case rel => exact ⟨k + 1, by omega, by rw [HK.out.2]; have := HS1.out; congr 1; omega, by rw [HK.out.2]; have := HS1.out; congr 1; omega, by rw [HK.out.2]; have := HS1.out; congr 1; omega, by first | rfl | go_num, Lib.hid (hF.out.trans1 hFm.out)⟩
          case measure => first | (simp [intOf]; done) | (simp [intOf]; omega)
    · obtain rfl : k = L.length := by omega
      rw [HSN.out.1]
      have FE := Lib.hid (F5.out.trans1 hF.out)
      clear HCNT HOUT HL y0
      go_wp2_with fail
      refine (awake12 _).mono ?_
      rintro e wk ⟨rfl, fk⟩
      have FK := Lib.hid (FE.out.trans1 fk)
      clear fk
      go_wp2_with fail
      go_ret
      exact ⟨rfl, FK.out⟩
end Go.Proofs.Ytjcajidgaejhoaa

