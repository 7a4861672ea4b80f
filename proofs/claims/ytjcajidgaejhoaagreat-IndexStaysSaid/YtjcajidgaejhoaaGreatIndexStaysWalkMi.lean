/- The law IndexStays, walked. (printed by gen_index.py) -/
import Derived.Test.YtjcajidgaejhoaaGreatMi44
import Derived.Test.YtjcajidgaejhoaaGreatMi43
import Derived.Test.YtjcajidgaejhoaaGreatMi21
import Derived.Test.YtjcajidgaejhoaaGreatMi42
namespace Go.Proofs.YtjcajidgaejhoaaGreat
open Go.RowKit
set_option linter.unusedSimpArgs false
set_option linter.unusedVariables false

set_option maxHeartbeats 8000000 in
set_option maxRecDepth 100000 in
theorem indexStays_any (U : Nat → Prop) (v : Value) (x : Gx) (lab : ByteArray) (hlab : lab.size ≤ 9223372036854775807) (w : World) (h : RG U w v x) (hlx : LenX x) (hst : StrX x) :
    Calls Tryz.prog 5 #[v, .string lab] w fun e w' => e = .returned (.bool true) ∧ Frame [] w w' := by
  have R1 := Lib.hid h
  have W1 := Lib.hid (fun w' (f : Frame [] w w') => weight_any U v x w' (h.frame0 f) hlx hst)
  have T1 := Lib.hid hst
  obtain ⟨an, nc, ae, ec, rfl, -, -⟩ := h
  clear hlx hst
  go_enter Tryz.func5, Tryz.ntmps5
  go_wp2_with fail
  have fr : Frame [] w (w.alloc (.cells #[.slice an x.ns.length nc, .slice ae x.es.length ec, .int .i64 x.next] 25)) := Frame.alloc _ _ _
  have b0 := Blk.new w 25 #[.slice an x.ns.length nc, .slice ae x.es.length ec, .int .i64 x.next]
  generalize w.alloc (.cells #[.slice an x.ns.length nc, .slice ae x.es.length ec, .int .i64 x.next] 25) = wa at *
  refine (W1.out wa fr).mono ?_
  clear W1
  rintro e w1 ⟨n1, rfl, hn1, f1⟩
  have F1 := Lib.hid (fr.trans1 f1)
  have B0 := Lib.hid (b0.frame f1 (by simp))
  clear fr b0 f1
  by_cases hb1 : 2000 < n1
  case pos =>
    have hd : decide (2000 < n1) = true := by simpa using hb1
    have y0 := B0.out.at 0 rfl
    have y1 := B0.out.at 1 rfl
    have y2 := B0.out.at 2 rfl
    clear hn1
    go_wp2_with fail
    refine (awake12 _).mono ?_
    rintro e wk ⟨rfl, fk⟩
    have FK := Lib.hid (F1.out.trans1 fk)
    clear fk
    go_wp2_with fail
    go_ret
    exact ⟨rfl, FK.out⟩
  have hd : decide (2000 < n1) = false := by simpa using hb1
  have S1 := Lib.hid (hn1 (by omega))
  clear hn1 hb1
  have y0 := B0.out.at 0 rfl
  have y1 := B0.out.at 1 rfl
  have y2 := B0.out.at 2 rfl
  by_cases hmay : MayX x
  case neg =>
    have HM := Lib.hid (Ans.no (may_any U _ x w1 (R1.out.frame0 F1.out) S1.out T1.out) hmay)
    clear hmay
    go_wp2_with fail
    refine HM.out.mono ?_
    clear HM
    rintro e w2 ⟨rfl, f2⟩
    have F2 := Lib.hid (F1.out.trans1 f2)
    clear f2
    go_wp2_with fail
    refine (awake12 _).mono ?_
    rintro e wk ⟨rfl, fk⟩
    have FK := Lib.hid (F2.out.trans1 fk)
    clear fk
    go_wp2_with fail
    go_ret
    exact ⟨rfl, FK.out⟩
  have HM := Lib.hid (Ans.yes (may_any U _ x w1 (R1.out.frame0 F1.out) S1.out T1.out) hmay)
  have MY := Lib.hid hmay
  have GK := Lib.hid hmay.gok
  clear hmay
  go_wp2_with fail
  refine HM.out.mono ?_
  clear HM
  rintro e w2 ⟨rfl, f2⟩
  have F2 := Lib.hid (F1.out.trans1 f2)
  have B0 := Lib.hid (B0.out.frame f2 (by simp))
  clear f2 y0 y1 y2 F1 hd
  have y0 := B0.out.at 0 rfl
  have y1 := B0.out.at 1 rfl
  have y2 := B0.out.at 2 rfl
  have F2k := F2
  have B2k := B0
  by_cases h0 : x.ns.length = 0
  case pos =>
    have hz : ((x.ns.length : Int) == 0) = true := by simp [h0]
    have hz' : (x.ns.length == 0) = true := by simp [h0]
    go_wp2_with fail
    refine (awake12 _).mono ?_
    rintro e wk ⟨rfl, fk⟩
    have FK := Lib.hid (F2.out.trans1 fk)
    clear fk
    go_wp2_with fail
    go_ret
    exact ⟨rfl, FK.out⟩
  have hz : ((x.ns.length : Int) == 0) = false := by
    rw [beq_eq_false_iff_ne]; omega
  have hz' : (x.ns.length == 0) = false := by rw [beq_eq_false_iff_ne]; exact h0
  go_wp2_with fail
  refine (of_any U _ x w2 (R1.out.frame0 F2.out) S1.out T1.out).mono ?_
  clear y0 y1 y2 hz hz'
  rintro e w3 (⟨hno, -⟩ | ⟨-, pb, rfl, o3⟩)
  · exact absurd MY.out hno
  have O3 := Lib.hid o3
  have F3 := Lib.hid (F2.out.trans1 (VOwn.frame o3))
  clear o3
  go_wp2_with fail
  refine (inew_any O3.out GK.out).mono ?_
  rintro e w4 ⟨xb, rfl, ix, f4⟩
  have F4 := Lib.hid (F3.out.trans1 f4)
  have B0 := Lib.hid ((B0.out.frame (VOwn.frame O3.out) (by simp)).frame f4 (by simp))
  have hel := GK.out.e.len
  have hnl := GK.out.v.len
  have IG4 : Hid (IG w2 (fun b => w3.heap.size ≤ b ∧ b < w4.heap.size) pb xb x.ns x.es (x.next - 1) x.ns x.es (x.next - 1) w4) := Lib.hid (by
    obtain ⟨F, a, b, c⟩ := O3.out
    exact ⟨F, a.frame0 f4, b.trans1 f4, fun y hy => ⟨c y hy, fun hu => by have := a.lt y hy; omega⟩, fun y hy => hy.2, ix⟩)
  generalize (fun b => w3.heap.size ≤ b ∧ b < w4.heap.size) = UX at *
  have RN4 : Hid (RN U w4 an x.ns) := Lib.hid (by
    obtain ⟨_, _, _, _, e, q, q2⟩ := R1.out
    simp only [Value.agg.injEq, Array.mk.injEq, List.cons.injEq, Value.slice.injEq] at e
    obtain ⟨⟨rfl, -, rfl⟩, ⟨rfl, -, rfl⟩, -⟩ := e
    exact q.frame0 F4.out)
  clear ix f4 F3 F2 O3
  have HC4 := Lib.hid (icount_any IG4.out.ix (by omega) lab)
  go_wp2_with fail
  refine HC4.out.mono ?_
  rintro e w5 ⟨rfl, f5⟩
  have IG5 := Lib.hid (IG4.out.quiet f5)
  have F5 := Lib.hid (F4.out.trans1 f5)
  have B5 := Lib.hid (B0.out.frame f5 (by simp))
  have g1 : x.ns[0]? = some (x.ns[0]'(by omega)) := by simp
  obtain ⟨nb, no, l9, c9, p9, pc9, e9, -, q0, -⟩ := (RN4.out.frame0 f5) 0 _ g1
  generalize (x.ns[0]'(by omega)).1 = id at *
  simp only [Nat.zero_mul, Nat.add_zero] at q0
  have hpos : (0 : Int) < (x.ns.length : Int) := by omega
  have HAN := Lib.hid e9
  have y0 := B5.out.at 0 rfl
  rw [e9] at y0
  have HAD := Lib.hid (IG5.out.add GK.out.v GK.out.e id lab id hlab)
  clear f5 HC4 IG4 g1 e9
  go_wp2_with fail
  refine HAD.out.mono ?_
  rintro e w6 ⟨rfl, g6⟩
  have IG6 := Lib.hid g6
  have he6 := GK.out.e.add x.ns id lab id
  have HE6 := Lib.hid he6
  clear g6 HAD IG5 y0 q0 he6
  have HDR := Lib.hid (IG6.out.drop HE6.out 1)
  generalize vAdd x.ns x.es (x.next - 1) id lab id = q at *
  obtain ⟨⟨q1, q2⟩, qe, qg⟩ := q
  simp only at HDR
  go_wp2_with fail
  refine HDR.out.mono ?_
  rintro e w7 ⟨rfl, g7⟩
  have IG7 := Lib.hid g7
  clear g7 HDR IG6
  generalize vDrop qe 1 = qd at *
  obtain ⟨qd1, qd2⟩ := qd
  simp only at IG7
  have HLB := Lib.hid (IG7.out.label GK.out.v id ⟨#[122, 122]⟩ (by decide))
  go_wp2_with fail
  refine HLB.out.mono ?_
  rintro e w8 ⟨rfl, g8⟩
  have IG8 := Lib.hid g8
  have F28 := Lib.hid g8.frame
  clear g8 HLB IG7
  have F8 := Lib.hid (F2k.out.trans1 F28.out)
  have HC8 := Lib.hid (fun w' (f : Frame [] w8 w') => icount_any (IG8.out.ix.frame0 f) (by omega) lab)
  have HE8 := Lib.hid (fun w' (f : Frame [] w8 w') => iedges_any (IG8.out.ix.frame0 f) (by omega) lab)
  have HH8 := Lib.hid (fun w' (f : Frame [] w8 w') => ihas_any (IG8.out.ix.frame0 f) GK.out.v ⟨#[]⟩ ⟨#[122, 122]⟩ ⟨#[]⟩ false)
  have HH9 : Hid (∀ w', Frame [] w8 w' → Calls Tryz.prog 28 #[.agg #[.slice an x.ns.length nc, .slice ae x.es.length ec, .int .i64 x.next], .string ⟨#[122, 122]⟩] w' (FreshEnd 3 1 encI ((x.ns.map (·.1)).filter fun t => holdsV x.ns t false ⟨#[122, 122]⟩ ⟨#[]⟩) w')) := by
    show ∀ w', _
    intro w' f
    obtain ⟨_, _, _, _, e, q, q2⟩ := R1.out
    simp only [Value.agg.injEq, Array.mk.injEq, List.cons.injEq, Value.slice.injEq] at e
    obtain ⟨⟨rfl, -, rfl⟩, ⟨rfl, -, rfl⟩, -⟩ := e
    exact has12_any U _ _ _ _ _ x.ns x.next _ _ w' ((q.frame0 F8.out).frame0 f) GK.out.v
  generalize (x.ns.map (·.1)).filter (fun t => holdsV x.ns t false ⟨#[122, 122]⟩ ⟨#[]⟩) = HSL at *
  generalize x.es.filter (labP lab) = EL at *
  have BA := B2k.out.frame F28.out (by simp)
  have A0 : ∀ w', Frame [] w8 w' → w'.cell? ⟨w.heap.size, 0, none⟩ = some (.slice an x.ns.length nc) := fun w' f => (BA.frame f (by simp)).at 0 rfl
  have A1 : ∀ w', Frame [] w8 w' → w'.cell? ⟨w.heap.size, 1, none⟩ = some (.slice ae x.es.length ec) := fun w' f => (BA.frame f (by simp)).at 1 rfl
  have A2 : ∀ w', Frame [] w8 w' → w'.cell? ⟨w.heap.size, 2, none⟩ = some (.int .i64 x.next) := fun w' f => (BA.frame f (by simp)).at 2 rfl
  clear BA HAN RN4 IG8 B0 B5 F5 F4 HE6
  go_wp2_with fail
  go_region_held3 (fun w' => Frame [] w8 w') ((repeat first | assumption | exact Frame.refl _ _ | refine Frame.trans1 ?_ (Frame.alloc _ _ _) | refine Frame.trans1 ?_ (Frame.drew _ _) | refine Frame.trans1 ?_ (Frame.drewN _ _ _)))
    ((first
      | (go_at_call_of 19 xb; refine (HC8.out _ (by (repeat first | assumption | exact Frame.refl _ _ | refine Frame.trans1 ?_ (Frame.alloc _ _ _) | refine Frame.trans1 ?_ (Frame.drew _ _) | refine Frame.trans1 ?_ (Frame.drewN _ _ _)))).mono ?_; rintro e wa ⟨rfl, fa⟩; have FA : Frame [] w8 wa := (show Frame [] w8 _ from by (repeat first | assumption | exact Frame.refl _ _ | refine Frame.trans1 ?_ (Frame.alloc _ _ _) | refine Frame.trans1 ?_ (Frame.drew _ _) | refine Frame.trans1 ?_ (Frame.drewN _ _ _))).trans1 fa; clear fa)
      | (go_at_call_of 18 xb; refine (HE8.out _ (by (repeat first | assumption | exact Frame.refl _ _ | refine Frame.trans1 ?_ (Frame.alloc _ _ _) | refine Frame.trans1 ?_ (Frame.drew _ _) | refine Frame.trans1 ?_ (Frame.drewN _ _ _)))).mono ?_; rintro e wb ⟨xb, kb, Gb, rfl, sb, fb, -⟩; have FB : Frame [] w8 wb := (show Frame [] w8 _ from by (repeat first | assumption | exact Frame.refl _ _ | refine Frame.trans1 ?_ (Frame.alloc _ _ _) | refine Frame.trans1 ?_ (Frame.drew _ _) | refine Frame.trans1 ?_ (Frame.drewN _ _ _))).trans1 fb; clear sb fb)
      | (go_at_call 14; refine (HH8.out _ (by (repeat first | assumption | exact Frame.refl _ _ | refine Frame.trans1 ?_ (Frame.alloc _ _ _) | refine Frame.trans1 ?_ (Frame.drew _ _) | refine Frame.trans1 ?_ (Frame.drewN _ _ _)))).mono ?_; rintro e wc ⟨xc, kc, Gc, rfl, sc, fc, -⟩; have FC : Frame [] w8 wc := (show Frame [] w8 _ from by (repeat first | assumption | exact Frame.refl _ _ | refine Frame.trans1 ?_ (Frame.alloc _ _ _) | refine Frame.trans1 ?_ (Frame.drew _ _) | refine Frame.trans1 ?_ (Frame.drewN _ _ _))).trans1 fc; clear sc fc)
      | (go_at_call 28; refine (HH9.out _ (by (repeat first | assumption | exact Frame.refl _ _ | refine Frame.trans1 ?_ (Frame.alloc _ _ _) | refine Frame.trans1 ?_ (Frame.drew _ _) | refine Frame.trans1 ?_ (Frame.drewN _ _ _)))).mono ?_; rintro e wd ⟨xd, kd, Gd, rfl, sd, fd, -⟩; have FD : Frame [] w8 wd := (show Frame [] w8 _ from by (repeat first | assumption | exact Frame.refl _ _ | refine Frame.trans1 ?_ (Frame.alloc _ _ _) | refine Frame.trans1 ?_ (Frame.drew _ _) | refine Frame.trans1 ?_ (Frame.drewN _ _ _))).trans1 fd; clear sd fd)
      | (go_at_call 10; refine (inew_nil _).mono ?_; rintro e we ⟨rfl, fe⟩; have FE : Frame [] w8 we := (show Frame [] w8 _ from by (repeat first | assumption | exact Frame.refl _ _ | refine Frame.trans1 ?_ (Frame.alloc _ _ _) | refine Frame.trans1 ?_ (Frame.drew _ _) | refine Frame.trans1 ?_ (Frame.drewN _ _ _))).trans1 fe; clear fe)
      | (go_at_call 13; refine (ids_nil _).mono ?_; rintro e wg ⟨rfl, fg⟩; have FG : Frame [] w8 wg := (show Frame [] w8 _ from by (repeat first | assumption | exact Frame.refl _ _ | refine Frame.trans1 ?_ (Frame.alloc _ _ _) | refine Frame.trans1 ?_ (Frame.drew _ _) | refine Frame.trans1 ?_ (Frame.drewN _ _ _))).trans1 fg; clear fg)
      | (go_at_call 19; refine (icount_nil _ _).mono ?_; rintro e wh ⟨rfl, fh⟩; have FH : Frame [] w8 wh := (show Frame [] w8 _ from by (repeat first | assumption | exact Frame.refl _ _ | refine Frame.trans1 ?_ (Frame.alloc _ _ _) | refine Frame.trans1 ?_ (Frame.drew _ _) | refine Frame.trans1 ?_ (Frame.drewN _ _ _))).trans1 fh; clear fh)
      | (go_at_call 21; refine (ilabels_nil _).mono ?_; rintro e wi ⟨rfl, fi⟩; have FI : Frame [] w8 wi := (show Frame [] w8 _ from by (repeat first | assumption | exact Frame.refl _ _ | refine Frame.trans1 ?_ (Frame.alloc _ _ _) | refine Frame.trans1 ?_ (Frame.drew _ _) | refine Frame.trans1 ?_ (Frame.drewN _ _ _))).trans1 fi; clear fi)
      | (go_at_call 8; refine (awake12 _).mono ?_; rintro e wz ⟨rfl, fz⟩; have FZ : Frame [] w8 wz := (show Frame [] w8 _ from by (repeat first | assumption | exact Frame.refl _ _ | refine Frame.trans1 ?_ (Frame.alloc _ _ _) | refine Frame.trans1 ?_ (Frame.drew _ _) | refine Frame.trans1 ?_ (Frame.drewN _ _ _))).trans1 fz; clear fz)))
  all_goals
    go_wp2_with fail
    go_ret
    exact ⟨rfl, F8.out.trans1 (FZ.trans1 (by (repeat first | assumption | exact Frame.refl _ _ | refine Frame.trans1 ?_ (Frame.alloc _ _ _) | refine Frame.trans1 ?_ (Frame.drew _ _) | refine Frame.trans1 ?_ (Frame.drewN _ _ _))))⟩
end Go.Proofs.YtjcajidgaejhoaaGreat

