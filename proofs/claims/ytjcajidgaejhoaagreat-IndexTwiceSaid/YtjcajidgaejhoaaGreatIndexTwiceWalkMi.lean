/- The law IndexTwice, walked. (printed by gen_index.py) -/
import Derived.Test.YtjcajidgaejhoaaGreatMi44
import Derived.Test.YtjcajidgaejhoaaGreatMi43
import Derived.Test.YtjcajidgaejhoaaGreatMi21
import Derived.Test.YtjcajidgaejhoaaGreatMi42
namespace Go.Proofs.YtjcajidgaejhoaaGreat
open Go.RowKit
set_option linter.unusedSimpArgs false
set_option linter.unusedVariables false
theorem rdI_of_rf {U : Nat → Prop} {w : World} {a : Option Addr} {xs : List Int} (h : RF U w 1 encI a xs) : RdI w a xs := by
  rcases h.one with h0 | ⟨b, off, h1, -, h3⟩
  · exact .inl h0
  · cases xs with
    | nil => exact .inl rfl
    | cons x t =>
      refine .inr ⟨b, off, h1, World.block_lt_of_cell? w _ (h3 0 x rfl 0 _ rfl), fun k hk => ?_⟩
      have := h3 k _ (by simp [hk] : (x :: t)[k]? = some (x :: t)[k]) 0 _ rfl
      simpa using this
theorem sub_one {w : World} {b off : Nat} {t : Int} {a9 : Option Addr} {c9 c8 : Nat} {ys : List Int} (hc : w.cell? ⟨b, off, none⟩ = some (.int .i64 t)) (h : RF (fun _ => True) w 1 encI a9 ys) (hm : t ∈ ys) (hl : ys.length ≤ 1000000) :
    Calls Tryz.prog 24 #[.slice (some ⟨b, off, none⟩) 1 c8, .slice a9 ys.length c9] w fun e w' => e = .returned (.bool true) ∧ Frame [] w w' := by
  have h1 : RdI w (some ⟨b, off, none⟩) [t] := .inr ⟨b, off, rfl, World.block_lt_of_cell? w _ hc, fun j hj => by
    obtain rfl : j = 0 := by simp at hj; omega
    simpa using hc⟩
  have hq := Ans.yes (subset_any (some ⟨b, off, none⟩) a9 c8 c9 [t] ys w h1 (rdI_of_rf h) (by simp) hl) (fun x hx => by simp at hx; subst hx; exact hm)
  exact hq

set_option maxHeartbeats 8000000 in
set_option maxRecDepth 100000 in
theorem indexTwice_any (U : Nat → Prop) (v : Value) (x : Gx) (vr nm vl : ByteArray) (pr : Bool) (lab : ByteArray) (w : World) (h : RG U w v x) (hlx : LenX x) (hst : StrX x) :
    Calls Tryz.prog 4 #[v, .agg #[.string vr, .bool pr, .string nm, .string vl], .string lab] w fun e w' => e = .returned (.bool true) ∧ Frame [] w w' := by
  have R1 := Lib.hid h
  have W1 := Lib.hid (fun w' (f : Frame [] w w') => weight_any U v x w' (h.frame0 f) hlx hst)
  have T1 := Lib.hid hst
  obtain ⟨an, nc, ae, ec, rfl, -, -⟩ := h
  clear hlx hst
  go_enter Tryz.func4, Tryz.ntmps4
  go_wp2_with fail
  have fr : Frame [] w ((w.alloc (.cells #[.slice an x.ns.length nc, .slice ae x.es.length ec, .int .i64 x.next] 25)).alloc (.cells #[.string vr, .bool pr, .string nm, .string vl] 27)) := by (repeat first | assumption | exact Frame.refl _ _ | refine Frame.trans1 ?_ (Frame.alloc _ _ _) | refine Frame.trans1 ?_ (Frame.drew _ _) | refine Frame.trans1 ?_ (Frame.drewN _ _ _))
  have b0 := (Blk.new w 25 #[.slice an x.ns.length nc, .slice ae x.es.length ec, .int .i64 x.next]).alloc (.cells #[.string vr, .bool pr, .string nm, .string vl] 27)
  have b1 := Blk.new (w.alloc (.cells #[.slice an x.ns.length nc, .slice ae x.es.length ec, .int .i64 x.next] 25)) 27 #[.string vr, .bool pr, .string nm, .string vl]
  simp only [World.size_alloc] at b1
  generalize (w.alloc (.cells #[.slice an x.ns.length nc, .slice ae x.es.length ec, .int .i64 x.next] 25)).alloc (.cells #[.string vr, .bool pr, .string nm, .string vl] 27) = wa at *
  refine (W1.out wa fr).mono ?_
  clear W1
  rintro e w1 ⟨n1, rfl, hn1, f1⟩
  have F1 := Lib.hid (fr.trans1 f1)
  have B0 := Lib.hid (b0.frame f1 (by simp))
  have B1 := Lib.hid (b1.frame f1 (by simp))
  clear fr b0 f1 b1
  by_cases hb1 : 2000 < n1
  case pos =>
    have hd : decide (2000 < n1) = true := by simpa using hb1
    have y0 := B0.out.at 0 rfl
    have y1 := B0.out.at 1 rfl
    have y2 := B0.out.at 2 rfl
    clear hn1
    go_wp2_with fail
    refine (awake12 _).mono ?_
    rintro e wk ⟨rfl, fk⟩
    have FK := Lib.hid (F1.out.trans1 fk)
    clear fk
    go_wp2_with fail
    go_ret
    exact ⟨rfl, FK.out⟩
  have hd : decide (2000 < n1) = false := by simpa using hb1
  have S1 := Lib.hid (hn1 (by omega))
  clear hn1 hb1
  have y0 := B0.out.at 0 rfl
  have y1 := B0.out.at 1 rfl
  have y2 := B0.out.at 2 rfl
  by_cases hmay : MayX x
  case neg =>
    have HM := Lib.hid (Ans.no (may_any U _ x w1 (R1.out.frame0 F1.out) S1.out T1.out) hmay)
    clear hmay
    go_wp2_with fail
    refine HM.out.mono ?_
    clear HM
    rintro e w2 ⟨rfl, f2⟩
    have F2 := Lib.hid (F1.out.trans1 f2)
    clear f2
    go_wp2_with fail
    refine (awake12 _).mono ?_
    rintro e wk ⟨rfl, fk⟩
    have FK := Lib.hid (F2.out.trans1 fk)
    clear fk
    go_wp2_with fail
    go_ret
    exact ⟨rfl, FK.out⟩
  have HM := Lib.hid (Ans.yes (may_any U _ x w1 (R1.out.frame0 F1.out) S1.out T1.out) hmay)
  have MY := Lib.hid hmay
  have GK := Lib.hid hmay.gok
  clear hmay
  go_wp2_with fail
  refine HM.out.mono ?_
  clear HM
  rintro e w2 ⟨rfl, f2⟩
  have F2 := Lib.hid (F1.out.trans1 f2)
  have B0 := Lib.hid (B0.out.frame f2 (by simp))
  have B1 := Lib.hid (B1.out.frame f2 (by simp))
  clear f2 y0 y1 y2 F1 hd
  have y0 := B0.out.at 0 rfl
  have y1 := B0.out.at 1 rfl
  have y2 := B0.out.at 2 rfl
  go_wp2_with fail
  refine (of_any U _ x w2 (R1.out.frame0 F2.out) S1.out T1.out).mono ?_
  clear y0 y1 y2
  rintro e w3 (⟨hno, -⟩ | ⟨-, pb, rfl, o3⟩)
  · exact absurd MY.out hno
  have O3 := Lib.hid o3
  have F3 := Lib.hid (F2.out.trans1 (VOwn.frame o3))
  clear o3
  go_wp2_with fail
  refine (inew_any O3.out GK.out).mono ?_
  rintro e w4 ⟨ia, rfl, ix, f4⟩
  have IXA0 := Lib.hid ix
  have O4 := Lib.hid (O3.out.quiet f4)
  have F4 := Lib.hid (F3.out.trans1 f4)
  have F34 := Lib.hid f4
  clear ix f4
  go_wp2_with fail
  refine (inew_any O4.out GK.out).mono ?_
  rintro e w5 ⟨ib, rfl, ix, f5⟩
  have IXB := Lib.hid ix
  have IXA := Lib.hid (IXA0.out.frame0 f5)
  have F5 := Lib.hid (F4.out.trans1 f5)
  have B0 := Lib.hid (((B0.out.frame (VOwn.frame O3.out) (by simp)).frame F34.out (by simp)).frame f5 (by simp))
  have B1 := Lib.hid (((B1.out.frame (VOwn.frame O3.out) (by simp)).frame F34.out (by simp)).frame f5 (by simp))
  have O5 := Lib.hid (O4.out.quiet f5)
  have hel := GK.out.e.len
  have hnl := GK.out.v.len
  have RN5 : Hid (RN U w5 an x.ns) := Lib.hid (by
    obtain ⟨_, _, _, _, e, q, q2⟩ := R1.out
    simp only [Value.agg.injEq, Array.mk.injEq, List.cons.injEq, Value.slice.injEq] at e
    obtain ⟨⟨rfl, -, rfl⟩, ⟨rfl, -, rfl⟩, -⟩ := e
    exact q.frame0 F5.out)
  have p0 := B1.out.at 0 rfl
  have p1 := B1.out.at 1 rfl
  have p2 := B1.out.at 2 rfl
  have p3 := B1.out.at 3 rfl
  clear ix f5 F3 F2 O3 O4 F34 IXA0 F4
  have HH : Hid (∀ w' t, Frame [] w5 w' → Calls Tryz.prog 23 #[.pointer (some ⟨pb, 0, none⟩), .int .i64 t, .agg #[.string vr, .bool pr, .string nm, .string vl]] w' fun e w'' => e = .returned (.bool (holdsV x.ns t pr nm vl)) ∧ Frame [] w' w'') := by
    show ∀ w' t, _
    intro w' t f
    obtain ⟨F, gv, -⟩ := O5.out
    exact gholds_any (gv.frame0 f) GK.out.v t vr nm vl pr
  go_wp2_with fail
  refine (ihas_any IXA.out GK.out.v vr nm vl pr).mono ?_
  rintro e w6 ⟨la, lc, LG, rfl, sl, f6, -⟩
  clear p0 p1 p2 p3
  have SLH := Lib.hid (sl.rf encI_len (U := fun _ => True) (fun _ _ => trivial))
  have hcap := sl.cap
  have F6 := Lib.hid f6
  clear sl f6
  have hmem : ∀ t ∈ (x.ns.map (·.1)).filter (fun t => holdsV x.ns t pr nm vl), holdsV x.ns t pr nm vl = true ∧ t ∈ x.ns.map (·.1) := fun t ht => ⟨(List.mem_filter.1 ht).2, (List.mem_filter.1 ht).1⟩
  have hhl := List.length_filter_le (fun t => holdsV x.ns t pr nm vl) (x.ns.map (·.1))
  have hlm : (x.ns.map (·.1)).length = x.ns.length := List.length_map ..
  have HMEM := Lib.hid hmem
  have HHB := Lib.hid (fun w' (f : Frame [] w5 w') => ihas_any (IXB.out.frame0 f) GK.out.v vr nm vl pr)
  have HDEF : Hid ((x.ns.map (·.1)).filter (fun t => holdsV x.ns t pr nm vl) = (x.ns.map (·.1)).filter (fun t => holdsV x.ns t pr nm vl)) := Lib.hid rfl
  generalize hHSL : (x.ns.map (·.1)).filter (fun t => holdsV x.ns t pr nm vl) = HSL at *
  have HEQ := Lib.hid hHSL
  clear hmem hHSL HDEF
  have HID := Lib.hid (fun w' (f : Frame [] w5 w') => ids_any (IXA.out.frame0 f) (by omega))
  go_wp2_with fail
  go_loopw [12] (fun i wr => ∃ k : Nat, k ≤ HSL.length ∧ i = .int .i64 k ∧ Hid (Frame [] w6 wr)) (fun i _ => HSL.length - (intOf i).toNat)
  case atStart => exact ⟨0, Nat.zero_le _, rfl, Lib.hid (Frame.refl _ _)⟩
  case round =>
    obtain ⟨k, hk, rfl, hR⟩ := hrel
    by_cases hlt : k < HSL.length
    · have g1 : HSL[k]? = some HSL[k] := by simp [hlt]
      have hm1 := HMEM.out _ (List.getElem_mem hlt)
      obtain ⟨b, off, rfl, -, q⟩ := (SLH.out.frame0 hR.out) k _ g1
      have d0 := q 0 _ rfl
      simp only [Nat.add_zero, Nat.mul_one] at d0
      generalize HSL[k] = t at *
      have FW := Lib.hid (F6.out.trans1 hR.out)
      have HH1 : Hid (∀ w', Frame [] wr w' → Calls Tryz.prog 23 #[.pointer (some ⟨pb, 0, none⟩), .int .i64 t, .agg #[.string vr, .bool pr, .string nm, .string vl]] w' fun e w'' => e = .returned (.bool true) ∧ Frame [] w' w'') := by
        show ∀ w', _
        intro w' f
        have := HH.out w' t (FW.out.trans1 f)
        rw [hm1.1] at this
        exact this
      have HI1 := Lib.hid (fun w' (f : Frame [] wr w') => HID.out w' (FW.out.trans1 f))
      have D0 := Lib.hid d0
      have HSB : Hid (∀ w' a9 c9 c8, Frame [] wr w' → RF (fun _ => True) w' 1 encI a9 (x.ns.map (·.1)) → Calls Tryz.prog 24 #[.slice (some ⟨b, off + k, none⟩) 1 c8, .slice a9 x.ns.length c9] w' fun e w'' => e = .returned (.bool true) ∧ Frame [] w' w'') := by
        show ∀ w' a9 c9 c8, _
        intro w' a9 c9 c8 f h
        have hq := sub_one (c9 := c9) (c8 := c8) (f.cell D0.out (by simp)) h hm1.2 (by omega)
        rw [hlm] at hq
        exact hq
      have BF := B1.out.frame FW.out (by simp)
      have L0 : ∀ w', Frame [] wr w' → w'.cell? ⟨b, off + k, none⟩ = some (.int .i64 t) := fun w' f => f.cell D0.out (by simp)
      have P0 : ∀ w', Frame [] wr w' → w'.cell? ⟨w.heap.size + 1, 0, none⟩ = some (.string vr) := fun w' f => (BF.frame f (by simp)).at 0 rfl
      have P1 : ∀ w', Frame [] wr w' → w'.cell? ⟨w.heap.size + 1, 1, none⟩ = some (.bool pr) := fun w' f => (BF.frame f (by simp)).at 1 rfl
      have P2 : ∀ w', Frame [] wr w' → w'.cell? ⟨w.heap.size + 1, 2, none⟩ = some (.string nm) := fun w' f => (BF.frame f (by simp)).at 2 rfl
      have P3 : ∀ w', Frame [] wr w' → w'.cell? ⟨w.heap.size + 1, 3, none⟩ = some (.string vl) := fun w' f => (BF.frame f (by simp)).at 3 rfl
      have k0 : (0 : Int) ≤ k := by omega
      have k1 : (k : Int) ≤ (k : Int) + 1 := by omega
      have k2 : (k : Int) + 1 ≤ lc := by omega
      have k3 : ((k : Int) + 1).toNat = k + 1 := by omega
      have k4 : k + 1 - k = 1 := by omega
      have kw := wrap_ok (k : Int) (by omega) (by omega)
      clear g1 q d0 BF hm1
      go_wp2_with fail
      go_region_held3 (fun w' => Frame [] wr w') ((repeat first | assumption | exact Frame.refl _ _ | refine Frame.trans1 ?_ (Frame.alloc _ _ _) | refine Frame.trans1 ?_ (Frame.drew _ _) | refine Frame.trans1 ?_ (Frame.drewN _ _ _)))
        ((first
          | (go_at_call 23; refine (HH1.out _ (by (repeat first | assumption | exact Frame.refl _ _ | refine Frame.trans1 ?_ (Frame.alloc _ _ _) | refine Frame.trans1 ?_ (Frame.drew _ _) | refine Frame.trans1 ?_ (Frame.drewN _ _ _)))).mono ?_; rintro e wq9 ⟨rfl, fq⟩; have FQ : Frame [] wr wq9 := (show Frame [] wr _ from by (repeat first | assumption | exact Frame.refl _ _ | refine Frame.trans1 ?_ (Frame.alloc _ _ _) | refine Frame.trans1 ?_ (Frame.drew _ _) | refine Frame.trans1 ?_ (Frame.drewN _ _ _))).trans1 fq; clear fq)
          | (go_at_call 13; refine (HI1.out _ (by (repeat first | assumption | exact Frame.refl _ _ | refine Frame.trans1 ?_ (Frame.alloc _ _ _) | refine Frame.trans1 ?_ (Frame.drew _ _) | refine Frame.trans1 ?_ (Frame.drewN _ _ _)))).mono ?_; rintro e wi ⟨xi, ki, Gi, rfl, si, fi, -⟩; have FI : Frame [] wr wi := (show Frame [] wr _ from by (repeat first | assumption | exact Frame.refl _ _ | refine Frame.trans1 ?_ (Frame.alloc _ _ _) | refine Frame.trans1 ?_ (Frame.drew _ _) | refine Frame.trans1 ?_ (Frame.drewN _ _ _))).trans1 fi; have SI := Lib.hid (si.rf encI_len (U := fun _ => True) (fun _ _ => trivial)); clear si)
          | (go_at_call 24; refine (HSB.out _ _ _ _ (by (repeat first | assumption | exact Frame.refl _ _ | refine Frame.trans1 ?_ (Frame.alloc _ _ _) | refine Frame.trans1 ?_ (Frame.drew _ _) | refine Frame.trans1 ?_ (Frame.drewN _ _ _))) (SI.out.frame0 (by (repeat first | assumption | exact Frame.refl _ _ | refine Frame.trans1 ?_ (Frame.alloc _ _ _) | refine Frame.trans1 ?_ (Frame.drew _ _) | refine Frame.trans1 ?_ (Frame.drewN _ _ _))))).mono ?_; rintro e wj ⟨rfl, fj⟩; have FJ : Frame [] wr wj := (show Frame [] wr _ from by (repeat first | assumption | exact Frame.refl _ _ | refine Frame.trans1 ?_ (Frame.alloc _ _ _) | refine Frame.trans1 ?_ (Frame.drew _ _) | refine Frame.trans1 ?_ (Frame.drewN _ _ _))).trans1 fj; clear fj)))
      all_goals
        go_wp2_with fail
        go_roundw
        case rel => exact ⟨k + 1, by omega, by first | rfl | go_num, Lib.hid (hR.out.trans1 (by (repeat first | assumption | exact Frame.refl _ _ | refine Frame.trans1 ?_ (Frame.alloc _ _ _) | refine Frame.trans1 ?_ (Frame.drew _ _) | refine Frame.trans1 ?_ (Frame.drewN _ _ _))))⟩
        case measure => first | (simp [intOf]; done) | (simp [intOf]; omega)
    · obtain rfl : k = HSL.length := by omega
      have FW := Lib.hid (F6.out.trans1 hR.out)
      have B0 := Lib.hid (B0.out.frame FW.out (by simp))
      have B1 := Lib.hid (B1.out.frame FW.out (by simp))
      have LH := Lib.hid (SLH.out.frame0 hR.out)
      clear hlt hR SLH HID
      rename World => wp
      go_wp2_with fail
      have n00 : (((x.ns.take 0).map (·.1)).filter fun t => holdsV x.ns t pr nm vl).length = 0 := by simp
      go_loopw [13, 14] (fun n i wr => ∃ k : Nat, k ≤ x.ns.length ∧ n = .int .i64 (((x.ns.take k).map (·.1)).filter fun t => holdsV x.ns t pr nm vl).length ∧ i = .int .i64 k ∧ Hid (Frame [] wp wr)) (fun _ i _ => x.ns.length - (intOf i).toNat)
      case atStart => exact ⟨0, Nat.zero_le _, by rw [n00]; rfl, rfl, Lib.hid (Frame.refl _ _)⟩
      case round =>
        rename World => wr
        obtain ⟨k, hk, rfl, rfl, hR⟩ := hrel
        clear n00
        have y0 := (B0.out.frame hR.out (by simp)).at 0 rfl
        by_cases hlt : k < x.ns.length
        · have g1 : x.ns[k]? = some x.ns[k] := by simp [hlt]
          obtain ⟨nb, no, l9, c9, p9, pc9, e9, -, q04, -⟩ := RN5.out k _ g1
          have hmap : (x.ns.take (k + 1)).map (·.1) = (x.ns.take k).map (·.1) ++ [x.ns[k].1] := by rw [take_one' g1, List.map_append]; rfl
          generalize x.ns[k].1 = t at *
          have hfm : (((x.ns.take (k + 1)).map (·.1)).filter fun t => holdsV x.ns t pr nm vl).length = (((x.ns.take k).map (·.1)).filter fun t => holdsV x.ns t pr nm vl).length + (if holdsV x.ns t pr nm vl = true then 1 else 0) := by
            rw [hmap, List.filter_append, List.length_append]
            congr 1
            by_cases h : holdsV x.ns t pr nm vl = true <;> simp [h]
          have hfl : (((x.ns.take k).map (·.1)).filter fun t => holdsV x.ns t pr nm vl).length ≤ k := by
            have := List.length_filter_le (fun t => holdsV x.ns t pr nm vl) ((x.ns.take k).map (·.1))
            rw [List.length_map, List.length_take] at this; omega
          generalize (((x.ns.take k).map (·.1)).filter fun t => holdsV x.ns t pr nm vl).length = cn at *
          have FX := Lib.hid (FW.out.trans1 hR.out)
          have HH1 := Lib.hid (fun w' (f : Frame [] wr w') => HH.out w' t (FX.out.trans1 f))
          obtain ⟨r, hr⟩ : ∃ r, holdsV x.ns t pr nm vl = r := ⟨_, rfl⟩
          rw [hr] at HH1 hfm
          have HFM := Lib.hid hfm
          subst e9
          have BA := B0.out.frame hR.out (by simp)
          have BF := B1.out.frame hR.out (by simp)
          have Q8 := FX.out.cell q04 (by simp)
          have A0 : ∀ w', Frame [] wr w' → w'.cell? ⟨w.heap.size, 0, none⟩ = some (.slice (some ⟨nb, no, none⟩) x.ns.length nc) := fun w' f => (BA.frame f (by simp)).at 0 rfl
          have P0 : ∀ w', Frame [] wr w' → w'.cell? ⟨w.heap.size + 1, 0, none⟩ = some (.string vr) := fun w' f => (BF.frame f (by simp)).at 0 rfl
          have P1 : ∀ w', Frame [] wr w' → w'.cell? ⟨w.heap.size + 1, 1, none⟩ = some (.bool pr) := fun w' f => (BF.frame f (by simp)).at 1 rfl
          have P2 : ∀ w', Frame [] wr w' → w'.cell? ⟨w.heap.size + 1, 2, none⟩ = some (.string nm) := fun w' f => (BF.frame f (by simp)).at 2 rfl
          have P3 : ∀ w', Frame [] wr w' → w'.cell? ⟨w.heap.size + 1, 3, none⟩ = some (.string vl) := fun w' f => (BF.frame f (by simp)).at 3 rfl
          have N0 : ∀ w', Frame [] wr w' → w'.cell? ⟨nb, no + k * 3, none⟩ = some (.int .i64 t) := fun w' f => f.cell Q8 (by simp)
          clear g1 hmap hfm BA BF Q8 q04 hr
          go_wp2_with fail
          clear y0
          go_region_held3 (fun w' => Frame [] wr w') ((repeat first | assumption | exact Frame.refl _ _ | refine Frame.trans1 ?_ (Frame.alloc _ _ _) | refine Frame.trans1 ?_ (Frame.drew _ _) | refine Frame.trans1 ?_ (Frame.drewN _ _ _)))
            ((first | (go_at_call 23; refine (HH1.out _ (by (repeat first | assumption | exact Frame.refl _ _ | refine Frame.trans1 ?_ (Frame.alloc _ _ _) | refine Frame.trans1 ?_ (Frame.drew _ _) | refine Frame.trans1 ?_ (Frame.drewN _ _ _)))).mono ?_; rintro e wq9 ⟨rfl, fq⟩; have FQ : Frame [] wr wq9 := (show Frame [] wr _ from by (repeat first | assumption | exact Frame.refl _ _ | refine Frame.trans1 ?_ (Frame.alloc _ _ _) | refine Frame.trans1 ?_ (Frame.drew _ _) | refine Frame.trans1 ?_ (Frame.drewN _ _ _))).trans1 fq; clear fq)))
          have FQ := Lib.hid FQ
          cases r with
          | false =>
            go_wp2_with fail
            go_roundw
            case rel => exact ⟨k + 1, by omega, by rw [HFM.out]; rfl, by first | rfl | go_num, Lib.hid (hR.out.trans1 FQ.out)⟩
            case measure => first | (simp [intOf]; done) | (simp [intOf]; omega)
          | true =>
            go_wp2_with fail
            go_roundw
            case rel => exact ⟨k + 1, by omega, by rw [HFM.out]; first | rfl | (congr 1; done) | simp, by first | rfl | go_num, Lib.hid (hR.out.trans1 FQ.out)⟩
            case measure => first | (simp [intOf]; done) | (simp [intOf]; omega)
        · obtain rfl : k = x.ns.length := by omega
          rw [List.take_length, HEQ.out]
          have FX := Lib.hid (FW.out.trans1 hR.out)
          have LH := Lib.hid (LH.out.frame0 hR.out)
          have B1 := Lib.hid (B1.out.frame hR.out (by simp))
          clear hlt hk
          have HHB1 := Lib.hid (fun w' (f : Frame [] wr w') => HHB.out w' (FX.out.trans1 f))
          have HEA := Lib.hid (fun w' (f : Frame [] wr w') => iedges_any (IXA.out.frame0 (FX.out.trans1 f)) (by omega) lab)
          have HEB := Lib.hid (fun w' (f : Frame [] wr w') => iedges_any (IXB.out.frame0 (FX.out.trans1 f)) (by omega) lab)
          have HLA := Lib.hid (fun w' (f : Frame [] wr w') => ilabels_any (IXA.out.frame0 (FX.out.trans1 f)) (by omega))
          have HLB := Lib.hid (fun w' (f : Frame [] wr w') => ilabels_any (IXB.out.frame0 (FX.out.trans1 f)) (by omega))
          have hll := srtS_len (x.es.map (·.lab))
          rw [List.length_map] at hll
          have hfl := List.length_filter_le (labP lab) x.es
          generalize x.es.filter (labP lab) = EL at *
          generalize srtS (x.es.map (·.lab)) = SL at *
          have HI1 : Hid (∀ w' a9 c9, Frame [] wr w' → RF (fun _ => True) w' 1 encI a9 HSL → Calls Tryz.prog 12 #[.slice la HSL.length lc, .slice a9 HSL.length c9] w' fun e w'' => e = .returned (.bool true) ∧ Frame [] w' w'') := by
            show ∀ w' a9 c9, _
            intro w' a9 c9 f h
            exact Ans.yes (ints_any (fun _ => True) (fun _ => True) la a9 lc c9 HSL HSL w' (LH.out.frame0 f) h (by omega) (by omega)) rfl
          have HE1 : Hid (∀ w' a9 c9 a8 c8, RF (fun _ => True) w' 4 Ed.cs a9 EL → RF (fun _ => True) w' 4 Ed.cs a8 EL → Calls Tryz.prog 15 #[.slice a9 EL.length c9, .slice a8 EL.length c8] w' fun e w'' => e = .returned (.bool true) ∧ Frame [] w' w'') := by
            show ∀ w' a9 c9 a8 c8, _
            intro w' a9 c9 a8 c8 h k
            exact edges12_same _ _ _ _ _ _ EL w' h k (by omega)
          have HTX : Hid (∀ w' a9 c9 a8 c8, RF (fun _ => True) w' 1 encS a9 SL → RF (fun _ => True) w' 1 encS a8 SL → Calls Tryz.prog 20 #[.slice a9 SL.length c9, .slice a8 SL.length c8] w' fun e w'' => e = .returned (.bool true) ∧ Frame [] w' w'') := by
            show ∀ w' a9 c9 a8 c8, _
            intro w' a9 c9 a8 c8 h k
            exact Ans.yes (texts_any _ _ a9 a8 c9 c8 SL SL w' h k (by omega) (by omega)) rfl
          have p0 := B1.out.at 0 rfl
          have p1 := B1.out.at 1 rfl
          have p2 := B1.out.at 2 rfl
          have p3 := B1.out.at 3 rfl
          clear hll hfl HHB IXA IXB RN5 B0 B1 HH O5 HMEM HEQ
          go_wp2_with fail
          clear y0 p0 p1 p2 p3
          refine (HHB1.out _ (Frame.refl [] wr)).mono ?_
          rintro e wa ⟨xa, ka, Ga, rfl, sa, fa, -⟩
          have Sa := Lib.hid (sa.rf encI_len (U := fun _ => True) (fun _ _ => trivial))
          have Fa : Hid (Frame [] wr wa) := Lib.hid ((Frame.refl [] wr).trans1 fa)
          have ga := Lib.hid fa
          clear sa fa
          go_wp2_with fail
          refine (HI1.out _ _ _ Fa.out Sa.out).mono ?_
          rintro e wb ⟨rfl, fb⟩
          have Fb : Hid (Frame [] wr wb) := Lib.hid (Fa.out.trans1 fb)
          clear fb
          go_wp2_with fail
          refine (HEA.out _ Fb.out).mono ?_
          rintro e wc ⟨xc, kc, Gc, rfl, sc, fc, -⟩
          have Sc := Lib.hid (sc.rf ed_len (U := fun _ => True) (fun _ _ => trivial))
          have Fc : Hid (Frame [] wr wc) := Lib.hid (Fb.out.trans1 fc)
          have gc := Lib.hid fc
          clear sc fc
          go_wp2_with fail
          refine (HEB.out _ Fc.out).mono ?_
          rintro e wd ⟨xd, kd, Gd, rfl, sd, fd, -⟩
          have Sd := Lib.hid (sd.rf ed_len (U := fun _ => True) (fun _ _ => trivial))
          have Fd : Hid (Frame [] wr wd) := Lib.hid (Fc.out.trans1 fd)
          have gd := Lib.hid fd
          clear sd fd
          go_wp2_with fail
          refine (HE1.out _ _ _ _ _ (Sc.out.frame0 gd.out) Sd.out).mono ?_
          rintro e we ⟨rfl, fe⟩
          have Fe : Hid (Frame [] wr we) := Lib.hid (Fd.out.trans1 fe)
          clear fe
          go_wp2_with fail
          refine (HLA.out _ Fe.out).mono ?_
          rintro e wf ⟨xf, kf, Gf, rfl, sf, ff, -⟩
          have Sf := Lib.hid (sf.rf encS_len (U := fun _ => True) (fun _ _ => trivial))
          have Ff : Hid (Frame [] wr wf) := Lib.hid (Fe.out.trans1 ff)
          have gf := Lib.hid ff
          clear sf ff
          go_wp2_with fail
          refine (HLB.out _ Ff.out).mono ?_
          rintro e wg ⟨xg, kg, Gg, rfl, sg, fg, -⟩
          have Sg := Lib.hid (sg.rf encS_len (U := fun _ => True) (fun _ _ => trivial))
          have Fg : Hid (Frame [] wr wg) := Lib.hid (Ff.out.trans1 fg)
          have gg := Lib.hid fg
          clear sg fg
          go_wp2_with fail
          refine (HTX.out _ _ _ _ _ (Sf.out.frame0 gg.out) Sg.out).mono ?_
          rintro e wh ⟨rfl, fh⟩
          have Fh : Hid (Frame [] wr wh) := Lib.hid (Fg.out.trans1 fh)
          clear fh
          go_wp2_with fail
          refine (awake12 _).mono ?_
          rintro e wz ⟨rfl, fz⟩
          have FZ := Lib.hid (Fh.out.trans1 fz)
          clear fz
          go_wp2_with fail
          go_ret
          exact ⟨rfl, (F5.out.trans1 FX.out).trans1 FZ.out⟩
end Go.Proofs.YtjcajidgaejhoaaGreat

