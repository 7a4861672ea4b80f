/- The law IndexAsks, walked. (printed by gen_index.py) -/
import Derived.Test.YtjcajidgaejhoaaGreatMi44
import Derived.Test.YtjcajidgaejhoaaGreatMi43
import Derived.Test.YtjcajidgaejhoaaGreatMi21
import Derived.Test.YtjcajidgaejhoaaGreatMi42
namespace Go.Proofs.YtjcajidgaejhoaaGreat
open Go.RowKit
set_option linter.unusedSimpArgs false
set_option linter.unusedVariables false
theorem sort_fresh {w : World} {a : Option Addr} {c : Nat} {ls : List ByteArray} (h : RF (fun _ => True) w 1 encS a ls) (hl : ls.length ≤ 1000000) : Calls Tryz.prog 22 #[.slice a ls.length c] w (FreshEnd 9 1 encS (srtS ls) w) :=
  (sortT_any (fun _ => True) a c ls w h hl).mono fun e w' ⟨a', c', G, h1, h2, h3, h4⟩ => ⟨a', c', G, h1, h2, h3, h4⟩

set_option maxHeartbeats 8000000 in
set_option maxRecDepth 100000 in
theorem indexAsks_any (U : Nat → Prop) (v : Value) (x : Gx) (vr nm vl : ByteArray) (pr : Bool) (id : Int) (lab : ByteArray) (back : Bool) (w : World) (h : RG U w v x) (hlx : LenX x) (hst : StrX x) :
    Calls Tryz.prog 3 #[v, .agg #[.string vr, .bool pr, .string nm, .string vl], .int .i64 id, .string lab, .bool back] w fun e w' => e = .returned (.bool true) ∧ Frame [] w w' := by
  have R1 := Lib.hid h
  have W1 := Lib.hid (fun w' (f : Frame [] w w') => weight_any U v x w' (h.frame0 f) hlx hst)
  have T1 := Lib.hid hst
  obtain ⟨an, nc, ae, ec, rfl, -, -⟩ := h
  clear hlx hst
  go_enter Tryz.func3, Tryz.ntmps3
  go_wp2_with fail
  have fr : Frame [] w ((w.alloc (.cells #[.slice an x.ns.length nc, .slice ae x.es.length ec, .int .i64 x.next] 25)).alloc (.cells #[.string vr, .bool pr, .string nm, .string vl] 27)) := by (repeat first | assumption | exact Frame.refl _ _ | refine Frame.trans1 ?_ (Frame.alloc _ _ _) | refine Frame.trans1 ?_ (Frame.drew _ _) | refine Frame.trans1 ?_ (Frame.drewN _ _ _))
  have b0 := (Blk.new w 25 #[.slice an x.ns.length nc, .slice ae x.es.length ec, .int .i64 x.next]).alloc (.cells #[.string vr, .bool pr, .string nm, .string vl] 27)
  have b1 := Blk.new (w.alloc (.cells #[.slice an x.ns.length nc, .slice ae x.es.length ec, .int .i64 x.next] 25)) 27 #[.string vr, .bool pr, .string nm, .string vl]
  simp only [World.size_alloc] at b1
  generalize (w.alloc (.cells #[.slice an x.ns.length nc, .slice ae x.es.length ec, .int .i64 x.next] 25)).alloc (.cells #[.string vr, .bool pr, .string nm, .string vl] 27) = wa at *
  refine (W1.out wa fr).mono ?_
  clear W1
  rintro e w1 ⟨n1, rfl, hn1, f1⟩
  have F1 := Lib.hid (fr.trans1 f1)
  have B0 := Lib.hid (b0.frame f1 (by simp))
  have B1 := Lib.hid (b1.frame f1 (by simp))
  clear fr b0 f1 b1
  by_cases hb1 : 2000 < n1
  case pos =>
    have hd : decide (2000 < n1) = true := by simpa using hb1
    have y0 := B0.out.at 0 rfl
    have y1 := B0.out.at 1 rfl
    have y2 := B0.out.at 2 rfl
    clear hn1
    go_wp2_with fail
    refine (awake12 _).mono ?_
    rintro e wk ⟨rfl, fk⟩
    have FK := Lib.hid (F1.out.trans1 fk)
    clear fk
    go_wp2_with fail
    go_ret
    exact ⟨rfl, FK.out⟩
  have hd : decide (2000 < n1) = false := by simpa using hb1
  have S1 := Lib.hid (hn1 (by omega))
  clear hn1 hb1
  have y0 := B0.out.at 0 rfl
  have y1 := B0.out.at 1 rfl
  have y2 := B0.out.at 2 rfl
  by_cases hmay : MayX x
  case neg =>
    have HM := Lib.hid (Ans.no (may_any U _ x w1 (R1.out.frame0 F1.out) S1.out T1.out) hmay)
    clear hmay
    go_wp2_with fail
    refine HM.out.mono ?_
    clear HM
    rintro e w2 ⟨rfl, f2⟩
    have F2 := Lib.hid (F1.out.trans1 f2)
    clear f2
    go_wp2_with fail
    refine (awake12 _).mono ?_
    rintro e wk ⟨rfl, fk⟩
    have FK := Lib.hid (F2.out.trans1 fk)
    clear fk
    go_wp2_with fail
    go_ret
    exact ⟨rfl, FK.out⟩
  have HM := Lib.hid (Ans.yes (may_any U _ x w1 (R1.out.frame0 F1.out) S1.out T1.out) hmay)
  have MY := Lib.hid hmay
  have GK := Lib.hid hmay.gok
  clear hmay
  go_wp2_with fail
  refine HM.out.mono ?_
  clear HM
  rintro e w2 ⟨rfl, f2⟩
  have F2 := Lib.hid (F1.out.trans1 f2)
  have B0 := Lib.hid (B0.out.frame f2 (by simp))
  have B1 := Lib.hid (B1.out.frame f2 (by simp))
  clear f2 y0 y1 y2 F1 hd
  have y0 := B0.out.at 0 rfl
  have y1 := B0.out.at 1 rfl
  have y2 := B0.out.at 2 rfl
  go_wp2_with fail
  refine (of_any U _ x w2 (R1.out.frame0 F2.out) S1.out T1.out).mono ?_
  clear y0 y1 y2
  rintro e w3 (⟨hno, -⟩ | ⟨-, pb, rfl, o3⟩)
  · exact absurd MY.out hno
  have O3 := Lib.hid o3
  have F3 := Lib.hid (F2.out.trans1 (VOwn.frame o3))
  clear o3
  go_wp2_with fail
  refine (inew_any O3.out GK.out).mono ?_
  rintro e w4 ⟨xb, rfl, ix, f4⟩
  have IX4 := Lib.hid ix
  have F4 := Lib.hid (F3.out.trans1 f4)
  have B0 := Lib.hid ((B0.out.frame (VOwn.frame O3.out) (by simp)).frame f4 (by simp))
  have B1 := Lib.hid ((B1.out.frame (VOwn.frame O3.out) (by simp)).frame f4 (by simp))
  have hel := GK.out.e.len
  have hnl := GK.out.v.len
  have RN4 : Hid (RN U w4 an x.ns ∧ RF U w4 4 Ed.cs ae x.es) := Lib.hid (by
    obtain ⟨_, _, _, _, e, q, q2⟩ := R1.out
    simp only [Value.agg.injEq, Array.mk.injEq, List.cons.injEq, Value.slice.injEq] at e
    obtain ⟨⟨rfl, -, rfl⟩, ⟨rfl, -, rfl⟩, -⟩ := e
    exact ⟨q.frame0 F4.out, q2.frame0 F4.out⟩)
  clear ix f4 F3 F2 O3
  go_wp2_with fail
  go_loopw [14, 15, 16] (fun u v i wr => ∃ (k : Nat) (a : Option Addr) (c : Nat) (G : List Nat) (a2 : Option Addr) (n2 c2 : Nat) (G2 : List Nat), k ≤ x.ns.length ∧ i = .int .i64 k ∧ u = .slice a k c ∧ v = .slice a2 n2 c2 ∧ n2 ≤ k ∧ Hid (Frame [] w4 wr ∧ Sl wr 3 1 encI (.slice a k c) ((x.ns.take k).map (·.1)) G ∧ Sl wr 3 1 encI (.slice a2 n2 c2) (((x.ns.take k).map (·.1)).filter fun t => holdsV x.ns t pr nm vl) G2 ∧ (((x.ns.take k).map (·.1)).filter fun t => holdsV x.ns t pr nm vl).length = n2 ∧ (∀ y ∈ G, w4.heap.size ≤ y ∧ y ∉ G2) ∧ ∀ y ∈ G2, w4.heap.size ≤ y)) (fun _ _ i _ => x.ns.length - (intOf i).toNat)
  case atStart => exact ⟨0, none, 0, [], none, 0, 0, [], Nat.zero_le _, rfl, rfl, rfl, Nat.le_refl _, Lib.hid ⟨Frame.refl _ _, Sl.nil _ _ _ _, Sl.nil _ _ _ _, rfl, by simp, by simp⟩⟩
  case round =>
    obtain ⟨k, a, c, G, a2, n2, c2, G2, hk, rfl, rfl, rfl, hnk, hR⟩ := hrel
    have y0 := (B0.out.frame hR.out.1 (by simp)).at 0 rfl
    by_cases hlt : k < x.ns.length
    · have g1 : x.ns[k]? = some x.ns[k] := by simp [hlt]
      obtain ⟨nb, no, l9, c9, p9, pc9, e9, -, q04, -⟩ := RN4.out.1 k _ g1
      have hmap : (x.ns.take (k + 1)).map (·.1) = (x.ns.take k).map (·.1) ++ [x.ns[k].1] := by rw [take_one' g1, List.map_append]; rfl
      have hlenk : ((x.ns.take k).map (·.1)).length = k := by simp; omega
      generalize x.ns[k].1 = t at *
      have HRH : Hid (∀ w', Frame [] w4 w' → Calls Tryz.prog 11 #[.agg #[.slice an x.ns.length nc, .slice ae x.es.length ec, .int .i64 x.next], .int .i64 t, .agg #[.string vr, .bool pr, .string nm, .string vl]] w' fun e w'' => e = .returned (.bool (holdsV x.ns t pr nm vl)) ∧ Frame [] w' w'') := by
        show ∀ w', _
        intro w' f
        have := nodeOf_le GK.out.v t
        exact rholds_any U an ae nc x.es.length ec x.ns x.next t vr nm vl pr w' (RN4.out.1.frame0 f) GK.out.v.up (by omega) ⟨by omega, by omega⟩
      obtain ⟨r, hr⟩ : ∃ r, holdsV x.ns t pr nm vl = r := ⟨_, rfl⟩
      rw [hr] at HRH
      have HP : Hid ((fun t => holdsV x.ns t pr nm vl) t = r) := hr
      have HM := Lib.hid hmap
      subst e9
      have Q0 := Lib.hid q04
      have q0 := hR.out.1.cell q04 (by simp)
      clear g1 hr hmap q04
      go_wp2_with (at_builtin; refine wpList_append_rf rfl (.tmp 47) (.tmp 54) 37 rfl 3 1 8 _ encI Tryz.underlying37 infoInt rfl (by omega) _ ((x.ns.take k).map (·.1)) k hlenk G rfl (hR.out.2.1.frame0 (Frame.alloc _ _ _)) (fun y => y = wr.heap.size) _ 1 1 [t] rfl (rf_one (Blk.fresh (by simp)) _ rfl) rfl encI_len encI_one (k + 1) rfl (by omega) (by omega) ?_; intro a8 c8 w8 G8 sl8 f8 hG8)
      have F8 : Hid (Frame [] w4 w8) := (hR.out.1.trans1 (Frame.alloc [] _ _)).trans f8 (fun y hy => .inr (hR.out.2.2.2.2.1 y hy).1)
      have hg8 : ∀ y ∈ G8, w4.heap.size ≤ y ∧ y ∉ G2 := fun y hy => by
        rcases hG8 y hy with h | h
        · exact hR.out.2.2.2.2.1 y h
        · have := hR.out.1.size
          refine ⟨by simp at h; omega, fun hm => ?_⟩
          have := hR.out.2.2.1.lt y hm
          simp at h; omega
      have s28 := (hR.out.2.2.1.frame0 (Frame.alloc [] wr (.cells #[.int .i64 t] 3))).frame f8 (fun y hy hm => (hR.out.2.2.2.2.1 y hm).2 hy)
      have S8 := Lib.hid (And.intro sl8 (And.intro hg8 s28))
      clear sl8 f8 hG8 hg8 s28 q0 y0
      have BA := B0.out.frame F8.out (by simp)
      have BF := B1.out.frame F8.out (by simp)
      have Q8 := F8.out.cell Q0.out (by simp)
      have A0 : ∀ w', Frame [] w8 w' → w'.cell? ⟨w.heap.size, 0, none⟩ = some (.slice (some ⟨nb, no, none⟩) x.ns.length nc) := fun w' f => (BA.frame f (by simp)).at 0 rfl
      have A1 : ∀ w', Frame [] w8 w' → w'.cell? ⟨w.heap.size, 1, none⟩ = some (.slice ae x.es.length ec) := fun w' f => (BA.frame f (by simp)).at 1 rfl
      have A2 : ∀ w', Frame [] w8 w' → w'.cell? ⟨w.heap.size, 2, none⟩ = some (.int .i64 x.next) := fun w' f => (BA.frame f (by simp)).at 2 rfl
      have P0 : ∀ w', Frame [] w8 w' → w'.cell? ⟨w.heap.size + 1, 0, none⟩ = some (.string vr) := fun w' f => (BF.frame f (by simp)).at 0 rfl
      have P1 : ∀ w', Frame [] w8 w' → w'.cell? ⟨w.heap.size + 1, 1, none⟩ = some (.bool pr) := fun w' f => (BF.frame f (by simp)).at 1 rfl
      have P2 : ∀ w', Frame [] w8 w' → w'.cell? ⟨w.heap.size + 1, 2, none⟩ = some (.string nm) := fun w' f => (BF.frame f (by simp)).at 2 rfl
      have P3 : ∀ w', Frame [] w8 w' → w'.cell? ⟨w.heap.size + 1, 3, none⟩ = some (.string vl) := fun w' f => (BF.frame f (by simp)).at 3 rfl
      have N0 : ∀ w', Frame [] w8 w' → w'.cell? ⟨nb, no + k * 3, none⟩ = some (.int .i64 t) := fun w' f => f.cell Q8 (by simp)
      have HR8 := Lib.hid (fun w' (f : Frame [] w8 w') => HRH.out w' (F8.out.trans1 f))
      clear BA BF Q8 HRH
      go_wp2_with fail
      go_region_held3 (fun w' => Frame [] w8 w') ((repeat first | assumption | exact Frame.refl _ _ | refine Frame.trans1 ?_ (Frame.alloc _ _ _) | refine Frame.trans1 ?_ (Frame.drew _ _) | refine Frame.trans1 ?_ (Frame.drewN _ _ _)))
        ((first | (go_at_call 11; refine (HR8.out _ (by (repeat first | assumption | exact Frame.refl _ _ | refine Frame.trans1 ?_ (Frame.alloc _ _ _) | refine Frame.trans1 ?_ (Frame.drew _ _) | refine Frame.trans1 ?_ (Frame.drewN _ _ _)))).mono ?_; rintro e w9 ⟨rfl, f9⟩; have F9 : Frame [] w8 w9 := (show Frame [] w8 _ from by (repeat first | assumption | exact Frame.refl _ _ | refine Frame.trans1 ?_ (Frame.alloc _ _ _) | refine Frame.trans1 ?_ (Frame.drew _ _) | refine Frame.trans1 ?_ (Frame.drewN _ _ _))).trans1 f9; clear f9)))
      have F9 := Lib.hid F9
      have y0 := A0 w9 F9.out
      have n0 := N0 w9 F9.out
      clear A0 A1 A2 P0 P1 P2 P3 N0 HR8
      cases r with
      | false =>
        go_wp2_with fail
        go_roundw
        case rel => exact ⟨k + 1, a8, c8, G8, a2, n2, c2, G2, by omega, by first | rfl | go_num, rfl, rfl, by omega, Lib.hid ⟨F8.out.trans1 F9.out, by rw [HM.out]; exact S8.out.1.frame0 F9.out, by rw [HM.out, List.filter_append, show [t].filter (fun t => holdsV x.ns t pr nm vl) = [] from by simp [HP.out], List.append_nil]; exact S8.out.2.2.frame0 F9.out, by rw [HM.out, List.filter_append, show [t].filter (fun t => holdsV x.ns t pr nm vl) = [] from by simp [HP.out], List.append_nil]; exact hR.out.2.2.2.1, S8.out.2.1, hR.out.2.2.2.2.2⟩⟩
        case measure => first | (simp [intOf]; done) | (simp [intOf]; omega)
      | true =>
        have hln2 := hR.out.2.2.2.1
        go_wp2_with (at_builtin; refine wpList_append_rf rfl (.tmp 65) (.tmp 72) 37 rfl 3 1 8 _ encI Tryz.underlying37 infoInt rfl (by omega) _ (((x.ns.take k).map (·.1)).filter fun t => holdsV x.ns t pr nm vl) n2 hln2 G2 rfl ((S8.out.2.2.frame0 F9.out).frame0 (Frame.alloc _ _ _)) (fun y => y = w9.heap.size) _ 1 1 [t] rfl (rf_one (Blk.fresh (by simp)) _ rfl) rfl encI_len encI_one (n2 + 1) rfl (by omega) (by omega) ?_; intro a7 c7 w7 G7 sl7 f7 hG7)
        have hz := (F8.out.trans1 F9.out).size
        have F7 : Hid (Frame [] w4 w7) := ((F8.out.trans1 F9.out).trans1 (Frame.alloc [] _ _)).trans f7 (fun y hy => .inr (hR.out.2.2.2.2.2 y hy))
        have hg7 : ∀ y ∈ G7, w4.heap.size ≤ y := fun y hy => by
          rcases hG7 y hy with h | h
          · exact hR.out.2.2.2.2.2 y h
          · simp at h; omega
        have hd7 : ∀ y ∈ G8, w4.heap.size ≤ y ∧ y ∉ G7 := fun y hy => ⟨(S8.out.2.1 y hy).1, fun hm => by
          rcases hG7 y hm with h | h
          · exact (S8.out.2.1 y hy).2 h
          · have := (S8.out.1.frame0 F9.out).lt y hy
            simp at h; omega⟩
        have s18 := ((S8.out.1.frame0 F9.out).frame0 (Frame.alloc [] w9 (.cells #[.int .i64 t] 3))).frame f7 (fun y hy hm => (S8.out.2.1 y hy).2 hm)
        have S7 := Lib.hid (And.intro sl7 (And.intro hg7 (And.intro hd7 s18)))
        clear sl7 f7 hG7 hg7 hd7 s18 y0 n0
        go_wp2_with fail
        go_roundw
        case rel => exact ⟨k + 1, a8, c8, G8, a7, n2 + 1, c7, G7, by omega, by first | rfl | go_num, rfl, rfl, by omega, Lib.hid ⟨F7.out, by rw [HM.out]; exact S7.out.2.2.2, by rw [HM.out, List.filter_append, show [t].filter (fun t => holdsV x.ns t pr nm vl) = [t] from by simp [HP.out]]; exact S7.out.1, by rw [HM.out, List.filter_append, show [t].filter (fun t => holdsV x.ns t pr nm vl) = [t] from by simp [HP.out], List.length_append, hln2]; rfl, S7.out.2.2.1, S7.out.2.1⟩⟩
        case measure => first | (simp [intOf]; done) | (simp [intOf]; omega)
    · obtain rfl : k = x.ns.length := by omega
      obtain ⟨q1, q2, q3, q4, q5, q6⟩ := hR.out
      rw [List.take_length] at q2 q3 q4
      have R2 := Lib.hid (And.intro (q2.rf encI_len (U := fun _ => True) (fun _ _ => trivial)) (q3.rf encI_len (U := fun _ => True) (fun _ _ => trivial)))
      have FP := Lib.hid q1
      have HQ4 := Lib.hid q4
      clear q1 q2 q3 q4 q5 q6 hR hlt hnk
      rename World => wp
      go_wp2_with fail
      clear y0
      go_loopw [17, 18, 19] (fun u v i wr => ∃ (k : Nat) (a3 : Option Addr) (n3 c3 : Nat) (G3 : List Nat) (a4 : Option Addr) (c4 : Nat) (G4 : List Nat), k ≤ x.es.length ∧ i = .int .i64 k ∧ u = .slice a3 n3 c3 ∧ v = .slice a4 k c4 ∧ n3 ≤ k ∧ Hid (Frame [] wp wr ∧ Sl wr 44 4 Ed.cs (.slice a3 n3 c3) ((x.es.take k).filter (labP lab)) G3 ∧ ((x.es.take k).filter (labP lab)).length = n3 ∧ Sl wr 9 1 encS (.slice a4 k c4) ((x.es.take k).map (·.lab)) G4 ∧ (∀ y ∈ G4, wp.heap.size ≤ y ∧ y ∉ G3) ∧ ∀ y ∈ G3, wp.heap.size ≤ y)) (fun _ _ i _ => x.es.length - (intOf i).toNat)
      case atStart => exact ⟨0, none, 0, 0, [], none, 0, [], Nat.zero_le _, rfl, rfl, rfl, Nat.le_refl _, Lib.hid ⟨Frame.refl _ _, Sl.nil _ _ _ _, rfl, Sl.nil _ _ _ _, by simp, by simp⟩⟩
      case round =>
        rename World => wr
        obtain ⟨k, a3, n3, c3, G3, a4, c4, G4, hk, rfl, rfl, rfl, hnk, hR⟩ := hrel
        have FR := Lib.hid (FP.out.trans1 hR.out.1)
        have y1 := (B0.out.frame FR.out (by simp)).at 1 rfl
        by_cases hlt : k < x.es.length
        · have g1 : x.es[k]? = some x.es[k] := by simp [hlt]
          obtain ⟨eb, eo, e9, -, q⟩ := RN4.out.2 k _ g1
          have d0 := q 0 _ rfl
          have d1 := q 1 _ rfl
          have d2 := q 2 _ rfl
          have d3 := q 3 _ rfl
          simp only [Nat.add_zero] at d0
          have hmap : (x.es.take (k + 1)).map (·.lab) = (x.es.take k).map (·.lab) ++ [x.es[k].lab] := by rw [take_one' g1, List.map_append]; rfl
          have hlenk : ((x.es.take k).map (·.lab)).length = k := by simp; omega
          generalize x.es[k] = ed at *
          obtain ⟨tk, sr, lb, ds⟩ := ed
          simp only at d0 d1 d2 d3 hmap
          have HM := Lib.hid hmap
          have G1 := Lib.hid g1
          have D := Lib.hid (And.intro d0 (And.intro d1 (And.intro d2 d3)))
          subst e9
          have z2 := FR.out.cell d2 (by simp)
          clear g1 q hmap d0 d1 d2 d3
          by_cases h1 : lb = lab
          · have hb := beq_toList_true h1
            have HP : Hid (labP lab ⟨tk, sr, lb, ds⟩ = true) := Lib.hid (by simp [labP, h1])
            have hln3 := hR.out.2.2.1
            clear h1
            go_wp2_with (first | (at_builtin; refine wpList_append_rf rfl (.tmp 81) (.tmp 88) 38 rfl 9 1 16 _ encS Tryz.underlying38 infoStr rfl (by omega) _ ((x.es.take k).map (·.lab)) k hlenk G4 rfl (hR.out.2.2.2.1.frame0 (Frame.alloc _ _ _)) (fun y => y = wr.heap.size) _ 1 1 [lb] rfl (rf_one (Blk.fresh (by simp)) _ rfl) rfl encS_len encS_one (k + 1) rfl (by omega) (by omega) ?_; intro a8 c8 w8 G8 sl8 f8 hG8; have F8 : Hid (Frame [] wp w8) := (hR.out.1.trans1 (Frame.alloc [] _ _)).trans f8 (fun y hy => .inr (hR.out.2.2.2.2.1 y hy).1); have yy := (B0.out.frame (FP.out.trans1 F8.out) (by simp)).at 1 rfl; have z0 := (FP.out.trans1 F8.out).cell D.out.1 (by simp); have z1 := (FP.out.trans1 F8.out).cell D.out.2.1 (by simp); have z2' := (FP.out.trans1 F8.out).cell D.out.2.2.1 (by simp); have z3 := (FP.out.trans1 F8.out).cell D.out.2.2.2 (by simp)) | (at_builtin; refine wpList_append_rf rfl (.tmp 98) (.tmp 104) 23 rfl 44 4 40 _ Ed.cs Tryz.underlying23 infoEdge rfl (by omega) _ ((x.es.take k).filter (labP lab)) n3 hln3 G3 rfl ((((hR.out.2.1.frame0 (Frame.alloc [] wr (.cells #[.string lb] 9))).frame f8 (fun y hy hm => (hR.out.2.2.2.2.1 y hm).2 hy))).frame0 (Frame.alloc _ _ _)) (fun y => y = w8.heap.size) _ 1 1 [⟨tk, sr, lb, ds⟩] rfl (rf_one (Blk.fresh (by simp)) _ rfl) rfl ed_len ed_one (n3 + 1) rfl (by omega) (by omega) ?_; intro a7 c7 w7 G7 sl7 f7 hG7))
            have hg8 : ∀ y ∈ G8, wp.heap.size ≤ y ∧ y ∉ G3 := fun y hy => by
              rcases hG8 y hy with h | h
              · exact hR.out.2.2.2.2.1 y h
              · have := hR.out.1.size
                refine ⟨by simp at h; omega, fun hm => ?_⟩
                have := hR.out.2.1.lt y hm
                simp at h; omega
            have s28 := (hR.out.2.1.frame0 (Frame.alloc [] wr (.cells #[.string lb] 9))).frame f8 (fun y hy hm => (hR.out.2.2.2.2.1 y hm).2 hy)
            have S8 := Lib.hid (And.intro sl8 (And.intro hg8 s28))
            clear sl8 f8 hG8 hg8 s28 y1 z2 yy z0 z1 z2' z3
            have hz := F8.out.size
            have F7 : Hid (Frame [] wp w7) := (F8.out.trans1 (Frame.alloc [] _ _)).trans f7 (fun y hy => .inr (hR.out.2.2.2.2.2 y hy))
            have hg7 : ∀ y ∈ G7, wp.heap.size ≤ y := fun y hy => by
              rcases hG7 y hy with h | h
              · exact hR.out.2.2.2.2.2 y h
              · simp at h; omega
            have hd7 : ∀ y ∈ G8, wp.heap.size ≤ y ∧ y ∉ G7 := fun y hy => ⟨(S8.out.2.1 y hy).1, fun hm => by
              rcases hG7 y hm with h | h
              · exact (S8.out.2.1 y hy).2 h
              · have := S8.out.1.lt y hy
                simp at h; omega⟩
            have s18 := (S8.out.1.frame0 (Frame.alloc [] w8 (.cells #[.int .i64 tk, .int .i64 sr, .string lb, .int .i64 ds] 44))).frame f7 (fun y hy hm => (S8.out.2.1 y hy).2 hm)
            have S7 := Lib.hid (And.intro sl7 (And.intro hg7 (And.intro hd7 s18)))
            clear sl7 f7 hG7 hg7 hd7 s18
            go_wp2_with fail
            go_roundw
            case rel => exact ⟨k + 1, a7, n3 + 1, c7, G7, a8, c8, G8, by omega, by first | rfl | go_num, rfl, rfl, by omega, Lib.hid ⟨F7.out, by rw [filter_in G1.out HP.out]; exact S7.out.1, by rw [filter_in G1.out HP.out, List.length_append, hln3]; rfl, by rw [HM.out]; exact S7.out.2.2.2, S7.out.2.2.1, S7.out.2.1⟩⟩
            case measure => first | (simp [intOf]; done) | (simp [intOf]; omega)
          · have hb := beq_toList_false h1
            have HP : Hid (labP lab ⟨tk, sr, lb, ds⟩ = false) := Lib.hid (by simp [labP, h1])
            clear h1
            go_wp2_with (at_builtin; refine wpList_append_rf rfl (.tmp 81) (.tmp 88) 38 rfl 9 1 16 _ encS Tryz.underlying38 infoStr rfl (by omega) _ ((x.es.take k).map (·.lab)) k hlenk G4 rfl (hR.out.2.2.2.1.frame0 (Frame.alloc _ _ _)) (fun y => y = wr.heap.size) _ 1 1 [lb] rfl (rf_one (Blk.fresh (by simp)) _ rfl) rfl encS_len encS_one (k + 1) rfl (by omega) (by omega) ?_; intro a8 c8 w8 G8 sl8 f8 hG8; have F8 : Hid (Frame [] wp w8) := (hR.out.1.trans1 (Frame.alloc [] _ _)).trans f8 (fun y hy => .inr (hR.out.2.2.2.2.1 y hy).1); have yy := (B0.out.frame (FP.out.trans1 F8.out) (by simp)).at 1 rfl; have z0 := (FP.out.trans1 F8.out).cell D.out.1 (by simp); have z1 := (FP.out.trans1 F8.out).cell D.out.2.1 (by simp); have z2' := (FP.out.trans1 F8.out).cell D.out.2.2.1 (by simp); have z3 := (FP.out.trans1 F8.out).cell D.out.2.2.2 (by simp))
            have hg8 : ∀ y ∈ G8, wp.heap.size ≤ y ∧ y ∉ G3 := fun y hy => by
              rcases hG8 y hy with h | h
              · exact hR.out.2.2.2.2.1 y h
              · have := hR.out.1.size
                refine ⟨by simp at h; omega, fun hm => ?_⟩
                have := hR.out.2.1.lt y hm
                simp at h; omega
            have s28 := (hR.out.2.1.frame0 (Frame.alloc [] wr (.cells #[.string lb] 9))).frame f8 (fun y hy hm => (hR.out.2.2.2.2.1 y hm).2 hy)
            have S8 := Lib.hid (And.intro sl8 (And.intro hg8 s28))
            clear sl8 f8 hG8 hg8 s28 y1 z2 yy z0 z1 z2' z3
            go_wp2_with fail
            go_roundw
            case rel => exact ⟨k + 1, a3, n3, c3, G3, a8, c8, G8, by omega, by first | rfl | go_num, rfl, rfl, by omega, Lib.hid ⟨F8.out, by rw [filter_out G1.out HP.out]; exact S8.out.2.2, by rw [filter_out G1.out HP.out]; exact hR.out.2.2.1, by rw [HM.out]; exact S8.out.1, S8.out.2.1, hR.out.2.2.2.2.2⟩⟩
            case measure => first | (simp [intOf]; done) | (simp [intOf]; omega)
        · obtain rfl : k = x.es.length := by omega
          obtain ⟨q1, q2, q3, q4, q5, q6⟩ := hR.out
          rw [List.take_length] at q2 q3 q4
          have hl4 : (x.es.map (·.lab)).length = x.es.length := List.length_map ..
          have R4 := Lib.hid (And.intro (q2.rf ed_len (U := fun _ => True) (fun _ _ => trivial)) (q4.rf encS_len (U := fun _ => True) (fun _ _ => trivial)))
          have HQ3 := Lib.hid q3
          have FQ := Lib.hid q1
          have FX := Lib.hid (FP.out.trans1 q1)
          clear q1 q2 q3 q4 q5 q6 hR hlt hnk
          have hli : (x.ns.map (·.1)).length = x.ns.length := List.length_map ..
          have HID := Lib.hid (fun w' (f : Frame [] wr w') => ids_any ((IX4.out.frame0 FX.out).frame0 f) (by omega))
          have HHAS := Lib.hid (fun w' (f : Frame [] wr w') => ihas_any ((IX4.out.frame0 FX.out).frame0 f) GK.out.v vr nm vl pr)
          have HOUT := Lib.hid (fun w' (f : Frame [] wr w') => iout_any ((IX4.out.frame0 FX.out).frame0 f) (by omega) id lab back)
          have HEDG := Lib.hid (fun w' (f : Frame [] wr w') => iedges_any ((IX4.out.frame0 FX.out).frame0 f) (by omega) lab)
          have HCNT := Lib.hid (fun w' (f : Frame [] wr w') => icount_any ((IX4.out.frame0 FX.out).frame0 f) (by omega) lab)
          have HLAB := Lib.hid (fun w' (f : Frame [] wr w') => ilabels_any ((IX4.out.frame0 FX.out).frame0 f) (by omega))
          have HRO := Lib.hid (fun w' (f : Frame [] wr w') => rout_any U an ae x.ns.length nc ec x.es x.next id lab back w' ((RN4.out.2.frame0 FX.out).frame0 f) (by omega))
          have hst0 : ∀ w', Frame [] wr w' → Calls Tryz.prog 22 #[.slice a4 (x.es.map (·.lab)).length c4] w' (FreshEnd 9 1 encS (srtS (x.es.map (·.lab))) w') := fun w' f => sort_fresh (R4.out.2.frame0 f) (by omega)
          rw [hl4] at hst0
          have HST := Lib.hid hst0
          have hll := srtS_len (x.es.map (·.lab))
          have hfl := List.length_filter_le (labP lab) x.es
          have hof := List.length_filter_le (outP id lab back) x.es
          have hhl := List.length_filter_le (fun t => holdsV x.ns t pr nm vl) (x.ns.map (·.1))
          generalize (x.ns.map (·.1)).filter (fun t => holdsV x.ns t pr nm vl) = HSL at *
          generalize x.es.filter (labP lab) = EL at *
          generalize x.es.filter (outP id lab back) = OL at *
          generalize srtS (x.es.map (·.lab)) = SL at *
          generalize x.ns.map (·.1) = IL at *
          have HI1 : Hid (∀ w' a9 c9, Frame [] wr w' → RF (fun _ => True) w' 1 encI a9 IL → Calls Tryz.prog 12 #[.slice a9 IL.length c9, .slice a x.ns.length c] w' fun e w'' => e = .returned (.bool true) ∧ Frame [] w' w'') := by
            show ∀ w' a9 c9, _
            intro w' a9 c9 f h
            have := Ans.yes (ints_any (fun _ => True) (fun _ => True) a9 a c9 c IL IL w' h ((R2.out.1.frame0 FQ.out).frame0 f) (by omega) (by omega)) rfl
            rw [hli] at this ⊢
            exact this
          have HI2 : Hid (∀ w' a9 c9, Frame [] wr w' → RF (fun _ => True) w' 1 encI a9 HSL → Calls Tryz.prog 12 #[.slice a9 HSL.length c9, .slice a2 n2 c2] w' fun e w'' => e = .returned (.bool true) ∧ Frame [] w' w'') := by
            show ∀ w' a9 c9, _
            intro w' a9 c9 f h
            have := Ans.yes (ints_any (fun _ => True) (fun _ => True) a9 a2 c9 c2 HSL HSL w' h ((R2.out.2.frame0 FQ.out).frame0 f) (by omega) (by omega)) rfl
            rw [HQ4.out] at this ⊢
            exact this
          have HE1 : Hid (∀ w' a9 c9 a8 c8, RF (fun _ => True) w' 4 Ed.cs a9 OL → RF (fun _ => True) w' 4 Ed.cs a8 OL → Calls Tryz.prog 15 #[.slice a9 OL.length c9, .slice a8 OL.length c8] w' fun e w'' => e = .returned (.bool true) ∧ Frame [] w' w'') := by
            show ∀ w' a9 c9 a8 c8, _
            intro w' a9 c9 a8 c8 h k
            exact edges12_same _ _ _ _ _ _ OL w' h k (by omega)
          have HE2 : Hid (∀ w' a9 c9, Frame [] wr w' → RF (fun _ => True) w' 4 Ed.cs a9 EL → Calls Tryz.prog 15 #[.slice a9 EL.length c9, .slice a3 n3 c3] w' fun e w'' => e = .returned (.bool true) ∧ Frame [] w' w'') := by
            show ∀ w' a9 c9, _
            intro w' a9 c9 f h
            have := edges12_same _ _ a9 a3 c9 c3 EL w' h (R4.out.1.frame0 f) (by omega)
            rw [HQ3.out] at this ⊢
            exact this
          have HTX : Hid (∀ w' a9 c9 a8 c8, RF (fun _ => True) w' 1 encS a9 SL → RF (fun _ => True) w' 1 encS a8 SL → Calls Tryz.prog 20 #[.slice a9 SL.length c9, .slice a8 SL.length c8] w' fun e w'' => e = .returned (.bool true) ∧ Frame [] w' w'') := by
            show ∀ w' a9 c9 a8 c8, _
            intro w' a9 c9 a8 c8 h k
            exact Ans.yes (texts_any _ _ a9 a8 c9 c8 SL SL w' h k (by omega) (by omega)) rfl
          rw [HQ3.out] at HCNT
          have BA := B0.out.frame FX.out (by simp)
          have BF := B1.out.frame FX.out (by simp)
          have A0 : ∀ w', Frame [] wr w' → w'.cell? ⟨w.heap.size, 0, none⟩ = some (.slice an x.ns.length nc) := fun w' f => (BA.frame f (by simp)).at 0 rfl
          have A1 : ∀ w', Frame [] wr w' → w'.cell? ⟨w.heap.size, 1, none⟩ = some (.slice ae x.es.length ec) := fun w' f => (BA.frame f (by simp)).at 1 rfl
          have A2 : ∀ w', Frame [] wr w' → w'.cell? ⟨w.heap.size, 2, none⟩ = some (.int .i64 x.next) := fun w' f => (BA.frame f (by simp)).at 2 rfl
          have P0 : ∀ w', Frame [] wr w' → w'.cell? ⟨w.heap.size + 1, 0, none⟩ = some (.string vr) := fun w' f => (BF.frame f (by simp)).at 0 rfl
          have P1 : ∀ w', Frame [] wr w' → w'.cell? ⟨w.heap.size + 1, 1, none⟩ = some (.bool pr) := fun w' f => (BF.frame f (by simp)).at 1 rfl
          have P2 : ∀ w', Frame [] wr w' → w'.cell? ⟨w.heap.size + 1, 2, none⟩ = some (.string nm) := fun w' f => (BF.frame f (by simp)).at 2 rfl
          have P3 : ∀ w', Frame [] wr w' → w'.cell? ⟨w.heap.size + 1, 3, none⟩ = some (.string vl) := fun w' f => (BF.frame f (by simp)).at 3 rfl
          clear BA BF hst0 hl4 hli hll hfl hof hhl R2 R4 IX4 RN4 B0 B1 HQ4
          go_wp2_with fail
          clear y1
          go_region_held3 (fun w' => Frame [] wr w') ((repeat first | assumption | exact Frame.refl _ _ | refine Frame.trans1 ?_ (Frame.alloc _ _ _) | refine Frame.trans1 ?_ (Frame.drew _ _) | refine Frame.trans1 ?_ (Frame.drewN _ _ _)))
            ((first
              | (go_at_call 13; refine (HID.out _ (by (repeat first | assumption | exact Frame.refl _ _ | refine Frame.trans1 ?_ (Frame.alloc _ _ _) | refine Frame.trans1 ?_ (Frame.drew _ _) | refine Frame.trans1 ?_ (Frame.drewN _ _ _)))).mono ?_; rintro e wa ⟨xa, ka, Ga, rfl, sa, fa, -⟩; have FA : Frame [] wr wa := (show Frame [] wr _ from by (repeat first | assumption | exact Frame.refl _ _ | refine Frame.trans1 ?_ (Frame.alloc _ _ _) | refine Frame.trans1 ?_ (Frame.drew _ _) | refine Frame.trans1 ?_ (Frame.drewN _ _ _))).trans1 fa; have SA := Lib.hid (sa.rf encI_len (U := fun _ => True) (fun _ _ => trivial)); clear sa)
              | (go_at_call_of 12 a; refine (HI1.out _ _ _ (by (repeat first | assumption | exact Frame.refl _ _ | refine Frame.trans1 ?_ (Frame.alloc _ _ _) | refine Frame.trans1 ?_ (Frame.drew _ _) | refine Frame.trans1 ?_ (Frame.drewN _ _ _))) (SA.out.frame0 (by (repeat first | assumption | exact Frame.refl _ _ | refine Frame.trans1 ?_ (Frame.alloc _ _ _) | refine Frame.trans1 ?_ (Frame.drew _ _) | refine Frame.trans1 ?_ (Frame.drewN _ _ _))))).mono ?_; rintro e wb ⟨rfl, fb⟩; have FB : Frame [] wr wb := (show Frame [] wr _ from by (repeat first | assumption | exact Frame.refl _ _ | refine Frame.trans1 ?_ (Frame.alloc _ _ _) | refine Frame.trans1 ?_ (Frame.drew _ _) | refine Frame.trans1 ?_ (Frame.drewN _ _ _))).trans1 fb; clear fb)
              | (go_at_call 14; refine (HHAS.out _ (by (repeat first | assumption | exact Frame.refl _ _ | refine Frame.trans1 ?_ (Frame.alloc _ _ _) | refine Frame.trans1 ?_ (Frame.drew _ _) | refine Frame.trans1 ?_ (Frame.drewN _ _ _)))).mono ?_; rintro e wc ⟨xc, kc, Gc, rfl, sc, fc, -⟩; have FC : Frame [] wr wc := (show Frame [] wr _ from by (repeat first | assumption | exact Frame.refl _ _ | refine Frame.trans1 ?_ (Frame.alloc _ _ _) | refine Frame.trans1 ?_ (Frame.drew _ _) | refine Frame.trans1 ?_ (Frame.drewN _ _ _))).trans1 fc; have SC := Lib.hid (sc.rf encI_len (U := fun _ => True) (fun _ _ => trivial)); clear sc)
              | (go_at_call_of 12 a2; refine (HI2.out _ _ _ (by (repeat first | assumption | exact Frame.refl _ _ | refine Frame.trans1 ?_ (Frame.alloc _ _ _) | refine Frame.trans1 ?_ (Frame.drew _ _) | refine Frame.trans1 ?_ (Frame.drewN _ _ _))) (SC.out.frame0 (by (repeat first | assumption | exact Frame.refl _ _ | refine Frame.trans1 ?_ (Frame.alloc _ _ _) | refine Frame.trans1 ?_ (Frame.drew _ _) | refine Frame.trans1 ?_ (Frame.drewN _ _ _))))).mono ?_; rintro e wd ⟨rfl, fd⟩; have FD : Frame [] wr wd := (show Frame [] wr _ from by (repeat first | assumption | exact Frame.refl _ _ | refine Frame.trans1 ?_ (Frame.alloc _ _ _) | refine Frame.trans1 ?_ (Frame.drew _ _) | refine Frame.trans1 ?_ (Frame.drewN _ _ _))).trans1 fd; clear fd)
              | (go_at_call 16; refine (HOUT.out _ (by (repeat first | assumption | exact Frame.refl _ _ | refine Frame.trans1 ?_ (Frame.alloc _ _ _) | refine Frame.trans1 ?_ (Frame.drew _ _) | refine Frame.trans1 ?_ (Frame.drewN _ _ _)))).mono ?_; rintro e we ⟨xe, ke, Ge, rfl, se, fe, -⟩; have FE : Frame [] wr we := (show Frame [] wr _ from by (repeat first | assumption | exact Frame.refl _ _ | refine Frame.trans1 ?_ (Frame.alloc _ _ _) | refine Frame.trans1 ?_ (Frame.drew _ _) | refine Frame.trans1 ?_ (Frame.drewN _ _ _))).trans1 fe; have SE := Lib.hid (se.rf ed_len (U := fun _ => True) (fun _ _ => trivial)); clear se)
              | (go_at_call 17; refine (HRO.out _ (by (repeat first | assumption | exact Frame.refl _ _ | refine Frame.trans1 ?_ (Frame.alloc _ _ _) | refine Frame.trans1 ?_ (Frame.drew _ _) | refine Frame.trans1 ?_ (Frame.drewN _ _ _)))).mono ?_; rintro e wf ⟨xf, kf, Gf, rfl, sf, ff, -⟩; have FF : Frame [] wr wf := (show Frame [] wr _ from by (repeat first | assumption | exact Frame.refl _ _ | refine Frame.trans1 ?_ (Frame.alloc _ _ _) | refine Frame.trans1 ?_ (Frame.drew _ _) | refine Frame.trans1 ?_ (Frame.drewN _ _ _))).trans1 ff; have SF := Lib.hid (sf.rf ed_len (U := fun _ => True) (fun _ _ => trivial)); clear sf)
              | (go_at_call_of 15 xe; refine (HE1.out _ _ _ _ _ (SE.out.frame0 (by (repeat first | assumption | exact Frame.refl _ _ | refine Frame.trans1 ?_ (Frame.alloc _ _ _) | refine Frame.trans1 ?_ (Frame.drew _ _) | refine Frame.trans1 ?_ (Frame.drewN _ _ _)))) (SF.out.frame0 (by (repeat first | assumption | exact Frame.refl _ _ | refine Frame.trans1 ?_ (Frame.alloc _ _ _) | refine Frame.trans1 ?_ (Frame.drew _ _) | refine Frame.trans1 ?_ (Frame.drewN _ _ _))))).mono ?_; rintro e wg ⟨rfl, fg⟩; have FG : Frame [] wr wg := (show Frame [] wr _ from by (repeat first | assumption | exact Frame.refl _ _ | refine Frame.trans1 ?_ (Frame.alloc _ _ _) | refine Frame.trans1 ?_ (Frame.drew _ _) | refine Frame.trans1 ?_ (Frame.drewN _ _ _))).trans1 fg; clear fg)
              | (go_at_call 18; refine (HEDG.out _ (by (repeat first | assumption | exact Frame.refl _ _ | refine Frame.trans1 ?_ (Frame.alloc _ _ _) | refine Frame.trans1 ?_ (Frame.drew _ _) | refine Frame.trans1 ?_ (Frame.drewN _ _ _)))).mono ?_; rintro e wh ⟨xh, kh, Gh, rfl, sh, fh, -⟩; have FH : Frame [] wr wh := (show Frame [] wr _ from by (repeat first | assumption | exact Frame.refl _ _ | refine Frame.trans1 ?_ (Frame.alloc _ _ _) | refine Frame.trans1 ?_ (Frame.drew _ _) | refine Frame.trans1 ?_ (Frame.drewN _ _ _))).trans1 fh; have SH := Lib.hid (sh.rf ed_len (U := fun _ => True) (fun _ _ => trivial)); clear sh)
              | (go_at_call_of 15 xh; refine (HE2.out _ _ _ (by (repeat first | assumption | exact Frame.refl _ _ | refine Frame.trans1 ?_ (Frame.alloc _ _ _) | refine Frame.trans1 ?_ (Frame.drew _ _) | refine Frame.trans1 ?_ (Frame.drewN _ _ _))) (SH.out.frame0 (by (repeat first | assumption | exact Frame.refl _ _ | refine Frame.trans1 ?_ (Frame.alloc _ _ _) | refine Frame.trans1 ?_ (Frame.drew _ _) | refine Frame.trans1 ?_ (Frame.drewN _ _ _))))).mono ?_; rintro e wi ⟨rfl, fi⟩; have FI : Frame [] wr wi := (show Frame [] wr _ from by (repeat first | assumption | exact Frame.refl _ _ | refine Frame.trans1 ?_ (Frame.alloc _ _ _) | refine Frame.trans1 ?_ (Frame.drew _ _) | refine Frame.trans1 ?_ (Frame.drewN _ _ _))).trans1 fi; clear fi)
              | (go_at_call 19; refine (HCNT.out _ (by (repeat first | assumption | exact Frame.refl _ _ | refine Frame.trans1 ?_ (Frame.alloc _ _ _) | refine Frame.trans1 ?_ (Frame.drew _ _) | refine Frame.trans1 ?_ (Frame.drewN _ _ _)))).mono ?_; rintro e wj ⟨rfl, fj⟩; have FJ : Frame [] wr wj := (show Frame [] wr _ from by (repeat first | assumption | exact Frame.refl _ _ | refine Frame.trans1 ?_ (Frame.alloc _ _ _) | refine Frame.trans1 ?_ (Frame.drew _ _) | refine Frame.trans1 ?_ (Frame.drewN _ _ _))).trans1 fj; clear fj)
              | (go_at_call 21; refine (HLAB.out _ (by (repeat first | assumption | exact Frame.refl _ _ | refine Frame.trans1 ?_ (Frame.alloc _ _ _) | refine Frame.trans1 ?_ (Frame.drew _ _) | refine Frame.trans1 ?_ (Frame.drewN _ _ _)))).mono ?_; rintro e wl ⟨xl, kl, Gl, rfl, sl, fl, -⟩; have FL : Frame [] wr wl := (show Frame [] wr _ from by (repeat first | assumption | exact Frame.refl _ _ | refine Frame.trans1 ?_ (Frame.alloc _ _ _) | refine Frame.trans1 ?_ (Frame.drew _ _) | refine Frame.trans1 ?_ (Frame.drewN _ _ _))).trans1 fl; have SL9 := Lib.hid (sl.rf encS_len (U := fun _ => True) (fun _ _ => trivial)); clear sl)
              | (go_at_call 22; refine (HST.out _ (by (repeat first | assumption | exact Frame.refl _ _ | refine Frame.trans1 ?_ (Frame.alloc _ _ _) | refine Frame.trans1 ?_ (Frame.drew _ _) | refine Frame.trans1 ?_ (Frame.drewN _ _ _)))).mono ?_; rintro e wm ⟨xm, km, Gm, rfl, sm, fm, -⟩; have FM : Frame [] wr wm := (show Frame [] wr _ from by (repeat first | assumption | exact Frame.refl _ _ | refine Frame.trans1 ?_ (Frame.alloc _ _ _) | refine Frame.trans1 ?_ (Frame.drew _ _) | refine Frame.trans1 ?_ (Frame.drewN _ _ _))).trans1 fm; have SM := Lib.hid (sm.rf encS_len (U := fun _ => True) (fun _ _ => trivial)); clear sm)
              | (go_at_call 20; refine (HTX.out _ _ _ _ _ (SL9.out.frame0 (by (repeat first | assumption | exact Frame.refl _ _ | refine Frame.trans1 ?_ (Frame.alloc _ _ _) | refine Frame.trans1 ?_ (Frame.drew _ _) | refine Frame.trans1 ?_ (Frame.drewN _ _ _)))) (SM.out.frame0 (by (repeat first | assumption | exact Frame.refl _ _ | refine Frame.trans1 ?_ (Frame.alloc _ _ _) | refine Frame.trans1 ?_ (Frame.drew _ _) | refine Frame.trans1 ?_ (Frame.drewN _ _ _))))).mono ?_; rintro e wn ⟨rfl, fn⟩; have FN : Frame [] wr wn := (show Frame [] wr _ from by (repeat first | assumption | exact Frame.refl _ _ | refine Frame.trans1 ?_ (Frame.alloc _ _ _) | refine Frame.trans1 ?_ (Frame.drew _ _) | refine Frame.trans1 ?_ (Frame.drewN _ _ _))).trans1 fn; clear fn)
              | (go_at_call 8; refine (awake12 _).mono ?_; rintro e wo ⟨rfl, fo⟩; have FO : Frame [] wr wo := (show Frame [] wr _ from by (repeat first | assumption | exact Frame.refl _ _ | refine Frame.trans1 ?_ (Frame.alloc _ _ _) | refine Frame.trans1 ?_ (Frame.drew _ _) | refine Frame.trans1 ?_ (Frame.drewN _ _ _))).trans1 fo; clear fo)))
          all_goals
            go_wp2_with fail
            go_ret
            exact ⟨rfl, (F4.out.trans1 FX.out).trans1 (FO.trans1 (by (repeat first | assumption | exact Frame.refl _ _ | refine Frame.trans1 ?_ (Frame.alloc _ _ _) | refine Frame.trans1 ?_ (Frame.drew _ _) | refine Frame.trans1 ?_ (Frame.drewN _ _ _))))⟩
end Go.Proofs.YtjcajidgaejhoaaGreat

