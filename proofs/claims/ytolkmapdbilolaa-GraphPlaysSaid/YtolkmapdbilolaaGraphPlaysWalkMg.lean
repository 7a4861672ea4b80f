/- The law GraphPlays, walked. -/
import Derived.Test.YtolkmapdbilolaaMg37
namespace Go.Proofs.Ytolkmapdbilolaa
open Go.RowKit
set_option linter.unusedSimpArgs false
set_option linter.unusedVariables false

set_option maxHeartbeats 8000000 in
set_option maxRecDepth 100000 in
theorem graphPlays_any (a : Option Addr) (cap : Nat) (xs : List St10) (vr nm vl : ByteArray) (pr : Bool) (ta : Option Addr) (tc : Nat) (ts : List Int) (w : World)
    (hx : RdS w 5 St10.enc St10.ok a xs) (hl : xs.length ≤ 9223372036854775807) (ht : RdI w ta ts) (htl : ts.length ≤ 9223372036854775807) :
    Calls Try.prog 11 #[.slice a xs.length cap, .agg #[.string vr, .bool pr, .string nm, .string vl], .slice ta ts.length tc] w fun e w' => e = .returned (.bool true) ∧ Frame [] w w' := by
  have HX := Lib.hid hx
  have HT := Lib.hid ht
  have HS := Lib.hid (fun w' (f : Frame [] w w') => small10_any a cap xs w' (hx.frame f (fun s => St10.ok_frame f s)) hl)
  clear hx ht
  go_enter Try.func11, Try.ntmps11
  go_wp2_with fail
  have fr : Frame [] w (w.alloc (.cells #[.string vr, .bool pr, .string nm, .string vl] 73)) := Frame.alloc _ _ _
  have b0 := Blk.new w 73 #[.string vr, .bool pr, .string nm, .string vl]
  generalize w.alloc (.cells #[.string vr, .bool pr, .string nm, .string vl] 73) = wa at *
  refine (HS.out _ fr).mono ?_
  clear HS
  rintro e w1 ⟨r, rfl, hr, f1⟩
  have F1 := Lib.hid (fr.trans1 f1)
  have B1 := Lib.hid (b0.frame f1 (by simp))
  clear fr b0 f1
  cases r with
  | false =>
    clear hr
    go_wp2_with fail
    refine (awake10 _).mono ?_
    rintro e w2 ⟨rfl, f2⟩
    have F2 := Lib.hid (F1.out.trans1 f2)
    clear f2
    go_wp2_with fail
    go_ret
    exact ⟨rfl, F2.out⟩
  | true =>
    have h250 := hr rfl
    clear hr hl
    by_cases hl2 : 100 < ts.length
    · have hd : decide ((100 : Int) < (ts.length : Int)) = true := by simp; omega
      clear h250 hl2
      go_wp2_with fail
      refine (awake10 _).mono ?_
      rintro e w2 ⟨rfl, f2⟩
      have F2 := Lib.hid (F1.out.trans1 f2)
      clear f2
      go_wp2_with fail
      go_ret
      exact ⟨rfl, F2.out⟩
    have hd : decide ((100 : Int) < (ts.length : Int)) = false := by simp; omega
    clear hd
    go_wp2_with fail
    refine (gv_new _).mono ?_
    rintro e w2 ⟨pb, rfl, g2, f2, n2⟩
    have G2 := Lib.hid (And.intro g2 (And.intro f2 n2))
    clear g2 f2 n2
    go_wp2_with fail
    refine (rgnew_any _).mono ?_
    rintro e w3 ⟨rb, rfl, g3, f3, n3⟩
    have BS := Lib.hid (BG.start G2.out.2.1 G2.out.1 G2.out.2.2 (Frame.refl [] w2) g3 f3 n3)
    clear g3 f3 n3 G2
    go_wp2_with fail
    go_loopw [9] (fun i wr => ∃ (j : Nat) (ns : List Nv) (es : List Ed) (g : Int), j ≤ xs.length ∧ i = .int .i64 j ∧ Hid (BG w1 [] pb rb ns es g ns es (g + 1) wr ∧ GOk ns es g)) (fun i _ => xs.length - (intOf i).toNat)
    case atStart => exact ⟨0, [], [], 0, Nat.zero_le _, rfl, Lib.hid ⟨BS.out, GOk.nil⟩⟩
    case round =>
      rename World => wo
      obtain ⟨j, ns, es, g, hj, rfl, hG⟩ := hrel
      clear BS
      by_cases hlt : j < xs.length
      · have hfr := F1.out.trans1 hG.out.1.frame
        obtain ⟨b', off, rfl, hc0, hok⟩ := HX.out.at hlt
        have hc : ∀ j' u, (St10.enc xs[j])[j']? = some u → wo.cell? ⟨b', off + j * 5 + j', none⟩ = some u := fun j' u hu => hfr.cell (hc0 j' u hu) (by simp)
        have x1 := hc0 1 _ rfl
        have hdo := does10_any xs[j] hG.out.1 hG.out.2.v hG.out.2.e hok.1 hok.2
        have hgk := opG_gok xs[j] hG.out.2
        have c0 := hc 0 _ rfl
        have c1 := hc 1 _ rfl
        have c2 := hc 2 _ rfl
        have c3 := hc 3 _ rfl
        have c4 := hc 4 _ rfl
        simp only [Nat.add_zero] at c0
        generalize xs[j] = s at *
        obtain ⟨k, id, tgt, nme, val⟩ := s
        simp only at c0 c1 c2 c3 c4 x1
        generalize opG ⟨k, id, tgt, nme, val⟩ ns es g = q at *
        obtain ⟨ns', es', g'⟩ := q
        simp only at hdo hgk
        have HD := Lib.hid hdo
        have GK := Lib.hid hgk
        have C1 := Lib.hid x1
        clear hdo hgk hc hc0 hok hfr hG x1
        go_wp2_with fail
        refine HD.out.mono ?_
        clear HD c0 c1 c2 c3 c4
        rintro e w4 ⟨rfl, b4⟩
        obtain ⟨an, nc, ae, ec, ed, fd, n, fn, hb, m4, P⟩ := plays_facts b4 GK.out id vr nm vl pr
        have F4 := Lib.hid (F1.out.trans1 b4.frame)
        have M4 := Lib.hid m4
        have PL := Lib.hid P
        have Z4 := Lib.hid b4
        have c1 := F4.out.cell C1.out (by simp)
        clear m4 P b4
        go_wp2_with fail
        refine (PL.out.e1 _ (by (repeat first | assumption | exact Frame.refl _ _ | refine Frame.trans1 ?_ (Frame.alloc _ _ _) | refine Frame.trans1 ?_ (Frame.drew _ _) | refine Frame.trans1 ?_ (Frame.drewN _ _ _)))).mono ?_
        rintro e w5 ⟨rfl, f5⟩
        have F5 := Lib.hid f5
        clear f5 c1
        go_wp2_with fail
        have b6 := Blk.new w5 49 #[.int .i64 ed.tok, .int .i64 ed.src, .string ed.lab, .int .i64 ed.dst]
        have f6 := F5.out.trans1 (Frame.alloc [] w5 (.cells #[.int .i64 ed.tok, .int .i64 ed.src, .string ed.lab, .int .i64 ed.dst] 49))
        generalize w5.alloc (.cells #[.int .i64 ed.tok, .int .i64 ed.src, .string ed.lab, .int .i64 ed.dst] 49) = w6 at *
        generalize w5.heap.size = ba at *
        have B6 := Lib.hid b6
        have F6 := Lib.hid f6
        clear b6 f6 F5
        go_cut [12, 13] (fun u v wx => ∃ bb, u = .pointer (some ⟨bb, 0, none⟩) ∧ v = .bool fd ∧ Hid (Frame [] w6 wx ∧ Blk wx bb 49 #[.int .i64 ed.tok, .int .i64 ed.src, .string ed.lab, .int .i64 ed.dst]))
        case first =>
          have Y0 : ∀ w', Frame [] w6 w' → w'.cell? ⟨rb, 0, none⟩ = some (.slice an ns'.length nc) := fun w' f => ((M4.out.frame F6.out (by simp)).frame f (by simp)).at 0 rfl
          have Y1 : ∀ w', Frame [] w6 w' → w'.cell? ⟨rb, 1, none⟩ = some (.slice ae es'.length ec) := fun w' f => ((M4.out.frame F6.out (by simp)).frame f (by simp)).at 1 rfl
          have Y2 : ∀ w', Frame [] w6 w' → w'.cell? ⟨rb, 2, none⟩ = some (.int .i64 (g' + 1)) := fun w' f => ((M4.out.frame F6.out (by simp)).frame f (by simp)).at 2 rfl
          have Y3 : ∀ w', Frame [] w6 w' → w'.cell? ⟨b', off + j * 5 + 1, none⟩ = some (.int .i64 id) := fun w' f => (F4.out.trans1 (F6.out.trans1 f)).cell C1.out (by simp)
          go_region_held3 (fun w' => Frame [] w6 w') ((repeat first | assumption | exact Frame.refl _ _ | refine Frame.trans1 ?_ (Frame.alloc _ _ _) | refine Frame.trans1 ?_ (Frame.drew _ _) | refine Frame.trans1 ?_ (Frame.drewN _ _ _) | refine Frame.setNew ?_ _ _ (by first | exact Nat.le_refl _ | simp | omega)))
            ((first
              | (go_at_call 46; refine (PL.out.e2 _ (F6.out.trans1 (by (repeat first | assumption | exact Frame.refl _ _ | refine Frame.trans1 ?_ (Frame.alloc _ _ _) | refine Frame.trans1 ?_ (Frame.drew _ _) | refine Frame.trans1 ?_ (Frame.drewN _ _ _))))).mono ?_; rintro e w7 ⟨rfl, f7⟩; have F7 : Frame [] w6 w7 := (show Frame [] w6 _ from by (repeat first | assumption | exact Frame.refl _ _ | refine Frame.trans1 ?_ (Frame.alloc _ _ _) | refine Frame.trans1 ?_ (Frame.drew _ _) | refine Frame.trans1 ?_ (Frame.drewN _ _ _))).trans1 f7; try (have q7 : Blk w7 w6.heap.size 49 #[.int .i64 0, .int .i64 0, .string ⟨#[]⟩, .int .i64 0] := ((Blk.new' rfl).drew).frame f7 (by simp); have q0 := q7.at 0 rfl; have q1 := q7.at 1 rfl; have q2 := q7.at 2 rfl; have q3 := q7.at 3 rfl; have r0 := q7.frozen 0; have r1 := q7.frozen 1; have r2 := q7.frozen 2; have r3 := q7.frozen 3))))
          · go_wp2_with fail
            go_meet
            case rel => exact ⟨_, rfl, rfl, Lib.hid ⟨F7.trans1 (Frame.alloc _ _ _), Blk.new _ _ _⟩⟩
          · go_wp2_with fail
            go_meet
            case rel => exact ⟨_, rfl, rfl, Lib.hid ⟨by (repeat first | assumption | exact Frame.refl _ _ | refine Frame.trans1 ?_ (Frame.alloc _ _ _) | refine Frame.trans1 ?_ (Frame.drew _ _) | refine Frame.trans1 ?_ (Frame.drewN _ _ _) | refine Frame.setNew ?_ _ _ (by first | exact Nat.le_refl _ | simp | omega)), (((q7.set 0 _).set 1 _).set 2 _).set 3 _⟩⟩
        case rest =>
          obtain ⟨bb, rfl, rfl, hW⟩ := hcut
          have BA := Lib.hid (B6.out.frame hW.out.1 (by simp))
          have BB := Lib.hid hW.out.2
          have F8 := Lib.hid (F6.out.trans1 hW.out.1)
          clear B6 F6 hW
          have c1 := (F4.out.trans1 F8.out).cell C1.out (by simp)
          go_wp2_with fail
          refine (PL.out.n1 _ (F8.out.trans1 (by (repeat first | assumption | exact Frame.refl _ _ | refine Frame.trans1 ?_ (Frame.alloc _ _ _) | refine Frame.trans1 ?_ (Frame.drew _ _) | refine Frame.trans1 ?_ (Frame.drewN _ _ _))))).mono ?_
          rintro e w9 ⟨la, lc, pa, pc, rfl, l1, l2, f9⟩
          have F9 := Lib.hid (F8.out.trans1 ((show Frame [] wc _ from by (repeat first | assumption | exact Frame.refl _ _ | refine Frame.trans1 ?_ (Frame.alloc _ _ _) | refine Frame.trans1 ?_ (Frame.drew _ _) | refine Frame.trans1 ?_ (Frame.drewN _ _ _))).trans1 f9))
          have BA := Lib.hid (BA.out.frame ((show Frame [] wc _ from by (repeat first | assumption | exact Frame.refl _ _ | refine Frame.trans1 ?_ (Frame.alloc _ _ _) | refine Frame.trans1 ?_ (Frame.drew _ _) | refine Frame.trans1 ?_ (Frame.drewN _ _ _))).trans1 f9) (by simp))
          have BB := Lib.hid (BB.out.frame ((show Frame [] wc _ from by (repeat first | assumption | exact Frame.refl _ _ | refine Frame.trans1 ?_ (Frame.alloc _ _ _) | refine Frame.trans1 ?_ (Frame.drew _ _) | refine Frame.trans1 ?_ (Frame.drewN _ _ _))).trans1 f9) (by simp))
          have L9 := Lib.hid (And.intro l1 l2)
          clear F8 f9 c1 l1 l2
          go_wp2_with fail
          have bn := Blk.new w9 86 #[.int .i64 n.1, .slice la n.2.1.length lc, .slice pa n.2.2.length pc]
          have f10 := Frame.alloc [] w9 (.cells #[.int .i64 n.1, .slice la n.2.1.length lc, .slice pa n.2.2.length pc] 86)
          generalize w9.alloc (.cells #[.int .i64 n.1, .slice la n.2.1.length lc, .slice pa n.2.2.length pc] 86) = wn at *
          generalize w9.heap.size = bc at *
          have BN := Lib.hid bn
          have FN := Lib.hid (F9.out.trans1 f10)
          have BA := Lib.hid (BA.out.frame f10 (by simp))
          have BB := Lib.hid (BB.out.frame f10 (by simp))
          have LN := Lib.hid (And.intro (L9.out.1.frame0 f10) (L9.out.2.frame0 f10))
          clear bn f10 F9 L9
          go_cut [16, 17] (fun u v wx => ∃ bd ka kc qa qc, u = .pointer (some ⟨bd, 0, none⟩) ∧ v = .bool fn ∧ Hid (Frame [] wn wx ∧ Blk wx bd 86 #[.int .i64 n.1, .slice ka n.2.1.length kc, .slice qa n.2.2.length qc] ∧ RF (fun _ => True) wx 1 encS ka n.2.1 ∧ RF (fun _ => True) wx 2 Pr.cs qa n.2.2))
          case first =>
            have Y0 : ∀ w', Frame [] wn w' → w'.cell? ⟨rb, 0, none⟩ = some (.slice an ns'.length nc) := fun w' f => ((M4.out.frame FN.out (by simp)).frame f (by simp)).at 0 rfl
            have Y1 : ∀ w', Frame [] wn w' → w'.cell? ⟨rb, 1, none⟩ = some (.slice ae es'.length ec) := fun w' f => ((M4.out.frame FN.out (by simp)).frame f (by simp)).at 1 rfl
            have Y2 : ∀ w', Frame [] wn w' → w'.cell? ⟨rb, 2, none⟩ = some (.int .i64 (g' + 1)) := fun w' f => ((M4.out.frame FN.out (by simp)).frame f (by simp)).at 2 rfl
            have Y3 : ∀ w', Frame [] wn w' → w'.cell? ⟨b', off + j * 5 + 1, none⟩ = some (.int .i64 id) := fun w' f => (F4.out.trans1 (FN.out.trans1 f)).cell C1.out (by simp)
            go_region_held3 (fun w' => Frame [] wn w') ((repeat first | assumption | exact Frame.refl _ _ | refine Frame.trans1 ?_ (Frame.alloc _ _ _) | refine Frame.trans1 ?_ (Frame.drew _ _) | refine Frame.trans1 ?_ (Frame.drewN _ _ _) | refine Frame.setNew ?_ _ _ (by first | exact Nat.le_refl _ | simp | omega)))
              ((first
                | (go_at_call 48; refine (PL.out.n2 _ (FN.out.trans1 (by (repeat first | assumption | exact Frame.refl _ _ | refine Frame.trans1 ?_ (Frame.alloc _ _ _) | refine Frame.trans1 ?_ (Frame.drew _ _) | refine Frame.trans1 ?_ (Frame.drewN _ _ _))))).mono ?_; rintro e w7 ⟨ka, kc, qa, qc, rfl, k1, k2, f7⟩; have F7 : Frame [] wn w7 := (show Frame [] wn _ from by (repeat first | assumption | exact Frame.refl _ _ | refine Frame.trans1 ?_ (Frame.alloc _ _ _) | refine Frame.trans1 ?_ (Frame.drew _ _) | refine Frame.trans1 ?_ (Frame.drewN _ _ _))).trans1 f7; have K7 := Lib.hid (And.intro k1 k2); clear k1 k2; try (have q7 : Blk w7 wn.heap.size 86 #[.int .i64 0, .slice none 0 0, .slice none 0 0] := ((Blk.new' rfl).drew).frame f7 (by simp); have q0 := q7.at 0 rfl; have q1 := q7.at 1 rfl; have q2 := q7.at 2 rfl; have r0 := q7.frozen 0; have r1 := q7.frozen 1; have r2 := q7.frozen 2))))
            · go_wp2_with fail
              go_meet
              case rel => exact ⟨_, ka, kc, qa, qc, rfl, rfl, Lib.hid ⟨F7.trans1 (Frame.alloc _ _ _), Blk.new _ _ _, (K7.out.1.frame0 (Frame.alloc _ _ _)).mono (fun _ _ => trivial), (K7.out.2.frame0 (Frame.alloc _ _ _)).mono (fun _ _ => trivial)⟩⟩
            · go_wp2_with fail
              go_meet
              case rel =>
                have hsz := FN.out.size
                have fs : ∀ u v t, Frame [wn.heap.size] w7 (((w7.setCell ⟨wn.heap.size, 0, none⟩ u).setCell ⟨wn.heap.size, 1, none⟩ v).setCell ⟨wn.heap.size, 2, none⟩ t) := fun u v t => (Frame.setCell _ ⟨wn.heap.size, 0, none⟩ _ (by simp)).trans1 ((Frame.setCell _ ⟨wn.heap.size, 1, none⟩ _ (by simp)).trans1 (Frame.setCell _ ⟨wn.heap.size, 2, none⟩ _ (by simp)))
                exact ⟨_, ka, kc, qa, qc, rfl, rfl, Lib.hid ⟨by (repeat first | assumption | exact Frame.refl _ _ | refine Frame.trans1 ?_ (Frame.alloc _ _ _) | refine Frame.trans1 ?_ (Frame.drew _ _) | refine Frame.trans1 ?_ (Frame.drewN _ _ _) | refine Frame.setNew ?_ _ _ (by first | exact Nat.le_refl _ | simp | omega)), ((q7.set 0 _).set 1 _).set 2 _, (K7.out.1.frame (fs _ _ _) (fun b hb hm => by simp at hm; omega)).mono (fun _ _ => trivial), (K7.out.2.frame (fs _ _ _) (fun b hb hm => by simp at hm; omega)).mono (fun _ _ => trivial)⟩⟩
          case rest =>
            obtain ⟨bd, ka, kc, qa, qc, rfl, rfl, hW⟩ := hcut
            have FW := Lib.hid (FN.out.trans1 hW.out.1)
            have BA := BA.out.frame hW.out.1 (by simp)
            have BB := BB.out.frame hW.out.1 (by simp)
            have BC := BN.out.frame hW.out.1 (by simp)
            have BD := hW.out.2.1
            have LN := Lib.hid (And.intro (LN.out.1.frame0 hW.out.1) (LN.out.2.frame0 hW.out.1))
            have KN := Lib.hid hW.out.2.2
            have FV := F4.out.trans1 FW.out
            have BM := M4.out.frame FW.out (by simp)
            have BF := B1.out.frame (Z4.out.frame.trans1 FW.out) (by simp)
            have A0 : ∀ w', Frame [] wc w' → w'.cell? ⟨ba, 0, none⟩ = some (.int .i64 ed.tok) := fun w' f => (BA.frame f (by simp)).at 0 rfl
            have A1 : ∀ w', Frame [] wc w' → w'.cell? ⟨ba, 1, none⟩ = some (.int .i64 ed.src) := fun w' f => (BA.frame f (by simp)).at 1 rfl
            have A2 : ∀ w', Frame [] wc w' → w'.cell? ⟨ba, 2, none⟩ = some (.string ed.lab) := fun w' f => (BA.frame f (by simp)).at 2 rfl
            have A3 : ∀ w', Frame [] wc w' → w'.cell? ⟨ba, 3, none⟩ = some (.int .i64 ed.dst) := fun w' f => (BA.frame f (by simp)).at 3 rfl
            have B0 : ∀ w', Frame [] wc w' → w'.cell? ⟨bb, 0, none⟩ = some (.int .i64 ed.tok) := fun w' f => (BB.frame f (by simp)).at 0 rfl
            have B1 : ∀ w', Frame [] wc w' → w'.cell? ⟨bb, 1, none⟩ = some (.int .i64 ed.src) := fun w' f => (BB.frame f (by simp)).at 1 rfl
            have B2 : ∀ w', Frame [] wc w' → w'.cell? ⟨bb, 2, none⟩ = some (.string ed.lab) := fun w' f => (BB.frame f (by simp)).at 2 rfl
            have B3 : ∀ w', Frame [] wc w' → w'.cell? ⟨bb, 3, none⟩ = some (.int .i64 ed.dst) := fun w' f => (BB.frame f (by simp)).at 3 rfl
            have N0 : ∀ w', Frame [] wc w' → w'.cell? ⟨bc, 0, none⟩ = some (.int .i64 n.1) := fun w' f => (BC.frame f (by simp)).at 0 rfl
            have N1 : ∀ w', Frame [] wc w' → w'.cell? ⟨bc, 1, none⟩ = some (.slice la n.2.1.length lc) := fun w' f => (BC.frame f (by simp)).at 1 rfl
            have N2 : ∀ w', Frame [] wc w' → w'.cell? ⟨bc, 2, none⟩ = some (.slice pa n.2.2.length pc) := fun w' f => (BC.frame f (by simp)).at 2 rfl
            have D0 : ∀ w', Frame [] wc w' → w'.cell? ⟨bd, 0, none⟩ = some (.int .i64 n.1) := fun w' f => (BD.frame f (by simp)).at 0 rfl
            have D1 : ∀ w', Frame [] wc w' → w'.cell? ⟨bd, 1, none⟩ = some (.slice ka n.2.1.length kc) := fun w' f => (BD.frame f (by simp)).at 1 rfl
            have D2 : ∀ w', Frame [] wc w' → w'.cell? ⟨bd, 2, none⟩ = some (.slice qa n.2.2.length qc) := fun w' f => (BD.frame f (by simp)).at 2 rfl
            have M0 : ∀ w', Frame [] wc w' → w'.cell? ⟨rb, 0, none⟩ = some (.slice an ns'.length nc) := fun w' f => (BM.frame f (by simp)).at 0 rfl
            have M1 : ∀ w', Frame [] wc w' → w'.cell? ⟨rb, 1, none⟩ = some (.slice ae es'.length ec) := fun w' f => (BM.frame f (by simp)).at 1 rfl
            have M2 : ∀ w', Frame [] wc w' → w'.cell? ⟨rb, 2, none⟩ = some (.int .i64 (g' + 1)) := fun w' f => (BM.frame f (by simp)).at 2 rfl
            have P0 : ∀ w', Frame [] wc w' → w'.cell? ⟨w.heap.size, 0, none⟩ = some (.string vr) := fun w' f => (BF.frame f (by simp)).at 0 rfl
            have P1 : ∀ w', Frame [] wc w' → w'.cell? ⟨w.heap.size, 1, none⟩ = some (.bool pr) := fun w' f => (BF.frame f (by simp)).at 1 rfl
            have P2 : ∀ w', Frame [] wc w' → w'.cell? ⟨w.heap.size, 2, none⟩ = some (.string nm) := fun w' f => (BF.frame f (by simp)).at 2 rfl
            have P3 : ∀ w', Frame [] wc w' → w'.cell? ⟨w.heap.size, 3, none⟩ = some (.string vl) := fun w' f => (BF.frame f (by simp)).at 3 rfl
            have I1 : ∀ w', Frame [] wc w' → w'.cell? ⟨b', off + j * 5 + 1, none⟩ = some (.int .i64 id) := fun w' f => (FV.trans1 f).cell C1.out (by simp)
            have HSM : Hid (∀ w' b c, Frame [] wc w' → Blk w' b 86 #[.int .i64 n.1, .slice la n.2.1.length lc, .slice pa n.2.2.length pc] → Blk w' c 86 #[.int .i64 n.1, .slice ka n.2.1.length kc, .slice qa n.2.2.length qc] →
                Calls Try.prog 42 #[.agg #[.slice (some ⟨b, 0, none⟩) 1 1, .slice none 0 0, .int .i64 0], .agg #[.slice (some ⟨c, 0, none⟩) 1 1, .slice none 0 0, .int .i64 0]] w' fun e w'' => e = .returned (.bool true) ∧ Frame [] w' w'') := by
              show ∀ w' b c, _
              intro w' b c f h k
              exact same_one PL.out.l h (LN.out.1.frame0 f) (LN.out.2.frame0 f) k (KN.out.1.frame0 f) (KN.out.2.frame0 f)
            have H1 := Lib.hid (fun w' (f : Frame [] wc w') => PL.out.h1 w' (FW.out.trans1 f))
            have H2 := Lib.hid (fun w' (f : Frame [] wc w') => PL.out.h2 w' (FW.out.trans1 f))
            have hq : ∀ w, (binOp .neq 49 (.agg #[.int .i64 ed.tok, .int .i64 ed.src, .string ed.lab, .int .i64 ed.dst]) (.agg #[.int .i64 ed.tok, .int .i64 ed.src, .string ed.lab, .int .i64 ed.dst])).run Try.prog w = .ok (.bool false) w := fun w => by have := neq_edge ed ed w; simpa [Ed.v] using this
            have hq2 : ∀ w x y, (eqGuard .neq 49 x y (.agg #[.int .i64 ed.tok, .int .i64 ed.src, .string ed.lab, .int .i64 ed.dst]) (.agg #[.int .i64 ed.tok, .int .i64 ed.src, .string ed.lab, .int .i64 ed.dst])).run Try.prog w = .ok () w := fun w x y => guard_edge _ _ _ _ _ w
            clear BA BB BC BD BM BF FV BN hW LN KN PL M4
            go_wp2_with fail
            go_region_held3 (fun w' => Frame [] wc w') ((repeat first | assumption | exact Frame.refl _ _ | refine Frame.trans1 ?_ (Frame.alloc _ _ _) | refine Frame.trans1 ?_ (Frame.drew _ _) | refine Frame.trans1 ?_ (Frame.drewN _ _ _)))
              ((first
                | (go_at_call 42; refine (HSM.out _ _ _ (by (repeat first | assumption | exact Frame.refl _ _ | refine Frame.trans1 ?_ (Frame.alloc _ _ _) | refine Frame.trans1 ?_ (Frame.drew _ _) | refine Frame.trans1 ?_ (Frame.drewN _ _ _))) (by first | exact (Blk.new' (by simp)).drew | exact ((Blk.new' (by simp)).alloc _).drew) (by first | exact (Blk.new' (by simp)).drew | exact ((Blk.new' (by simp)).alloc _).drew)).mono ?_; rintro e w7 ⟨rfl, f7⟩; have F7 : Frame [] wc w7 := (show Frame [] wc _ from by (repeat first | assumption | exact Frame.refl _ _ | refine Frame.trans1 ?_ (Frame.alloc _ _ _) | refine Frame.trans1 ?_ (Frame.drew _ _) | refine Frame.trans1 ?_ (Frame.drewN _ _ _))).trans1 f7; clear f7)
                | (go_at_call 49; refine (H1.out _ (by (repeat first | assumption | exact Frame.refl _ _ | refine Frame.trans1 ?_ (Frame.alloc _ _ _) | refine Frame.trans1 ?_ (Frame.drew _ _) | refine Frame.trans1 ?_ (Frame.drewN _ _ _)))).mono ?_; rintro e w8 ⟨rfl, f8⟩; have F8 : Frame [] wc w8 := (show Frame [] wc _ from by (repeat first | assumption | exact Frame.refl _ _ | refine Frame.trans1 ?_ (Frame.alloc _ _ _) | refine Frame.trans1 ?_ (Frame.drew _ _) | refine Frame.trans1 ?_ (Frame.drewN _ _ _))).trans1 f8; clear f8)
                | (go_at_call 50; refine (H2.out _ (by (repeat first | assumption | exact Frame.refl _ _ | refine Frame.trans1 ?_ (Frame.alloc _ _ _) | refine Frame.trans1 ?_ (Frame.drew _ _) | refine Frame.trans1 ?_ (Frame.drewN _ _ _)))).mono ?_; rintro e w9 ⟨rfl, f9⟩; have F9 : Frame [] wc w9 := (show Frame [] wc _ from by (repeat first | assumption | exact Frame.refl _ _ | refine Frame.trans1 ?_ (Frame.alloc _ _ _) | refine Frame.trans1 ?_ (Frame.drew _ _) | refine Frame.trans1 ?_ (Frame.drewN _ _ _))).trans1 f9; clear f9)))
            all_goals
              go_wp2_with fail
              go_roundw
              case rel => exact ⟨j + 1, ns', es', g', by omega, by first | rfl | go_num, Lib.hid ⟨Z4.out.quiet (FW.out.trans1 (by (repeat first | assumption | exact Frame.refl _ _ | refine Frame.trans1 ?_ (Frame.alloc _ _ _) | refine Frame.trans1 ?_ (Frame.drew _ _) | refine Frame.trans1 ?_ (Frame.drewN _ _ _)))), GK.out⟩⟩
              case measure => first | (simp [intOf]; done) | (simp [intOf]; omega)
      · obtain rfl : j = xs.length := by omega
        have hv : VOwn w1 pb ns es g wo := by obtain ⟨F, D, a, -, c, d, -⟩ := hG.out.1; exact ⟨F, a, c, d⟩
        have FO := F1.out.trans1 hG.out.1.frame
        obtain ⟨an, nc, ae, ec, m4, hn, he⟩ : ∃ an nc ae ec, Blk wo rb 82 #[.slice an ns.length nc, .slice ae es.length ec, .int .i64 (g + 1)] ∧ RN (fun _ => True) wo an ns ∧ RF (fun _ => True) wo 4 Ed.cs ae es := by
          obtain ⟨F, D, -, b, -⟩ := hG.out.1
          obtain ⟨an, nc, ae, ec, q1, q2, q3⟩ := b.parts
          exact ⟨an, nc, ae, ec, q1, q2.mono (fun _ _ => trivial), q3.mono (fun _ _ => trivial)⟩
        have GK := Lib.hid hG.out.2
        have l1 := GK.out.e.len
        have HV := Lib.hid hv
        have FO := Lib.hid FO
        have M4 := Lib.hid m4
        have RN0 := Lib.hid (And.intro hn he)
        have HTO := Lib.hid (HT.out.frame FO.out)
        clear hv m4 hn he hG hlt hj
        go_wp2_with fail
        refine (gwithout_any HV.out GK.out ta tc ts HTO.out.rf (by omega)).mono ?_
        rintro e w5 ⟨qb, rfl, o5⟩
        have F5 := Lib.hid (VOwn.frame o5)
        have O5 := Lib.hid o5
        clear o5
        have hsh1 := GOk.short GK.out (g + 1)
        have hsh2 := GOk.short (GK.out.wo ts) (g + 1)
        have HA1 : Hid (∀ w', Frame [] w5 w' → Calls Try.prog 32 #[.pointer (some ⟨pb, 0, none⟩)] w' (AllEnd ⟨ns, es, g + 1⟩ w')) := by
          show ∀ w', _
          intro w' f
          exact own_all ((HV.out.quiet F5.out).quiet f) GK.out
        have HA2 : Hid (∀ w', Frame [] w5 w' → Calls Try.prog 32 #[.pointer (some ⟨qb, 0, none⟩)] w' (AllEnd ⟨ns, esWo es ts, g + 1⟩ w')) := by
          show ∀ w', _
          intro w' f
          exact own_all (O5.out.quiet f) (GK.out.wo ts)
        have HS1 : Hid (∀ w' wb u, Frame [] w5 w' → RG (fun b => wb ≤ b) w' u ⟨ns, es, g + 1⟩ → Calls Try.prog 42 #[u, .agg #[.slice an ns.length nc, .slice ae es.length ec, .int .i64 (g + 1)]] w' fun e w'' => e = .returned (.bool true) ∧ Frame [] w' w'') := by
          show ∀ w' wb u, _
          intro w' wb u f h
          exact Ans.yes (rsame_any _ (fun _ => True) u _ _ _ w' h ⟨an, nc, ae, ec, rfl, (RN0.out.1.frame0 F5.out).frame0 f, (RN0.out.2.frame0 F5.out).frame0 f⟩ hsh1 hsh1) rfl
        have HWO : Hid (∀ w', Frame [] w5 w' → Calls Try.prog 51 #[.agg #[.slice an ns.length nc, .slice ae es.length ec, .int .i64 (g + 1)], .slice ta ts.length tc] w' (WoEnd (fun _ => True) an nc ⟨ns, esWo es ts, g + 1⟩ w')) := by
          show ∀ w', _
          intro w' f
          exact rwithout_any _ an ae ta nc ec tc ns es (g + 1) ts w' ((RN0.out.1.frame0 F5.out).frame0 f) ((RN0.out.2.frame0 F5.out).frame0 f) ((HTO.out.frame F5.out).frame f) (by omega) (by omega)
        have HS2 : Hid (∀ w' U1 U2 u1 u2, Frame [] w5 w' → RG U1 w' u1 ⟨ns, esWo es ts, g + 1⟩ → RG U2 w' u2 ⟨ns, esWo es ts, g + 1⟩ → Calls Try.prog 42 #[u1, u2] w' fun e w'' => e = .returned (.bool true) ∧ Frame [] w' w'') := by
          show ∀ w' U1 U2 u1 u2, _
          intro w' U1 U2 u1 u2 f h k
          exact Ans.yes (rsame_any U1 U2 u1 u2 _ _ w' h k hsh2 hsh2) rfl
        have BM := M4.out.frame F5.out (by simp)
        have M0 : ∀ w', Frame [] w5 w' → w'.cell? ⟨rb, 0, none⟩ = some (.slice an ns.length nc) := fun w' f => (BM.frame f (by simp)).at 0 rfl
        have M1 : ∀ w', Frame [] w5 w' → w'.cell? ⟨rb, 1, none⟩ = some (.slice ae es.length ec) := fun w' f => (BM.frame f (by simp)).at 1 rfl
        have M2 : ∀ w', Frame [] w5 w' → w'.cell? ⟨rb, 2, none⟩ = some (.int .i64 (g + 1)) := fun w' f => (BM.frame f (by simp)).at 2 rfl
        clear BM hsh1 hsh2 HX HTO HT M4 RN0 l1
        go_wp2_with fail
        go_region_held3 (fun w' => Frame [] w5 w') ((repeat first | assumption | exact Frame.refl _ _ | refine Frame.trans1 ?_ (Frame.alloc _ _ _) | refine Frame.trans1 ?_ (Frame.drew _ _) | refine Frame.trans1 ?_ (Frame.drewN _ _ _)))
          ((first
            | (go_at_call_of 32 pb; refine (HA1.out _ (by (repeat first | assumption | exact Frame.refl _ _ | refine Frame.trans1 ?_ (Frame.alloc _ _ _) | refine Frame.trans1 ?_ (Frame.drew _ _) | refine Frame.trans1 ?_ (Frame.drewN _ _ _)))).mono ?_; rintro e w6 ⟨u, rfl, rg, f6⟩; have F6 : Frame [] w5 w6 := (show Frame [] w5 _ from by (repeat first | assumption | exact Frame.refl _ _ | refine Frame.trans1 ?_ (Frame.alloc _ _ _) | refine Frame.trans1 ?_ (Frame.drew _ _) | refine Frame.trans1 ?_ (Frame.drewN _ _ _))).trans1 f6; have RU := Lib.hid rg; clear rg)
            | (go_at_call_of 32 qb; refine (HA2.out _ (by (repeat first | assumption | exact Frame.refl _ _ | refine Frame.trans1 ?_ (Frame.alloc _ _ _) | refine Frame.trans1 ?_ (Frame.drew _ _) | refine Frame.trans1 ?_ (Frame.drewN _ _ _)))).mono ?_; rintro e w8 ⟨u2, rfl, rg, f8⟩; have F8 : Frame [] w5 w8 := (show Frame [] w5 _ from by (repeat first | assumption | exact Frame.refl _ _ | refine Frame.trans1 ?_ (Frame.alloc _ _ _) | refine Frame.trans1 ?_ (Frame.drew _ _) | refine Frame.trans1 ?_ (Frame.drewN _ _ _))).trans1 f8; have RU2 := Lib.hid rg; clear rg)
            | (go_at_call 51; refine (HWO.out _ (by (repeat first | assumption | exact Frame.refl _ _ | refine Frame.trans1 ?_ (Frame.alloc _ _ _) | refine Frame.trans1 ?_ (Frame.drew _ _) | refine Frame.trans1 ?_ (Frame.drewN _ _ _)))).mono ?_; rintro e w10 ⟨ae2, ec2, rfl, rg, f10⟩; have F10 : Frame [] w5 w10 := (show Frame [] w5 _ from by (repeat first | assumption | exact Frame.refl _ _ | refine Frame.trans1 ?_ (Frame.alloc _ _ _) | refine Frame.trans1 ?_ (Frame.drew _ _) | refine Frame.trans1 ?_ (Frame.drewN _ _ _))).trans1 f10; have RW := Lib.hid rg; clear rg)
            | (go_at_call 26; refine (awake10 _).mono ?_; rintro e w12 ⟨rfl, f12⟩; have F12 : Frame [] w5 w12 := (show Frame [] w5 _ from by (repeat first | assumption | exact Frame.refl _ _ | refine Frame.trans1 ?_ (Frame.alloc _ _ _) | refine Frame.trans1 ?_ (Frame.drew _ _) | refine Frame.trans1 ?_ (Frame.drewN _ _ _))).trans1 f12)
            | (go_at_call_of 42 u; refine (HS1.out _ _ _ (by (repeat first | assumption | exact Frame.refl _ _ | refine Frame.trans1 ?_ (Frame.alloc _ _ _) | refine Frame.trans1 ?_ (Frame.drew _ _) | refine Frame.trans1 ?_ (Frame.drewN _ _ _))) (RU.out.frame0 (by (repeat first | assumption | exact Frame.refl _ _ | refine Frame.trans1 ?_ (Frame.alloc _ _ _) | refine Frame.trans1 ?_ (Frame.drew _ _) | refine Frame.trans1 ?_ (Frame.drewN _ _ _))))).mono ?_; rintro e w7 ⟨rfl, f7⟩; have F7 : Frame [] w5 w7 := (show Frame [] w5 _ from by (repeat first | assumption | exact Frame.refl _ _ | refine Frame.trans1 ?_ (Frame.alloc _ _ _) | refine Frame.trans1 ?_ (Frame.drew _ _) | refine Frame.trans1 ?_ (Frame.drewN _ _ _))).trans1 f7)
            | (go_at_call_of 42 u2; refine (HS2.out _ _ _ _ _ (by (repeat first | assumption | exact Frame.refl _ _ | refine Frame.trans1 ?_ (Frame.alloc _ _ _) | refine Frame.trans1 ?_ (Frame.drew _ _) | refine Frame.trans1 ?_ (Frame.drewN _ _ _))) (RU2.out.frame0 (by (repeat first | assumption | exact Frame.refl _ _ | refine Frame.trans1 ?_ (Frame.alloc _ _ _) | refine Frame.trans1 ?_ (Frame.drew _ _) | refine Frame.trans1 ?_ (Frame.drewN _ _ _)))) (RW.out.frame0 (by (repeat first | assumption | exact Frame.refl _ _ | refine Frame.trans1 ?_ (Frame.alloc _ _ _) | refine Frame.trans1 ?_ (Frame.drew _ _) | refine Frame.trans1 ?_ (Frame.drewN _ _ _))))).mono ?_; rintro e w11 ⟨rfl, f11⟩; have F11 : Frame [] w5 w11 := (show Frame [] w5 _ from by (repeat first | assumption | exact Frame.refl _ _ | refine Frame.trans1 ?_ (Frame.alloc _ _ _) | refine Frame.trans1 ?_ (Frame.drew _ _) | refine Frame.trans1 ?_ (Frame.drewN _ _ _))).trans1 f11)))
        all_goals
          go_wp2_with fail
          go_ret
          exact ⟨rfl, (FO.out.trans1 F5.out).trans1 (F12.trans1 (by (repeat first | assumption | exact Frame.refl _ _ | refine Frame.trans1 ?_ (Frame.alloc _ _ _) | refine Frame.trans1 ?_ (Frame.drew _ _) | refine Frame.trans1 ?_ (Frame.drewN _ _ _))))⟩
end Go.Proofs.Ytolkmapdbilolaa

