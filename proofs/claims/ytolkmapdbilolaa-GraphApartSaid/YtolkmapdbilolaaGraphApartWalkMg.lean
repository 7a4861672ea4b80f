/- The law GraphApart, walked. -/
import Derived.Test.YtolkmapdbilolaaMg37
namespace Go.Proofs.Ytolkmapdbilolaa
open Go.RowKit
set_option linter.unusedSimpArgs false
set_option linter.unusedVariables false

set_option maxHeartbeats 8000000 in
set_option maxRecDepth 100000 in
theorem graphApart_any (a : Option Addr) (cap : Nat) (xs : List St10) (ta : Option Addr) (tc : Nat) (ts : List Int) (w : World)
    (hx : RdS w 5 St10.enc St10.ok a xs) (hl : xs.length ≤ 9223372036854775807) (ht : RdI w ta ts) (htl : ts.length ≤ 9223372036854775807) :
    Calls Try.prog 12 #[.slice a xs.length cap, .slice ta ts.length tc] w fun e w' => e = .returned (.bool true) ∧ Frame [] w w' := by
  have HX := Lib.hid hx
  have HT := Lib.hid ht
  have HS := Lib.hid (small10_any a cap xs w hx hl)
  clear hx ht
  go_enter Try.func12, Try.ntmps12
  go_wp2_with fail
  refine HS.out.mono ?_
  clear HS
  rintro e w1 ⟨r, rfl, hr, f1⟩
  have F1 := Lib.hid f1
  clear f1
  cases r with
  | false =>
    clear hr
    go_wp2_with fail
    refine (awake10 _).mono ?_
    rintro e w2 ⟨rfl, f2⟩
    have F2 := Lib.hid (F1.out.trans1 f2)
    clear f2
    go_wp2_with fail
    go_ret
    exact ⟨rfl, F2.out⟩
  | true =>
    have h250 := hr rfl
    clear hr hl
    by_cases hl2 : 100 < ts.length
    · have hd : decide ((100 : Int) < (ts.length : Int)) = true := by simp; omega
      clear h250 hl2
      go_wp2_with fail
      refine (awake10 _).mono ?_
      rintro e w2 ⟨rfl, f2⟩
      have F2 := Lib.hid (F1.out.trans1 f2)
      clear f2
      go_wp2_with fail
      go_ret
      exact ⟨rfl, F2.out⟩
    have hd : decide ((100 : Int) < (ts.length : Int)) = false := by simp; omega
    go_wp2_with fail
    clear hd
    go_wp2_with fail
    refine (gv_new _).mono ?_
    rintro e w2 ⟨pb, rfl, g2, f2, n2⟩
    have G2 := Lib.hid (And.intro g2 (And.intro f2 n2))
    clear g2 f2 n2
    go_wp2_with fail
    refine (rgnew_any _).mono ?_
    rintro e w3 ⟨rb, rfl, g3, f3, n3⟩
    have BS := Lib.hid (BG.start G2.out.2.1 G2.out.1 G2.out.2.2 (Frame.refl [] w2) g3 f3 n3)
    clear g3 f3 n3 G2
    go_wp2_with fail
    go_loopw [7] (fun i wr => ∃ (j : Nat) (ns : List Nv) (es : List Ed) (g : Int), j ≤ xs.length ∧ i = .int .i64 j ∧ Hid (BG w1 [] pb rb ns es g ns es (g + 1) wr ∧ GOk ns es g)) (fun i _ => xs.length - (intOf i).toNat)
    case atStart => exact ⟨0, [], [], 0, Nat.zero_le _, rfl, Lib.hid ⟨BS.out, GOk.nil⟩⟩
    case round =>
      rename World => wo
      obtain ⟨j, ns, es, g, hj, rfl, hG⟩ := hrel
      clear BS
      by_cases hlt : j < xs.length
      · have hfr := F1.out.trans1 hG.out.1.frame
        obtain ⟨b', off, rfl, hc0, hok⟩ := HX.out.at hlt
        have hc : ∀ j' u, (St10.enc xs[j])[j']? = some u → wo.cell? ⟨b', off + j * 5 + j', none⟩ = some u := fun j' u hu => hfr.cell (hc0 j' u hu) (by simp)
        have hdo := does10_any xs[j] hG.out.1 hG.out.2.v hG.out.2.e hok.1 hok.2
        have hgk := opG_gok xs[j] hG.out.2
        have c0 := hc 0 _ rfl
        have c1 := hc 1 _ rfl
        have c2 := hc 2 _ rfl
        have c3 := hc 3 _ rfl
        have c4 := hc 4 _ rfl
        simp only [Nat.add_zero] at c0
        generalize xs[j] = s at *
        obtain ⟨k, id, tgt, nme, val⟩ := s
        simp only at c0 c1 c2 c3 c4
        generalize opG ⟨k, id, tgt, nme, val⟩ ns es g = q at *
        obtain ⟨ns', es', g'⟩ := q
        simp only at hdo hgk
        have HD := Lib.hid hdo
        have GK := Lib.hid hgk
        clear hdo hgk hc hc0 hok hfr hG
        go_wp2_with fail
        refine HD.out.mono ?_
        clear HD c0 c1 c2 c3 c4
        rintro e w4 ⟨rfl, b4⟩
        have B4 := Lib.hid b4
        clear b4
        go_wp2_with fail
        go_roundw
        case rel => exact ⟨j + 1, ns', es', g', by omega, by first | rfl | go_num, Lib.hid ⟨B4.out.quiet (by (repeat first | assumption | exact Frame.refl _ _ | refine Frame.trans1 ?_ (Frame.alloc _ _ _) | refine Frame.trans1 ?_ (Frame.drew _ _) | refine Frame.trans1 ?_ (Frame.drewN _ _ _))), GK.out⟩⟩
        case measure => first | (simp [intOf]; done) | (simp [intOf]; omega)
      · obtain rfl : j = xs.length := by omega
        have hv : VOwn w1 pb ns es g wo := by obtain ⟨F, D, a, -, c, d, -⟩ := hG.out.1; exact ⟨F, a, c, d⟩
        have FO := F1.out.trans1 hG.out.1.frame
        obtain ⟨an, nc, ae, ec, m4, hn, he⟩ : ∃ an nc ae ec, Blk wo rb 82 #[.slice an ns.length nc, .slice ae es.length ec, .int .i64 (g + 1)] ∧ RN (fun _ => True) wo an ns ∧ RF (fun _ => True) wo 4 Ed.cs ae es := by
          obtain ⟨F, D, -, b, -⟩ := hG.out.1
          obtain ⟨an, nc, ae, ec, q1, q2, q3⟩ := b.parts
          exact ⟨an, nc, ae, ec, q1, q2.mono (fun _ _ => trivial), q3.mono (fun _ _ => trivial)⟩
        have GK := Lib.hid hG.out.2
        have l1 := GK.out.e.len
        have l2 := GK.out.v.len
        have HV := Lib.hid hv
        have FO := Lib.hid FO
        have M4 := Lib.hid m4
        have RN0 := Lib.hid (And.intro hn he)
        have HTO := Lib.hid (HT.out.frame FO.out)
        have HA := Lib.hid (own_all HV.out GK.out)
        clear hv m4 hn he hG hlt hj HX HT h250
        go_wp2_with fail
        refine HA.out.mono ?_
        clear HA
        rintro e w5 ⟨v, rfl, ⟨bn, mc, be, dc, rfl, hn, he⟩, f5⟩
        simp only at hn he
        go_wp2_with fail
        have b6 := Blk.new w5 55 #[.slice bn ns.length mc, .slice be es.length dc, .int .i64 (g + 1)]
        have f6 := f5.trans1 (Frame.alloc [] w5 (.cells #[.slice bn ns.length mc, .slice be es.length dc, .int .i64 (g + 1)] 55))
        have hn6 := (hn.frame0 (Frame.alloc [] w5 (.cells #[.slice bn ns.length mc, .slice be es.length dc, .int .i64 (g + 1)] 55))).in_heap
        have he6 := (he.frame0 (Frame.alloc [] w5 (.cells #[.slice bn ns.length mc, .slice be es.length dc, .int .i64 (g + 1)] 55))).in_heap (fun x => by rw [ed_len]; omega)
        generalize w5.alloc (.cells #[.slice bn ns.length mc, .slice be es.length dc, .int .i64 (g + 1)] 55) = w6 at *
        generalize w5.heap.size = ba at *
        have B6 := Lib.hid b6
        have F6 := Lib.hid f6
        have RB := Lib.hid (And.intro hn6 he6)
        clear b6 f6 f5 hn he hn6 he6
        refine (gwithout_any (HV.out.quiet F6.out) GK.out ta tc ts (HTO.out.frame F6.out).rf (by omega)).mono ?_
        rintro e w7 ⟨qa, rfl, o7⟩
        have O7 := Lib.hid o7
        have x0 := (B6.out.frame (VOwn.frame o7) (by simp)).at 0 rfl
        have x1 := (B6.out.frame (VOwn.frame o7) (by simp)).at 1 rfl
        have x2 := (B6.out.frame (VOwn.frame o7) (by simp)).at 2 rfl
        have f7 := VOwn.frame o7
        have HOF := Lib.hid (of_any (fun _ => True) (.agg #[.slice bn ns.length mc, .slice be es.length dc, .int .i64 (g + 1)]) ⟨ns, es, g + 1⟩ w7 ⟨bn, mc, be, dc, rfl, (RB.out.1.frame0 f7).mono (fun _ _ => trivial), (RB.out.2.frame0 f7).mono (fun _ _ => trivial)⟩ (GOk.short GK.out _) (GK.out.strX _))
        have hmay : MayX ⟨ns, es, g + 1⟩ := GOk.may (x := ⟨ns, es, g + 1⟩) (by show GOk ns es (g + 1 - 1); rw [show g + 1 - 1 = g by omega]; exact GK.out)
        have HM := Lib.hid hmay
        clear o7 f7 hmay
        go_wp2_with fail
        refine HOF.out.mono ?_
        clear HOF x0 x1 x2
        rintro e w8 (⟨hno, -⟩ | ⟨-, qb, rfl, o8⟩)
        · exact absurd HM.out hno
        have o8 : VOwn w7 qb ns es g w8 := by
          have := o8
          rw [show (⟨ns, es, g + 1⟩ : Gx).next - 1 = g from by show g + 1 - 1 = g; omega] at this
          exact this
        have PP := Lib.hid (PG.start O7.out o8)
        clear o8 O7 HM
        go_wp2_with fail
        go_loopw [12] (fun i wq => ∃ (k : Nat) (na : List Nv) (ea : List Ed) (ga : Int) (eb : List Ed), k ≤ ns.length ∧ i = .int .i64 k ∧ Hid (PG w6 qa qb na ea ga ns eb g wq ∧ VOk na ∧ EOk ea ga ∧ EOk eb g)) (fun i _ => ns.length - (intOf i).toNat)
        case atStart => exact ⟨0, ns, esWo es ts, g, es, Nat.zero_le _, rfl, Lib.hid ⟨PP.out, GK.out.v, (GK.out.wo ts).e, GK.out.e⟩⟩
        case round =>
          rename World => wq
          obtain ⟨k, na, ea, ga, eb, hk, rfl, hG⟩ := hrel
          clear PP
          have FP := Lib.hid hG.out.1.frame
          have y0 := (B6.out.frame FP.out (by simp)).at 0 rfl
          by_cases hlt : k < ns.length
          · have hk' : ns[k]? = some ns[k] := by simp [hlt]
            obtain ⟨b9, off, la, lc, pa, pc, rfl, -, cc, -⟩ := RB.out.1 k _ hk'
            generalize ns[k].1 = nid at cc
            have CC := Lib.hid cc
            have c0 := FP.out.cell cc (by simp)
            have HL := Lib.hid (fun w' (f : Frame [] wq w') => (hG.out.1.quiet f).label hG.out.2.1 nid ⟨#[122, 122]⟩ (by decide))
            have HV2 := Lib.hid (hG.out.2.1.label nid ⟨#[122, 122]⟩)
            have HE := Lib.hid hG.out.2.2
            clear cc hk' hG
            generalize vLabel na nid ⟨#[122, 122]⟩ = q at *
            obtain ⟨q1, nq⟩ := q
            go_wp2_with fail
            refine (HL.out _ (by (repeat first | assumption | exact Frame.refl _ _ | refine Frame.trans1 ?_ (Frame.alloc _ _ _) | refine Frame.trans1 ?_ (Frame.drew _ _) | refine Frame.trans1 ?_ (Frame.drewN _ _ _)))).mono ?_
            clear HL
            rintro e w9 ⟨rfl, p9⟩
            have P9 := Lib.hid p9
            have y0 := (B6.out.frame p9.frame (by simp)).at 0 rfl
            have c0 := p9.frame.cell CC.out (by simp)
            have HA := Lib.hid (fun w' (f : Frame [] w9 w') => (p9.quiet f).add HV2.out HE.out.1 nid ⟨#[122, 122]⟩ nid (by decide))
            have HE2 := Lib.hid (HE.out.1.add nq nid ⟨#[122, 122]⟩ nid)
            clear p9
            generalize vAdd nq ea ga nid ⟨#[122, 122]⟩ nid = q2 at *
            obtain ⟨⟨q3, q4⟩, eq, gq⟩ := q2
            go_wp2_with fail
            go_region_with (go_at_call 29; refine (HA.out _ (by (repeat first | assumption | exact Frame.refl _ _ | refine Frame.trans1 ?_ (Frame.alloc _ _ _) | refine Frame.trans1 ?_ (Frame.drew _ _) | refine Frame.trans1 ?_ (Frame.drewN _ _ _)))).mono ?_; rintro e w10 ⟨rfl, p10⟩; have P10 := Lib.hid p10; clear p10)
            all_goals
              clear y0 c0
              go_wp2_with fail
              refine ((P10.out.quiet (by (repeat first | assumption | exact Frame.refl _ _ | refine Frame.trans1 ?_ (Frame.alloc _ _ _) | refine Frame.trans1 ?_ (Frame.drew _ _) | refine Frame.trans1 ?_ (Frame.drewN _ _ _)))).drop HE.out.2 _).mono ?_
              rintro e w11 ⟨rfl, p11⟩
              have P11 := Lib.hid p11
              clear p11
              go_wp2_with fail
              go_roundw
              case rel => exact ⟨k + 1, nq, eq, gq, _, by omega, by first | rfl | go_num, Lib.hid ⟨P11.out.quiet (by (repeat first | assumption | exact Frame.refl _ _ | refine Frame.trans1 ?_ (Frame.alloc _ _ _) | refine Frame.trans1 ?_ (Frame.drew _ _) | refine Frame.trans1 ?_ (Frame.drewN _ _ _))), HV2.out, HE2.out, HE.out.2.drop _⟩⟩
              case measure => first | (simp [intOf]; done) | (simp [intOf]; omega)
          · obtain rfl : k = ns.length := by omega
            have FQ := Lib.hid (F6.out.trans1 FP.out)
            have HA1 : Hid (∀ w', Frame [] wq w' → Calls Try.prog 32 #[.pointer (some ⟨pb, 0, none⟩)] w' (AllEnd ⟨ns, es, g + 1⟩ w')) := by
              show ∀ w', _
              intro w' f
              exact own_all ((HV.out.quiet FQ.out).quiet f) GK.out
            have HS1 : Hid (∀ w' wb u, Frame [] wq w' → RG (fun b => wb ≤ b) w' u ⟨ns, es, g + 1⟩ → Calls Try.prog 42 #[u, .agg #[.slice an ns.length nc, .slice ae es.length ec, .int .i64 (g + 1)]] w' fun e w'' => e = .returned (.bool true) ∧ Frame [] w' w'') := by
              show ∀ w' wb u, _
              intro w' wb u f h
              exact Ans.yes (rsame_any _ (fun _ => True) u _ _ _ w' h ⟨an, nc, ae, ec, rfl, (RN0.out.1.frame0 FQ.out).frame0 f, (RN0.out.2.frame0 FQ.out).frame0 f⟩ (GOk.short GK.out _) (GOk.short GK.out _)) rfl
            have BM := M4.out.frame FQ.out (by simp)
            have M0 : ∀ w', Frame [] wq w' → w'.cell? ⟨rb, 0, none⟩ = some (.slice an ns.length nc) := fun w' f => (BM.frame f (by simp)).at 0 rfl
            have M1 : ∀ w', Frame [] wq w' → w'.cell? ⟨rb, 1, none⟩ = some (.slice ae es.length ec) := fun w' f => (BM.frame f (by simp)).at 1 rfl
            have M2 : ∀ w', Frame [] wq w' → w'.cell? ⟨rb, 2, none⟩ = some (.int .i64 (g + 1)) := fun w' f => (BM.frame f (by simp)).at 2 rfl
            clear BM M4 RN0 l1 l2 hG
            go_wp2_with fail
            clear y0
            go_region_held3 (fun w' => Frame [] wq w') ((repeat first | assumption | exact Frame.refl _ _ | refine Frame.trans1 ?_ (Frame.alloc _ _ _) | refine Frame.trans1 ?_ (Frame.drew _ _) | refine Frame.trans1 ?_ (Frame.drewN _ _ _)))
              ((first
                | (go_at_call 32; refine (HA1.out _ (by (repeat first | assumption | exact Frame.refl _ _ | refine Frame.trans1 ?_ (Frame.alloc _ _ _) | refine Frame.trans1 ?_ (Frame.drew _ _) | refine Frame.trans1 ?_ (Frame.drewN _ _ _)))).mono ?_; rintro e w6 ⟨u, rfl, rg, f6⟩; have F6 : Frame [] wq w6 := (show Frame [] wq _ from by (repeat first | assumption | exact Frame.refl _ _ | refine Frame.trans1 ?_ (Frame.alloc _ _ _) | refine Frame.trans1 ?_ (Frame.drew _ _) | refine Frame.trans1 ?_ (Frame.drewN _ _ _))).trans1 f6; have RU := Lib.hid rg; clear rg)
                | (go_at_call 26; refine (awake10 _).mono ?_; rintro e w12 ⟨rfl, f12⟩; have F12 : Frame [] wq w12 := (show Frame [] wq _ from by (repeat first | assumption | exact Frame.refl _ _ | refine Frame.trans1 ?_ (Frame.alloc _ _ _) | refine Frame.trans1 ?_ (Frame.drew _ _) | refine Frame.trans1 ?_ (Frame.drewN _ _ _))).trans1 f12)
                | (go_at_call 42; refine (HS1.out _ _ _ (by (repeat first | assumption | exact Frame.refl _ _ | refine Frame.trans1 ?_ (Frame.alloc _ _ _) | refine Frame.trans1 ?_ (Frame.drew _ _) | refine Frame.trans1 ?_ (Frame.drewN _ _ _))) (RU.out.frame0 (by (repeat first | assumption | exact Frame.refl _ _ | refine Frame.trans1 ?_ (Frame.alloc _ _ _) | refine Frame.trans1 ?_ (Frame.drew _ _) | refine Frame.trans1 ?_ (Frame.drewN _ _ _))))).mono ?_; rintro e w7 ⟨rfl, f7⟩; have F7 : Frame [] wq w7 := (show Frame [] wq _ from by (repeat first | assumption | exact Frame.refl _ _ | refine Frame.trans1 ?_ (Frame.alloc _ _ _) | refine Frame.trans1 ?_ (Frame.drew _ _) | refine Frame.trans1 ?_ (Frame.drewN _ _ _))).trans1 f7)))
            all_goals
              go_wp2_with fail
              go_ret
              exact ⟨rfl, (FO.out.trans1 FQ.out).trans1 (F12.trans1 (by (repeat first | assumption | exact Frame.refl _ _ | refine Frame.trans1 ?_ (Frame.alloc _ _ _) | refine Frame.trans1 ?_ (Frame.drew _ _) | refine Frame.trans1 ?_ (Frame.drewN _ _ _))))⟩
end Go.Proofs.Ytolkmapdbilolaa

