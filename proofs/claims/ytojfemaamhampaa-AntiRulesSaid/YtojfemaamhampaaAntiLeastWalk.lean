/- tansylaw5.AntiLeast: the walk. -/
import Derived.Test.YtojfemaamhampaaAntiSetsWalk
import Derived.Test.YtojfemaamhampaaSmall5
namespace Go.Proofs.Ytojfemaamhampaa
open Go.RowKit
set_option linter.unusedSimpArgs false
set_option linter.unusedVariables false

/-- A row of sets that is handed in. -/
structure Arg5 (w : World) (a : Option Addr) (vs : List SV) : Prop where
  rf : RF (fun b => b < w.heap.size) w 1 encV a vs
  rd : ∀ s ∈ vs, RdI w s.a s.l
theorem Arg5.frame {w w' : World} {a : Option Addr} {vs : List SV} (h : Arg5 w a vs) (f : Frame [] w w') : Arg5 w' a vs :=
  ⟨(h.rf.frame0 f).mono fun b hb => Nat.lt_of_lt_of_le hb f.size, fun s hs => (h.rd s hs).frame f⟩
theorem Arg5.rv {w : World} {a : Option Addr} {vs : List SV} (h : Arg5 w a vs) (hl : ∀ s ∈ vs, s.l.length ≤ 12) : RV w a vs :=
  ⟨h.rf, fun s hs => ⟨h.rd s hs, by have := hl s hs; omega, fun _ _ _ _ => trivial⟩⟩
theorem small_one (a : Option Addr) (c : Nat) (vs : List SV) (w : World) (h : Arg5 w a vs) (T : TypeId) :
    Calls Try.prog 13 #[.slice (some ⟨w.heap.size, 0, none⟩) 1 1] (w.alloc (.cells #[.slice a vs.length c] T)) fun e w' => e = .returned (.bool (decide (SmallW [⟨a, c, vs⟩]))) ∧ Frame [] w w' := by
  refine (small_any _ (some ⟨w.heap.size, 0, none⟩) 1 [⟨a, c, vs⟩] _ (rf_one (Blk.new w T #[.slice a vs.length c]) (⟨a, c, vs⟩ : SW) rfl) (fun r hr => ?_) (by simp)).mono ?_
  · obtain rfl := List.mem_singleton.1 hr
    exact (h.frame (Frame.alloc [] _ _)).rf
  · rintro e w' ⟨he, f⟩
    exact ⟨he, (Frame.alloc [] _ _).trans1 f⟩
set_option maxRecDepth 100000 in
theorem antiLeast_out (a : Option Addr) (c : Nat) (vs : List SV) (w : World) (h : Arg5 w a vs) (hs : ¬ SmallW [⟨a, c, vs⟩]) :
    Calls Try.prog 4 #[.slice a vs.length c] w fun e w' => e = .returned (.bool true) ∧ Frame [] w w' := by
  have S := small_one a c vs w h 26
  rw [decide_eq_false hs] at S
  have HS := Lib.hid S
  clear S h hs
  go_enter Try.func4, Try.ntmps4
  go_wp2_with fail
  refine HS.out.mono ?_
  rintro e w1 ⟨rfl, f1⟩
  go_wp2_with fail
  refine (awake5 _).mono ?_
  rintro e w2 ⟨rfl, f2⟩
  go_wp2_with fail
  go_ret
  exact ⟨rfl, f1.trans1 f2⟩
theorem small_parts {a : Option Addr} {c : Nat} {vs : List SV} (h : SmallW [⟨a, c, vs⟩]) : vs.length ≤ 12 ∧ (∀ s ∈ vs, s.l.length ≤ 12) ∧ totV vs ≤ 150 := by
  have h1 := h.1 _ (List.mem_singleton.2 rfl)
  have h2 := h.2
  simp [totW] at h2
  exact ⟨h1.1, h1.2, h2⟩
set_option maxRecDepth 100000 in
theorem antiLeast_bad (a : Option Addr) (c : Nat) (vs : List SV) (w : World) (h : Arg5 w a vs) (hs : SmallW [⟨a, c, vs⟩]) (hg : goodL (vs.map (·.l)) = false) :
    Calls Try.prog 4 #[.slice a vs.length c] w fun e w' => e = .returned (.bool true) ∧ Frame [] w w' := by
  have S := small_one a c vs w h 26
  obtain ⟨p1, p2, -⟩ := small_parts hs
  rw [decide_eq_true hs] at S
  have HS := Lib.hid S
  have HR := Lib.hid (h.rv p2)
  have HG := Lib.hid hg
  clear S h hs p2 hg
  go_enter Try.func4, Try.ntmps4
  go_wp2_with fail
  refine HS.out.mono ?_
  rintro e w1 ⟨rfl, f1⟩
  have F1 := Lib.hid f1
  have G := good_any a c vs w1 (HR.out.frame f1) (by omega)
  rw [HG.out] at G
  have HG2 := Lib.hid G
  clear G f1
  go_wp2_with fail
  refine HG2.out.mono ?_
  rintro e w1 ⟨rfl, f1⟩
  have F2 := Lib.hid (F1.out.trans1 f1)
  go_wp2_with fail
  refine (awake5 _).mono ?_
  rintro e w2 ⟨rfl, f2⟩
  go_wp2_with fail
  go_ret
  exact ⟨rfl, F2.out.trans1 f2⟩
theorem least_from {L : List (List Int)} {s : List Int} (h : s ∈ leastR L) : ∃ t ∈ L, s = srtI t := by
  have := ((leastR_fam L).2 s).1 h
  obtain ⟨t, h1, h2⟩ := List.mem_map.1 this.1
  exact ⟨t, h1, h2.symm⟩
theorem least_apart {L : List (List Int)} {i k : Nat} {s t : List Int} (hs : (leastR L)[i]? = some s) (ht : (leastR L)[k]? = some t) (hik : i ≠ k) : subB t s = false := by
  rw [subB_false]
  intro hsub
  have e := (leastR_fam L).anti (List.mem_of_getElem? hs) (List.mem_of_getElem? ht) hsub
  subst e
  obtain ⟨h1, e1⟩ := List.getElem?_eq_some_iff.1 hs
  obtain ⟨h2, e2⟩ := List.getElem?_eq_some_iff.1 ht
  have hp := List.pairwise_iff_getElem.1 (leastR_lt L)
  rcases Nat.lt_or_gt_of_ne hik with h | h
  · have := hp i k h1 h2 h
    rw [e1, e2] at this
    exact LtO.irrefl _ this
  · have := hp k i h2 h1 h
    rw [e1, e2] at this
    exact LtO.irrefl _ this
theorem least_step {L : List (List Int)} {m : Nat} {s t : List Int} (hs : (leastR L)[m]? = some s) (ht : (leastR L)[m + 1]? = some t) : s.length ≤ t.length := by
  obtain ⟨h1, rfl⟩ := List.getElem?_eq_some_iff.1 hs
  obtain ⟨h2, rfl⟩ := List.getElem?_eq_some_iff.1 ht
  exact (List.pairwise_iff_getElem.1 (leastR_lt L) m (m + 1) h1 h2 (by omega)).len
theorem least_has {L : List (List Int)} {S : List Int} (h : S ∈ L) : hasL (leastR L) S = true := by
  rw [leastR_has]; exact hasL_iff.2 ⟨S, h, Sub.refl _⟩
theorem least_nil {L : List (List Int)} : (leastR L).length = 0 ↔ L.length = 0 := by
  constructor
  · intro h
    cases L with
    | nil => rfl
    | cons x t =>
      have := least_has (L := x :: t) (S := x) (by simp)
      rw [List.eq_nil_of_length_eq_zero h] at this
      simp [hasL] at this
  · intro h
    have := leastR_len L
    omega
theorem sub_srt_l (t : List Int) : subB t (srtI t) = true := subB_iff.2 fun n hn => (srtI_mem _ _).2 hn
theorem sub_srt_r (t : List Int) : subB (srtI t) t = true := subB_iff.2 fun n hn => (srtI_mem _ _).1 hn
set_option maxHeartbeats 8000000 in
set_option maxRecDepth 100000 in
theorem antiLeast_in (a : Option Addr) (c : Nat) (vs : List SV) (w : World) (h : Arg5 w a vs) (hs : SmallW [⟨a, c, vs⟩]) (hg : goodL (vs.map (·.l)) = true) :
    Calls Try.prog 4 #[.slice a vs.length c] w fun e w' => e = .returned (.bool true) ∧ Frame [] w w' := by
  have S := small_one a c vs w h 26
  obtain ⟨p1, p2, -⟩ := small_parts hs
  rw [decide_eq_true hs] at S
  have HS := Lib.hid S
  have HR := Lib.hid (h.rv p2)
  have HG : Hid (∀ w', Frame [] w w' → Calls Try.prog 14 #[.slice a vs.length c] w' fun e w'' => e = .returned (.bool true) ∧ Frame [] w' w'') := fun w' f => by
    have := good_any a c vs w' (HR.out.frame f) (by omega)
    rwa [hg] at this
  have HA : Hid (∀ w', Frame [] w w' → Calls Try.prog 15 #[.slice a vs.length c] w' fun e w'' => ∃ v, e = .returned (.tuple #[v, .int .i64 0]) ∧ FV w'' v (leastR (vs.map (·.l))) ∧ Frame [] w' w'') := fun w' f => by
    have := aof_any a c vs w' (HR.out.frame f) (by omega)
    simpa only [hg, if_true] using this
  have UF := Lib.hid (leastR_ups (vs.map (·.l)))
  have PA : Hid (∀ s ∈ leastR (vs.map (·.l)), ∃ t ∈ vs, subB t.l s = true ∧ subB s t.l = true) := fun s hs => by
    obtain ⟨t, ht, rfl⟩ := least_from hs
    obtain ⟨x, hx, rfl⟩ := List.mem_map.1 ht
    exact ⟨x, hx, sub_srt_l _, sub_srt_r _⟩
  have PB : Hid (∀ i k s t, (leastR (vs.map (·.l)))[i]? = some s → (leastR (vs.map (·.l)))[k]? = some t → i ≠ k → subB t s = false) := fun i k s t h1 h2 h3 => least_apart h1 h2 h3
  have PC : Hid (∀ m s t, (leastR (vs.map (·.l)))[m]? = some s → (leastR (vs.map (·.l)))[m + 1]? = some t → s.length ≤ t.length) := fun m s t h1 h2 => least_step h1 h2
  have PD : Hid (∀ x ∈ vs, hasL (leastR (vs.map (·.l))) x.l = true) := fun x hx => least_has (List.mem_map_of_mem hx)
  have PE : Hid ((leastR (vs.map (·.l))).length = 0 ↔ vs.length = 0) := by
    have := least_nil (L := vs.map (·.l))
    rwa [List.length_map] at this
  have lf : (leastR (vs.map (·.l))).length ≤ 12 := by
    have := leastR_len (vs.map (·.l))
    rw [List.length_map] at this
    omega
  generalize leastR (vs.map (·.l)) = F at *
  clear S h hs p2 hg
  go_enter Try.func4, Try.ntmps4
  go_wp2_with fail
  refine HS.out.mono ?_
  rintro e w1 ⟨rfl, f1⟩
  have F1 := Lib.hid f1
  clear f1 HS
  go_wp2_with fail
  refine (HG.out _ F1.out).mono ?_
  rintro e w2 ⟨rfl, f1⟩
  have F2 := Lib.hid (F1.out.trans1 f1)
  clear f1 HG F1
  go_wp2_with fail
  refine (HA.out _ F2.out).mono ?_
  rintro e w3 ⟨v, rfl, ⟨a1, c1, vs1, rfl, rv1, hm1⟩, f1⟩
  have F3 := Lib.hid (F2.out.trans1 f1)
  have FV3 : Hid (FV w3 (.agg #[.slice a1 vs1.length c1]) F) := ⟨a1, c1, vs1, rfl, rv1, hm1⟩
  clear f1 HA F2 rv1 hm1
  go_wp2_with fail
  have F4 : Hid (Frame [] w (w3.alloc (.cells #[.slice a1 vs1.length c1] 30))) := F3.out.trans1 (Frame.alloc [] _ _)
  have B4 := Lib.hid (Blk.new w3 30 #[.slice a1 vs1.length c1])
  have V4 := Lib.hid (FV3.out.frame (Frame.alloc [] w3 (.cells #[.slice a1 vs1.length c1] 30)))
  generalize w3.heap.size = fb at *
  generalize w3.alloc (.cells #[.slice a1 vs1.length c1] 30) = w4 at *
  clear FV3 F3
  refine (asets_any _ F w4 V4.out (by omega)).mono ?_
  rintro e w5 ⟨a2, c2, us, G2, rfl, ov2, hm2, -, f2, -⟩
  have B5 := Lib.hid (B4.out.frame f2 (by simp))
  have V5 := Lib.hid (V4.out.frame f2)
  have F5 := Lib.hid (F4.out.trans1 f2)
  have U5 := Lib.hid ov2.rv
  have HM := Lib.hid hm2
  have R5 := Lib.hid (HR.out.frame F5.out)
  have hul : us.length ≤ 12 := by have := congrArg List.length hm2; simp at this; omega
  clear ov2 hm2 f2 B4 V4 F4 HR
  go_wp2_with fail
  go_loopw [6, 7, 8, 9] (fun i _ _ _ wr => ∃ k : Nat, k ≤ us.length ∧ i = .int .i64 k ∧ Hid (Frame [] w5 wr)) (fun i _ _ _ _ => us.length - (intOf i).toNat)
  case atStart => exact ⟨0, Nat.zero_le _, rfl, Frame.refl _ _⟩
  case round =>
    obtain ⟨i, hi, rfl, hR⟩ := hrel
    rename World => wo
    by_cases hlt : i < us.length
    · have g1 : us[i]? = some us[i] := by simp [hlt]
      have W1 := U5.out.frame hR.out
      have oks := W1.ok _ (List.getElem_mem hlt)
      obtain ⟨bu, ou, rfl, q1⟩ := RF.atV W1.rf g1
      have gF : F[i]? = some us[i].l := by rw [← HM.out]; simp [hlt]
      generalize us[i] = s at *
      have OKs := Lib.hid oks
      have Q1 := Lib.hid q1
      have GF := Lib.hid gF
      have G1 := Lib.hid g1
      clear W1 oks q1 gF g1
      go_wp2_with fail
      go_loopw [7, 8] (fun m i wq => ∃ (j : Nat) (b : Bool), j ≤ vs.length ∧ i = .int .i64 j ∧ m = .bool b ∧ Hid (Frame [] wo wq ∧ (b = true ↔ ∃ t ∈ vs.take j, subB t.l s.l = true ∧ subB s.l t.l = true))) (fun _ i _ => vs.length - (intOf i).toNat)
      case atStart => exact ⟨0, false, Nat.zero_le _, rfl, rfl, Frame.refl _ _, by simp⟩
      case round =>
        obtain ⟨j, b, hj, rfl, rfl, hP⟩ := hrel
        rename World => wq
        by_cases hjl : j < vs.length
        · have g2 : vs[j]? = some vs[j] := by simp [hjl]
          have W2 := R5.out.frame (hR.out.trans1 hP.out.1)
          have okt := W2.ok _ (List.getElem_mem hjl)
          obtain ⟨bv, ov, rfl, q2⟩ := RF.atV W2.rf g2
          have q1 := hP.out.1.cell Q1.out (by simp)
          have TN : Hid (∀ x, x ∈ vs.take (j + 1) ↔ x ∈ vs.take j ∨ x = vs[j]) := fun x => mem_take_snoc g2
          generalize vs[j] = t at *
          have CP : Hid (∀ w', Frame [] wq w' → Calls Try.prog 11 #[.slice t.a t.l.length t.c, .slice s.a s.l.length s.c] w' fun e w'' => e = .returned (.bool (subB t.l s.l)) ∧ Frame [] w' w'') := fun w' f => asubset_any t.a s.a t.c s.c t.l s.l w' (okt.frame f (by simp)).rd ((OKs.out.frame hP.out.1 (by simp)).frame f (by simp)).rd okt.len OKs.out.len
          have CQ : Hid (∀ w', Frame [] wq w' → Calls Try.prog 11 #[.slice s.a s.l.length s.c, .slice t.a t.l.length t.c] w' fun e w'' => e = .returned (.bool (subB s.l t.l)) ∧ Frame [] w' w'') := fun w' f => asubset_any s.a t.a s.c t.c s.l t.l w' ((OKs.out.frame hP.out.1 (by simp)).frame f (by simp)).rd (okt.frame f (by simp)).rd OKs.out.len okt.len
          have NX : Hid (∀ b', b' = (b || (subB t.l s.l && subB s.l t.l)) → (b' = true ↔ ∃ t ∈ vs.take (j + 1), subB t.l s.l = true ∧ subB s.l t.l = true)) := fun b' hb => by
            subst hb
            rw [Bool.or_eq_true, Bool.and_eq_true, hP.out.2]
            constructor
            · rintro (⟨x, hx, h1⟩ | h1)
              · exact ⟨x, (TN.out x).2 (.inl hx), h1⟩
              · exact ⟨t, (TN.out t).2 (.inr rfl), h1⟩
            · rintro ⟨x, hx, h1⟩
              rcases (TN.out x).1 hx with h | rfl
              · exact .inl ⟨x, h, h1⟩
              · exact .inr h1
          have y1 := framed_cell q1
          have y2 := framed_cell q2
          clear g2 W2 okt q1 q2 TN
          generalize subB t.l s.l = pv at *
          generalize subB s.l t.l = qv at *
          generalize t.a = ta at *
          generalize t.l.length = tn at *
          generalize t.c = tc at *
          cases b with
          | true =>
            go_wp2_with fail
            refine wp_region_framed (by kernel_rfl) (by kernel_rfl) ?_
            repeat (go_big_quiet_step (fail))
            refine wpQuiet_nil ?_
            intro w6 hw
            have f6 := framed_out hw
            clear hw
            go_wp2_with fail
            go_roundw
            case rel => exact ⟨j + 1, true, by omega, by first | rfl | go_num, rfl, hP.out.1.trans1 f6, NX.out _ rfl⟩
            case measure => first | (simp [intOf]; done) | (simp [intOf]; omega)
          | false =>
            cases pv with
            | false =>
              go_wp2_with fail
              refine wp_region_framed (by kernel_rfl) (by kernel_rfl) ?_
              repeat (go_big_quiet_step (exact framed_of (CP.out _ (FramedBy.h _))))
              refine wpQuiet_nil ?_
              intro w6 hw
              have f6 := framed_out hw
              clear hw
              go_wp2_with fail
              go_roundw
              case rel => exact ⟨j + 1, false, by omega, by first | rfl | go_num, rfl, hP.out.1.trans1 f6, NX.out _ rfl⟩
              case measure => first | (simp [intOf]; done) | (simp [intOf]; omega)
            | true =>
              cases qv with
              | false =>
                go_wp2_with fail
                refine wp_region_framed (by kernel_rfl) (by kernel_rfl) ?_
                repeat (go_big_quiet_step (first | (with_reducible exact framed_of (CP.out _ (FramedBy.h _))) | (with_reducible exact framed_of (CQ.out _ (FramedBy.h _)))))
                refine wpQuiet_nil ?_
                intro w6 hw
                have f6 := framed_out hw
                clear hw
                go_wp2_with fail
                go_roundw
                case rel => exact ⟨j + 1, false, by omega, by first | rfl | go_num, rfl, hP.out.1.trans1 f6, NX.out _ rfl⟩
                case measure => first | (simp [intOf]; done) | (simp [intOf]; omega)
              | true =>
                go_wp2_with fail
                refine wp_region_framed (by kernel_rfl) (by kernel_rfl) ?_
                repeat (go_big_quiet_step (first | (with_reducible exact framed_of (CP.out _ (FramedBy.h _))) | (with_reducible exact framed_of (CQ.out _ (FramedBy.h _)))))
                refine wpQuiet_nil ?_
                intro w6 hw
                have f6 := framed_out hw
                clear hw
                go_wp2_with fail
                go_roundw
                case rel => exact ⟨j + 1, true, by omega, by first | rfl | go_num, rfl, hP.out.1.trans1 f6, NX.out _ rfl⟩
                case measure => first | (simp [intOf]; done) | (simp [intOf]; omega)
        · obtain rfl : j = vs.length := by omega
          have hb : b = true := by
            refine hP.out.2.2 ?_
            rw [List.take_length]
            exact PA.out _ (List.mem_of_getElem? GF.out)
          subst hb
          have W3 := Lib.hid (hR.out.trans1 hP.out.1)
          have OKq : Hid (s.ok (fun _ => True) wq) := OKs.out.frame hP.out.1 (by simp)
          have q1 := hP.out.1.cell Q1.out (by simp)
          have Qq := Lib.hid q1
          clear hP q1
          go_wp2_with fail
          go_loopw [9] (fun i wr => ∃ k : Nat, k ≤ us.length ∧ i = .int .i64 k ∧ Hid (Frame [] wq wr)) (fun i _ => us.length - (intOf i).toNat)
          case atStart => exact ⟨0, Nat.zero_le _, rfl, Frame.refl _ _⟩
          case round =>
            obtain ⟨k, hk, rfl, hP⟩ := hrel
            rename World => wz
            by_cases hkl : k < us.length
            · have g2 : us[k]? = some us[k] := by simp [hkl]
              have W4 := U5.out.frame (W3.out.trans1 hP.out)
              have okt := W4.ok _ (List.getElem_mem hkl)
              obtain ⟨bv, ov, e', q2⟩ := RF.atV W4.rf g2
              simp only [Option.some.injEq, Addr.mk.injEq] at e'
              obtain ⟨rfl, rfl, -⟩ := e'
              have gK : F[k]? = some us[k].l := by rw [← HM.out]; simp [hkl]
              generalize us[k] = t at *
              by_cases hik : i = k
              · subst hik
                clear g2 W4 okt q2 gK
                go_wp2_with fail
                refine wp_region_framed (by kernel_rfl) (by kernel_rfl) ?_
                repeat (go_big_quiet_step (fail))
                refine wpQuiet_nil ?_
                intro w6 hw
                have f6 := framed_out hw
                clear hw
                go_wp2_with fail
                go_roundw
                case rel => exact ⟨i + 1, by omega, by first | rfl | go_num, hP.out.trans1 f6⟩
                case measure => first | (simp [intOf]; done) | (simp [intOf]; omega)
              · have hn : ((i : Int) != (k : Int)) = true := by simp; omega
                have CP : Hid (∀ w', Frame [] wz w' → Calls Try.prog 11 #[.slice t.a t.l.length t.c, .slice s.a s.l.length s.c] w' fun e w'' => e = .returned (.bool false) ∧ Frame [] w' w'') := fun w' f => by
                  have := asubset_any t.a s.a t.c s.c t.l s.l w' (okt.frame f (by simp)).rd ((OKq.out.frame hP.out (by simp)).frame f (by simp)).rd okt.len OKq.out.len
                  rwa [PB.out i k s.l t.l GF.out gK hik] at this
                have y1 := framed_cell (hP.out.cell Qq.out (by simp))
                have y2 := framed_cell q2
                clear g2 W4 okt q2 gK hik
                go_wp2_with fail
                refine wp_region_framed (by kernel_rfl) (by kernel_rfl) ?_
                repeat (go_big_quiet_step (exact framed_of (CP.out _ (FramedBy.h _))))
                refine wpQuiet_nil ?_
                intro w6 hw
                have f6 := framed_out hw
                clear hw
                go_wp2_with fail
                go_roundw
                case rel => exact ⟨k + 1, by omega, by first | rfl | go_num, hP.out.trans1 f6⟩
                case measure => first | (simp [intOf]; done) | (simp [intOf]; omega)
            · obtain rfl : k = us.length := by omega
              cases i with
              | zero =>
                have hd0 : decide (((0 : Nat) : Int) > 0) = false := by decide
                go_wp2_with fail
                go_quiet (fail)
                go_wp2_with fail
                go_roundw
                case rel => exact ⟨1, by omega, by first | rfl | go_num, W3.out.trans1 (hP.out.trans1 (by (repeat first | assumption | exact Frame.refl _ _ | refine Frame.trans1 ?_ (Frame.alloc _ _ _) | refine Frame.trans1 ?_ (Frame.drew _ _) | refine Frame.trans1 ?_ (Frame.drewN _ _ _))))⟩
                case measure => first | (simp [intOf]; done) | (simp [intOf]; omega)
              | succ m =>
                have hml : m < us.length := by omega
                have g2 : us[m]? = some us[m] := by simp [hml]
                have W4 := U5.out.frame (W3.out.trans1 hP.out)
                obtain ⟨bv, ov, e', q2⟩ := RF.atV W4.rf g2
                simp only [Option.some.injEq, Addr.mk.injEq] at e'
                obtain ⟨rfl, rfl, -⟩ := e'
                have gK : F[m]? = some us[m].l := by rw [← HM.out]; simp [hml]
                generalize us[m] = t at *
                have q1 := hP.out.cell Qq.out (by simp)
                have hle := PC.out m t.l s.l gK GF.out
                have hd1 : decide (s.l.length < t.l.length) = false := decide_eq_false (by omega)
                have hd0 : decide ((0 : Int) < ((m + 1 : Nat) : Int)) = true := decide_eq_true (by omega)
                have e1 : IntKind.i64.wrap (((m + 1 : Nat) : Int) - 1) = (m : Int) := by rw [show (((m + 1 : Nat) : Int) - 1) = (m : Int) from by omega]; exact IntWalk.i64_in _ (by omega)
                have hm0 : (0 : Int) ≤ ((m + 1 : Nat) : Int) - 1 := by omega
                clear g2 W4 gK hle
                go_wp2_with fail
                go_quiet (fail)
                go_wp2_with fail
                go_roundw
                case rel => exact ⟨m + 2, by omega, by first | rfl | go_num, W3.out.trans1 (hP.out.trans1 (by (repeat first | assumption | exact Frame.refl _ _ | refine Frame.trans1 ?_ (Frame.alloc _ _ _) | refine Frame.trans1 ?_ (Frame.drew _ _) | refine Frame.trans1 ?_ (Frame.drewN _ _ _))))⟩
                case measure => first | (simp [intOf]; done) | (simp [intOf]; omega)
    · obtain rfl : i = us.length := by omega
      have B6 := Lib.hid (B5.out.frame hR.out (by simp))
      have V6 := Lib.hid (V5.out.frame hR.out)
      have R6 := Lib.hid (R5.out.frame hR.out)
      have F6 := Lib.hid (F5.out.trans1 hR.out)
      clear hR
      go_wp2_with fail
      go_loopw [10] (fun i wr => ∃ k : Nat, k ≤ vs.length ∧ i = .int .i64 k ∧ Hid (Frame [] wo wr)) (fun i _ => vs.length - (intOf i).toNat)
      case atStart => exact ⟨0, Nat.zero_le _, rfl, Frame.refl _ _⟩
      case round =>
        obtain ⟨k, hk, rfl, hP⟩ := hrel
        rename World => wz
        by_cases hkl : k < vs.length
        · have g2 : vs[k]? = some vs[k] := by simp [hkl]
          have W4 := R6.out.frame hP.out
          have okt := W4.ok _ (List.getElem_mem hkl)
          have hh := PD.out _ (List.getElem_mem hkl)
          obtain ⟨bv, ov, rfl, q2⟩ := RF.atV W4.rf g2
          generalize vs[k] = t at *
          have BZ := B6.out.frame hP.out (by simp)
          have VZ := V6.out.frame hP.out
          have CP : Hid (∀ w', Frame [] wz w' → Calls Try.prog 17 #[.agg #[.slice a1 vs1.length c1], .slice t.a t.l.length t.c] w' fun e w'' => e = .returned (.bool true) ∧ Frame [] w' w'') := fun w' f => by
            have := ahas_any _ F t.a t.c t.l w' (VZ.frame f) UF.out (by omega) (okt.frame f (by simp)).rd okt.len
            rwa [hh] at this
          have HL : ∀ p : FramedBy wz, (loadVar 30 ⟨fb, 0, none⟩).run Try.prog p.w = .ok (.agg #[.slice a1 vs1.length c1]) p.w := fun p => fam_load p.w _ _ (BZ.frame p.h (by simp))
          have y1 := framed_cell (BZ.at 0 rfl)
          have y2 := framed_cell q2
          clear g2 W4 okt q2 hh BZ VZ
          go_wp2_with fail
          refine wp_region_framed (by kernel_rfl) (by kernel_rfl) ?_
          repeat (go_big_quiet_step (exact framed_of (CP.out _ (FramedBy.h _))))
          refine wpQuiet_nil ?_
          intro w6 hw
          have f6 := framed_out hw
          clear hw
          go_wp2_with fail
          go_roundw
          case rel => exact ⟨k + 1, by omega, by first | rfl | go_num, hP.out.trans1 f6⟩
          case measure => first | (simp [intOf]; done) | (simp [intOf]; omega)
        · obtain rfl : k = vs.length := by omega
          have FZ := Lib.hid (F6.out.trans1 hP.out)
          have he : us.length = F.length := by have := congrArg List.length HM.out; simpa using this
          have hz := PE.out
          rw [← he] at hz
          clear hP
          by_cases h0 : us.length = 0
          · have h1 := hz.1 h0
            have d0 : ((us.length : Int) == 0) = true := beq_iff_eq.2 (by omega)
            have d1 : ((vs.length : Int) == 0) = true := beq_iff_eq.2 (by omega)
            clear hz h0 h1 he
            go_wp2_with fail
            refine (awake5 _).mono ?_
            rintro e wx ⟨rfl, fx⟩
            go_wp2_with fail
            go_ret
            exact ⟨rfl, FZ.out.trans1 fx⟩
          · have h1 : ¬ vs.length = 0 := fun h => h0 (hz.2 h)
            have d0 : ((us.length : Int) == 0) = false := beq_eq_false_iff_ne.2 (by omega)
            have d1 : ((vs.length : Int) == 0) = false := beq_eq_false_iff_ne.2 (by omega)
            clear hz h0 h1 he
            go_wp2_with fail
            refine (awake5 _).mono ?_
            rintro e wx ⟨rfl, fx⟩
            go_wp2_with fail
            go_ret
            exact ⟨rfl, FZ.out.trans1 fx⟩
end Go.Proofs.Ytojfemaamhampaa
