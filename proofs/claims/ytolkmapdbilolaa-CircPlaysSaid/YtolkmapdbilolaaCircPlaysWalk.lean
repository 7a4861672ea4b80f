/- The law CircPlays, walked. -/
import Derived.Test.YtolkmapdbilolaaPlaysPure
import Derived.Test.YtolkmapdbilolaaAwake13
namespace Go.Proofs.Ytolkmapdbilolaa
open Go.RowKit
set_option linter.unusedSimpArgs false
set_option linter.unusedVariables false

theorem circPlays_out (b r : Int) (a : Option Addr) (cap : Nat) (xs : List Stp) (w : World) (hx : RdS w 4 Stp.enc Stp.ok a xs) (hl : xs.length ≤ 9223372036854775807) (hs : smallB xs = false) :
    Calls Try.prog 14 #[.int .i64 b, .slice a xs.length cap, .int .i64 r] w fun e w' => e = .returned (.bool true) ∧ Frame [] w w' := by
  have h := small_any a cap xs w hx hl
  rw [hs] at h
  have H := Lib.hid h
  clear h hx hs
  go_enter Try.func14, Try.ntmps14
  go_wp2_with fail
  refine H.out.mono ?_
  rintro e w1 ⟨rfl, f1⟩
  go_wp2_with fail
  refine (awake13 _).mono ?_
  rintro e w2 ⟨rfl, f2⟩
  go_wp2_with fail
  go_ret
  exact ⟨rfl, f1.trans1 f2⟩

/-- The gates' number, so many steps on. -/
def bound (xs : List Stp) (j : Nat) : Nat := 2 + ((xs.take j).map fun s => s.l.length + 1).sum

theorem bound_succ {xs : List Stp} {j : Nat} {s : Stp} (h : xs[j]? = some s) : bound xs (j + 1) = bound xs j + (s.l.length + 1) := by
  unfold bound
  rw [take_one h, List.map_append, List.sum_append]
  simp; omega
theorem sum_cast (xs : List Stp) : (((xs.map fun s => s.l.length + 1).sum : Nat) : Int) = (xs.map fun s => (s.l.length : Int) + 1).sum := by
  induction xs with
  | nil => rfl
  | cons x t ih => simp only [List.map_cons, List.sum_cons, Int.natCast_add, ih]; rfl
theorem bound_le {xs : List Stp} (h : smallB xs = true) (j : Nat) : bound xs j ≤ 1002 := by
  have h1 : (xs.map fun s => (s.l.length : Int) + 1).sum ≤ 1000 := by
    unfold smallB at h
    simp only [Bool.and_eq_true, decide_eq_true_eq] at h
    exact h.1
  rw [← sum_cast] at h1
  have h2 : ((xs.take j).map fun s => s.l.length + 1).sum ≤ (xs.map fun s => s.l.length + 1).sum := by
    conv => rhs; rw [← List.take_append_drop j xs, List.map_append, List.sum_append]
    omega
  unfold bound
  omega
theorem eq_gateP (d : Nat) (g h : Gt) (w : World) : (Op.equalIn (d+2) 39 g.val h.val).run Try.prog w = .ok (decide (g = h)) w := by
  simp [Op.equalIn, Gt.val, go_sem]
  by_cases h1 : g.k = h.k <;> by_cases h2 : g.a = h.a <;> by_cases h3 : g.b = h.b <;> simp [h1, h2, h3] <;> first | (cases g; cases h; simp_all) | (intro e; subst e; simp_all)
theorem run_zero_eql (w : World) : (binOp .eql 39 (.agg #[.int .i64 0, .int .i64 0, .int .i64 0]) (.agg #[.int .i64 0, .int .i64 0, .int .i64 0])).run Try.prog w = .ok (.bool true) w := by
  have := eq_gateP 9998 ⟨0, 0, 0⟩ ⟨0, 0, 0⟩ w
  simp only [Gt.val] at *
  have e : (Op.equal 39 (.agg #[.int .i64 0, .int .i64 0, .int .i64 0]) (.agg #[.int .i64 0, .int .i64 0, .int .i64 0])).run Try.prog w = .ok (decide ((⟨0, 0, 0⟩ : Gt) = ⟨0, 0, 0⟩)) w := this
  simp [binOp, e]
theorem sl_nil_any (w : World) : Sl w 3 1 encI (.slice none 0 0) [] [] := Sl.nil _ _ _ _
theorem RdI.lt {w : World} {a : Option Addr} {xs : List Int} (h : RdI w a xs) (h0 : xs ≠ []) : ∀ b off, a = some ⟨b, off, none⟩ → b < w.heap.size := by
  intro b off e
  rcases h with h | ⟨b', off', h1, h2, _⟩
  · exact absurd h h0
  · rw [h1] at e
    simp at e
    omega

set_option maxHeartbeats 4000000 in
set_option maxRecDepth 100000 in
theorem circPlays_in (b r : Int) (a : Option Addr) (cap : Nat) (xs : List Stp) (w : World) (hx : RdS w 4 Stp.enc Stp.ok a xs) (hl : xs.length ≤ 250) (hs : smallB xs = true) :
    Calls Try.prog 14 #[.int .i64 b, .slice a xs.length cap, .int .i64 r] w fun e w' => e = .returned (.bool true) ∧ Frame [] w w' := by
  have h := small_any a cap xs w hx (by omega)
  rw [hs] at h
  have H := Lib.hid h
  have HX := Lib.hid hx
  clear h hx
  go_enter Try.func14, Try.ntmps14
  go_wp2_with fail
  refine H.out.mono ?_
  rintro e w1 ⟨rfl, f1⟩
  clear H
  go_wp2_with fail
  refine (new_any b _).mono ?_
  rintro e w2 ⟨pb, rfl, F2, s2, f2, n2⟩
  have A2 := Lib.hid (And.intro s2 (And.intro (f1.trans1 f2) (And.intro f1.size n2)))
  clear s2 f2 n2 f1
  go_wp2_with fail
  refine (rnew_any b _).mono ?_
  rintro e w3 ⟨rb, F3, rfl, s3, f3, n3⟩
  have hB : BSg [] (fun _ => True) w pb rb init (room b + 2 - init.length) init (room b + 2) w3 := by
    refine ⟨F2, F3, ?_, s3, A2.out.2.1.trans1 f3, fun x hx => Nat.le_trans A2.out.2.2.1 (A2.out.2.2.2 x hx), fun x hx => Nat.le_trans A2.out.2.1.size (n3 x hx), fun x hx hm => ?_, trivial, by simp⟩
    · have := A2.out.1.frame0 f3
      have e : room b + 2 - (init.length : Int) = room b := by simp [init]
      rw [e]; exact this
    · have h1 := A2.out.1.lt x hx
      have h2 := n3 x hm
      omega
  have B0 := Lib.hid hB
  clear hB s3 f3 n3 A2
  generalize room b + 2 = bud at *
  go_wp2_with fail
  go_loopw [9] (fun i wr => ∃ (j : Nat) (l : List Gt), j ≤ xs.length ∧ i = .int .i64 j ∧ l.length ≤ bound xs j ∧ Hid (BSg [] (fun _ => True) w pb rb l (bud - l.length) l bud wr ∧ Inv l ∧ Kn l)) (fun i _ => xs.length - (intOf i).toNat)
  case atStart => exact ⟨0, init, Nat.zero_le _, rfl, by simp [init, bound], B0.out, inv_init, kn_init⟩
  case round =>
    rename World => wo
    obtain ⟨j, l, hj, rfl, hll, hG⟩ := hrel
    by_cases hlt : j < xs.length
    · have hjs : xs[j]? = some xs[j] := by simp [hlt]
      have hbs := bound_succ hjs
      have hble := bound_le hs (j + 1)
      have okw : Stp.ok w xs[j] := HX.out.ok_all _ (List.getElem_mem hlt)
      obtain ⟨b', off, rfl, hc, hok⟩ := (HX.out.frame hG.out.1.frame (fun x => Stp.ok_frame hG.out.1.frame x)).at hlt
      have c0 := hc 0 _ rfl
      have c1 := hc 1 _ rfl
      have c2 := hc 2 _ rfl
      have c3 := hc 3 _ rfl
      simp only [Nat.add_zero] at c0
      generalize xs[j] = s at *
      have hl2 := hG.out.2.1.good.len
      have hdo := fun w1 h => does_any (w0 := w) (w := w1) (pb := pb) (rb := rb) (l := l) (bud := bud) s h (by omega) (by omega) okw.2.2.2.1 (fun h0 => okw.2.2.2.1.lt h0)
      have hkp := opS_keep s (left := bud - l.length) hG.out.2.1 hG.out.2.2
      have hle := opS_left s l bud
      generalize opS s l (bud - l.length) = q at *
      obtain ⟨q1, ql, qf⟩ := q
      simp only at hdo hkp hle
      obtain ⟨rfl, hle1, hle2⟩ := hle
      have HD := Lib.hid hdo
      have HK := Lib.hid hkp
      clear hdo hkp hc hok okw hjs B0
      go_wp2_with fail
      go_region_with (first
        | (go_at_call 55; refine (HD.out _ (hG.out.1.quiet keep_none (by (repeat first | assumption | exact Frame.refl _ _ | refine Frame.trans1 ?_ (Frame.alloc _ _ _) | refine Frame.trans1 ?_ (Frame.drew _ _) | refine Frame.trans1 ?_ (Frame.drewN _ _ _))))).mono ?_; rintro e w5 ⟨rfl, b5⟩; obtain ⟨Fq, Fr, qs, qr, -⟩ := id b5; have LN := Lib.hid qs.lens; obtain ⟨ra, rc, rG, rb1, -, -, -⟩ := qr; have z0 := rb1.at 0 rfl; have B5 := Lib.hid b5; clear b5 qs rb1)
        | (go_at_call 18; refine (LN.out _ (by (repeat first | assumption | exact Frame.refl _ _ | refine Frame.trans1 ?_ (Frame.alloc _ _ _) | refine Frame.trans1 ?_ (Frame.drew _ _) | refine Frame.trans1 ?_ (Frame.drewN _ _ _)))).mono ?_; rintro e w6 ⟨rfl, rfl⟩))
      all_goals
        go_wp2_with fail
        go_roundw
        case rel => exact ⟨j + 1, ql, by omega, by first | rfl | go_num, by omega, Lib.hid ⟨B5.out.quiet keep_none (by (repeat first | assumption | exact Frame.refl _ _ | refine Frame.trans1 ?_ (Frame.alloc _ _ _) | refine Frame.trans1 ?_ (Frame.drew _ _) | refine Frame.trans1 ?_ (Frame.drewN _ _ _))), HK.out.1, HK.out.2⟩⟩
        case measure => first | (simp [intOf]; done) | (simp [intOf]; omega)
    · obtain rfl : j = xs.length := by omega
      have hble := bound_le hs xs.length
      have hl2 := hG.out.2.1.good.len
      obtain ⟨F0, F0', s0, r0, f0, -⟩ := hG.out.1
      have S0 := Lib.hid s0
      have R0 := Lib.hid r0
      have W0 := Lib.hid (And.intro f0 hG.out.2)
      obtain ⟨ra, rc, rG, rb1, -, -, -⟩ := id r0
      have z0 := rb1.at 0 rfl
      clear s0 r0 f0 rb1 hG B0 HX
      generalize bud - (l.length : Int) = left at *
      go_wp2_with fail
      go_loopw [10] (fun i wq => ∃ k : Nat, k ≤ l.length ∧ i = .int .i64 k ∧ Hid (Frame [] wo wq)) (fun i _ => l.length - (intOf i).toNat)
      case atStart => exact ⟨0, Nat.zero_le _, rfl, Lib.hid (Frame.refl _ _)⟩
      case round =>
        rename World => wq
        obtain ⟨k, hk, rfl, hF⟩ := hrel
        obtain ⟨rA, rC, rG', rb2, rsl, -, -⟩ := R0.out.frame0 hF.out
        have z0 := rb2.at 0 rfl
        by_cases hlt2 : k < l.length
        · have hg : l[k]? = some (l[k]) := by simp [hlt2]
          generalize l[k] = g at hg
          have hgate := gate_get_any pb F0 l left k g wq (S0.out.frame0 hF.out) hg
          have GT := Lib.hid hgate
          have HG := Lib.hid hg
          clear hgate hg rb2 rsl
          go_wp2_with fail
          refine GT.out.mono ?_
          rintro e w6 ⟨rfl, f6⟩
          have F6 := Lib.hid (hF.out.trans1 f6)
          obtain ⟨rA2, rC2, rG2, rb3, rsl3, -, -⟩ := R0.out.frame0 F6.out
          obtain ⟨b9, cap9, hq, -, -, hc⟩ := rsl3.cell gt_len HG.out
          simp only [Value.slice.injEq] at hq
          obtain ⟨rfl, -, rfl⟩ := hq
          have y0 := rb3.at 0 rfl
          obtain ⟨gk, ga, gb⟩ := g
          have d0 := hc 0 _ rfl
          have d1 := hc 1 _ rfl
          have d2 := hc 2 _ rfl
          simp only [Nat.add_zero] at d0
          have fal : ∀ o, Frame [] w6 (w6.alloc o) := fun o => Frame.alloc _ _ _
          have d0a : ∀ o, (w6.alloc o).cell? ⟨b9, k * 3, none⟩ = some (.int .i64 gk) := fun o => (fal o).cell d0 (by simp)
          have d1a : ∀ o, (w6.alloc o).cell? ⟨b9, k * 3 + 1, none⟩ = some (.int .i64 ga) := fun o => (fal o).cell d1 (by simp)
          have d2a : ∀ o, (w6.alloc o).cell? ⟨b9, k * 3 + 2, none⟩ = some (.int .i64 gb) := fun o => (fal o).cell d2 (by simp)
          clear fal
          have y0a : ∀ o, (w6.alloc o).cell? ⟨rb, 0, none⟩ = some (.slice (some ⟨b9, 0, none⟩) l.length rC2) := fun o => (rb3.alloc o).at 0 rfl
          clear hc rb3 rsl3 GT f6
          go_wp2_with fail
          go_quiet (fail)
          go_wp2_with fail
          go_roundw
          case rel => exact ⟨k + 1, by omega, by first | rfl | go_num, Lib.hid (F6.out.trans1 (by (repeat first | assumption | exact Frame.refl _ _ | refine Frame.trans1 ?_ (Frame.alloc _ _ _) | refine Frame.trans1 ?_ (Frame.drew _ _) | refine Frame.trans1 ?_ (Frame.drewN _ _ _))))⟩
          case measure => first | (simp [intOf]; done) | (simp [intOf]; omega)
        · obtain rfl : k = l.length := by omega
          have fq := hF.out
          have S1 := Lib.hid (S0.out.frame0 fq)
          have R1 := Lib.hid (R0.out.frame0 fq)
          have FQ := Lib.hid fq
          have L2 : Hid (l.length ≤ 1000000) := by show l.length ≤ 1000000; omega
          clear hF rb2 rsl fq
          cases hn : notG l.length r with
          | true =>
            have HGT := Lib.hid (gate_get_none (some ⟨pb, 0, none⟩) l.length r wq S1.out.lens hn)
            have HRE := Lib.hid (fun w' (f : Frame [] wq w') => reach_none pb F0 l left r w' (S1.out.frame0 f) hn)
            have HRR := Lib.hid (fun w' (f : Frame [] wq w') => rreach_none rb F0' l bud r w' (R1.out.frame0 f) hn)
            have HTO := Lib.hid (fun w' (f : Frame [] wq w') => tokens_none pb F0 l left r w' (S1.out.frame0 f) hn)
            have HTR := Lib.hid (fun w' (f : Frame [] wq w') => rtokens_none rb F0' l bud r w' (R1.out.frame0 f) hn)
            have HN := Lib.hid hn
            clear hn
            go_wp2_with fail
            refine HGT.out.mono ?_
            rintro e w6 ⟨rfl, f6⟩
            have F6 := Lib.hid f6
            clear f6
            go_wp2_with fail
            refine (ris_any (R1.out.frame0 (F6.out.trans1 (by (repeat first | assumption | exact Frame.refl _ _ | refine Frame.trans1 ?_ (Frame.alloc _ _ _) | refine Frame.trans1 ?_ (Frame.drew _ _) | refine Frame.trans1 ?_ (Frame.drewN _ _ _))))) r).mono ?_
            rintro e w7 ⟨rfl, f7⟩
            rw [HN.out, f7]
            clear HN f7
            have hq : ∀ w, (binOp .eql 39 (.agg #[.int .i64 0, .int .i64 0, .int .i64 0]) (.agg #[.int .i64 0, .int .i64 0, .int .i64 0])).run Try.prog w = .ok (.bool true) w := run_zero_eql
            have hq2 : ∀ w x y, (eqGuard .eql 39 x y (.agg #[.int .i64 0, .int .i64 0, .int .i64 0]) (.agg #[.int .i64 0, .int .i64 0, .int .i64 0])).run Try.prog w = .ok () w := fun w x y => eqGuard_gate _ _ _ _ w
            go_wp2_with fail
            clear hq hq2
            refine (HRE.out _ (F6.out.trans1 (by (repeat first | assumption | exact Frame.refl _ _ | refine Frame.trans1 ?_ (Frame.alloc _ _ _) | refine Frame.trans1 ?_ (Frame.drew _ _) | refine Frame.trans1 ?_ (Frame.drewN _ _ _))))).mono ?_
            rintro e w8 ⟨rfl, f8⟩
            have F8 := Lib.hid ((F6.out.trans1 (show Frame [] w6 _ from by (repeat first | assumption | exact Frame.refl _ _ | refine Frame.trans1 ?_ (Frame.alloc _ _ _) | refine Frame.trans1 ?_ (Frame.drew _ _) | refine Frame.trans1 ?_ (Frame.drewN _ _ _)))).trans1 f8)
            clear f8 F6
            go_wp2_with fail
            refine (HRR.out _ F8.out).mono ?_
            rintro e w9 ⟨rfl, f9⟩
            have F9 := Lib.hid (F8.out.trans1 f9)
            clear f9 F8
            go_wp2_with fail
            refine (ints_same w9 _ _ [] [] [] (Sl.nil _ _ _ _) (Sl.nil _ _ _ _) (by simp)).mono ?_
            rintro e w10 ⟨rfl, f10⟩
            have F10 := Lib.hid (F9.out.trans1 f10)
            clear f10 F9
            go_wp2_with fail
            refine (HTO.out _ F10.out).mono ?_
            rintro e w11 ⟨rfl, f11⟩
            have F11 := Lib.hid (F10.out.trans1 f11)
            clear f11 F10
            go_wp2_with fail
            refine (HTR.out _ F11.out).mono ?_
            rintro e w12 ⟨v2, G2, rfl, hs2, f12⟩
            have F12 := Lib.hid (And.intro (F11.out.trans1 f12) hs2)
            clear f12 F11 hs2
            go_wp2_with fail
            refine (ints_same w12 _ _ [] [] G2 (Sl.nil _ _ _ _) F12.out.2 (by simp)).mono ?_
            rintro e w13 ⟨rfl, f13⟩
            have F13 := Lib.hid (F12.out.1.trans1 f13)
            clear f13 F12
            go_wp2_with fail
            refine (awake13 _).mono ?_
            rintro e w14 ⟨rfl, f14⟩
            have F14 := Lib.hid (F13.out.trans1 f14)
            clear f14 F13
            go_wp2_with fail
            go_ret
            exact ⟨rfl, (W0.out.1.trans1 FQ.out).trans1 F14.out⟩
          | false =>
            obtain ⟨n, rfl⟩ : ∃ n : Nat, r = n := ⟨r.toNat, by simp [notG] at hn; omega⟩
            have hr : n < l.length := by simp [notG] at hn; omega
            have hI := W0.out.2.1
            have hKn := W0.out.2.2
            have hre := reach_nodup l n
            have hdd := tk_nodup hI hKn hre (fun j hj => by have := reach_lt hj; omega)
            have hgg : l[n]? = some l[n] := by simp [hr]
            generalize hgz : l[n] = g at hgg
            have HGT := Lib.hid (gate_get_any pb F0 l left n g wq S1.out hgg)
            have HRE := Lib.hid (fun w' (f : Frame [] wq w') => reach_any pb F0 l left n w' (S1.out.frame0 f) hI hr L2.out)
            have HRR := Lib.hid (fun w' (f : Frame [] wq w') => rreach_any rb F0' l bud n w' (R1.out.frame0 f) hI hKn.knd hr L2.out)
            have HTO := Lib.hid (fun w' (f : Frame [] wq w') => tokens_any pb F0 l left n w' (S1.out.frame0 f) hI hr L2.out)
            have HTR := Lib.hid (fun w' (f : Frame [] wq w') => rtokens_any rb F0' l bud n w' (R1.out.frame0 f) hI hKn.knd hr L2.out hdd)
            have hl1 : ((reach l n).map fun (j : Nat) => (j : Int)).length ≤ 1000000 := by
              have := reach_len l n
              have := L2.out
              rw [List.length_map]; omega
            have hl3 : ((tk l (reach l n)).mergeSort fun x y => decide (x ≤ y)).length ≤ 1000000 := by
              rw [List.length_mergeSort]
              unfold tk
              rw [List.length_map]
              have := List.length_filter_le (fun j => decide ((l[j]?).map Gt.k = some 3)) (reach l n)
              have := reach_len l n
              have := L2.out
              omega
            generalize (reach l n).map (fun (j : Nat) => (j : Int)) = rr at *
            generalize (tk l (reach l n)).mergeSort (fun x y => decide (x ≤ y)) = tt at *
            have HN := Lib.hid hn
            have HL1 := Lib.hid hl1
            have HL3 := Lib.hid hl3
            clear hn hI hKn hre hdd hgg hgz hl1 hl3 hr
            go_wp2_with fail
            refine HGT.out.mono ?_
            rintro e w6 ⟨rfl, f6⟩
            have F6 := Lib.hid f6
            clear f6
            go_wp2_with fail
            refine (ris_any (R1.out.frame0 (F6.out.trans1 (by (repeat first | assumption | exact Frame.refl _ _ | refine Frame.trans1 ?_ (Frame.alloc _ _ _) | refine Frame.trans1 ?_ (Frame.drew _ _) | refine Frame.trans1 ?_ (Frame.drewN _ _ _))))) (n : Int)).mono ?_
            rintro e w7 ⟨rfl, f7⟩
            rw [HN.out, f7]
            clear HN f7
            go_wp2_with fail
            refine (HRE.out _ (F6.out.trans1 (by (repeat first | assumption | exact Frame.refl _ _ | refine Frame.trans1 ?_ (Frame.alloc _ _ _) | refine Frame.trans1 ?_ (Frame.drew _ _) | refine Frame.trans1 ?_ (Frame.drewN _ _ _))))).mono ?_
            rintro e w8 ⟨v1, G1, rfl, s1, f8, -⟩
            have F8 := Lib.hid (And.intro ((F6.out.trans1 (show Frame [] w6 _ from by (repeat first | assumption | exact Frame.refl _ _ | refine Frame.trans1 ?_ (Frame.alloc _ _ _) | refine Frame.trans1 ?_ (Frame.drew _ _) | refine Frame.trans1 ?_ (Frame.drewN _ _ _)))).trans1 f8) s1)
            clear f8 F6 s1
            go_wp2_with fail
            refine (HRR.out _ F8.out.1).mono ?_
            rintro e w9 ⟨v2, G2, rfl, s2, f9, -⟩
            have F9 := Lib.hid (And.intro (F8.out.1.trans1 f9) (And.intro (F8.out.2.frame0 f9) s2))
            clear f9 F8 s2
            go_wp2_with fail
            refine (ints_same w9 v1 v2 rr G1 G2 F9.out.2.1 F9.out.2.2 HL1.out).mono ?_
            rintro e w10 ⟨rfl, f10⟩
            have F10 := Lib.hid (F9.out.1.trans1 f10)
            clear f10 F9
            go_wp2_with fail
            refine (HTO.out _ F10.out).mono ?_
            rintro e w11 ⟨v3, G3, rfl, s3, f11⟩
            have F11 := Lib.hid (And.intro (F10.out.trans1 f11) s3)
            clear f11 F10 s3
            go_wp2_with fail
            refine (HTR.out _ F11.out.1).mono ?_
            rintro e w12 ⟨v4, G4, rfl, s4, f12⟩
            have F12 := Lib.hid (And.intro (F11.out.1.trans1 f12) (And.intro (F11.out.2.frame0 f12) s4))
            clear f12 F11 s4
            go_wp2_with fail
            refine (ints_same w12 v3 v4 tt G3 G4 F12.out.2.1 F12.out.2.2 HL3.out).mono ?_
            rintro e w13 ⟨rfl, f13⟩
            have F13 := Lib.hid (F12.out.1.trans1 f13)
            clear f13 F12
            go_wp2_with fail
            refine (awake13 _).mono ?_
            rintro e w14 ⟨rfl, f14⟩
            have F14 := Lib.hid (F13.out.trans1 f14)
            clear f14 F13
            go_wp2_with fail
            go_ret
            exact ⟨rfl, (W0.out.1.trans1 FQ.out).trans1 F14.out⟩
end Go.Proofs.Ytolkmapdbilolaa
