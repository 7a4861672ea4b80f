/- The reference's Tokens, walked. -/
import Derived.Test.YtolkmapdbilolaaRReach
import Derived.Test.YtolkmapdbilolaaRsorted
namespace Go.Proofs.Ytolkmapdbilolaa
open Go.RowKit
set_option linter.unusedSimpArgs false
set_option linter.unusedVariables false

set_option maxHeartbeats 4000000 in
set_option maxRecDepth 100000 in
theorem rtokens_any (pb : Nat) (F : List Nat) (l : List Gt) (bud : Int) (root : Nat) (w : World) (h : RSt w pb F l bud) (hI : Inv l) (hK : Knd l) (hr : root < l.length) (hlen : l.length ≤ 1000000) (hd : (tk l (reach l root)).Nodup) :
    Calls Try.prog 59 #[.pointer (some ⟨pb, 0, none⟩), .int .i64 root] w fun e w' => ∃ v G, e = .returned v ∧ Sl w' 3 1 encI v ((tk l (reach l root)).mergeSort fun x y => decide (x ≤ y)) G ∧ Frame [] w w' := by
  have hre := rreach_any pb F l bud root w h hI hK hr hlen
  have hRl := reach_len l root
  have hRm : ∀ j ∈ reach l root, j < l.length := fun j hj => by have := reach_lt hj; omega
  generalize reach l root = R at *
  have RE := Lib.hid hre
  have RM := Lib.hid hRm
  have H := Lib.hid h
  have HD := Lib.hid hd
  clear hre hRm h hI hK hd
  go_enter Try.func59, Try.ntmps59
  go_wp2_with fail
  refine RE.out.mono ?_
  rintro e w1 ⟨v, G0, rfl, s1, f1, hG0⟩
  obtain ⟨va, vcap, hv⟩ := s1.form
  subst hv
  rw [List.length_map] at s1 ⊢
  have S1 := Lib.hid s1
  have F1 := Lib.hid f1
  clear s1 f1 hG0 RE
  go_wp2_with fail
  go_loopw [5, 7] (fun v i wr => ∃ t : Nat, t ≤ R.length ∧ i = .int .i64 t ∧ Hid (Frame [] w1 wr ∧ ∃ G, Sl wr 3 1 encI v (tk l (R.take t)) G ∧ ∀ x ∈ G, w1.heap.size ≤ x)) (fun _ i _ => (R.length - intOf i).toNat)
  case atStart => exact ⟨0, Nat.zero_le _, rfl, Lib.hid ⟨Frame.refl _ _, [], by simpa [tk] using Sl.nil _ _ _ _, by simp⟩⟩
  case round =>
    rename World => wo
    obtain ⟨t, ht, rfl, hR⟩ := hrel
    by_cases hlt : t < R.length
    · have hj : R[t]? = some (R[t]) := by simp [hlt]
      have hjm := RM.out R[t] (List.getElem_mem hlt)
      generalize R[t] = j at hj hjm
      have hg : l[j]? = some (l[j]'hjm) := by simp
      generalize l[j]'hjm = g at hg
      obtain ⟨fr, G, sl, hG⟩ := hR.out
      obtain ⟨b9, cap9, hq, -, -, hc⟩ := (S1.out.frame0 fr).cell encI_len (k := t) (x := (j : Int)) (by simp [hj])
      simp only [Value.slice.injEq, List.length_map] at hq
      obtain ⟨rfl, -, rfl⟩ := hq
      have r0 := hc 0 _ rfl
      simp only [Nat.mul_one, Nat.add_zero] at r0
      obtain ⟨a1, c1, G1, hb1, sl1, n1, -⟩ := H.out.frame0 (F1.out.trans1 fr)
      obtain ⟨b8, cap8, hq8, -, hb8, hc8⟩ := sl1.cell gt_len hg
      simp only [Value.slice.injEq] at hq8
      obtain ⟨rfl, -, rfl⟩ := hq8
      have c0 := hb1.at 0 rfl
      obtain ⟨gk, ga, gb⟩ := g
      have d0 := hc8 0 _ rfl
      have d1 := hc8 1 _ rfl
      simp only [Nat.add_zero] at d0
      obtain ⟨vA, vc, hv⟩ := sl.form
      subst hv
      have hol := tk_len l (R.take t)
      rw [List.length_take] at hol
      generalize hoe : (tk l (R.take t)).length = ol at *
      have HOL := Lib.hid hoe
      have HJ := Lib.hid (And.intro hj hg)
      have SL := Lib.hid (And.intro sl (And.intro fr hG))
      clear hj hg hc hc8 fr sl hG hb1 sl1 n1 hoe
      by_cases k3 : gk = 3
      · subst k3
        go_wp2_with fail
        go_quiet (fail)
        go_wp2_with fail
        go_region_law (refine step_append_sl _ (by rfl) (.tmp 29) (.tmp 41) 32 (by rfl) 3 1 8 _ encI Try.underlying32 infoInt rfl (by omega) (.slice vA ol vc) (tk l (R.take t)) ol HOL.out G (by rfl) (SL.out.1.frame0 (by (repeat first | assumption | exact Frame.refl _ _ | refine Frame.trans1 ?_ (Frame.alloc _ _ _) | refine Frame.trans1 ?_ (Frame.drew _ _) | refine Frame.trans1 ?_ (Frame.drewN _ _ _)))) _ 1 1 [ga] _ (by rfl) (by first | exact Blk.new _ _ _ | exact (Blk.new _ _ _).drew) rfl rfl encI_len encI_one (by omega) (by have := HOL.out; omega) (by omega) ?_; intro b' cap' w4 sl4 f4 hb4; have f4w : Frame G wo w4 := (show Frame G wo _ from by (repeat first | assumption | exact Frame.refl _ _ | refine Frame.trans1 ?_ (Frame.alloc _ _ _) | refine Frame.trans1 ?_ (Frame.drew _ _) | refine Frame.trans1 ?_ (Frame.drewN _ _ _))).trans1 f4; have R4 := Lib.hid (And.intro sl4 (And.intro f4w hb4)); clear sl4 f4w f4 hb4)
        all_goals
          go_wp2_with fail
          go_roundw
          case rel =>
            refine ⟨t + 1, by omega, by first | rfl | go_num, Lib.hid ⟨(SL.out.2.1.trans R4.out.2.1 (fun x hx => .inr (SL.out.2.2 x hx))).trans1 (by (repeat first | assumption | exact Frame.refl _ _ | refine Frame.trans1 ?_ (Frame.alloc _ _ _) | refine Frame.trans1 ?_ (Frame.drew _ _) | refine Frame.trans1 ?_ (Frame.drewN _ _ _))), [b'], by rw [tk_yes HJ.out.1 HJ.out.2 rfl]; exact R4.out.1.frame0 (by (repeat first | assumption | exact Frame.refl _ _ | refine Frame.trans1 ?_ (Frame.alloc _ _ _) | refine Frame.trans1 ?_ (Frame.drew _ _) | refine Frame.trans1 ?_ (Frame.drewN _ _ _))), ?_⟩⟩
            intro x hx
            simp at hx
            subst hx
            rcases R4.out.2.2 with hb | hb
            · exact SL.out.2.2 _ hb
            · have e1 := SL.out.2.1.size
              simp at hb
              omega
          case measure => first | (simp [intOf]; done) | (simp [intOf]; omega)
      · have q3 : (gk == 3) = false := by simp [k3]
        have KK := Lib.hid k3
        clear k3
        go_wp2_with fail
        go_quiet (fail)
        go_wp2_with fail
        go_roundw
        case rel =>
          refine ⟨t + 1, by omega, by first | rfl | go_num, Lib.hid ⟨SL.out.2.1.trans1 (by (repeat first | assumption | exact Frame.refl _ _ | refine Frame.trans1 ?_ (Frame.alloc _ _ _) | refine Frame.trans1 ?_ (Frame.drew _ _) | refine Frame.trans1 ?_ (Frame.drewN _ _ _))), G, by rw [tk_no HJ.out.1 HJ.out.2 KK.out]; exact SL.out.1.frame0 (by (repeat first | assumption | exact Frame.refl _ _ | refine Frame.trans1 ?_ (Frame.alloc _ _ _) | refine Frame.trans1 ?_ (Frame.drew _ _) | refine Frame.trans1 ?_ (Frame.drewN _ _ _))), SL.out.2.2⟩⟩
        case measure => first | (simp [intOf]; done) | (simp [intOf]; omega)
    · obtain rfl : t = R.length := by omega
      obtain ⟨fr, G, sl, hG⟩ := hR.out
      rw [List.take_length] at sl
      have hol := tk_len l R
      have hso := rsorted_any _ _ _ G sl HD.out (by omega)
      have SO := Lib.hid hso
      have HF := Lib.hid (F1.out.trans1 fr)
      clear hso sl fr hG hR
      go_wp2_with fail
      refine SO.out.mono ?_
      rintro e w5 ⟨v5, G5, rfl, s5, f5⟩
      have S5 := Lib.hid (And.intro s5 f5)
      clear s5 f5
      go_wp2_with fail
      go_ret
      exact ⟨_, G5, rfl, S5.out.1, HF.out.trans1 S5.out.2⟩
end Go.Proofs.Ytolkmapdbilolaa
