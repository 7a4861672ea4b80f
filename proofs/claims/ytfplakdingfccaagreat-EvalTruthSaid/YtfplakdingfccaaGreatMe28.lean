/- The reference's Sorted at rows without twins, walked. -/
import Derived.Test.YtfplakdingfccaaGreatMe27
namespace Go.Proofs.YtfplakdingfccaaGreat
open Go.RowKit
set_option linter.unusedSimpArgs false
set_option linter.unusedVariables false

theorem shift_set {S : List Int} {k : Nat} {u y : Int} (hy : S[k]? = some y) : (S.take (k + 1) ++ u :: S.drop (k + 1)).set (k + 1) y = S.take k ++ y :: S.drop k := by
  obtain ⟨hk, e⟩ := List.getElem?_eq_some_iff.mp hy
  have hl : (S.take (k + 1)).length = k + 1 := by rw [List.length_take]; omega
  rw [List.set_append_right _ _ (by omega), hl, Nat.sub_self, List.set_cons_zero, take_one hy, List.append_assoc, List.drop_eq_getElem_cons hk, e]
  rfl
theorem last_set {S : List Int} {k : Nat} {u y : Int} (hk : k ≤ S.length) : (S.take k ++ u :: S.drop k).set k y = S.take k ++ y :: S.drop k := by
  have hl : (S.take k).length = k := by rw [List.length_take]; omega
  rw [List.set_append_right _ _ (by omega), hl, Nat.sub_self, List.set_cons_zero]
theorem last_at {S : List Int} {k : Nat} {u y : Int} (hy : S[k]? = some y) : (S.take (k + 1) ++ u :: S.drop (k + 1))[k]? = some y := by
  obtain ⟨hk, e⟩ := List.getElem?_eq_some_iff.mp hy
  rw [List.getElem?_append_left (by rw [List.length_take]; omega), List.getElem?_take, if_pos (by omega), hy]

set_option maxHeartbeats 4000000 in
set_option maxRecDepth 100000 in
theorem rsorted_any (w : World) (v : Value) (xs : List Int) (G0 : List Nat) (h : Sl w 3 1 encI v xs G0) (hd : xs.Nodup) (hl : xs.length ≤ 1000000) :
    Calls Tryz.prog 113 #[v] w fun e w' => ∃ v' G, e = .returned v' ∧ Sl w' 3 1 encI v' (xs.mergeSort fun x y => decide (x ≤ y)) G ∧ Frame [] w w' := by
  obtain ⟨va, ca, hv⟩ := h.form
  subst hv
  have H := Lib.hid h
  have HD := Lib.hid hd
  clear h hd
  have hall := sm_all xs
  rw [← hall]
  clear hall
  generalize hn : xs.length = n at *
  have HN := Lib.hid hn
  go_enter Tryz.func113, Tryz.ntmps113
  go_wp2_with fail
  go_loopw [3, 4] (fun v i wr => ∃ t : Nat, t ≤ n ∧ i = .int .i64 t ∧ Hid (Frame [] w wr ∧ ∃ G, Sl wr 3 1 encI v (sm xs t) G ∧ ∀ x ∈ G, w.heap.size ≤ x)) (fun _ i _ => (n - intOf i).toNat)
  case atStart => exact ⟨0, Nat.zero_le _, rfl, Lib.hid ⟨Frame.refl _ _, [], by rw [sm_zero]; exact Sl.nil _ _ _ _, by simp⟩⟩
  case round =>
    rename World => wo
    obtain ⟨t, ht, rfl, hR⟩ := hrel
    by_cases hlt : t < n
    · have hx : xs[t]? = some (xs[t]'(by omega)) := by simp [hn, hlt]
      generalize xs[t]'(by omega) = x at hx
      obtain ⟨fr, G, sl, hG⟩ := hR.out
      have hno := sm_no HD.out hx
      obtain ⟨b1, c1, hq1, -, -, k1⟩ := (H.out.frame0 fr).cell encI_len hx
      simp only [Value.slice.injEq] at hq1
      obtain ⟨rfl, -, rfl⟩ := hq1
      have r1 := k1 0 _ rfl
      simp only [Nat.mul_one, Nat.add_zero] at r1
      obtain ⟨vA, vc, hv⟩ := sl.form
      subst hv
      have hol := sm_len (xs := xs) (i := t) (by omega)
      rw [hol] at sl ⊢
      have SL := Lib.hid (And.intro sl (And.intro fr hG))
      have HX := Lib.hid (And.intro hx hno)
      have HOL := Lib.hid hol
      clear sl fr hG hx hno k1 hol hn
      go_wp2_with fail
      go_loopw [5] (fun a w2 => ∃ at' : Nat, at' ≤ t ∧ a = .int .i64 at' ∧ Hid (Frame [] wo w2 ∧ ∀ j y, at' ≤ j → (sm xs t)[j]? = some y → x < y)) (fun a _ => (intOf a).toNat)
      case atStart => exact ⟨t, Nat.le_refl _, rfl, Lib.hid ⟨Frame.refl _ _, fun j y hj hy => by
        obtain ⟨hj2, -⟩ := List.getElem?_eq_some_iff.mp hy
        have := HOL.out; omega⟩⟩
      case round =>
        rename World => w2
        obtain ⟨at', hat, rfl, HA⟩ := hrel
        cases at' with
        | zero =>
          go_wp2_with fail
          go_quiet (fail)
          go_wp2_with fail
          go_quiet (fail)
          go_wp2_with (at_builtin; refine wpList_append_sl _ rfl (.tmp 45) (.tmp 46) 50 rfl 3 1 8 _ encI Tryz.underlying50 infoInt rfl (by omega) (.slice vA t vc) (sm xs t) G rfl ((SL.out.1.frame0 HA.out.1).frame0 (by (repeat first | assumption | exact Frame.refl _ _ | refine Frame.trans1 ?_ (Frame.alloc _ _ _) | refine Frame.trans1 ?_ (Frame.drew _ _) | refine Frame.trans1 ?_ (Frame.drewN _ _ _)))) _ 1 1 [(0 : Int)] _ rfl (Blk.new _ _ _) rfl rfl encI_len encI_one (by omega) (by have := HOL.out; omega) (by omega) ?_; rw [HOL.out]; intro b' cap' w4 sl4 f4 hb4; have f4w : Frame G w2 w4 := (show Frame G w2 _ from by (repeat first | assumption | exact Frame.refl _ _ | refine Frame.trans1 ?_ (Frame.alloc _ _ _) | refine Frame.trans1 ?_ (Frame.drew _ _) | refine Frame.trans1 ?_ (Frame.drewN _ _ _))).trans1 f4; have R4 := Lib.hid (And.intro sl4 (And.intro (show Frame G wo w4 from (HA.out.1.mono (by simp)).trans1 f4w) hb4)); clear sl4 f4w f4 hb4)
          have hb4 : w.heap.size ≤ b' := by
            rcases R4.out.2.2 with hb | hb
            · exact SL.out.2.2 _ hb
            · rw [hb]
              have e1 := SL.out.2.1.size
              have e2 := HA.out.1.size
              rw [show ∀ (a : World) o, (a.alloc o).heap.size = a.heap.size + 1 from fun _ _ => Array.size_push ..]
              simp only [World.drewN, World.drew] at *
              omega
          have FW := Lib.hid (SL.out.2.1.trans R4.out.2.1 (fun x hx => .inr (SL.out.2.2 x hx)))
          have HB := Lib.hid hb4
          have hS4 := R4.out.1
          have S4 := Lib.hid hS4
          clear hb4 hS4
          go_loopw [6] (fun kv w3 => ∃ (k : Nat) (u : Int), 0 ≤ k ∧ k ≤ t ∧ kv = .int .i64 k ∧ Hid (Frame [b'] w4 w3 ∧ Sl w3 3 1 encI (.slice (some ⟨b', 0, none⟩) (t + 1) cap') ((sm xs t).take k ++ u :: (sm xs t).drop k) [b'])) (fun kv _ => (intOf kv).toNat)
          case atStart =>
            refine ⟨t, 0, by omega, Nat.le_refl _, by first | rfl | go_num, Lib.hid ⟨Frame.refl _ _, ?_⟩⟩
            have e : (sm xs t).take t ++ 0 :: (sm xs t).drop t = sm xs t ++ [0] := by
              rw [List.take_of_length_le (by rw [HOL.out]; exact Nat.le_refl _), List.drop_of_length_le (by rw [HOL.out]; exact Nat.le_refl _)]
            rw [e]; exact S4.out
          case round =>
            obtain ⟨k, u, hk1, hk2, rfl, hK⟩ := hrel
            by_cases hka : k = 0
            · have r9 := ((H.out.frame0 (FW.out.trans hK.out.1 (fun x hx => .inr (by simp at hx; rw [hx]; exact HB.out)))).cell encI_len HX.out.1)
              obtain ⟨b9, c9, hq9, -, -, k9⟩ := r9
              simp only [Value.slice.injEq, Option.some.injEq, Addr.mk.injEq] at hq9
              obtain ⟨⟨rfl, -⟩, -, rfl⟩ := hq9
              have r9 := k9 0 _ rfl
              simp only [Nat.mul_one, Nat.add_zero] at r9
              have z1 := hK.out.2.frozenI 0
              have z2 := hK.out.2.atI (k := 0) (x := u) (by rw [hka, List.getElem?_append_right (by rw [List.length_take]; omega), List.length_take, HOL.out, show 0 - min 0 t = 0 by omega]; rfl)
              subst hka
              clear k9
              go_wp2_with fail
              go_roundw
              case rel =>
                refine ⟨t + 1, by omega, by first | rfl | go_num, Lib.hid ⟨(FW.out.trans hK.out.1 (fun x hx => .inr (by simp at hx; rw [hx]; exact HB.out))).trans (Frame.setCell (S := [b']) _ _ _ (by simp)) (fun x hx => .inr (by simp at hx; rw [hx]; exact HB.out)), [b'], ?_, by simp [HB.out]⟩⟩
                have := hK.out.2.setI 0 x
                rw [last_set (by rw [HOL.out]; omega), sm_put HX.out.1 (by omega) HA.out.2 (fun z hz h0 => absurd h0 (by omega))] at this
                exact this
              case measure => first | (simp [intOf]; done) | (simp [intOf]; omega)
            · obtain ⟨k', rfl⟩ : ∃ k', k = k' + 1 := ⟨k - 1, by omega⟩
              have hy : (sm xs t)[k']? = some ((sm xs t)[k']'(by rw [HOL.out]; omega)) := by simp
              generalize (sm xs t)[k']'(by rw [HOL.out]; omega) = y9 at hy
              have z1 := hK.out.2.frozenI (k' + 1)
              have z2 := hK.out.2.atI (last_at hy)
              have z3 := hK.out.2.atI (k := k' + 1) (x := u) (by rw [List.getElem?_append_right (by rw [List.length_take]; omega), List.length_take, HOL.out, show k' + 1 - min (k' + 1) t = 0 by omega]; rfl)
              have HY := Lib.hid hy
              clear hy
              go_wp2_with fail
              go_roundw
              case rel =>
                refine ⟨k', y9, by omega, by omega, by first | rfl | go_num, Lib.hid ⟨hK.out.1.trans1 (Frame.setCell _ _ _ (by simp)), ?_⟩⟩
                have := hK.out.2.setI (k' + 1) y9
                rw [shift_set HY.out] at this
                exact this
              case measure => first | (simp [intOf]; done) | (simp [intOf]; omega)
        | succ a =>
          have hy : (sm xs t)[a]? = some ((sm xs t)[a]'(by rw [HOL.out]; omega)) := by simp
          generalize (sm xs t)[a]'(by rw [HOL.out]; omega) = y at hy
          obtain ⟨b2, c2, hq2, hG2, -, k2⟩ := (SL.out.1.frame0 HA.out.1).cell encI_len hy
          simp only [Value.slice.injEq] at hq2
          obtain ⟨rfl, -, rfl⟩ := hq2
          have r2 := k2 0 _ rfl
          simp only [Nat.mul_one, Nat.add_zero] at r2
          obtain ⟨b3, c3, hq3, -, -, k3⟩ := (H.out.frame0 (SL.out.2.1.trans1 HA.out.1)).cell encI_len HX.out.1
          simp only [Value.slice.injEq, Option.some.injEq, Addr.mk.injEq] at hq3
          obtain ⟨⟨rfl, -⟩, -, rfl⟩ := hq3
          have r3 := k3 0 _ rfl
          simp only [Nat.mul_one, Nat.add_zero] at r3
          have HY := Lib.hid hy
          have hyx : y ≠ x := fun e => HX.out.2 (e ▸ List.mem_of_getElem? hy)
          clear k2 k3 hy
          by_cases hlt2 : x < y
          · clear hyx
            go_wp2_with fail
            go_quiet (fail)
            go_wp2_with fail
            go_roundw
            case rel =>
              refine ⟨a, by omega, by first | rfl | go_num, Lib.hid ⟨HA.out.1.trans1 (by (repeat first | assumption | exact Frame.refl _ _ | refine Frame.trans1 ?_ (Frame.alloc _ _ _) | refine Frame.trans1 ?_ (Frame.drew _ _) | refine Frame.trans1 ?_ (Frame.drewN _ _ _))), fun j z hj hz => ?_⟩⟩
              by_cases hja : j = a
              · subst hja
                rw [HY.out] at hz
                cases hz
                exact hlt2
              · exact HA.out.2 j z (by omega) hz
            case measure => first | (simp [intOf]; done) | (simp [intOf]; omega)
          · have hd1 : decide (x < y) = false := by simp [hlt2]
            have hd2 : (y == x) = false := by simp [hyx]
            have HLE := Lib.hid (show ∀ z, (sm xs t)[a + 1 - 1]? = some z → 0 < a + 1 → z ≤ x from fun z hz _ => by
              rw [Nat.add_sub_cancel, HY.out] at hz
              cases hz; omega)
            clear hyx hlt2
            go_wp2_with fail
            go_quiet (fail)
            go_wp2_with fail
            go_quiet (fail)
            go_wp2_with (at_builtin; refine wpList_append_sl _ rfl (.tmp 45) (.tmp 46) 50 rfl 3 1 8 _ encI Tryz.underlying50 infoInt rfl (by omega) (.slice (some ⟨b2, 0, none⟩) t vc) (sm xs t) G rfl ((SL.out.1.frame0 HA.out.1).frame0 (by (repeat first | assumption | exact Frame.refl _ _ | refine Frame.trans1 ?_ (Frame.alloc _ _ _) | refine Frame.trans1 ?_ (Frame.drew _ _) | refine Frame.trans1 ?_ (Frame.drewN _ _ _)))) _ 1 1 [(0 : Int)] _ rfl (Blk.new _ _ _) rfl rfl encI_len encI_one (by omega) (by have := HOL.out; omega) (by omega) ?_; rw [HOL.out]; intro b' cap' w4 sl4 f4 hb4; have f4w : Frame G w2 w4 := (show Frame G w2 _ from by (repeat first | assumption | exact Frame.refl _ _ | refine Frame.trans1 ?_ (Frame.alloc _ _ _) | refine Frame.trans1 ?_ (Frame.drew _ _) | refine Frame.trans1 ?_ (Frame.drewN _ _ _))).trans1 f4; have R4 := Lib.hid (And.intro sl4 (And.intro (show Frame G wo w4 from (HA.out.1.mono (by simp)).trans1 f4w) hb4)); clear sl4 f4w f4 hb4)
            have hb4 : w.heap.size ≤ b' := by
              rcases R4.out.2.2 with hb | hb
              · exact SL.out.2.2 _ hb
              · rw [hb]
                have e1 := SL.out.2.1.size
                have e2 := HA.out.1.size
                rw [show ∀ (a : World) o, (a.alloc o).heap.size = a.heap.size + 1 from fun _ _ => Array.size_push ..]
                simp only [World.drewN, World.drew] at *
                omega
            have FW := Lib.hid (SL.out.2.1.trans R4.out.2.1 (fun x hx => .inr (SL.out.2.2 x hx)))
            have HB := Lib.hid hb4
            have hS4 := R4.out.1
            have S4 := Lib.hid hS4
            clear hb4 hS4
            go_loopw [6] (fun kv w3 => ∃ (k : Nat) (u : Int), (a + 1) ≤ k ∧ k ≤ t ∧ kv = .int .i64 k ∧ Hid (Frame [b'] w4 w3 ∧ Sl w3 3 1 encI (.slice (some ⟨b', 0, none⟩) (t + 1) cap') ((sm xs t).take k ++ u :: (sm xs t).drop k) [b'])) (fun kv _ => (intOf kv).toNat)
            case atStart =>
              refine ⟨t, 0, by omega, Nat.le_refl _, by first | rfl | go_num, Lib.hid ⟨Frame.refl _ _, ?_⟩⟩
              have e : (sm xs t).take t ++ 0 :: (sm xs t).drop t = sm xs t ++ [0] := by
                rw [List.take_of_length_le (by rw [HOL.out]; exact Nat.le_refl _), List.drop_of_length_le (by rw [HOL.out]; exact Nat.le_refl _)]
              rw [e]; exact S4.out
            case round =>
              obtain ⟨k, u, hk1, hk2, rfl, hK⟩ := hrel
              by_cases hka : k = (a + 1)
              · have r9 := ((H.out.frame0 (FW.out.trans hK.out.1 (fun x hx => .inr (by simp at hx; rw [hx]; exact HB.out)))).cell encI_len HX.out.1)
                obtain ⟨b9, c9, hq9, -, -, k9⟩ := r9
                simp only [Value.slice.injEq, Option.some.injEq, Addr.mk.injEq] at hq9
                obtain ⟨⟨rfl, -⟩, -, rfl⟩ := hq9
                have r9 := k9 0 _ rfl
                simp only [Nat.mul_one, Nat.add_zero] at r9
                have z1 := hK.out.2.frozenI (a + 1)
                have z2 := hK.out.2.atI (k := (a + 1)) (x := u) (by rw [hka, List.getElem?_append_right (by rw [List.length_take]; omega), List.length_take, HOL.out, show (a + 1) - min (a + 1) t = 0 by omega]; rfl)
                subst hka
                clear k9
                go_wp2_with fail
                go_roundw
                case rel =>
                  refine ⟨t + 1, by omega, by first | rfl | go_num, Lib.hid ⟨(FW.out.trans hK.out.1 (fun x hx => .inr (by simp at hx; rw [hx]; exact HB.out))).trans (Frame.setCell (S := [b']) _ _ _ (by simp)) (fun x hx => .inr (by simp at hx; rw [hx]; exact HB.out)), [b'], ?_, by simp [HB.out]⟩⟩
                  have := hK.out.2.setI (a + 1) x
                  rw [last_set (by rw [HOL.out]; omega), sm_put HX.out.1 (by omega) HA.out.2 HLE.out] at this
                  exact this
                case measure => first | (simp [intOf]; done) | (simp [intOf]; omega)
              · obtain ⟨k', rfl⟩ : ∃ k', k = k' + 1 := ⟨k - 1, by omega⟩
                have hy : (sm xs t)[k']? = some ((sm xs t)[k']'(by rw [HOL.out]; omega)) := by simp
                generalize (sm xs t)[k']'(by rw [HOL.out]; omega) = y9 at hy
                have z1 := hK.out.2.frozenI (k' + 1)
                have z2 := hK.out.2.atI (last_at hy)
                have z3 := hK.out.2.atI (k := k' + 1) (x := u) (by rw [List.getElem?_append_right (by rw [List.length_take]; omega), List.length_take, HOL.out, show k' + 1 - min (k' + 1) t = 0 by omega]; rfl)
                have HY := Lib.hid hy
                clear hy
                go_wp2_with fail
                go_roundw
                case rel =>
                  refine ⟨k', y9, by omega, by omega, by first | rfl | go_num, Lib.hid ⟨hK.out.1.trans1 (Frame.setCell _ _ _ (by simp)), ?_⟩⟩
                  have := hK.out.2.setI (k' + 1) y9
                  rw [shift_set HY.out] at this
                  exact this
                case measure => first | (simp [intOf]; done) | (simp [intOf]; omega)
    · obtain rfl : t = n := by omega
      obtain ⟨fr, G, sl, hG⟩ := hR.out
      have HF := Lib.hid (And.intro sl fr)
      clear sl fr hG hR
      go_wp2_with fail
      go_ret
      exact ⟨_, G, rfl, HF.out.1, HF.out.2⟩
end Go.Proofs.YtfplakdingfccaaGreat

