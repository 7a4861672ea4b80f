/- The reference's Sorted, at whatever row. (printed by gen_sorti.py) -/
import Derived.Test.YtbnhhmejlglbcaaGreatMa27
import Derived.Test.YtbnhhmejlglbcaaGreatMa37
import Derived.Test.YtbnhhmejlglbcaaGreatMa30
import Derived.IntWalk
import Derived.BigQuiet
namespace Go.Proofs.YtbnhhmejlglbcaaGreat
open Go.RowKit
set_option linter.unusedSimpArgs false
set_option linter.unusedVariables false

theorem srtI_snoc (l : List Int) (x : Int) : srtI (l ++ [x]) = insI (srtI l) x := by simp [srtI]
theorem srtI_next {l : List Int} {k : Nat} {x : Int} (h : l[k]? = some x) : srtI (l.take (k + 1)) = insI (srtI (l.take k)) x := by
  have e : l.take (k + 1) = l.take k ++ [x] := by
    obtain ⟨hk, rfl⟩ := List.getElem?_eq_some_iff.1 h
    rw [List.take_succ_eq_append_getElem hk]
  rw [e, srtI_snoc]
theorem insI_put {out : List Int} {x : Int} {k : Nat} (hu : Up out) (hk : k ≤ out.length) (h1 : ∀ j z, k ≤ j → out[j]? = some z → x < z) (h2 : ∀ m z, k = m + 1 → out[m]? = some z → z < x) : insI out x = out.take k ++ x :: out.drop k := by
  have hall : ∀ i z, i < k → out[i]? = some z → z < x := fun i z hi hz => by
    cases k with
    | zero => omega
    | succ m =>
      have hm : m < out.length := by omega
      have hl := h2 m out[m] rfl (by simp)
      obtain ⟨hi2, rfl⟩ := List.getElem?_eq_some_iff.1 hz
      rcases Nat.lt_or_ge i m with h | h
      · have := List.pairwise_iff_getElem.1 hu i m hi2 hm h
        omega
      · obtain rfl : i = m := by omega
        exact hl
  have hr : rank out x = k := rank_of hk (fun i h hik => hall i out[i] hik (by simp)) (fun i h hik => by
    have := h1 i out[i] hik (by simp)
    omega)
  have hm : x ∉ out := fun hx => by
    obtain ⟨i, hi, e⟩ := List.getElem_of_mem hx
    rcases Nat.lt_or_ge i k with h | h
    · have := hall i out[i] h (by simp); omega
    · have := h1 i out[i] h (by simp); omega
  unfold insI
  rw [if_neg hm, hr]
theorem insI_has {out : List Int} {x : Int} (h : x ∈ out) : insI out x = out := by unfold insI; rw [if_pos h]
theorem int_ways (x y : Int) : (decide (x < y) = true ∧ x < y ∧ (y == x) = false) ∨ (decide (x < y) = false ∧ y < x ∧ (y == x) = false) ∨ (decide (x < y) = false ∧ x = y ∧ (y == x) = true) := by
  rcases (by omega : x < y ∨ y < x ∨ x = y) with h | h | h
  · exact .inl ⟨decide_eq_true h, h, by rw [beq_eq_false_iff_ne]; omega⟩
  · exact .inr (.inl ⟨decide_eq_false (by omega), h, by rw [beq_eq_false_iff_ne]; omega⟩)
  · exact .inr (.inr ⟨decide_eq_false (by omega), h, by rw [h]; simp⟩)
theorem flat_int (xs : List Int) : xs.flatMap encI = xs.map (Value.int .i64) := by
  induction xs with
  | nil => rfl
  | cons x t ih => simp [List.flatMap_cons, ih, encI]
theorem Sl.setZ {w : World} {b n cap : Nat} {xs : List Int} (h : Sl w 3 1 encI (.slice (some ⟨b, 0, none⟩) n cap) xs [b]) (k : Nat) (x : Int) : Sl (w.setCell ⟨b, k, none⟩ (.int .i64 x)) 3 1 encI (.slice (some ⟨b, 0, none⟩) n cap) (xs.set k x) [b] := by
  rcases h with ⟨h1, _⟩ | ⟨b', cap', h1, h2, hr⟩
  · simp at h1
  · simp only [Value.slice.injEq, Option.some.injEq, Addr.mk.injEq] at h1
    obtain ⟨⟨rfl, -⟩, rfl, rfl⟩ := h1
    refine .inr ⟨b, cap, by simp, rfl, ?_⟩
    obtain ⟨cs, g1, g2, g3, g4, g5⟩ := RowAt.blk hr
    rw [List.length_set]
    refine RowAt.of_blk (g1.set _ _) g2 g3 (by simpa using g4) ?_
    rw [Array.toList_setIfInBounds, List.take_set, g5, flat_int, flat_int, List.map_set]
theorem Sl.frozenZ {w : World} {b n cap : Nat} {xs : List Int} (h : Sl w 3 1 encI (.slice (some ⟨b, 0, none⟩) n cap) xs [b]) (k : Nat) : w.frozen? ⟨b, k, none⟩ = false := by
  rcases h with ⟨h1, _⟩ | ⟨b', cap', h1, h2, hr⟩
  · simp at h1
  · simp only [Value.slice.injEq, Option.some.injEq, Addr.mk.injEq] at h1
    obtain ⟨⟨rfl, -⟩, rfl, rfl⟩ := h1
    exact RowAt.frozen hr k
theorem Sl.atZ {w : World} {b n cap : Nat} {xs : List Int} {k : Nat} {x : Int} (h : Sl w 3 1 encI (.slice (some ⟨b, 0, none⟩) n cap) xs [b]) (hx : xs[k]? = some x) : w.cell? ⟨b, k, none⟩ = some (.int .i64 x) := by
  obtain ⟨b', cap', hq, -, -, hc⟩ := h.cell encI_len hx
  simp only [Value.slice.injEq, Option.some.injEq, Addr.mk.injEq] at hq
  obtain ⟨⟨rfl, -⟩, -, rfl⟩ := hq
  have := hc 0 _ rfl
  simpa using this
theorem shift_setZ {α : Type} {S : List α} {k : Nat} {u y : α} (hy : S[k]? = some y) : (S.take (k + 1) ++ u :: S.drop (k + 1)).set (k + 1) y = S.take k ++ y :: S.drop k := by
  obtain ⟨hk, e⟩ := List.getElem?_eq_some_iff.mp hy
  have hl : (S.take (k + 1)).length = k + 1 := by rw [List.length_take]; omega
  rw [List.set_append_right _ _ (by omega), hl, Nat.sub_self, List.set_cons_zero, take_one' hy, List.append_assoc, List.drop_eq_getElem_cons hk, e]
  rfl
theorem last_setZ {α : Type} {S : List α} {k : Nat} {u y : α} (hk : k ≤ S.length) : (S.take k ++ u :: S.drop k).set k y = S.take k ++ y :: S.drop k := by
  have hl : (S.take k).length = k := by rw [List.length_take]; omega
  rw [List.set_append_right _ _ (by omega), hl, Nat.sub_self, List.set_cons_zero]
theorem last_atZ {α : Type} {S : List α} {k : Nat} {u y : α} (hy : S[k]? = some y) : (S.take (k + 1) ++ u :: S.drop (k + 1))[k]? = some y := by
  obtain ⟨hk, e⟩ := List.getElem?_eq_some_iff.mp hy
  rw [List.getElem?_append_left (by rw [List.length_take]; omega), List.getElem?_take, if_pos (by omega), hy]

set_option maxHeartbeats 16000000 in
set_option maxRecDepth 100000 in
theorem rsortI_any (U : Nat → Prop) (a0 : Option Addr) (c0 : Nat) (ls : List Int) (w : World) (h : RF U w 1 encI a0 ls) (hl : ls.length ≤ 1000000) :
    Calls Tryz.prog 90 #[.slice a0 ls.length c0] w (FreshEnd 3 1 encI (srtI ls) w) := by
  have H := Lib.hid h
  clear h
  go_enter Tryz.func90, Tryz.ntmps90
  go_wp2_with fail
  go_loopw [3, 4] (fun v i wr => ∃ (t n c : Nat) (a : Option Addr) (G : List Nat), t ≤ ls.length ∧ n ≤ t ∧ i = .int .i64 t ∧ v = .slice a n c ∧ Hid (Sl wr 3 1 encI (.slice a n c) (srtI (ls.take t)) G ∧ (srtI (ls.take t)).length = n ∧ Frame [] w wr ∧ ∀ x ∈ G, w.heap.size ≤ x)) (fun _ i _ => ls.length - (intOf i).toNat)
  case atStart => exact ⟨0, 0, 0, none, [], Nat.zero_le _, Nat.le_refl _, rfl, rfl, by
    show _ ∧ _ ∧ _ ∧ _
    exact ⟨by simpa [srtI] using Sl.nil _ _ _ _, by simp [srtI], Frame.refl _ _, by simp⟩⟩
  case round =>
    obtain ⟨t, n, c, a, G, ht, hnt, rfl, rfl, hR⟩ := hrel
    rename World => wo
    by_cases hlt : t < ls.length
    · have g1 : ls[t]? = some ls[t] := by simp [hlt]
      obtain ⟨b1, o1, rfl, -, q1⟩ := (H.out.frame0 hR.out.2.2.1) t _ g1
      have x0 := q1 0 _ rfl
      simp only [Nat.add_zero, Nat.mul_one] at x0
      generalize ls[t] = x at *
      have G1 := Lib.hid g1
      have NX := Lib.hid (srtI_next g1)
      have UPO := Lib.hid (srtI_up (ls.take t))
      generalize srtI (ls.take t) = out at *
      have HLN := Lib.hid hR.out.2.1
      have X0 := Lib.hid x0
      clear g1 q1 x0
      go_wp2_with fail
      go_loopw [5] (fun i wq => ∃ k : Nat, k ≤ n ∧ i = .int .i64 k ∧ Hid (Frame [] wo wq ∧ ∀ j z, k ≤ j → out[j]? = some z → x < z)) (fun i _ => (intOf i).toNat)
      case atStart => exact ⟨n, Nat.le_refl _, by first | rfl | go_num, Frame.refl _ _, fun j z hj hz => by have := (List.getElem?_eq_some_iff.1 hz).1; have := HLN.out; omega⟩
      case round =>
        obtain ⟨k, hk, rfl, hA⟩ := hrel
        rename World => wq
        have x0 := hA.out.1.cell X0.out (by simp)
        by_cases h0 : 0 < k
        case neg =>
          have hk0 : decide (0 < (k : Int)) = false := by simp; omega
          have KK : Hid (∀ m z, k = m + 1 → out[m]? = some z → z < x) := by
            show ∀ m z, _
            intro m z h; omega
          go_wp2_with fail
          go_quiet (fail)
          go_wp2_with fail
          go_quiet (fail)
          have INS : Hid (insI out x = out.take k ++ x :: out.drop k) := by
            show _ = _
            exact insI_put UPO.out (by have := HLN.out; omega) hA.out.2 KK.out
          go_wp2_with (at_builtin; refine wpList_append_rf rfl (.tmp 45) (.tmp 46) 50 rfl 3 1 8 _ encI Tryz.underlying50 infoInt rfl (by omega) (.slice a n c) out n HLN.out G rfl ((hR.out.1.frame0 hA.out.1).frame0 (by (repeat first | assumption | exact Frame.refl _ _ | refine Frame.trans1 ?_ (Frame.alloc _ _ _) | refine Frame.trans1 ?_ (Frame.drew _ _) | refine Frame.trans1 ?_ (Frame.drewN _ _ _)))) (fun y => y = _) _ 1 1 [0] rfl (rf_one (Blk.new _ _ _) _ rfl) rfl encI_len encI_one (n + 1) rfl (by omega) (by omega) ?_; intro a4 cap4 w4 G4 sl4 f4 hG4; have f4w : Frame G wq w4 := (show Frame G wq _ from by (repeat first | assumption | exact Frame.refl _ _ | refine Frame.trans1 ?_ (Frame.alloc _ _ _) | refine Frame.trans1 ?_ (Frame.drew _ _) | refine Frame.trans1 ?_ (Frame.drewN _ _ _))).trans1 f4; have R4 := Lib.hid (And.intro sl4 (And.intro (show Frame G wo w4 from (hA.out.1.mono (by simp)).trans1 f4w) hG4)); clear sl4 f4 hG4 f4w)
          obtain ⟨b', c', hv4, hG4, row4⟩ := Sl.row (A := out) (x := (0 : Int)) (B := []) R4.out.1
          injection hv4 with hv41 hv42 hv43
          subst hv41 hv43 hG4
          have hb4 : w.heap.size ≤ b' := by
            rcases R4.out.2.2 b' (by simp) with hb | hb
            · exact hR.out.2.2.2 _ hb
            · have e1 := hR.out.2.2.1.size
              have e2 := hA.out.1.size
              simp only [World.size_alloc, World.size_drew, show ∀ (a : World) k, (a.drewN k).heap.size = a.heap.size from fun _ _ => rfl] at hb
              omega
          have FW := Lib.hid (hR.out.2.2.1.trans R4.out.2.1 (fun x hx => .inr (hR.out.2.2.2 x hx)))
          have HB := Lib.hid hb4
          have S4 := Lib.hid R4.out.1
          clear hb4 hv42 row4
          go_loopw [6] (fun kv w3 => ∃ (kk : Nat) (u : Int), k ≤ kk ∧ kk ≤ n ∧ kv = .int .i64 kk ∧ Hid (Frame [b'] w4 w3 ∧ Sl w3 3 1 encI (.slice (some ⟨b', 0, none⟩) (n + 1) cap4) (out.take kk ++ u :: out.drop kk) [b'])) (fun kv _ => (intOf kv).toNat)
          case atStart =>
            refine ⟨n, 0, by omega, Nat.le_refl _, by first | rfl | go_num, Lib.hid ⟨Frame.refl _ _, ?_⟩⟩
            have e : out.take n ++ (0 : Int) :: out.drop n = out ++ [0] := by
              rw [List.take_of_length_le (by have := HLN.out; omega), List.drop_of_length_le (by have := HLN.out; omega)]
            rw [e]; exact S4.out
          case round =>
            obtain ⟨kk, u, hk1, hk2, rfl, hK⟩ := hrel
            rename World => w3
            by_cases hka : kk = k
            · have x1 := H.out.frame0 (FW.out.trans hK.out.1 (fun x hx => .inr (by simp at hx; rw [hx]; exact HB.out)))
              obtain ⟨b9, o9, hq9, -, k9⟩ := x1 t _ G1.out
              simp only [Option.some.injEq, Addr.mk.injEq] at hq9
              obtain ⟨rfl, rfl, -⟩ := hq9
              have r9 := k9 0 _ rfl
              simp only [Nat.mul_one, Nat.add_zero] at r9
              have z1 := hK.out.2.frozenZ k
              have z2 := hK.out.2.atZ (k := k) (x := u) (by rw [hka, List.getElem?_append_right (by rw [List.length_take]; omega), List.length_take, show k - min k out.length = 0 by have := HLN.out; omega]; rfl)
              subst hka
              clear k9 x1 x0 
              go_wp2_with fail
              go_roundw
              case rel =>
                refine ⟨t + 1, n + 1, cap4, some ⟨b', 0, none⟩, [b'], by omega, by omega, by first | rfl | go_num, rfl, ?_⟩
                show _ ∧ _ ∧ _ ∧ _
                have := hK.out.2.setZ kk x
                rw [last_setZ (by have := HLN.out; omega)] at this
                rw [NX.out, INS.out]
                refine ⟨this, by have := HLN.out; simp; omega, (FW.out.trans hK.out.1 (fun x hx => .inr (by simp at hx; rw [hx]; exact HB.out))).trans (Frame.setCell (S := [b']) _ _ _ (by simp)) (fun x hx => .inr (by simp at hx; rw [hx]; exact HB.out)), by simp [HB.out]⟩
              case measure => first | (simp [intOf]; done) | (simp [intOf]; omega)
            · obtain ⟨k', rfl⟩ : ∃ k', kk = k' + 1 := ⟨kk - 1, by omega⟩
              have hkl : k' < out.length := by have := HLN.out; omega
              have hy : out[k']? = some out[k'] := by simp
              generalize out[k'] = y9 at hy
              have z1 := hK.out.2.frozenZ (k' + 1)
              have z2 := hK.out.2.atZ (last_atZ hy)
              have z3 := hK.out.2.atZ (k := k' + 1) (x := u) (by rw [List.getElem?_append_right (by rw [List.length_take]; omega), List.length_take, show k' + 1 - min (k' + 1) out.length = 0 by omega]; rfl)
              have HY9 := Lib.hid hy
              clear hy hkl
              go_wp2_with fail
              go_roundw
              case rel =>
                refine ⟨k', y9, by omega, by omega, by first | rfl | go_num, Lib.hid ⟨hK.out.1.trans1 (Frame.setCell _ _ _ (by simp)), ?_⟩⟩
                have := hK.out.2.setZ (k' + 1) y9
                rw [shift_setZ HY9.out] at this
                exact this
              case measure => first | (simp [intOf]; done) | (simp [intOf]; omega)
        have hk0 : decide (0 < (k : Int)) = true := by simp; omega
        obtain ⟨m, rfl⟩ : ∃ m, k = m + 1 := ⟨k - 1, by omega⟩
        have hml : m < out.length := by have := HLN.out; omega
        have hy : out[m]? = some out[m] := by simp
        obtain ⟨b2, c2, hq2, hG2, -, k2⟩ := (hR.out.1.frame0 hA.out.1).cell encI_len hy
        simp only [Value.slice.injEq] at hq2
        obtain ⟨rfl, -, rfl⟩ := hq2
        have y0 := k2 0 _ rfl
        simp only [Nat.mul_one, Nat.add_zero] at y0
        generalize out[m] = y at *
        have HY := Lib.hid hy
        have e1 : IntKind.i64.wrap (((m + 1 : Nat) : Int) - 1) = (m : Int) := by rw [show (((m + 1 : Nat) : Int) - 1) = (m : Int) from by omega]; exact IntWalk.i64_in _ (by omega)
        have hm0 : (0 : Int) ≤ ((m + 1 : Nat) : Int) - 1 := by omega
        clear k2 hy hml
        rcases int_ways x y with ⟨d1, d2, d3⟩ | ⟨d1, d2, d3⟩ | ⟨d1, d2, d3⟩
        · have HD := Lib.hid d2
          clear d2
          go_wp2_with fail
          go_quiet (fail)
          go_wp2_with fail
          go_roundw
          case rel =>
            refine ⟨m, by omega, by first | rfl | go_num, Lib.hid ⟨hA.out.1.trans1 (by (repeat first | assumption | exact Frame.refl _ _ | refine Frame.trans1 ?_ (Frame.alloc _ _ _) | refine Frame.trans1 ?_ (Frame.drew _ _) | refine Frame.trans1 ?_ (Frame.drewN _ _ _))), fun j z hj hz => ?_⟩⟩
            by_cases hja : j = m
            · subst hja
              have := HY.out.symm.trans hz
              simp at this
              subst this
              exact HD.out
            · exact hA.out.2 j z (by omega) hz
          case measure => first | (simp [intOf]; done) | (simp [intOf]; omega)
        · have hyx : y < x := d2
          have KK : Hid (∀ m' z, m + 1 = m' + 1 → out[m']? = some z → z < x) := by
            show ∀ m' z, _
            intro m' z h hz
            obtain rfl : m' = m := by omega
            have := HY.out.symm.trans hz
            simp at this
            subst this
            exact hyx
          clear d2 hyx
          go_wp2_with fail
          go_quiet (fail)
          go_wp2_with fail
          go_quiet (fail)
          have INS : Hid (insI out x = out.take (m + 1) ++ x :: out.drop (m + 1)) := by
            show _ = _
            exact insI_put UPO.out (by have := HLN.out; omega) hA.out.2 KK.out
          go_wp2_with (at_builtin; refine wpList_append_rf rfl (.tmp 45) (.tmp 46) 50 rfl 3 1 8 _ encI Tryz.underlying50 infoInt rfl (by omega) (.slice (some ⟨b2, 0, none⟩) n c) out n HLN.out G rfl ((hR.out.1.frame0 hA.out.1).frame0 (by (repeat first | assumption | exact Frame.refl _ _ | refine Frame.trans1 ?_ (Frame.alloc _ _ _) | refine Frame.trans1 ?_ (Frame.drew _ _) | refine Frame.trans1 ?_ (Frame.drewN _ _ _)))) (fun y => y = _) _ 1 1 [0] rfl (rf_one (Blk.new _ _ _) _ rfl) rfl encI_len encI_one (n + 1) rfl (by omega) (by omega) ?_; intro a4 cap4 w4 G4 sl4 f4 hG4; have f4w : Frame G wq w4 := (show Frame G wq _ from by (repeat first | assumption | exact Frame.refl _ _ | refine Frame.trans1 ?_ (Frame.alloc _ _ _) | refine Frame.trans1 ?_ (Frame.drew _ _) | refine Frame.trans1 ?_ (Frame.drewN _ _ _))).trans1 f4; have R4 := Lib.hid (And.intro sl4 (And.intro (show Frame G wo w4 from (hA.out.1.mono (by simp)).trans1 f4w) hG4)); clear sl4 f4 hG4 f4w)
          obtain ⟨b', c', hv4, hG4, row4⟩ := Sl.row (A := out) (x := (0 : Int)) (B := []) R4.out.1
          injection hv4 with hv41 hv42 hv43
          subst hv41 hv43 hG4
          have hb4 : w.heap.size ≤ b' := by
            rcases R4.out.2.2 b' (by simp) with hb | hb
            · exact hR.out.2.2.2 _ hb
            · have e1 := hR.out.2.2.1.size
              have e2 := hA.out.1.size
              simp only [World.size_alloc, World.size_drew, show ∀ (a : World) k, (a.drewN k).heap.size = a.heap.size from fun _ _ => rfl] at hb
              omega
          have FW := Lib.hid (hR.out.2.2.1.trans R4.out.2.1 (fun x hx => .inr (hR.out.2.2.2 x hx)))
          have HB := Lib.hid hb4
          have S4 := Lib.hid R4.out.1
          clear hb4 hv42 row4
          go_loopw [6] (fun kv w3 => ∃ (kk : Nat) (u : Int), (m + 1) ≤ kk ∧ kk ≤ n ∧ kv = .int .i64 kk ∧ Hid (Frame [b'] w4 w3 ∧ Sl w3 3 1 encI (.slice (some ⟨b', 0, none⟩) (n + 1) cap4) (out.take kk ++ u :: out.drop kk) [b'])) (fun kv _ => (intOf kv).toNat)
          case atStart =>
            refine ⟨n, 0, by omega, Nat.le_refl _, by first | rfl | go_num, Lib.hid ⟨Frame.refl _ _, ?_⟩⟩
            have e : out.take n ++ (0 : Int) :: out.drop n = out ++ [0] := by
              rw [List.take_of_length_le (by have := HLN.out; omega), List.drop_of_length_le (by have := HLN.out; omega)]
            rw [e]; exact S4.out
          case round =>
            obtain ⟨kk, u, hk1, hk2, rfl, hK⟩ := hrel
            rename World => w3
            by_cases hka : kk = (m + 1)
            · have x1 := H.out.frame0 (FW.out.trans hK.out.1 (fun x hx => .inr (by simp at hx; rw [hx]; exact HB.out)))
              obtain ⟨b9, o9, hq9, -, k9⟩ := x1 t _ G1.out
              simp only [Option.some.injEq, Addr.mk.injEq] at hq9
              obtain ⟨rfl, rfl, -⟩ := hq9
              have r9 := k9 0 _ rfl
              simp only [Nat.mul_one, Nat.add_zero] at r9
              have z1 := hK.out.2.frozenZ (m + 1)
              have z2 := hK.out.2.atZ (k := (m + 1)) (x := u) (by rw [hka, List.getElem?_append_right (by rw [List.length_take]; omega), List.length_take, show (m + 1) - min (m + 1) out.length = 0 by have := HLN.out; omega]; rfl)
              subst hka
              clear k9 x1 x0 y0
              go_wp2_with fail
              go_roundw
              case rel =>
                refine ⟨t + 1, n + 1, cap4, some ⟨b', 0, none⟩, [b'], by omega, by omega, by first | rfl | go_num, rfl, ?_⟩
                show _ ∧ _ ∧ _ ∧ _
                have := hK.out.2.setZ (m + 1) x
                rw [last_setZ (by have := HLN.out; omega)] at this
                rw [NX.out, INS.out]
                refine ⟨this, by have := HLN.out; simp; omega, (FW.out.trans hK.out.1 (fun x hx => .inr (by simp at hx; rw [hx]; exact HB.out))).trans (Frame.setCell (S := [b']) _ _ _ (by simp)) (fun x hx => .inr (by simp at hx; rw [hx]; exact HB.out)), by simp [HB.out]⟩
              case measure => first | (simp [intOf]; done) | (simp [intOf]; omega)
            · obtain ⟨k', rfl⟩ : ∃ k', kk = k' + 1 := ⟨kk - 1, by omega⟩
              have hkl : k' < out.length := by have := HLN.out; omega
              have hy : out[k']? = some out[k'] := by simp
              generalize out[k'] = y9 at hy
              have z1 := hK.out.2.frozenZ (k' + 1)
              have z2 := hK.out.2.atZ (last_atZ hy)
              have z3 := hK.out.2.atZ (k := k' + 1) (x := u) (by rw [List.getElem?_append_right (by rw [List.length_take]; omega), List.length_take, show k' + 1 - min (k' + 1) out.length = 0 by omega]; rfl)
              have HY9 := Lib.hid hy
              clear hy hkl
              go_wp2_with fail
              go_roundw
              case rel =>
                refine ⟨k', y9, by omega, by omega, by first | rfl | go_num, Lib.hid ⟨hK.out.1.trans1 (Frame.setCell _ _ _ (by simp)), ?_⟩⟩
                have := hK.out.2.setZ (k' + 1) y9
                rw [shift_setZ HY9.out] at this
                exact this
              case measure => first | (simp [intOf]; done) | (simp [intOf]; omega)
        · have hxy : x ∈ out := by rw [d2]; exact List.mem_of_getElem? HY.out
          have HX := Lib.hid hxy
          clear d2 hxy
          go_wp2_with fail
          go_quiet (fail)
          go_wp2_with fail
          go_quiet (fail)
          go_wp2_with fail
          go_roundw
          case rel =>
            refine ⟨t + 1, n, c, some ⟨b2, 0, none⟩, G, by omega, by omega, by first | rfl | go_num, rfl, ?_⟩
            show _ ∧ _ ∧ _ ∧ _
            have e9 := NX.out.trans (insI_has HX.out)
            rw [e9]
            exact ⟨hR.out.1.frame0 (hA.out.1.trans1 (by (repeat first | assumption | exact Frame.refl _ _ | refine Frame.trans1 ?_ (Frame.alloc _ _ _) | refine Frame.trans1 ?_ (Frame.drew _ _) | refine Frame.trans1 ?_ (Frame.drewN _ _ _)))), HLN.out, hR.out.2.2.1.trans1 (hA.out.1.trans1 (by (repeat first | assumption | exact Frame.refl _ _ | refine Frame.trans1 ?_ (Frame.alloc _ _ _) | refine Frame.trans1 ?_ (Frame.drew _ _) | refine Frame.trans1 ?_ (Frame.drewN _ _ _)))), hR.out.2.2.2⟩
          case measure => first | (simp [intOf]; done) | (simp [intOf]; omega)
    · obtain rfl : t = ls.length := by omega
      have hS := hR.out
      rw [List.take_length] at hS
      obtain ⟨s1, s2, s3, s4⟩ := hS
      subst s2
      have S := Lib.hid (And.intro s1 (And.intro s3 s4))
      clear s1 s3 s4 hR
      go_wp2_with fail
      go_ret
      exact ⟨a, c, G, rfl, S.out.1.frame0 (by (repeat first | assumption | exact Frame.refl _ _ | refine Frame.trans1 ?_ (Frame.alloc _ _ _) | refine Frame.trans1 ?_ (Frame.drew _ _) | refine Frame.trans1 ?_ (Frame.drewN _ _ _))), S.out.2.1.trans1 (by (repeat first | assumption | exact Frame.refl _ _ | refine Frame.trans1 ?_ (Frame.alloc _ _ _) | refine Frame.trans1 ?_ (Frame.drew _ _) | refine Frame.trans1 ?_ (Frame.drewN _ _ _))), S.out.2.2⟩
end Go.Proofs.YtbnhhmejlglbcaaGreat

