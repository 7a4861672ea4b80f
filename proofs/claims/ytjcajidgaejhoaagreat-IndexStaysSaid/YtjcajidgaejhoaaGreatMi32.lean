/- The reference's SortTexts and In. (printed by gen_sortt.py) -/
import Derived.Test.YtjcajidgaejhoaaGreatMi31
namespace Go.Proofs.YtjcajidgaejhoaaGreat
open Go.RowKit
set_option linter.unusedSimpArgs false
set_option linter.unusedVariables false

/-- A text put where it belongs; what is there stays. -/
def insS (out : List ByteArray) (x : ByteArray) : List ByteArray := if memS x out = true then out else out.take (rankS out x) ++ x :: out.drop (rankS out x)
def srtS (l : List ByteArray) : List ByteArray := l.foldl insS []
theorem srtS_snoc (l : List ByteArray) (x : ByteArray) : srtS (l ++ [x]) = insS (srtS l) x := by simp [srtS]
theorem srtS_next {l : List ByteArray} {k : Nat} {x : ByteArray} (h : l[k]? = some x) : srtS (l.take (k + 1)) = insS (srtS (l.take k)) x := by rw [take_one' h, srtS_snoc]
theorem insS_up {out : List ByteArray} {x : ByteArray} (h : UpS out) : UpS (insS out x) := by
  unfold insS
  split
  · exact h
  · rename_i hm
    exact upS_ins h (fun hx => hm (memS_iff.2 hx))
theorem srtS_up (l : List ByteArray) : UpS (srtS l) := by
  have : ∀ (l acc : List ByteArray), UpS acc → UpS (l.foldl insS acc) := by
    intro l
    induction l with
    | nil => intro acc h; exact h
    | cons x t ih => intro acc h; exact ih _ (insS_up h)
  exact this l [] (by simp [UpS])
theorem srtS_sorted {l : List ByteArray} (h : UpS l) : srtS l = l := by
  have : ∀ (l acc : List ByteArray), UpS (acc ++ l) → l.foldl insS acc = acc ++ l := by
    intro l
    induction l with
    | nil => intro acc _; simp
    | cons x t ih =>
      intro acc h
      have hb : ∀ y ∈ acc, ltS y x = true := fun y hy => (List.pairwise_append.1 h).2.2 y hy x (by simp)
      have e : insS acc x = acc ++ [x] := by
        unfold insS
        rw [if_neg (fun hm => by have := hb x (memS_iff.1 hm); rw [ltS_irrefl] at this; cases this), rankS_end hb]
        simp
      show t.foldl insS (insS acc x) = _
      rw [e, ih _ (by simpa using h)]
      simp
  simpa [srtS] using this l [] (by simpa using h)
theorem insS_len (out : List ByteArray) (x : ByteArray) : (insS out x).length ≤ out.length + 1 := by
  unfold insS
  split
  · omega
  · have := rankS_le out x; simp; omega
theorem insS_put {out : List ByteArray} {x : ByteArray} {k : Nat} (hu : UpS out) (hk : k ≤ out.length) (h1 : ∀ j z, k ≤ j → out[j]? = some z → ltS x z = true) (h2 : ∀ m z, k = m + 1 → out[m]? = some z → ltS z x = true) : insS out x = out.take k ++ x :: out.drop k := by
  have hall : ∀ i z, i < k → out[i]? = some z → ltS z x = true := fun i z hi hz => by
    cases k with
    | zero => omega
    | succ m =>
      have hm : m < out.length := by omega
      have hl := h2 m out[m] rfl (by simp)
      obtain ⟨hi2, rfl⟩ := List.getElem?_eq_some_iff.1 hz
      rcases Nat.lt_or_ge i m with h | h
      · exact ltS_trans (List.pairwise_iff_getElem.1 hu i m hi2 hm h) hl
      · obtain rfl : i = m := by omega
        exact hl
  have hr : rankS out x = k := rankS_of hk (fun i h hik => hall i out[i] hik (by simp)) (fun i h hik => by
    have := h1 i out[i] hik (by simp)
    exact ltS_asymm this)
  have hm : memS x out = false := memS_not.2 (fun hx => by
    obtain ⟨i, hi, e⟩ := List.getElem_of_mem hx
    rcases Nat.lt_or_ge i k with h | h
    · have := hall i out[i] h (by simp); rw [e, ltS_irrefl] at this; cases this
    · have := h1 i out[i] h (by simp); rw [e, ltS_irrefl] at this; cases this)
  unfold insS
  rw [hm, if_neg (by simp), hr]
theorem insS_has {out : List ByteArray} {x : ByteArray} (h : x ∈ out) : insS out x = out := by unfold insS; rw [if_pos (memS_iff.2 h)]

theorem flat_str (xs : List ByteArray) : xs.flatMap encS = xs.map Value.string := by
  induction xs with
  | nil => rfl
  | cons x t ih => simp [List.flatMap_cons, ih, encS]
theorem Sl.setS {w : World} {b n cap : Nat} {xs : List ByteArray} (h : Sl w 9 1 encS (.slice (some ⟨b, 0, none⟩) n cap) xs [b]) (k : Nat) (x : ByteArray) : Sl (w.setCell ⟨b, k, none⟩ (.string x)) 9 1 encS (.slice (some ⟨b, 0, none⟩) n cap) (xs.set k x) [b] := by
  rcases h with ⟨h1, _⟩ | ⟨b', cap', h1, h2, hr⟩
  · simp at h1
  · simp only [Value.slice.injEq, Option.some.injEq, Addr.mk.injEq] at h1
    obtain ⟨⟨rfl, -⟩, rfl, rfl⟩ := h1
    refine .inr ⟨b, cap, by simp, rfl, ?_⟩
    obtain ⟨cs, g1, g2, g3, g4, g5⟩ := RowAt.blk hr
    rw [List.length_set]
    refine RowAt.of_blk (g1.set _ _) g2 g3 (by simpa using g4) ?_
    rw [Array.toList_setIfInBounds, List.take_set, g5, flat_str, flat_str, List.map_set]
theorem Sl.frozenS {w : World} {b n cap : Nat} {xs : List ByteArray} (h : Sl w 9 1 encS (.slice (some ⟨b, 0, none⟩) n cap) xs [b]) (k : Nat) : w.frozen? ⟨b, k, none⟩ = false := by
  rcases h with ⟨h1, _⟩ | ⟨b', cap', h1, h2, hr⟩
  · simp at h1
  · simp only [Value.slice.injEq, Option.some.injEq, Addr.mk.injEq] at h1
    obtain ⟨⟨rfl, -⟩, rfl, rfl⟩ := h1
    exact RowAt.frozen hr k
theorem Sl.atS {w : World} {b n cap : Nat} {xs : List ByteArray} {k : Nat} {x : ByteArray} (h : Sl w 9 1 encS (.slice (some ⟨b, 0, none⟩) n cap) xs [b]) (hx : xs[k]? = some x) : w.cell? ⟨b, k, none⟩ = some (.string x) := by
  obtain ⟨b', cap', hq, -, -, hc⟩ := h.cell encS_len hx
  simp only [Value.slice.injEq, Option.some.injEq, Addr.mk.injEq] at hq
  obtain ⟨⟨rfl, -⟩, -, rfl⟩ := hq
  have := hc 0 _ rfl
  simpa using this
theorem shift_setS {α : Type} {S : List α} {k : Nat} {u y : α} (hy : S[k]? = some y) : (S.take (k + 1) ++ u :: S.drop (k + 1)).set (k + 1) y = S.take k ++ y :: S.drop k := by
  obtain ⟨hk, e⟩ := List.getElem?_eq_some_iff.mp hy
  have hl : (S.take (k + 1)).length = k + 1 := by rw [List.length_take]; omega
  rw [List.set_append_right _ _ (by omega), hl, Nat.sub_self, List.set_cons_zero, take_one' hy, List.append_assoc, List.drop_eq_getElem_cons hk, e]
  rfl
theorem last_setS {α : Type} {S : List α} {k : Nat} {u y : α} (hk : k ≤ S.length) : (S.take k ++ u :: S.drop k).set k y = S.take k ++ y :: S.drop k := by
  have hl : (S.take k).length = k := by rw [List.length_take]; omega
  rw [List.set_append_right _ _ (by omega), hl, Nat.sub_self, List.set_cons_zero]
theorem last_atS {α : Type} {S : List α} {k : Nat} {u y : α} (hy : S[k]? = some y) : (S.take (k + 1) ++ u :: S.drop (k + 1))[k]? = some y := by
  obtain ⟨hk, e⟩ := List.getElem?_eq_some_iff.mp hy
  rw [List.getElem?_append_left (by rw [List.length_take]; omega), List.getElem?_take, if_pos (by omega), hy]

/-- What SortTexts ends in. -/
def SrtEnd (l : List ByteArray) (w : World) (e : Ending) (w' : World) : Prop := ∃ a c G, e = .returned (.slice a (srtS l).length c) ∧ Sl w' 9 1 encS (.slice a (srtS l).length c) (srtS l) G ∧ Frame [] w w' ∧ ∀ x ∈ G, w.heap.size ≤ x
set_option maxHeartbeats 16000000 in
set_option maxRecDepth 100000 in
theorem sortT_any (U : Nat → Prop) (a0 : Option Addr) (c0 : Nat) (ls : List ByteArray) (w : World) (h : RF U w 1 encS a0 ls) (hl : ls.length ≤ 1000000) :
    Calls Tryz.prog 22 #[.slice a0 ls.length c0] w (SrtEnd ls w) := by
  have H := Lib.hid h
  clear h
  go_enter Tryz.func22, Tryz.ntmps22
  go_wp2_with fail
  go_loopw [3, 4] (fun v i wr => ∃ (t n c : Nat) (a : Option Addr) (G : List Nat), t ≤ ls.length ∧ n ≤ t ∧ i = .int .i64 t ∧ v = .slice a n c ∧ Hid (Sl wr 9 1 encS (.slice a n c) (srtS (ls.take t)) G ∧ (srtS (ls.take t)).length = n ∧ Frame [] w wr ∧ ∀ x ∈ G, w.heap.size ≤ x)) (fun _ i _ => ls.length - (intOf i).toNat)
  case atStart => exact ⟨0, 0, 0, none, [], Nat.zero_le _, Nat.le_refl _, rfl, rfl, by
    show _ ∧ _ ∧ _ ∧ _
    exact ⟨by simpa [srtS] using Sl.nil _ _ _ _, by simp [srtS], Frame.refl _ _, by simp⟩⟩
  case round =>
    obtain ⟨t, n, c, a, G, ht, hnt, rfl, rfl, hR⟩ := hrel
    rename World => wo
    by_cases hlt : t < ls.length
    · have g1 : ls[t]? = some ls[t] := by simp [hlt]
      obtain ⟨b1, o1, rfl, -, q1⟩ := (H.out.frame0 hR.out.2.2.1) t _ g1
      have x0 := q1 0 _ rfl
      simp only [Nat.add_zero, Nat.mul_one] at x0
      generalize ls[t] = x at *
      have G1 := Lib.hid g1
      have NX := Lib.hid (srtS_next g1)
      have UPO := Lib.hid (srtS_up (ls.take t))
      generalize srtS (ls.take t) = out at *
      have HLN := Lib.hid hR.out.2.1
      have X0 := Lib.hid x0
      clear g1 q1 x0
      go_wp2_with fail
      go_loopw [5] (fun i wq => ∃ k : Nat, k ≤ n ∧ i = .int .i64 k ∧ Hid (Frame [] wo wq ∧ ∀ j z, k ≤ j → out[j]? = some z → ltS x z = true)) (fun i _ => (intOf i).toNat)
      case atStart => exact ⟨n, Nat.le_refl _, by first | rfl | go_num, Frame.refl _ _, fun j z hj hz => by have := (List.getElem?_eq_some_iff.1 hz).1; have := HLN.out; omega⟩
      case round =>
        obtain ⟨k, hk, rfl, hA⟩ := hrel
        rename World => wq
        have x0 := hA.out.1.cell X0.out (by simp)
        by_cases h0 : 0 < k
        case neg =>
          have hk0 : decide (0 < (k : Int)) = false := by simp; omega
          have KK : Hid (∀ m z, k = m + 1 → out[m]? = some z → ltS z x = true) := by
            show ∀ m z, _
            intro m z h; omega
          go_wp2_with fail
          go_quiet (fail)
          go_wp2_with fail
          go_quiet (fail)
          have INS : Hid (insS out x = out.take k ++ x :: out.drop k) := by
            show _ = _
            exact insS_put UPO.out (by have := HLN.out; omega) hA.out.2 KK.out
          go_wp2_with (at_builtin; refine wpList_append_rf rfl (.tmp 45) (.tmp 46) 38 rfl 9 1 16 _ encS Tryz.underlying38 infoStr rfl (by omega) (.slice a n c) out n HLN.out G rfl ((hR.out.1.frame0 hA.out.1).frame0 (by (repeat first | assumption | exact Frame.refl _ _ | refine Frame.trans1 ?_ (Frame.alloc _ _ _) | refine Frame.trans1 ?_ (Frame.drew _ _) | refine Frame.trans1 ?_ (Frame.drewN _ _ _)))) (fun y => y = _) _ 1 1 [⟨#[]⟩] rfl (rf_one (Blk.new _ _ _) _ rfl) rfl encS_len encS_one (n + 1) rfl (by omega) (by omega) ?_; intro a4 cap4 w4 G4 sl4 f4 hG4; have f4w : Frame G wq w4 := (show Frame G wq _ from by (repeat first | assumption | exact Frame.refl _ _ | refine Frame.trans1 ?_ (Frame.alloc _ _ _) | refine Frame.trans1 ?_ (Frame.drew _ _) | refine Frame.trans1 ?_ (Frame.drewN _ _ _))).trans1 f4; have R4 := Lib.hid (And.intro sl4 (And.intro (show Frame G wo w4 from (hA.out.1.mono (by simp)).trans1 f4w) hG4)); clear sl4 f4 hG4 f4w)
          obtain ⟨b', c', hv4, hG4, row4⟩ := Sl.row (A := out) (x := (⟨#[]⟩ : ByteArray)) (B := []) R4.out.1
          injection hv4 with hv41 hv42 hv43
          subst hv41 hv43 hG4
          have hb4 : w.heap.size ≤ b' := by
            rcases R4.out.2.2 b' (by simp) with hb | hb
            · exact hR.out.2.2.2 _ hb
            · have e1 := hR.out.2.2.1.size
              have e2 := hA.out.1.size
              simp only [World.size_alloc, World.size_drew, show ∀ (a : World) k, (a.drewN k).heap.size = a.heap.size from fun _ _ => rfl] at hb
              omega
          have FW := Lib.hid (hR.out.2.2.1.trans R4.out.2.1 (fun x hx => .inr (hR.out.2.2.2 x hx)))
          have HB := Lib.hid hb4
          have S4 := Lib.hid R4.out.1
          clear hb4 hv42 row4
          go_loopw [6] (fun kv w3 => ∃ (kk : Nat) (u : ByteArray), k ≤ kk ∧ kk ≤ n ∧ kv = .int .i64 kk ∧ Hid (Frame [b'] w4 w3 ∧ Sl w3 9 1 encS (.slice (some ⟨b', 0, none⟩) (n + 1) cap4) (out.take kk ++ u :: out.drop kk) [b'])) (fun kv _ => (intOf kv).toNat)
          case atStart =>
            refine ⟨n, ⟨#[]⟩, by omega, Nat.le_refl _, by first | rfl | go_num, Lib.hid ⟨Frame.refl _ _, ?_⟩⟩
            have e : out.take n ++ (⟨#[]⟩ : ByteArray) :: out.drop n = out ++ [⟨#[]⟩] := by
              rw [List.take_of_length_le (by have := HLN.out; omega), List.drop_of_length_le (by have := HLN.out; omega)]
            rw [e]; exact S4.out
          case round =>
            obtain ⟨kk, u, hk1, hk2, rfl, hK⟩ := hrel
            rename World => w3
            by_cases hka : kk = k
            · have x1 := H.out.frame0 (FW.out.trans hK.out.1 (fun x hx => .inr (by simp at hx; rw [hx]; exact HB.out)))
              obtain ⟨b9, o9, hq9, -, k9⟩ := x1 t _ G1.out
              simp only [Option.some.injEq, Addr.mk.injEq] at hq9
              obtain ⟨rfl, rfl, -⟩ := hq9
              have r9 := k9 0 _ rfl
              simp only [Nat.mul_one, Nat.add_zero] at r9
              have z1 := hK.out.2.frozenS k
              have z2 := hK.out.2.atS (k := k) (x := u) (by rw [hka, List.getElem?_append_right (by rw [List.length_take]; omega), List.length_take, show k - min k out.length = 0 by have := HLN.out; omega]; rfl)
              subst hka
              clear k9 x1 x0 
              go_wp2_with fail
              go_roundw
              case rel =>
                refine ⟨t + 1, n + 1, cap4, some ⟨b', 0, none⟩, [b'], by omega, by omega, by first | rfl | go_num, rfl, ?_⟩
                show _ ∧ _ ∧ _ ∧ _
                have := hK.out.2.setS kk x
                rw [last_setS (by have := HLN.out; omega)] at this
                rw [NX.out, INS.out]
                refine ⟨this, by have := HLN.out; simp; omega, (FW.out.trans hK.out.1 (fun x hx => .inr (by simp at hx; rw [hx]; exact HB.out))).trans (Frame.setCell (S := [b']) _ _ _ (by simp)) (fun x hx => .inr (by simp at hx; rw [hx]; exact HB.out)), by simp [HB.out]⟩
              case measure => first | (simp [intOf]; done) | (simp [intOf]; omega)
            · obtain ⟨k', rfl⟩ : ∃ k', kk = k' + 1 := ⟨kk - 1, by omega⟩
              have hkl : k' < out.length := by have := HLN.out; omega
              have hy : out[k']? = some out[k'] := by simp
              generalize out[k'] = y9 at hy
              have z1 := hK.out.2.frozenS (k' + 1)
              have z2 := hK.out.2.atS (last_atS hy)
              have z3 := hK.out.2.atS (k := k' + 1) (x := u) (by rw [List.getElem?_append_right (by rw [List.length_take]; omega), List.length_take, show k' + 1 - min (k' + 1) out.length = 0 by omega]; rfl)
              have HY9 := Lib.hid hy
              clear hy hkl
              go_wp2_with fail
              go_roundw
              case rel =>
                refine ⟨k', y9, by omega, by omega, by first | rfl | go_num, Lib.hid ⟨hK.out.1.trans1 (Frame.setCell _ _ _ (by simp)), ?_⟩⟩
                have := hK.out.2.setS (k' + 1) y9
                rw [shift_setS HY9.out] at this
                exact this
              case measure => first | (simp [intOf]; done) | (simp [intOf]; omega)
        have hk0 : decide (0 < (k : Int)) = true := by simp; omega
        obtain ⟨m, rfl⟩ : ∃ m, k = m + 1 := ⟨k - 1, by omega⟩
        have hml : m < out.length := by have := HLN.out; omega
        have hy : out[m]? = some out[m] := by simp
        obtain ⟨b2, c2, hq2, hG2, -, k2⟩ := (hR.out.1.frame0 hA.out.1).cell encS_len hy
        simp only [Value.slice.injEq] at hq2
        obtain ⟨rfl, -, rfl⟩ := hq2
        have y0 := k2 0 _ rfl
        simp only [Nat.mul_one, Nat.add_zero] at y0
        generalize out[m] = y at *
        have HY := Lib.hid hy
        have e1 : IntKind.i64.wrap (((m + 1 : Nat) : Int) - 1) = (m : Int) := by rw [show (((m + 1 : Nat) : Int) - 1) = (m : Int) from by omega]; exact IntWalk.i64_in _ (by omega)
        have hm0 : (0 : Int) ≤ ((m + 1 : Nat) : Int) - 1 := by omega
        clear k2 hy hml
        rcases str_ways x y with ⟨d1, d2, d3⟩ | ⟨d1, d2⟩ | ⟨d1, d2, d3⟩
        · have HD := Lib.hid d1
          clear d1
          go_wp2_with fail
          go_quiet (fail)
          go_wp2_with fail
          go_roundw
          case rel =>
            refine ⟨m, by omega, by first | rfl | go_num, Lib.hid ⟨hA.out.1.trans1 (by (repeat first | assumption | exact Frame.refl _ _ | refine Frame.trans1 ?_ (Frame.alloc _ _ _) | refine Frame.trans1 ?_ (Frame.drew _ _) | refine Frame.trans1 ?_ (Frame.drewN _ _ _))), fun j z hj hz => ?_⟩⟩
            by_cases hja : j = m
            · subst hja
              have := HY.out.symm.trans hz
              simp at this
              subst this
              exact HD.out
            · exact hA.out.2 j z (by omega) hz
          case measure => first | (simp [intOf]; done) | (simp [intOf]; omega)
        · have hyx : ltS y x = true := d2
          have d3 : (y.toList == x.toList) = false := beq_toList_false (fun e => by subst e; rw [ltS_irrefl] at hyx; cases hyx)
          have KK : Hid (∀ m' z, m + 1 = m' + 1 → out[m']? = some z → ltS z x = true) := by
            show ∀ m' z, _
            intro m' z h hz
            obtain rfl : m' = m := by omega
            have := HY.out.symm.trans hz
            simp at this
            subst this
            exact hyx
          clear d1 hyx
          go_wp2_with fail
          go_quiet (fail)
          go_wp2_with fail
          go_quiet (fail)
          have INS : Hid (insS out x = out.take (m + 1) ++ x :: out.drop (m + 1)) := by
            show _ = _
            exact insS_put UPO.out (by have := HLN.out; omega) hA.out.2 KK.out
          go_wp2_with (at_builtin; refine wpList_append_rf rfl (.tmp 45) (.tmp 46) 38 rfl 9 1 16 _ encS Tryz.underlying38 infoStr rfl (by omega) (.slice (some ⟨b2, 0, none⟩) n c) out n HLN.out G rfl ((hR.out.1.frame0 hA.out.1).frame0 (by (repeat first | assumption | exact Frame.refl _ _ | refine Frame.trans1 ?_ (Frame.alloc _ _ _) | refine Frame.trans1 ?_ (Frame.drew _ _) | refine Frame.trans1 ?_ (Frame.drewN _ _ _)))) (fun y => y = _) _ 1 1 [⟨#[]⟩] rfl (rf_one (Blk.new _ _ _) _ rfl) rfl encS_len encS_one (n + 1) rfl (by omega) (by omega) ?_; intro a4 cap4 w4 G4 sl4 f4 hG4; have f4w : Frame G wq w4 := (show Frame G wq _ from by (repeat first | assumption | exact Frame.refl _ _ | refine Frame.trans1 ?_ (Frame.alloc _ _ _) | refine Frame.trans1 ?_ (Frame.drew _ _) | refine Frame.trans1 ?_ (Frame.drewN _ _ _))).trans1 f4; have R4 := Lib.hid (And.intro sl4 (And.intro (show Frame G wo w4 from (hA.out.1.mono (by simp)).trans1 f4w) hG4)); clear sl4 f4 hG4 f4w)
          obtain ⟨b', c', hv4, hG4, row4⟩ := Sl.row (A := out) (x := (⟨#[]⟩ : ByteArray)) (B := []) R4.out.1
          injection hv4 with hv41 hv42 hv43
          subst hv41 hv43 hG4
          have hb4 : w.heap.size ≤ b' := by
            rcases R4.out.2.2 b' (by simp) with hb | hb
            · exact hR.out.2.2.2 _ hb
            · have e1 := hR.out.2.2.1.size
              have e2 := hA.out.1.size
              simp only [World.size_alloc, World.size_drew, show ∀ (a : World) k, (a.drewN k).heap.size = a.heap.size from fun _ _ => rfl] at hb
              omega
          have FW := Lib.hid (hR.out.2.2.1.trans R4.out.2.1 (fun x hx => .inr (hR.out.2.2.2 x hx)))
          have HB := Lib.hid hb4
          have S4 := Lib.hid R4.out.1
          clear hb4 hv42 row4
          go_loopw [6] (fun kv w3 => ∃ (kk : Nat) (u : ByteArray), (m + 1) ≤ kk ∧ kk ≤ n ∧ kv = .int .i64 kk ∧ Hid (Frame [b'] w4 w3 ∧ Sl w3 9 1 encS (.slice (some ⟨b', 0, none⟩) (n + 1) cap4) (out.take kk ++ u :: out.drop kk) [b'])) (fun kv _ => (intOf kv).toNat)
          case atStart =>
            refine ⟨n, ⟨#[]⟩, by omega, Nat.le_refl _, by first | rfl | go_num, Lib.hid ⟨Frame.refl _ _, ?_⟩⟩
            have e : out.take n ++ (⟨#[]⟩ : ByteArray) :: out.drop n = out ++ [⟨#[]⟩] := by
              rw [List.take_of_length_le (by have := HLN.out; omega), List.drop_of_length_le (by have := HLN.out; omega)]
            rw [e]; exact S4.out
          case round =>
            obtain ⟨kk, u, hk1, hk2, rfl, hK⟩ := hrel
            rename World => w3
            by_cases hka : kk = (m + 1)
            · have x1 := H.out.frame0 (FW.out.trans hK.out.1 (fun x hx => .inr (by simp at hx; rw [hx]; exact HB.out)))
              obtain ⟨b9, o9, hq9, -, k9⟩ := x1 t _ G1.out
              simp only [Option.some.injEq, Addr.mk.injEq] at hq9
              obtain ⟨rfl, rfl, -⟩ := hq9
              have r9 := k9 0 _ rfl
              simp only [Nat.mul_one, Nat.add_zero] at r9
              have z1 := hK.out.2.frozenS (m + 1)
              have z2 := hK.out.2.atS (k := (m + 1)) (x := u) (by rw [hka, List.getElem?_append_right (by rw [List.length_take]; omega), List.length_take, show (m + 1) - min (m + 1) out.length = 0 by have := HLN.out; omega]; rfl)
              subst hka
              clear k9 x1 x0 y0
              go_wp2_with fail
              go_roundw
              case rel =>
                refine ⟨t + 1, n + 1, cap4, some ⟨b', 0, none⟩, [b'], by omega, by omega, by first | rfl | go_num, rfl, ?_⟩
                show _ ∧ _ ∧ _ ∧ _
                have := hK.out.2.setS (m + 1) x
                rw [last_setS (by have := HLN.out; omega)] at this
                rw [NX.out, INS.out]
                refine ⟨this, by have := HLN.out; simp; omega, (FW.out.trans hK.out.1 (fun x hx => .inr (by simp at hx; rw [hx]; exact HB.out))).trans (Frame.setCell (S := [b']) _ _ _ (by simp)) (fun x hx => .inr (by simp at hx; rw [hx]; exact HB.out)), by simp [HB.out]⟩
              case measure => first | (simp [intOf]; done) | (simp [intOf]; omega)
            · obtain ⟨k', rfl⟩ : ∃ k', kk = k' + 1 := ⟨kk - 1, by omega⟩
              have hkl : k' < out.length := by have := HLN.out; omega
              have hy : out[k']? = some out[k'] := by simp
              generalize out[k'] = y9 at hy
              have z1 := hK.out.2.frozenS (k' + 1)
              have z2 := hK.out.2.atS (last_atS hy)
              have z3 := hK.out.2.atS (k := k' + 1) (x := u) (by rw [List.getElem?_append_right (by rw [List.length_take]; omega), List.length_take, show k' + 1 - min (k' + 1) out.length = 0 by omega]; rfl)
              have HY9 := Lib.hid hy
              clear hy hkl
              go_wp2_with fail
              go_roundw
              case rel =>
                refine ⟨k', y9, by omega, by omega, by first | rfl | go_num, Lib.hid ⟨hK.out.1.trans1 (Frame.setCell _ _ _ (by simp)), ?_⟩⟩
                have := hK.out.2.setS (k' + 1) y9
                rw [shift_setS HY9.out] at this
                exact this
              case measure => first | (simp [intOf]; done) | (simp [intOf]; omega)
        · have hxy : x ∈ out := by
            have : y = x := by
              by_cases e : y = x
              · exact e
              · rw [beq_toList_false e] at d3; cases d3
            rw [← this]; exact List.mem_of_getElem? HY.out
          have HX := Lib.hid hxy
          clear d1 hxy
          go_wp2_with fail
          go_quiet (fail)
          go_wp2_with fail
          go_quiet (fail)
          go_wp2_with fail
          go_roundw
          case rel =>
            refine ⟨t + 1, n, c, some ⟨b2, 0, none⟩, G, by omega, by omega, by first | rfl | go_num, rfl, ?_⟩
            show _ ∧ _ ∧ _ ∧ _
            have e9 := NX.out.trans (insS_has HX.out)
            rw [e9]
            exact ⟨hR.out.1.frame0 (hA.out.1.trans1 (by (repeat first | assumption | exact Frame.refl _ _ | refine Frame.trans1 ?_ (Frame.alloc _ _ _) | refine Frame.trans1 ?_ (Frame.drew _ _) | refine Frame.trans1 ?_ (Frame.drewN _ _ _)))), HLN.out, hR.out.2.2.1.trans1 (hA.out.1.trans1 (by (repeat first | assumption | exact Frame.refl _ _ | refine Frame.trans1 ?_ (Frame.alloc _ _ _) | refine Frame.trans1 ?_ (Frame.drew _ _) | refine Frame.trans1 ?_ (Frame.drewN _ _ _)))), hR.out.2.2.2⟩
          case measure => first | (simp [intOf]; done) | (simp [intOf]; omega)
    · obtain rfl : t = ls.length := by omega
      have hS := hR.out
      rw [List.take_length] at hS
      obtain ⟨s1, s2, s3, s4⟩ := hS
      subst s2
      have S := Lib.hid (And.intro s1 (And.intro s3 s4))
      clear s1 s3 s4 hR
      go_wp2_with fail
      go_ret
      exact ⟨a, c, G, rfl, S.out.1.frame0 (by (repeat first | assumption | exact Frame.refl _ _ | refine Frame.trans1 ?_ (Frame.alloc _ _ _) | refine Frame.trans1 ?_ (Frame.drew _ _) | refine Frame.trans1 ?_ (Frame.drewN _ _ _))), S.out.2.1.trans1 (by (repeat first | assumption | exact Frame.refl _ _ | refine Frame.trans1 ?_ (Frame.alloc _ _ _) | refine Frame.trans1 ?_ (Frame.drew _ _) | refine Frame.trans1 ?_ (Frame.drewN _ _ _))), S.out.2.2⟩
end Go.Proofs.YtjcajidgaejhoaaGreat

