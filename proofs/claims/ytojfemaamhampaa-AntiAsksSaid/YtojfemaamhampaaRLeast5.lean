/- tansyref5.Least. -/
import Derived.Test.YtojfemaamhampaaRLeastP5
namespace Go.Proofs.Ytojfemaamhampaa
open Go.RowKit
set_option linter.unusedSimpArgs false
set_option linter.unusedVariables false

theorem AllT.of_old {w wz : World} {v : Value} {ps : List SV} {Gz : List Nat} {K : Nat} (h : ∀ s ∈ ps, s.ok (fun b => w.heap.size ≤ b ∧ b < K) wz) (sl : Sl wz 22 1 encV v ps Gz) (hG : ∀ y ∈ Gz, K ≤ y) (hK : w.heap.size ≤ K) (f : Frame [] w wz) : AllT w wz v ps Gz :=
  ⟨⟨sl, fun s hs => (h s hs).mono fun b hb hm => by have := hG b hm; omega⟩, fun s hs => (h s hs).mono fun b hb => hb.1, fun y hy => Nat.le_trans hK (hG y hy), f⟩
set_option maxHeartbeats 16000000 in
set_option maxRecDepth 100000 in
theorem rleast_any (a : Option Addr) (c : Nat) (vs : List SV) (w : World) (h : RV w a vs) (hl : vs.length ≤ 100000) :
    Calls Try.prog 28 #[.slice a vs.length c] w (NewSets w (leastR (vs.map (·.l)))) := by
  have H := Lib.hid h
  have LL : Hid (∀ k, (leastR ((vs.map (·.l)).take k)).length ≤ 100000) := fun k => by
    have h1 := leastR_len ((vs.map (·.l)).take k)
    rw [List.length_take, List.length_map] at h1
    omega
  clear h
  go_enter Try.func28, Try.ntmps28
  go_wp2_with fail
  go_loopw [3, 4] (fun v i wr => ∃ (t n : Nat) (a' : Option Addr) (c' : Nat) (os : List SV) (G : List Nat), t ≤ vs.length ∧ n ≤ t ∧ i = .int .i64 t ∧ v = .slice a' n c' ∧ Hid (os.length = n ∧ os.map (·.l) = leastR ((vs.map (·.l)).take t) ∧ AllT w wr (.slice a' n c') os G)) (fun _ i _ => vs.length - (intOf i).toNat)
  case atStart => exact ⟨0, 0, none, 0, [], [], Nat.zero_le _, Nat.zero_le _, rfl, rfl, by show _ ∧ _ ∧ _; exact ⟨rfl, by simp [leastR], AllT.nil (by (repeat first | assumption | exact Frame.refl _ _ | refine Frame.trans1 ?_ (Frame.alloc _ _ _) | refine Frame.trans1 ?_ (Frame.drew _ _) | refine Frame.trans1 ?_ (Frame.drewN _ _ _)))⟩⟩
  case round =>
    obtain ⟨t, n, a2, c2, os, G, ht, hn, rfl, rfl, hR⟩ := hrel
    rename World => wo
    by_cases hlt : t < vs.length
    · have g1 : vs[t]? = some vs[t] := by simp [hlt]
      have W1 := H.out.frame hR.out.2.2.fr
      have oks := W1.ok _ (List.getElem_mem hlt)
      obtain ⟨bv, ov, rfl, q1⟩ := RF.atV W1.rf g1
      have NX := Lib.hid (leastR_next (show (vs.map (·.l))[t]? = some vs[t].l by simp [hlt]))
      generalize vs[t] = s at *
      have SO := Lib.hid (rsortI_any _ s.a s.c s.l wo oks.rd.rfT oks.len)
      have LS : Hid ((srtI s.l).length ≤ 1000000) := Nat.le_trans (srtI_len _) oks.len
      clear g1 W1 oks
      go_wp2_with fail
      refine SO.out.mono ?_
      rintro e w1 ⟨ax, cx, GX, rfl, sx, fx, gx⟩
      have SX := Lib.hid sx
      have GX' := Lib.hid gx
      have FX := Lib.hid fx
      have A1 := Lib.hid (hR.out.2.2.frame fx)
      have lx := LS.out
      generalize srtI s.l = x at *
      clear SO sx fx gx q1
      go_wp2_with fail
      go_loopw [6, 7, 8] (fun ov rs kk wq => ∃ (k m : Nat) (b : Bool) (ar : Option Addr) (cr : Nat) (Gr : List Nat), k ≤ n ∧ m ≤ k ∧ kk = .int .i64 k ∧ ov = .bool b ∧ rs = .slice ar m cr ∧ Hid ((restV (os.take k) x).length = m ∧ b = (os.take k).any (fun t => subB t.l x) ∧ Sl wq 22 1 encV (.slice ar m cr) (restV (os.take k) x) Gr ∧ Frame [] w1 wq ∧ ∀ y ∈ Gr, w1.heap.size ≤ y)) (fun _ _ kk _ => n - (intOf kk).toNat)
      case atStart => exact ⟨0, 0, false, none, 0, [], Nat.zero_le _, Nat.zero_le _, rfl, rfl, rfl, by show _ ∧ _ ∧ _ ∧ _ ∧ _; exact ⟨by simp [restV], by simp, by simpa [restV] using Sl.nil _ _ _ _, Frame.refl _ _, by simp⟩⟩
      case round =>
        obtain ⟨k, m, b, ar, cr, Gr, hk, hmk, rfl, rfl, rfl, hP⟩ := hrel
        rename World => wq
        by_cases hkl : k < n
        · have hkos : k < os.length := by have := hR.out.1; omega
          have g2 : os[k]? = some os[k] := by simp [hkos]
          have AQ := A1.out.frame hP.out.2.2.2.1
          have okt := (AQ.ov.ok _ (List.getElem_mem hkos)).mono (V := fun _ => True) fun _ _ => trivial
          have q2 := AQ.ov.sl.rf (U := fun _ => True) encV_len (fun _ _ => trivial)
          obtain ⟨bu, ou, rfl, q2⟩ := RF.atV q2 g2
          have RN := Lib.hid (restV_next x g2)
          have ON := Lib.hid (overV_next x g2)
          have tnew := (AQ.new _ (List.getElem_mem hkos))
          generalize os[k] = u at *
          have CP : Hid (∀ w', Frame [] wq w' → Calls Try.prog 47 #[.slice u.a u.l.length u.c, .slice ax x.length cx] w' fun e w'' => e = .returned (.bool (subB u.l x)) ∧ Frame [] w' w'') := fun w' f => subset_dec u.a ax u.c cx u.l x w' (okt.frame f (by simp)).rd (((SX.out.frame0 hP.out.2.2.2.1).frame0 f).rdI) okt.len lx
          have CQ : Hid (∀ w', Frame [] wq w' → Calls Try.prog 47 #[.slice ax x.length cx, .slice u.a u.l.length u.c] w' fun e w'' => e = .returned (.bool (subB x u.l)) ∧ Frame [] w' w'') := fun w' f => subset_dec ax u.a cx u.c x u.l w' (((SX.out.frame0 hP.out.2.2.2.1).frame0 f).rdI) (okt.frame f (by simp)).rd lx okt.len
          have Q2 := Lib.hid q2
          clear g2 okt AQ tnew
          cases b with
          | true =>
            have BN : Hid (true = (os.take (k + 1)).any (fun t => subB t.l x)) := by
              show _ = _
              rw [ON.out, ← hP.out.2.1]; rfl
            clear CP ON
            go_wp2_with fail
            cases hq : subB x u.l with
            | true =>
              rw [hq] at CQ RN
              simp only [if_true, List.append_nil] at RN
              have CQ := Lib.hid CQ.out
              have RN := Lib.hid RN.out
              refine (CQ.out _ (Frame.refl [] wq)).mono ?_
              rintro e w3 ⟨rfl, f3⟩
              have F3 := Lib.hid (((Frame.refl [] wq)).trans1 f3)
              clear f3 hq
              go_wp2_with fail
              go_roundw
              case rel => exact ⟨k + 1, m, true, ar, cr, Gr, by omega, by omega, by first | rfl | go_num, rfl, rfl, by
                show _ ∧ _ ∧ _ ∧ _ ∧ _
                rw [RN.out]
                exact ⟨hP.out.1, BN.out, hP.out.2.2.1.frame0 F3.out, hP.out.2.2.2.1.trans1 F3.out, hP.out.2.2.2.2⟩⟩
              case measure => first | (simp [intOf]; done) | (simp [intOf]; omega)
            | false =>
              rw [hq] at CQ RN
              simp only [Bool.false_eq_true, if_false] at RN
              have CQ := Lib.hid CQ.out
              have RN := Lib.hid RN.out
              refine (CQ.out _ (Frame.refl [] wq)).mono ?_
              rintro e w3 ⟨rfl, f3⟩
              have F3 := Lib.hid (((Frame.refl [] wq)).trans1 f3)
              have q3 := F3.out.cell Q2.out (by simp)
              clear f3 hq
              go_wp2_with (at_builtin; refine wpList_append_rf rfl (.tmp 44) (.tmp 49) 26 rfl 22 1 24 _ encV Try.underlying26 infoInts rfl (by omega) (.slice ar m cr) (restV (os.take k) x) m hP.out.1 Gr rfl ((hP.out.2.2.1.frame0 F3.out).frame0 (Frame.alloc [] _ _)) (fun y => y = _) _ 1 1 [u] rfl (rf_one (Blk.new _ _ _) _ rfl) rfl encV_len encV_one (m + 1) rfl (by omega) (by omega) ?_; intro a4 cap4 w4 G4 sl4 f4 hG4; have R4 := Lib.hid (And.intro sl4 (And.intro f4 hG4)); clear sl4 f4 hG4)
              go_roundw
              case rel => exact ⟨k + 1, m + 1, true, a4, cap4, G4, by omega, by omega, by first | rfl | go_num, rfl, rfl, by
                show _ ∧ _ ∧ _ ∧ _ ∧ _
                rw [RN.out]
                have z1 := hP.out.2.2.2.1.size
                have z2 := F3.out.size
                refine ⟨by rw [List.length_append, hP.out.1]; rfl, BN.out, R4.out.1, ((hP.out.2.2.2.1.trans1 F3.out).trans1 (Frame.alloc [] _ _)).trans R4.out.2.1 (fun y hy => .inr (hP.out.2.2.2.2 y hy)), fun y hy => ?_⟩
                rcases R4.out.2.2 y hy with h | h
                · exact hP.out.2.2.2.2 y h
                · simp only [World.size_alloc] at h; omega⟩
              case measure => first | (simp [intOf]; done) | (simp [intOf]; omega)
          | false =>
            generalize hp : subB u.l x = p at CP ON
            have BN : Hid (p = (os.take (k + 1)).any (fun t => subB t.l x)) := by
              show _ = _
              rw [ON.out, ← hP.out.2.1]; rfl
            clear ON hp
            go_wp2_with fail
            refine (CP.out _ (Frame.refl [] wq)).mono ?_
            rintro e w2 ⟨rfl, f2⟩
            have F2 := Lib.hid f2
            have q2 := F2.out.cell Q2.out (by simp)
            clear f2 CP
            go_wp2_with fail
            cases hq : subB x u.l with
            | true =>
              rw [hq] at CQ RN
              simp only [if_true, List.append_nil] at RN
              have CQ := Lib.hid CQ.out
              have RN := Lib.hid RN.out
              refine (CQ.out _ F2.out).mono ?_
              rintro e w3 ⟨rfl, f3⟩
              have F3 := Lib.hid ((F2.out).trans1 f3)
              clear f3 hq
              go_wp2_with fail
              go_roundw
              case rel => exact ⟨k + 1, m, p, ar, cr, Gr, by omega, by omega, by first | rfl | go_num, rfl, rfl, by
                show _ ∧ _ ∧ _ ∧ _ ∧ _
                rw [RN.out]
                exact ⟨hP.out.1, BN.out, hP.out.2.2.1.frame0 F3.out, hP.out.2.2.2.1.trans1 F3.out, hP.out.2.2.2.2⟩⟩
              case measure => first | (simp [intOf]; done) | (simp [intOf]; omega)
            | false =>
              rw [hq] at CQ RN
              simp only [Bool.false_eq_true, if_false] at RN
              have CQ := Lib.hid CQ.out
              have RN := Lib.hid RN.out
              refine (CQ.out _ F2.out).mono ?_
              rintro e w3 ⟨rfl, f3⟩
              have F3 := Lib.hid ((F2.out).trans1 f3)
              have q3 := F3.out.cell Q2.out (by simp)
              clear f3 hq
              go_wp2_with (at_builtin; refine wpList_append_rf rfl (.tmp 44) (.tmp 49) 26 rfl 22 1 24 _ encV Try.underlying26 infoInts rfl (by omega) (.slice ar m cr) (restV (os.take k) x) m hP.out.1 Gr rfl ((hP.out.2.2.1.frame0 F3.out).frame0 (Frame.alloc [] _ _)) (fun y => y = _) _ 1 1 [u] rfl (rf_one (Blk.new _ _ _) _ rfl) rfl encV_len encV_one (m + 1) rfl (by omega) (by omega) ?_; intro a4 cap4 w4 G4 sl4 f4 hG4; have R4 := Lib.hid (And.intro sl4 (And.intro f4 hG4)); clear sl4 f4 hG4)
              go_roundw
              case rel => exact ⟨k + 1, m + 1, p, a4, cap4, G4, by omega, by omega, by first | rfl | go_num, rfl, rfl, by
                show _ ∧ _ ∧ _ ∧ _ ∧ _
                rw [RN.out]
                have z1 := hP.out.2.2.2.1.size
                have z2 := F3.out.size
                refine ⟨by rw [List.length_append, hP.out.1]; rfl, BN.out, R4.out.1, ((hP.out.2.2.2.1.trans1 F3.out).trans1 (Frame.alloc [] _ _)).trans R4.out.2.1 (fun y hy => .inr (hP.out.2.2.2.2 y hy)), fun y hy => ?_⟩
                rcases R4.out.2.2 y hy with h | h
                · exact hP.out.2.2.2.2 y h
                · simp only [World.size_alloc] at h; omega⟩
              case measure => first | (simp [intOf]; done) | (simp [intOf]; omega)
        · obtain rfl : k = n := by omega
          have hos : os.take k = os := List.take_of_length_le (by have := hR.out.1; omega)
          have hP' := hP.out
          rw [hos] at hP'
          have HP := Lib.hid hP'
          clear hP hP' hos
          cases b with
          | true =>
            go_wp2_with fail
            go_roundw
            case rel => exact ⟨t + 1, k, a2, c2, os, G, by omega, by omega, by first | rfl | go_num, rfl, by
              show _ ∧ _ ∧ _
              refine ⟨hR.out.1, ?_, A1.out.frame HP.out.2.2.2.1⟩
              rw [NX.out, ← hR.out.2.1, insR_over HP.out.2.1.symm]⟩
            case measure => first | (simp [intOf]; done) | (simp [intOf]; omega)
          | false =>
            have NXP : Hid (leastR ((vs.map (·.l)).take (t + 1)) = putO ((restV os x).map (·.l)) x) := by
              show _ = _
              rw [NX.out, ← hR.out.2.1, insR_put HP.out.2.1.symm]
            have UPR : Hid (((restV os x).map (·.l)).Pairwise LtO) := by
              show List.Pairwise _ _
              rw [restV_map, hR.out.2.1]
              exact (leastR_lt _).sublist List.filter_sublist
            have RSM : Hid (∀ y ∈ restV os x, y ∈ os) := fun y hy => (List.mem_filter.1 hy).1
            have EL : Hid (∀ y ∈ (⟨ax, cx, x⟩ : SV) :: os, y.ok (fun b => w.heap.size ≤ b ∧ b < w1.heap.size) w1) := fun y hy => by
              have z1 := hR.out.2.2.fr.size
              have z2 := FX.out.size
              rcases List.mem_cons.1 hy with h | h
              · subst h
                have k1 := fresh_in SX.out lx
                exact ⟨k1.rd, k1.len, fun hn b off e => by
                  have h1 := k1.at_ hn b off e
                  have h2 := GX'.out b h1
                  have h3 := SX.out.lt b h1
                  exact ⟨by omega, h3⟩⟩
              · exact (((hR.out.2.2.new y h).old.frame FX.out (by simp)).mono fun b hb => ⟨hb.1, by have := hb.2; omega⟩)
            have RS := Lib.hid HP.out.2.2.1
            have F1q := Lib.hid HP.out.2.2.2.1
            have GRN := Lib.hid HP.out.2.2.2.2
            have hm := Lib.hid HP.out.1
            have RSO : Hid (∀ y ∈ restV os x, y.ok (fun b => w.heap.size ≤ b ∧ b < w1.heap.size) wq) := fun y hy => (EL.out y (List.mem_cons_of_mem _ (RSM.out y hy))).frame F1q.out (by simp)
            have XQ := Lib.hid (SX.out.frame0 F1q.out).rdI
            generalize restV os x = rs at *
            clear HP NX
            go_wp2_with fail
            go_loopw [9] (fun i wz => ∃ k : Nat, k ≤ m ∧ i = .int .i64 k ∧ Hid (Frame [] wq wz ∧ ∀ j z, k ≤ j → (rs.map (·.l))[j]? = some z → LtO x z)) (fun i _ => (intOf i).toNat)
            case atStart => exact ⟨m, Nat.le_refl _, by first | rfl | go_num, Frame.refl _ _, fun j z hj hz => by have := (List.getElem?_eq_some_iff.1 hz).1; rw [List.length_map, hm.out] at this; omega⟩
            case round =>
              obtain ⟨kz, hkz, rfl, hA⟩ := hrel
              rename World => wz
              cases kz with
              | zero =>
                have hk0 : decide ((0 : Int) < ((0 : Nat) : Int)) = false := by decide
                have KK : Hid (∀ m z, 0 = m + 1 → (rs.map (·.l))[m]? = some z → ¬ LtO x z) := by
                  show ∀ m z, _
                  intro m z h; omega
                have INS : Hid (leastR ((vs.map (·.l)).take (t + 1)) = (rs.map (·.l)).take 0 ++ x :: (rs.map (·.l)).drop 0) := by
                  show _ = _
                  rw [NXP.out]
                  exact putO_put UPR.out (by rw [List.length_map]; have := hm.out; omega) hA.out.2 KK.out
                have FW := Lib.hid ((hA.out.1) : Frame [] wq wz)
                go_wp2_with (at_builtin; refine wpList_append_rf rfl (.tmp 67) (.tmp 68) 26 rfl 22 1 24 _ encV Try.underlying26 infoInts rfl (by omega) (.slice ar m cr) rs m hm.out Gr rfl ((RS.out.frame0 FW.out).frame0 (by (repeat first | assumption | exact Frame.refl _ _ | refine Frame.trans1 ?_ (Frame.alloc _ _ _) | refine Frame.trans1 ?_ (Frame.drew _ _) | refine Frame.trans1 ?_ (Frame.drewN _ _ _)))) (fun y => y = _) _ 1 1 [⟨none, 0, []⟩] rfl (rf_one (Blk.new _ _ _) _ rfl) rfl encV_len encV_one (m + 1) rfl (by omega) (by omega) ?_; intro a4 cap4 w4 G4 sl4 f4 hG4; have R4 := Lib.hid (And.intro sl4 (And.intro (((F1q.out.trans1 FW.out).trans1 (show Frame [] wz _ from by (repeat first | assumption | exact Frame.refl _ _ | refine Frame.trans1 ?_ (Frame.alloc _ _ _) | refine Frame.trans1 ?_ (Frame.drew _ _) | refine Frame.trans1 ?_ (Frame.drewN _ _ _)))).trans f4 (fun y hy => .inr (GRN.out y hy))) (fun y hy => (hG4 y hy).elim (GRN.out y) (fun h => Nat.le_trans ((F1q.out.trans1 FW.out).trans1 (show Frame [] wz _ from by (repeat first | assumption | exact Frame.refl _ _ | refine Frame.trans1 ?_ (Frame.alloc _ _ _) | refine Frame.trans1 ?_ (Frame.drew _ _) | refine Frame.trans1 ?_ (Frame.drewN _ _ _)))).size h)))); clear sl4 f4 hG4)
                obtain ⟨b', c', hv4, hG4, row4⟩ := Sl.row (A := rs) (x := (⟨none, 0, []⟩ : SV)) (B := []) R4.out.1
                injection hv4 with hv41 hv42 hv43
                subst hv41 hv43 hG4
                have hb4 : Hid (w1.heap.size ≤ b') := R4.out.2.2 b' (by simp)
                have S4 := Lib.hid R4.out.1
                have F14 := Lib.hid R4.out.2.1
                clear hv42 row4 R4
                go_loopw [10] (fun kv w3 => ∃ (kk : Nat) (u : SV), 0 ≤ kk ∧ kk ≤ m ∧ kv = .int .i64 kk ∧ Hid (Frame [b'] w4 w3 ∧ Sl w3 22 1 encV (.slice (some ⟨b', 0, none⟩) (m + 1) cap4) (rs.take kk ++ u :: rs.drop kk) [b'])) (fun kv _ => (intOf kv).toNat)
                case atStart =>
                  refine ⟨m, ⟨none, 0, []⟩, by omega, Nat.le_refl _, by first | rfl | go_num, Lib.hid ⟨Frame.refl _ _, ?_⟩⟩
                  have e : rs.take m ++ (⟨none, 0, []⟩ : SV) :: rs.drop m = rs ++ [⟨none, 0, []⟩] := by
                    rw [List.take_of_length_le (by have := hm.out; omega), List.drop_of_length_le (by have := hm.out; omega)]
                  rw [e]; exact S4.out
                case round =>
                  obtain ⟨kk, u, hk1, hk2, rfl, hK⟩ := hrel
                  rename World => w3
                  by_cases hka : kk = 0
                  · have z1 := hK.out.2.frozenV 0
                    have z2 := hK.out.2.atV (k := 0) (x := u) (by rw [hka, List.getElem?_append_right (by rw [List.length_take]; omega), List.length_take, show 0 - min 0 rs.length = 0 by have := hm.out; omega]; rfl)
                    subst hka
                    go_wp2_with fail
                    go_roundw
                    case rel =>
                      have FZ : Frame [] w1 (w3.setCell ⟨b', 0, none⟩ (.slice ax x.length cx)) := (F14.out.trans hK.out.1 (fun y hy => .inr (by simp at hy; subst hy; exact hb4.out))).trans (Frame.setCell (S := [b']) _ _ _ (by simp)) (fun y hy => .inr (by simp at hy; subst hy; exact hb4.out))
                      refine ⟨t + 1, m + 1, some ⟨b', 0, none⟩, cap4, rs.take 0 ++ ⟨ax, cx, x⟩ :: rs.drop 0, [b'], by omega, by omega, by first | rfl | go_num, rfl, ?_⟩
                      show _ ∧ _ ∧ _
                      have s9 := hK.out.2.setV 0 ⟨ax, cx, x⟩
                      rw [last_setZ (by have := hm.out; omega)] at s9
                      refine ⟨by have := hm.out; simp; omega, ?_, AllT.of_old (K := w1.heap.size) (fun y hy => (EL.out y ?_).frame FZ (by simp)) s9 (fun y hy => by simp at hy; subst hy; exact hb4.out) (A1.out.fr.size) (A1.out.fr.trans1 FZ)⟩
                      · rw [INS.out]; simp
                      · rcases List.mem_append.1 hy with h | h
                        · exact List.mem_cons_of_mem _ (RSM.out y (List.mem_of_mem_take h))
                        · rcases List.mem_cons.1 h with h | h
                          · rw [h]; exact List.mem_cons_self
                          · exact List.mem_cons_of_mem _ (RSM.out y (List.mem_of_mem_drop h))
                    case measure => first | (simp [intOf]; done) | (simp [intOf]; omega)
                  · obtain ⟨k', rfl⟩ : ∃ k', kk = k' + 1 := ⟨kk - 1, by omega⟩
                    have hkl : k' < rs.length := by have := hm.out; omega
                    have hy : rs[k']? = some rs[k'] := by simp [hkl]
                    generalize rs[k'] = y9 at hy
                    have z1 := hK.out.2.frozenV (k' + 1)
                    have z2 := hK.out.2.atV (last_atZ hy)
                    have z3 := hK.out.2.atV (k := k' + 1) (x := u) (by rw [List.getElem?_append_right (by rw [List.length_take]; omega), List.length_take, show k' + 1 - min (k' + 1) rs.length = 0 by omega]; rfl)
                    have HY9 := Lib.hid hy
                    clear hy hkl
                    go_wp2_with fail
                    go_roundw
                    case rel =>
                      refine ⟨k', y9, by omega, by omega, by first | rfl | go_num, Lib.hid ⟨hK.out.1.trans1 (Frame.setCell _ _ _ (by simp)), ?_⟩⟩
                      have := hK.out.2.setV (k' + 1) y9
                      rw [shift_setZ HY9.out] at this
                      exact this
                    case measure => first | (simp [intOf]; done) | (simp [intOf]; omega)
              | succ ky =>
                have hk0 : decide ((0 : Int) < ((ky + 1 : Nat) : Int)) = true := decide_eq_true (by omega)
                have hml : ky < rs.length := by have := hm.out; omega
                have hy : rs[ky]? = some rs[ky] := by simp [hml]
                have oky := (RSO.out _ (List.getElem_mem hml)).frame hA.out.1 (by simp)
                have q2 := (RS.out.frame0 hA.out.1).rf (U := fun _ => True) encV_len (fun _ _ => trivial)
                obtain ⟨bu, ou, rfl, q2⟩ := RF.atV q2 hy
                have HY : Hid ((rs.map (·.l))[ky]? = some rs[ky].l) := by show _ = _; simp [hml]
                generalize rs[ky] = y at *
                have e1 : IntKind.i64.wrap (((ky + 1 : Nat) : Int) - 1) = (ky : Int) := by rw [show (((ky + 1 : Nat) : Int) - 1) = (ky : Int) from by omega]; exact IntWalk.i64_in _ (by omega)
                have hm0 : (0 : Int) ≤ ((ky + 1 : Nat) : Int) - 1 := by omega
                have LT := lessSet_any ax y.a cx y.c x y.l wz (XQ.out.frame hA.out.1) oky.rd lx oky.len
                clear hy oky hml
                cases hb : ltOB x y.l with
                | true =>
                  rw [hb] at LT
                  have HLT := Lib.hid ((ltOB_iff _ _).1 hb)
                  have LTH := Lib.hid LT
                  clear hb LT
                  go_wp2_with fail
                  refine LTH.out.mono ?_
                  rintro e w5 ⟨rfl, f5⟩
                  have F5 := Lib.hid f5
                  clear f5 LTH
                  go_wp2_with fail
                  go_roundw
                  case rel =>
                    refine ⟨ky, by omega, by first | rfl | go_num, Lib.hid ⟨hA.out.1.trans1 F5.out, fun j z hj hz => ?_⟩⟩
                    by_cases hja : j = ky
                    · subst hja
                      have := HY.out.symm.trans hz
                      simp at this
                      subst this
                      exact HLT.out
                    · exact hA.out.2 j z (by omega) hz
                  case measure => first | (simp [intOf]; done) | (simp [intOf]; omega)
                | false =>
                  rw [hb] at LT
                  have HLT : Hid (¬ LtO x y.l) := fun hh => by rw [(ltOB_iff _ _).2 hh] at hb; cases hb
                  have LTH := Lib.hid LT
                  clear hb LT
                  go_wp2_with fail
                  refine LTH.out.mono ?_
                  rintro e w5 ⟨rfl, f5⟩
                  have F5 := Lib.hid f5
                  have KK : Hid (∀ m z, ky + 1 = m + 1 → (rs.map (·.l))[m]? = some z → ¬ LtO x z) := by
                    show ∀ m z, _
                    intro m' z h hz
                    obtain rfl : m' = ky := by omega
                    have := HY.out.symm.trans hz
                    simp at this
                    subst this
                    exact HLT.out
                  clear f5 LTH q2 e1 hm0
                  have INS : Hid (leastR ((vs.map (·.l)).take (t + 1)) = (rs.map (·.l)).take (ky + 1) ++ x :: (rs.map (·.l)).drop (ky + 1)) := by
                    show _ = _
                    rw [NXP.out]
                    exact putO_put UPR.out (by rw [List.length_map]; have := hm.out; omega) hA.out.2 KK.out
                  have FW := Lib.hid ((hA.out.1.trans1 F5.out) : Frame [] wq w5)
                  go_wp2_with (at_builtin; refine wpList_append_rf rfl (.tmp 67) (.tmp 68) 26 rfl 22 1 24 _ encV Try.underlying26 infoInts rfl (by omega) (.slice (some ⟨bu, ou, none⟩) m cr) rs m hm.out Gr rfl ((RS.out.frame0 FW.out).frame0 (by (repeat first | assumption | exact Frame.refl _ _ | refine Frame.trans1 ?_ (Frame.alloc _ _ _) | refine Frame.trans1 ?_ (Frame.drew _ _) | refine Frame.trans1 ?_ (Frame.drewN _ _ _)))) (fun y => y = _) _ 1 1 [⟨none, 0, []⟩] rfl (rf_one (Blk.new _ _ _) _ rfl) rfl encV_len encV_one (m + 1) rfl (by omega) (by omega) ?_; intro a4 cap4 w4 G4 sl4 f4 hG4; have R4 := Lib.hid (And.intro sl4 (And.intro (((F1q.out.trans1 FW.out).trans1 (show Frame [] w5 _ from by (repeat first | assumption | exact Frame.refl _ _ | refine Frame.trans1 ?_ (Frame.alloc _ _ _) | refine Frame.trans1 ?_ (Frame.drew _ _) | refine Frame.trans1 ?_ (Frame.drewN _ _ _)))).trans f4 (fun y hy => .inr (GRN.out y hy))) (fun y hy => (hG4 y hy).elim (GRN.out y) (fun h => Nat.le_trans ((F1q.out.trans1 FW.out).trans1 (show Frame [] w5 _ from by (repeat first | assumption | exact Frame.refl _ _ | refine Frame.trans1 ?_ (Frame.alloc _ _ _) | refine Frame.trans1 ?_ (Frame.drew _ _) | refine Frame.trans1 ?_ (Frame.drewN _ _ _)))).size h)))); clear sl4 f4 hG4)
                  obtain ⟨b', c', hv4, hG4, row4⟩ := Sl.row (A := rs) (x := (⟨none, 0, []⟩ : SV)) (B := []) R4.out.1
                  injection hv4 with hv41 hv42 hv43
                  subst hv41 hv43 hG4
                  have hb4 : Hid (w1.heap.size ≤ b') := R4.out.2.2 b' (by simp)
                  have S4 := Lib.hid R4.out.1
                  have F14 := Lib.hid R4.out.2.1
                  clear hv42 row4 R4
                  go_loopw [10] (fun kv w3 => ∃ (kk : Nat) (u : SV), (ky + 1) ≤ kk ∧ kk ≤ m ∧ kv = .int .i64 kk ∧ Hid (Frame [b'] w4 w3 ∧ Sl w3 22 1 encV (.slice (some ⟨b', 0, none⟩) (m + 1) cap4) (rs.take kk ++ u :: rs.drop kk) [b'])) (fun kv _ => (intOf kv).toNat)
                  case atStart =>
                    refine ⟨m, ⟨none, 0, []⟩, by omega, Nat.le_refl _, by first | rfl | go_num, Lib.hid ⟨Frame.refl _ _, ?_⟩⟩
                    have e : rs.take m ++ (⟨none, 0, []⟩ : SV) :: rs.drop m = rs ++ [⟨none, 0, []⟩] := by
                      rw [List.take_of_length_le (by have := hm.out; omega), List.drop_of_length_le (by have := hm.out; omega)]
                    rw [e]; exact S4.out
                  case round =>
                    obtain ⟨kk, u, hk1, hk2, rfl, hK⟩ := hrel
                    rename World => w3
                    by_cases hka : kk = (ky + 1)
                    · have z1 := hK.out.2.frozenV (ky + 1)
                      have z2 := hK.out.2.atV (k := (ky + 1)) (x := u) (by rw [hka, List.getElem?_append_right (by rw [List.length_take]; omega), List.length_take, show (ky + 1) - min (ky + 1) rs.length = 0 by have := hm.out; omega]; rfl)
                      subst hka
                      go_wp2_with fail
                      go_roundw
                      case rel =>
                        have FZ : Frame [] w1 (w3.setCell ⟨b', (ky + 1), none⟩ (.slice ax x.length cx)) := (F14.out.trans hK.out.1 (fun y hy => .inr (by simp at hy; subst hy; exact hb4.out))).trans (Frame.setCell (S := [b']) _ _ _ (by simp)) (fun y hy => .inr (by simp at hy; subst hy; exact hb4.out))
                        refine ⟨t + 1, m + 1, some ⟨b', 0, none⟩, cap4, rs.take (ky + 1) ++ ⟨ax, cx, x⟩ :: rs.drop (ky + 1), [b'], by omega, by omega, by first | rfl | go_num, rfl, ?_⟩
                        show _ ∧ _ ∧ _
                        have s9 := hK.out.2.setV (ky + 1) ⟨ax, cx, x⟩
                        rw [last_setZ (by have := hm.out; omega)] at s9
                        refine ⟨by have := hm.out; simp; omega, ?_, AllT.of_old (K := w1.heap.size) (fun y hy => (EL.out y ?_).frame FZ (by simp)) s9 (fun y hy => by simp at hy; subst hy; exact hb4.out) (A1.out.fr.size) (A1.out.fr.trans1 FZ)⟩
                        · rw [INS.out]; simp
                        · rcases List.mem_append.1 hy with h | h
                          · exact List.mem_cons_of_mem _ (RSM.out y (List.mem_of_mem_take h))
                          · rcases List.mem_cons.1 h with h | h
                            · rw [h]; exact List.mem_cons_self
                            · exact List.mem_cons_of_mem _ (RSM.out y (List.mem_of_mem_drop h))
                      case measure => first | (simp [intOf]; done) | (simp [intOf]; omega)
                    · obtain ⟨k', rfl⟩ : ∃ k', kk = k' + 1 := ⟨kk - 1, by omega⟩
                      have hkl : k' < rs.length := by have := hm.out; omega
                      have hy : rs[k']? = some rs[k'] := by simp [hkl]
                      generalize rs[k'] = y9 at hy
                      have z1 := hK.out.2.frozenV (k' + 1)
                      have z2 := hK.out.2.atV (last_atZ hy)
                      have z3 := hK.out.2.atV (k := k' + 1) (x := u) (by rw [List.getElem?_append_right (by rw [List.length_take]; omega), List.length_take, show k' + 1 - min (k' + 1) rs.length = 0 by omega]; rfl)
                      have HY9 := Lib.hid hy
                      clear hy hkl
                      go_wp2_with fail
                      go_roundw
                      case rel =>
                        refine ⟨k', y9, by omega, by omega, by first | rfl | go_num, Lib.hid ⟨hK.out.1.trans1 (Frame.setCell _ _ _ (by simp)), ?_⟩⟩
                        have := hK.out.2.setV (k' + 1) y9
                        rw [shift_setZ HY9.out] at this
                        exact this
                      case measure => first | (simp [intOf]; done) | (simp [intOf]; omega)
    · obtain rfl : t = vs.length := by omega
      have hS := hR.out
      rw [List.take_of_length_le (by simp)] at hS
      have S := Lib.hid hS
      clear hR hS
      go_wp2_with fail
      go_ret
      obtain ⟨h1, h2, h3⟩ := S.out
      subst h1
      exact ⟨a2, c2, os, G, rfl, h3.ov, h2, h3.new, h3.fr, h3.far⟩
end Go.Proofs.Ytojfemaamhampaa
