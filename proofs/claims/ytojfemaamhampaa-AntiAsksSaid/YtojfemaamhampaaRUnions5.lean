/- tansyref5.Unions. -/
import Derived.Test.YtojfemaamhampaaRLeast5
namespace Go.Proofs.Ytojfemaamhampaa
open Go.RowKit
set_option linter.unusedSimpArgs false
set_option linter.unusedVariables false

theorem unionsL_next {f g : List (List Int)} {i : Nat} {x : List Int} (h : f[i]? = some x) : unionsL (f.take (i + 1)) g = unionsL (f.take i) g ++ g.map fun b => x ++ b := by
  rw [take_one' h]; simp [unionsL]
theorem unionsL_len (f g : List (List Int)) : (unionsL f g).length = f.length * g.length := by
  have := unS_len f g
  rw [unS_eq, List.length_map] at this
  exact this
structure UnIn (w : World) (a0 a1 : Option Addr) (vs us : List SV) : Prop where
  r0 : RV w a0 vs
  r1 : RV w a1 us
  l0 : ∀ s ∈ vs, s.l.length ≤ 500
  l1 : ∀ s ∈ us, s.l.length ≤ 500
  ll : vs.length * us.length ≤ 20000
set_option maxHeartbeats 8000000 in
set_option maxRecDepth 100000 in
theorem runions_any (a0 a1 : Option Addr) (c0 c1 : Nat) (vs us : List SV) (w : World) (h : UnIn w a0 a1 vs us) (hvl : vs.length ≤ 100000) (hul : us.length ≤ 100000) :
    Calls Try.prog 30 #[.slice a0 vs.length c0, .slice a1 us.length c1] w (NewSets w (timesL (vs.map (·.l)) (us.map (·.l)))) := by
  have T := Lib.hid h
  clear h
  go_enter Try.func30, Try.ntmps30
  go_wp2_with fail
  go_loopw [5, 6] (fun u i wr => ∃ (k n : Nat) (a' : Option Addr) (c' : Nat) (os : List SV) (G : List Nat), k ≤ vs.length ∧ n ≤ 20000 ∧ i = .int .i64 k ∧ u = .slice a' n c' ∧ Hid (os.length = n ∧ os.map (·.l) = unionsL ((vs.map (·.l)).take k) (us.map (·.l)) ∧ AllT w wr (.slice a' n c') os G)) (fun _ i _ => vs.length - (intOf i).toNat)
  case atStart => exact ⟨0, 0, none, 0, [], [], Nat.zero_le _, Nat.zero_le _, rfl, rfl, by show _ ∧ _ ∧ _; exact ⟨rfl, by simp [unionsL], AllT.nil (by (repeat first | assumption | exact Frame.refl _ _ | refine Frame.trans1 ?_ (Frame.alloc _ _ _) | refine Frame.trans1 ?_ (Frame.drew _ _) | refine Frame.trans1 ?_ (Frame.drewN _ _ _)))⟩⟩
  case round =>
    obtain ⟨i, n, a2, c2, os, G, hi, hn, rfl, rfl, hR⟩ := hrel
    rename World => wo
    by_cases hlt : i < vs.length
    · have hms : vs[i] ∈ vs := List.getElem_mem hlt
      have g1 : vs[i]? = some vs[i] := by simp [hlt]
      have G1 := Lib.hid g1
      have sl5 := T.out.l0 _ hms
      have NX := Lib.hid (unionsL_next (g := us.map (·.l)) (show (vs.map (·.l))[i]? = some vs[i].l by simp [hlt]))
      have BND : Hid (os.length + us.length ≤ 20000) := by
        have e1 := congrArg List.length hR.out.2.1
        rw [List.length_map, unionsL_len, List.length_take, List.length_map, List.length_map, Nat.min_eq_left (by omega)] at e1
        have := T.out.ll
        have h3 : (i + 1) * us.length ≤ vs.length * us.length := Nat.mul_le_mul_right _ hlt
        rw [Nat.succ_mul] at h3
        show _ ≤ _
        omega
      generalize vs[i] = s at *
      have SL := Lib.hid sl5
      clear g1 sl5
      go_wp2_with fail
      go_loopw [5, 7] (fun u i wr => ∃ (k m : Nat) (a' : Option Addr) (c' : Nat) (ps : List SV) (G : List Nat), k ≤ us.length ∧ m ≤ 20000 ∧ i = .int .i64 k ∧ u = .slice a' m c' ∧ Hid (ps.length = m ∧ m = n + k ∧ ps.map (·.l) = os.map (·.l) ++ ((us.map (·.l)).take k).map (fun b => s.l ++ b) ∧ AllT w wr (.slice a' m c') ps G)) (fun _ i _ => us.length - (intOf i).toNat)
      case atStart => exact ⟨0, n, a2, c2, os, G, Nat.zero_le _, hn, rfl, rfl, by show _ ∧ _ ∧ _ ∧ _; exact ⟨hR.out.1, by omega, by simp, hR.out.2.2.frame (by (repeat first | assumption | exact Frame.refl _ _ | refine Frame.trans1 ?_ (Frame.alloc _ _ _) | refine Frame.trans1 ?_ (Frame.drew _ _) | refine Frame.trans1 ?_ (Frame.drewN _ _ _)))⟩⟩
      case round =>
        obtain ⟨j, m, a3, c3, ps, G3, hj, hm, rfl, rfl, hP⟩ := hrel
        rename World => wq
        by_cases hjl : j < us.length
        · have FQ := Lib.hid hP.out.2.2.2.fr
          have g2 : us[j]? = some us[j] := by simp [hjl]
          have W1 := T.out.r0.frame FQ.out
          have W2 := T.out.r1.frame FQ.out
          have OKs := Lib.hid (W1.ok _ hms)
          have okt := W2.ok _ (List.getElem_mem hjl)
          have tl5 := T.out.l1 _ (List.getElem_mem hjl)
          obtain ⟨bv, ov, e1, hbv, -⟩ := T.out.r0.rf _ _ G1.out
          obtain ⟨bu, ou, e2, hbu, -⟩ := T.out.r1.rf _ _ g2
          obtain ⟨bv', ov', e1', q1⟩ := RF.atV W1.rf G1.out
          obtain ⟨bu', ou', e2', q2⟩ := RF.atV W2.rf g2
          rw [e1] at e1'
          rw [e2] at e2'
          simp only [Option.some.injEq, Addr.mk.injEq] at e1' e2'
          obtain ⟨rfl, rfl, -⟩ := e1'
          obtain ⟨rfl, rfl, -⟩ := e2'
          subst e1 e2
          have nv : bv ∉ G3 := fun hm => by have := hP.out.2.2.2.far bv hm; omega
          have nu : bu ∉ G3 := fun hm => by have := hP.out.2.2.2.far bu hm; omega
          have NX2 : Hid (((us.map (·.l)).take (j + 1)).map (fun b => s.l ++ b) = ((us.map (·.l)).take j).map (fun b => s.l ++ b) ++ [s.l ++ us[j].l]) := by
            show _ = _
            rw [take_one' (show (us.map (·.l))[j]? = some us[j].l by simp [hjl])]
            simp
          generalize us[j] = t at *
          have OKt := Lib.hid okt
          have LT := Lib.hid tl5
          have hm1 : m + 1 ≤ 20000 := by
            have := BND.out; have := hP.out.2.1; have := hR.out.1
            omega
          have M1 : ∀ w', Frame G3 wq w' → w'.cell? ⟨bv, ov + i, none⟩ = some (.slice s.a s.l.length s.c) := fun w' f => f.cell q1 nv
          have M2 : ∀ w', Frame G3 wq w' → w'.cell? ⟨bu, ou + j, none⟩ = some (.slice t.a t.l.length t.c) := fun w' f => f.cell q2 nu
          have LB : Hid (s.l.length + t.l.length ≤ 1000) := by show _ ≤ _; have := SL.out; have := LT.out; omega
          clear g2 W1 W2 okt tl5 q1 q2
          go_wp2_with fail
          go_region_held3 (fun w' => Frame G3 wq w') ((repeat first | assumption | exact Frame.refl _ _ | refine Frame.trans1 ?_ (Frame.alloc _ _ _) | refine Frame.trans1 ?_ (Frame.drew _ _) | refine Frame.trans1 ?_ (Frame.drewN _ _ _)))
            ((first
              | (refine step_append_rf (by rfl) (.tmp 21) (.tmp 25) 22 (by rfl) 3 1 8 _ encI Try.underlying22 infoInt rfl (by omega) (.slice (some ⟨wq.heap.size, 0, none⟩) 0 0) [] 0 rfl [wq.heap.size] (by rfl) (sl_empty wq.drew _ _ _) (fun _ => True) s.a s.l.length s.c s.l (by rfl) ((OKs.out.rd.frame (by (repeat first | assumption | exact Frame.refl _ _ | refine Frame.trans1 ?_ (Frame.alloc _ _ _) | refine Frame.trans1 ?_ (Frame.drew _ _) | refine Frame.trans1 ?_ (Frame.drewN _ _ _)))).rfT) rfl encI_len encI_one s.l.length (by omega) (by have := LB.out; omega) (by omega) ?_; intro a5 cap5 w5 G5 sl5 f5 hG5; have S5 := Lib.hid (show Sl w5 3 1 encI (.slice a5 s.l.length cap5) s.l G5 from sl5); have E5 := Lib.hid (((Frame.drew [] wq).trans1 (Frame.alloc [] wq.drew (.cells #[] 3))).trans f5 (fun x hx => .inr (by simp at hx; omega))); have F5 : Frame G3 wq w5 := E5.out.mono (by simp); have HG5 : Hid (∀ x ∈ G5, wq.heap.size ≤ x) := (fun x hx => (hG5 x hx).elim (fun h => by simp at h; omega) (fun h => Nat.le_trans ((Frame.drew [] wq).trans1 (Frame.alloc [] wq.drew (.cells #[] 3))).size h)); clear sl5 f5 hG5)
              | (refine step_append_rf (by rfl) (.tmp 26) (.tmp 30) 22 (by rfl) 3 1 8 _ encI Try.underlying22 infoInt rfl (by omega) (.slice a5 s.l.length cap5) s.l s.l.length rfl G5 (by rfl) S5.out (fun _ => True) t.a t.l.length t.c t.l (by rfl) ((OKt.out.rd.frame E5.out).rfT) rfl encI_len encI_one (s.l.length + t.l.length) rfl (by have := LB.out; omega) (by omega) ?_; intro a6 cap6 w6 G6 sl6 f6 hG6; have S6 := Lib.hid (show Sl w6 3 1 encI (.slice a6 (s.l ++ t.l).length cap6) (s.l ++ t.l) G6 from by rw [List.length_append]; exact sl6); have E6 := Lib.hid (E5.out.trans f6 (fun x hx => .inr (HG5.out x hx))); have F6 : Frame G3 wq w6 := E6.out.mono (by simp); have HG6 : Hid (∀ x ∈ G6, wq.heap.size ≤ x) := (fun x hx => (hG6 x hx).elim (HG5.out x) (fun h => Nat.le_trans E5.out.size h)); clear sl6 f6 hG6)
              | (refine step_append_rf (by rfl) (.tmp 20) (.tmp 32) 26 (by rfl) 22 1 24 _ encV Try.underlying26 infoInts rfl (by omega) (.slice a3 m c3) ps m hP.out.1 G3 (by rfl) ((hP.out.2.2.2.ov.sl.frame0 E6.out).frame0 (Frame.alloc [] _ _)) (fun y => y = _) _ 1 1 [⟨a6, cap6, s.l ++ t.l⟩] (by rfl) (rf_one (Blk.new _ _ _) _ (by simp [encV, SV.v])) rfl encV_len encV_one (m + 1) rfl (by omega) (by omega) ?_; intro a7 cap7 w7 G7 sl7 f7 hG7; have R7 := Lib.hid (hP.out.2.2.2.push E6.out S6.out (by have := LB.out; rw [List.length_append]; omega) HG6.out (Frame.alloc [] _ _) sl7 f7 hG7); have F7 : Frame G3 wq w7 := (F6.trans1 (Frame.alloc _ _ _)).trans1 f7; clear sl7 f7 hG7)))
          go_wp2_with fail
          go_roundw
          case rel => exact ⟨j + 1, m + 1, a7, cap7, ps ++ [⟨a6, cap6, s.l ++ t.l⟩], G7, by omega, by omega, by first | rfl | go_num, rfl, by
            show _ ∧ _ ∧ _ ∧ _
            refine ⟨by rw [List.length_append, hP.out.1]; rfl, by have := hP.out.2.1; omega, ?_, R7.out⟩
            rw [NX2.out, List.map_append, hP.out.2.2.1, List.append_assoc]
            rfl⟩
          case measure => first | (simp [intOf]; done) | (simp [intOf]; omega)
        · obtain rfl : j = us.length := by omega
          go_wp2_with fail
          go_roundw
          case rel => exact ⟨i + 1, m, a3, c3, ps, G3, by omega, by omega, by first | rfl | go_num, rfl, by
            show _ ∧ _ ∧ _
            refine ⟨hP.out.1, ?_, hP.out.2.2.2⟩
            rw [NX.out, hP.out.2.2.1, hR.out.2.1]
            congr 1
            rw [List.take_of_length_le (by simp)]⟩
          case measure => first | (simp [intOf]; done) | (simp [intOf]; omega)
    · obtain rfl : i = vs.length := by omega
      have hS := hR.out
      rw [List.take_of_length_le (by simp)] at hS
      have S := Lib.hid hS
      obtain rfl := hS.1
      have RL := Lib.hid (rleast_any a2 c2 os wo hS.2.2.ov.rv (by omega))
      clear hS hR
      go_wp2_with fail
      refine RL.out.mono ?_
      rintro e w5 ⟨a5, c5, ps, G5, rfl, o5, m5, n5, f5, g5⟩
      have z5 := S.out.2.2.fr.size
      have O5 := Lib.hid o5
      have M5 := Lib.hid m5
      have N5 := Lib.hid n5
      have F5 := Lib.hid f5
      have G5' := Lib.hid g5
      clear RL o5 m5 n5 f5 g5
      go_wp2_with fail
      go_ret
      refine ⟨a5, c5, ps, G5, rfl, O5.out, ?_, fun y hy => (N5.out y hy).mono fun b hb => Nat.le_trans z5 hb, S.out.2.2.fr.trans1 F5.out, fun y hy => Nat.le_trans z5 (G5'.out y hy)⟩
      rw [M5.out, S.out.2.1]
      rfl
end Go.Proofs.Ytojfemaamhampaa
