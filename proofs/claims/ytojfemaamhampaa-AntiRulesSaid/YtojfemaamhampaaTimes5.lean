/- Families: Times. -/
import Derived.Test.YtojfemaamhampaaPlus5
import Derived.Test.YtojfemaamhampaaConcat5
import Derived.Test.YtojfemaamhampaaAwake5
namespace Go.Proofs.Ytojfemaamhampaa
open Go.RowKit
set_option linter.unusedSimpArgs false
set_option linter.unusedVariables false

/-- A row of new sets of one's own, all of it behind wA. -/
structure AllT (wA wr : World) (v : Value) (os : List SV) (G : List Nat) : Prop where
  ov : OV wr v os G
  new : ∀ s ∈ os, s.ok (fun b => wA.heap.size ≤ b) wr
  far : ∀ x ∈ G, wA.heap.size ≤ x
  fr : Frame [] wA wr
theorem AllT.nil {wA wr : World} (f : Frame [] wA wr) : AllT wA wr (.slice none 0 0) [] [] := ⟨OV.nil _, by simp, by simp, f⟩
theorem AllT.frame {wA wr w' : World} {v : Value} {os : List SV} {G : List Nat} (h : AllT wA wr v os G) (f : Frame [] wr w') : AllT wA w' v os G :=
  ⟨h.ov.frame0 f, fun s hs => (h.new s hs).frame f (by simp), h.far, h.fr.trans1 f⟩
theorem AllT.push {wA wr w2 w3 w4 : World} {v v' : Value} {os : List SV} {G G' H : List Nat} {a : Option Addr} {c : Nat} {xs : List Int} (h : AllT wA wr v os G) (f2 : Frame [] wr w2) (s3 : Sl w2 3 1 encI (.slice a xs.length c) xs H) (hl : xs.length ≤ 1000000) (g3 : ∀ x ∈ H, wr.heap.size ≤ x)
    (f3 : Frame [] w2 w3) (sl : Sl w4 22 1 encV v' (os ++ [⟨a, c, xs⟩]) G') (f4 : Frame G w3 w4) (hG : ∀ x ∈ G', x ∈ G ∨ w3.heap.size ≤ x) : AllT wA w4 v' (os ++ [⟨a, c, xs⟩]) G' := by
  have KT : SV.ok (· ∉ G) w2 ⟨a, c, xs⟩ := fresh_sv s3 hl g3 fun x hx => h.ov.sl.lt x hx
  have KI : SV.ok (· ∈ H) w2 ⟨a, c, xs⟩ := fresh_in s3 hl
  have z1 := h.fr.size
  have z2 := f2.size
  have z3 := f3.size
  refine ⟨((h.ov.frame0 f2).frame0 f3).push (KT.frame f3 (by simp)) sl f4 hG, fun t ht => ?_, fun x hx => ?_, ((h.fr.trans1 f2).trans1 f3).trans f4 fun x hx => .inr (h.far x hx)⟩
  · have hk : t.ok (fun b => b ∉ G ∧ wA.heap.size ≤ b) w2 := by
      rcases List.mem_append.1 ht with h1 | h1
      · have k1 := (h.ov.ok t h1).frame f2 (by simp)
        have k2 := (h.new t h1).frame f2 (by simp)
        exact ⟨k1.rd, k1.len, fun hn b off e => ⟨k1.at_ hn b off e, k2.at_ hn b off e⟩⟩
      · obtain rfl := List.mem_singleton.1 h1
        exact ⟨KT.rd, KT.len, fun hn b off e => ⟨KT.at_ hn b off e, by
          have := g3 b (KI.at_ hn b off e)
          omega⟩⟩
    exact ((hk.frame f3 (by simp)).frame f4 fun b hb => hb.1).mono fun b hb => hb.2
  · rcases hG x hx with h1 | h1
    · exact h.far x h1
    · omega
/-- What has been put together: of the first i sets all, of the next one j. -/
def unS (f g : List (List Int)) : List (List Int) := f.flatMap fun a => g.map fun b => srtI (a ++ b)
theorem unS_eq (f g : List (List Int)) : unS f g = (unionsL f g).map srtI := by
  unfold unS unionsL
  rw [List.map_flatMap]
  congr 1
  funext a
  rw [List.map_map]
  rfl
theorem unS_next {f g : List (List Int)} {i : Nat} {x : List Int} (h : f[i]? = some x) : unS (f.take (i + 1)) g = unS (f.take i) g ++ g.map fun b => srtI (x ++ b) := by
  rw [take_one' h]; simp [unS]
theorem unS_len (f g : List (List Int)) : (unS f g).length = f.length * g.length := by
  induction f with
  | nil => simp [unS]
  | cons a t ih =>
    unfold unS at ih ⊢
    rw [List.flatMap_cons, List.length_append, List.length_map, ih, List.length_cons, Nat.succ_mul]
    omega
theorem AllT.inW {wA wr : World} {a : Option Addr} {n c : Nat} {os : List SV} {G : List Nat} {f g : List (List Int)} (h : AllT wA wr (.slice a n c) os G) (hm : os.map (·.l) = unS f g) (hl : os.length ≤ 1000000) : InW wA.heap.size wA wr (.slice a n c) os G (timesL f g) := by
  refine ⟨h.ov, h.new, fun s hs => ?_, ?_, hl, h.far, h.fr⟩
  · have : s.l ∈ os.map (·.l) := List.mem_map_of_mem hs
    rw [hm, unS_eq] at this
    exact ups_srt _ _ this
  · rw [hm, unS_eq]
    exact leastR_fam _
theorem entered_timesFn : Entered 45 := by intro args w; simp [go_sem]
/-- All that the loops of Times need. -/
structure TimesIn (w : World) (b0 b1 : Nat) (a0 a1 : Option Addr) (c0 c1 : Nat) (vs us : List SV) : Prop where
  m0 : ∀ w', Frame [] w w' → w'.cell? ⟨b0, 0, none⟩ = some (.slice a0 vs.length c0)
  m1 : ∀ w', Frame [] w w' → w'.cell? ⟨b1, 0, none⟩ = some (.slice a1 us.length c1)
  r0 : RV w a0 vs
  r1 : RV w a1 us
  l0 : ∀ s ∈ vs, s.l.length ≤ 500
  l1 : ∀ s ∈ us, s.l.length ≤ 500
  ll : vs.length * us.length ≤ 20000
set_option maxHeartbeats 8000000 in
set_option maxRecDepth 100000 in
theorem timesFn_ok (b0 b1 b2 : Nat) (a0 a1 : Option Addr) (n0 c0 n1 c1 : Nat) (f g : List (List Int)) (budget : Int) (w : World) (k0 : Blk w b0 30 #[.slice a0 n0 c0]) (k1 : Blk w b1 30 #[.slice a1 n1 c1]) (k2 : Blk w b2 3 #[.int .i64 budget])
    (hf : FV w (.agg #[.slice a0 n0 c0]) f) (hg : FV w (.agg #[.slice a1 n1 c1]) g) (uf : Ups f) (ug : Ups g) (lf : f.length ≤ 100000 ∧ g.length ≤ 100000 ∧ f.length * g.length ≤ 20000) (lg : (∀ s ∈ f, s.length ≤ 500) ∧ ∀ s ∈ g, s.length ≤ 500) (h1 : ((timesL f g).length : Int) ≤ budget) (h2 : (timesL f g).length ≤ 5000) :
    Calls Try.prog 45 #[.pointer (some ⟨b0, 0, none⟩), .pointer (some ⟨b1, 0, none⟩), .pointer (some ⟨b2, 0, none⟩)] w fun e w' => ∃ v, e = .returned v ∧ FVU (fun b => w.heap.size ≤ b) w' v (timesL f g) ∧ Frame [] w w' := by
  obtain ⟨_, _, vs, e0, r0, rfl⟩ := hf
  obtain ⟨_, _, us, e1, r1, rfl⟩ := hg
  simp only [Value.agg.injEq, Array.mk.injEq, List.cons.injEq, and_true, Value.slice.injEq] at e0 e1
  obtain ⟨rfl, rfl, rfl⟩ := e0
  obtain ⟨rfl, rfl, rfl⟩ := e1
  have T : Hid (TimesIn w b0 b1 a0 a1 c0 c1 vs us) := ⟨fun w' q => (k0.frame q (by simp)).at 0 rfl, fun w' q => (k1.frame q (by simp)).at 0 rfl, r0, r1, fun s hs => lg.1 _ (List.mem_map_of_mem hs), fun s hs => lg.2 _ (List.mem_map_of_mem hs), by simpa using lf.2.2⟩
  have hvl : vs.length ≤ 100000 := by simpa using lf.1
  have hul : us.length ≤ 100000 := by simpa using lf.2.1
  have M2 : Hid (∀ w', Frame [] w w' → w'.cell? ⟨b2, 0, none⟩ = some (.int .i64 budget)) := fun w' q => (k2.frame q (by simp)).at 0 rfl
  have HB : Hid (((timesL (vs.map (·.l)) (us.map (·.l))).length : Int) ≤ budget ∧ (timesL (vs.map (·.l)) (us.map (·.l))).length ≤ 5000) := ⟨h1, h2⟩
  clear k0 k1 k2 r0 r1 uf ug lf lg h1 h2
  have BA := Lib.hid (Blk.new w 30 #[.slice none 0 0])
  have FA := Lib.hid (Frame.alloc [] w (.cells #[.slice none 0 0] 30))
  have hA : Hid ((w.alloc (.cells #[.slice none 0 0] 30)).heap.size = w.heap.size + 1) := by show _ = _; simp
  go_enter Try.func45, Try.ntmps45
  have y0 := T.out.m0 _ FA.out
  go_wp2_with fail
  generalize w.alloc (.cells #[.slice none 0 0] 30) = wA at *
  clear y0
  go_loopw [4, 12] (fun u i wr => ∃ (k n : Nat) (a' : Option Addr) (c' : Nat) (os : List SV) (G : List Nat), k ≤ vs.length ∧ n ≤ 20000 ∧ i = .int .i64 k ∧ u = .slice a' n c' ∧ Hid (os.length = n ∧ os.map (·.l) = unS ((vs.map (·.l)).take k) (us.map (·.l)) ∧ AllT wA wr (.slice a' n c') os G)) (fun _ i _ => vs.length - (intOf i).toNat)
  case atStart => exact ⟨0, 0, none, 0, [], [], Nat.zero_le _, Nat.zero_le _, rfl, rfl, by show _ ∧ _ ∧ _; exact ⟨rfl, by simp [unS], AllT.nil (by (repeat first | assumption | exact Frame.refl _ _ | refine Frame.trans1 ?_ (Frame.alloc _ _ _) | refine Frame.trans1 ?_ (Frame.drew _ _) | refine Frame.trans1 ?_ (Frame.drewN _ _ _)))⟩⟩
  case round =>
    obtain ⟨i, n, a2, c2, os, G, hi, hn, rfl, rfl, hR⟩ := hrel
    rename World => wo
    by_cases hlt : i < vs.length
    · have FO := Lib.hid (FA.out.trans1 hR.out.2.2.fr)
      have g1 : vs[i]? = some vs[i] := by simp [hlt]
      have W1 := T.out.r0.frame FO.out
      have hms : vs[i] ∈ vs := List.getElem_mem hlt
      have sl5 := T.out.l0 _ (List.getElem_mem hlt)
      obtain ⟨bv, ov, rfl, q1⟩ := RF.atV W1.rf g1
      have gF : (vs.map (·.l))[i]? = some vs[i].l := by simp [hlt]
      have NX := Lib.hid (unS_next (g := us.map (·.l)) gF)
      have BND : Hid (os.length + us.length ≤ 20000 ∧ os.length = i * us.length) := by
        have e1 := congrArg List.length hR.out.2.1
        rw [List.length_map, unS_len, List.length_take, List.length_map, List.length_map, Nat.min_eq_left (by omega)] at e1
        have := T.out.ll
        have h3 : (i + 1) * us.length ≤ vs.length * us.length := Nat.mul_le_mul_right _ hlt
        rw [Nat.succ_mul] at h3
        refine ⟨by omega, e1⟩
      have m0 := T.out.m0 _ FO.out
      have m1 := T.out.m1 _ FO.out
      generalize vs[i] = s at *
      have SL := Lib.hid sl5
      clear g1 W1 gF sl5
      go_wp2_with fail
      clear q1 m0 m1
      go_loopw [4, 19] (fun u i wr => ∃ (k m : Nat) (a' : Option Addr) (c' : Nat) (ps : List SV) (G : List Nat), k ≤ us.length ∧ m ≤ 20000 ∧ i = .int .i64 k ∧ u = .slice a' m c' ∧ Hid (ps.length = m ∧ m = n + k ∧ ps.map (·.l) = os.map (·.l) ++ ((us.map (·.l)).take k).map (fun b => srtI (s.l ++ b)) ∧ AllT wA wr (.slice a' m c') ps G ∧ Frame [] w wr)) (fun _ i _ => us.length - (intOf i).toNat)
      case atStart => exact ⟨0, n, a2, c2, os, G, Nat.zero_le _, hn, rfl, rfl, by show _ ∧ _ ∧ _ ∧ _ ∧ _; exact ⟨hR.out.1, by omega, by simp, hR.out.2.2.frame (by (repeat first | assumption | exact Frame.refl _ _ | refine Frame.trans1 ?_ (Frame.alloc _ _ _) | refine Frame.trans1 ?_ (Frame.drew _ _) | refine Frame.trans1 ?_ (Frame.drewN _ _ _))), FO.out⟩⟩
      case round =>
        obtain ⟨j, m, a3, c3, ps, G3, hj, hm, rfl, rfl, hP⟩ := hrel
        rename World => wq
        by_cases hjl : j < us.length
        · have FQ := Lib.hid hP.out.2.2.2.2
          have g2 : us[j]? = some us[j] := by simp [hjl]
          have W2 := T.out.r1.frame FQ.out
          have okt := W2.ok _ (List.getElem_mem hjl)
          have tl5 := T.out.l1 _ (List.getElem_mem hjl)
          obtain ⟨bu, ou, rfl, q2⟩ := RF.atV W2.rf g2
          have NX2 : Hid (((us.map (·.l)).take (j + 1)).map (fun b => srtI (s.l ++ b)) = ((us.map (·.l)).take j).map (fun b => srtI (s.l ++ b)) ++ [srtI (s.l ++ us[j].l)]) := by
            show _ = _
            rw [take_one' (show (us.map (·.l))[j]? = some us[j].l by simp [hjl])]
            simp
          generalize us[j] = t at *
          have OKt := Lib.hid okt
          have LT := Lib.hid tl5
          clear g2 W2 okt tl5
          go_wp2_with fail
          have CC : Hid (Calls Try.prog 46 #[.slice (some ⟨wq.heap.size, 0, none⟩) 2 2] (wq.alloc (.cells #[.slice s.a s.l.length s.c, .slice t.a t.l.length t.c] 22)) (FreshEnd 3 1 encI (s.l ++ t.l) (wq.alloc (.cells #[.slice s.a s.l.length s.c, .slice t.a t.l.length t.c] 22)))) := by
            have okq := (T.out.r0.frame FQ.out).ok _ hms
            have B := Blk.new wq 22 #[.slice s.a s.l.length s.c, .slice t.a t.l.length t.c]
            have := concat_any (some ⟨wq.heap.size, 0, none⟩) 2 [s, t] _ ⟨rf_blkV B rfl, fun x hx => by
              simp only [List.mem_cons, List.not_mem_nil, or_false] at hx
              rcases hx with rfl | rfl
              · exact okq.frame (Frame.alloc [] _ _) (by simp)
              · exact OKt.out.frame (Frame.alloc [] _ _) (by simp)⟩ (by simp) (fun x hx => by
              simp only [List.mem_cons, List.not_mem_nil, or_false] at hx
              have := SL.out
              have := LT.out
              rcases hx with rfl | rfl <;> omega)
            have e : catL [s, t] = s.l ++ t.l := by simp [catL]
            rw [e] at this
            exact this
          refine CC.out.mono ?_
          rintro e w3 ⟨a4, c4, G4, rfl, s4, f4, g4⟩
          have F3 : Hid (Frame [] wq w3) := (Frame.alloc [] wq (.cells #[.slice s.a s.l.length s.c, .slice t.a t.l.length t.c] 22)).trans1 f4
          have a3' := asorted_any a4 c4 (s.l ++ t.l) w3 s4.rdI (by have := SL.out; have := LT.out; simp; omega)
          rw [List.length_append] at a3'
          have A3 := Lib.hid a3'
          clear a3'
          clear CC s4 f4 g4
          go_wp2_with fail
          refine A3.out.mono ?_
          rintro e w4 ⟨a5, c5, G5, rfl, s5, f5, g5⟩
          have F4 := Lib.hid (F3.out.trans1 f5)
          have LS : Hid ((srtI (s.l ++ t.l)).length ≤ 1000000) := by
            show _ ≤ _
            have h1 := srtI_len (s.l ++ t.l)
            have := SL.out; have := LT.out
            rw [List.length_append] at h1
            omega
          have S5 := Lib.hid s5
          have G5' : Hid (∀ x ∈ G5, wq.heap.size ≤ x) := fun x hx => Nat.le_trans F3.out.size (g5 x hx)
          clear A3 s5 f5 g5
          have hm1 : m + 1 ≤ 20000 := by
            have := BND.out.1; have := hP.out.2.1; have := hR.out.1
            omega
          go_wp2_with (at_builtin; refine wpList_append_rf rfl (.tmp 23) (.tmp 29) 26 rfl 22 1 24 _ encV Try.underlying26 infoInts rfl (by omega) (.slice a3 m c3) ps m hP.out.1 G3 rfl ((hP.out.2.2.2.1.ov.sl.frame0 F4.out).frame0 (Frame.alloc [] _ _)) (fun y => y = _) _ 1 1 [⟨a5, c5, srtI (s.l ++ t.l)⟩] rfl (rf_one (Blk.new _ _ _) _ rfl) rfl encV_len encV_one (m + 1) rfl (by omega) (by omega) ?_; intro a6 cap6 w6 G6 sl6 f6 hG6; have R6 := Lib.hid (hP.out.2.2.2.1.push F4.out S5.out LS.out G5'.out (Frame.alloc [] _ _) sl6 f6 hG6); clear sl6 f6 hG6)
          go_roundw
          case rel => exact ⟨j + 1, m + 1, a6, cap6, ps ++ [⟨a5, c5, srtI (s.l ++ t.l)⟩], G6, by omega, by omega, by first | rfl | go_num, rfl, by
            show _ ∧ _ ∧ _ ∧ _ ∧ _
            refine ⟨by rw [List.length_append, hP.out.1]; rfl, by have := hP.out.2.1; omega, ?_, R6.out, FA.out.trans1 R6.out.fr⟩
            rw [NX2.out, List.map_append, hP.out.2.2.1, List.append_assoc]
            rfl⟩
          case measure => first | (simp [intOf]; done) | (simp [intOf]; omega)
        · obtain rfl : j = us.length := by omega
          have hd : decide ((m : Int) > 20000) = false := decide_eq_false (by omega)
          go_wp2_with fail
          go_roundw
          case rel => exact ⟨i + 1, m, a3, c3, ps, G3, by omega, by omega, by first | rfl | go_num, rfl, by
            show _ ∧ _ ∧ _
            refine ⟨hP.out.1, ?_, hP.out.2.2.2.1⟩
            rw [NX.out, hP.out.2.2.1, hR.out.2.1]
            congr 1
            rw [List.take_of_length_le (by simp)]⟩
          case measure => first | (simp [intOf]; done) | (simp [intOf]; omega)
    · obtain rfl : i = vs.length := by omega
      have IW : Hid (InW wA.heap.size wA wo (.slice a2 n c2) os G (timesL (vs.map (·.l)) (us.map (·.l)))) := by
        refine hR.out.2.2.inW ?_ (by have := hR.out.1; omega)
        rw [hR.out.2.1, List.take_of_length_le (by simp)]
      have x2 := M2.out wo (FA.out.trans1 hR.out.2.2.fr)
      have HB2 := HB.out
      clear HB
      go_wp2_with fail
      refine (within_in IW.out rfl HB2.1 HB2.2).mono ?_
      rintro e w6 ⟨a6, n6, c6, rfl, r6, b6⟩
      have R6 := Lib.hid r6
      have F6 := Lib.hid (FA.out.trans1 b6)
      have BX := BA.out.frame b6 (by simp)
      have bx := BX.at 0 rfl
      have bf := BX.frozen 0
      have HBX := Lib.hid BX
      clear r6 b6 BX HB2
      go_wp2_with fail
      refine bodyPost_ret (results_fam1 rfl _ _ _ _ rfl (HBX.out.set 0 _)) rfl ?_
      have hF : Frame [w.heap.size] w6 (w6.setCell ⟨w.heap.size, 0, none⟩ (.slice a6 n6 c6)) := Frame.setCell _ _ _ (by simp)
      have hA' := hA.out
      exact ⟨_, rfl, (R6.out.frame hF fun b hb h => by simp at h; omega).mono fun b hb => by omega, F6.out.trans hF (by simp)⟩
set_option maxHeartbeats 8000000 in
set_option maxRecDepth 100000 in
theorem timesFn_bail (b0 b1 b2 : Nat) (a0 a1 : Option Addr) (n0 c0 n1 c1 : Nat) (f g : List (List Int)) (budget : Int) (w : World) (k0 : Blk w b0 30 #[.slice a0 n0 c0]) (k1 : Blk w b1 30 #[.slice a1 n1 c1]) (k2 : Blk w b2 3 #[.int .i64 budget])
    (hf : FV w (.agg #[.slice a0 n0 c0]) f) (hg : FV w (.agg #[.slice a1 n1 c1]) g) (uf : Ups f) (ug : Ups g) (lf : f.length ≤ 100000 ∧ g.length ≤ 100000 ∧ f.length * g.length ≤ 20000) (lg : (∀ s ∈ f, s.length ≤ 500) ∧ ∀ s ∈ g, s.length ≤ 500) (h1 : ¬ (((timesL f g).length : Int) ≤ budget ∧ (timesL f g).length ≤ 5000)) :
    Calls Try.prog 45 #[.pointer (some ⟨b0, 0, none⟩), .pointer (some ⟨b1, 0, none⟩), .pointer (some ⟨b2, 0, none⟩)] w fun e w' => ∃ chain, e = .panicked chain ∧ bailing w 10 (timesL f g).length chain w' ∧ Frame [] w w' := by
  obtain ⟨_, _, vs, e0, r0, rfl⟩ := hf
  obtain ⟨_, _, us, e1, r1, rfl⟩ := hg
  simp only [Value.agg.injEq, Array.mk.injEq, List.cons.injEq, and_true, Value.slice.injEq] at e0 e1
  obtain ⟨rfl, rfl, rfl⟩ := e0
  obtain ⟨rfl, rfl, rfl⟩ := e1
  have T : Hid (TimesIn w b0 b1 a0 a1 c0 c1 vs us) := ⟨fun w' q => (k0.frame q (by simp)).at 0 rfl, fun w' q => (k1.frame q (by simp)).at 0 rfl, r0, r1, fun s hs => lg.1 _ (List.mem_map_of_mem hs), fun s hs => lg.2 _ (List.mem_map_of_mem hs), by simpa using lf.2.2⟩
  have hvl : vs.length ≤ 100000 := by simpa using lf.1
  have hul : us.length ≤ 100000 := by simpa using lf.2.1
  have M2 : Hid (∀ w', Frame [] w w' → w'.cell? ⟨b2, 0, none⟩ = some (.int .i64 budget)) := fun w' q => (k2.frame q (by simp)).at 0 rfl
  have HB : Hid (¬ (((timesL (vs.map (·.l)) (us.map (·.l))).length : Int) ≤ budget ∧ (timesL (vs.map (·.l)) (us.map (·.l))).length ≤ 5000)) := h1
  clear k0 k1 k2 r0 r1 uf ug lf lg h1
  have BA := Lib.hid (Blk.new w 30 #[.slice none 0 0])
  have FA := Lib.hid (Frame.alloc [] w (.cells #[.slice none 0 0] 30))
  have hA : Hid ((w.alloc (.cells #[.slice none 0 0] 30)).heap.size = w.heap.size + 1) := by show _ = _; simp
  go_enter Try.func45, Try.ntmps45
  have y0 := T.out.m0 _ FA.out
  go_wp2_with fail
  generalize w.alloc (.cells #[.slice none 0 0] 30) = wA at *
  clear y0
  go_loopw [4, 12] (fun u i wr => ∃ (k n : Nat) (a' : Option Addr) (c' : Nat) (os : List SV) (G : List Nat), k ≤ vs.length ∧ n ≤ 20000 ∧ i = .int .i64 k ∧ u = .slice a' n c' ∧ Hid (os.length = n ∧ os.map (·.l) = unS ((vs.map (·.l)).take k) (us.map (·.l)) ∧ AllT wA wr (.slice a' n c') os G)) (fun _ i _ => vs.length - (intOf i).toNat)
  case atStart => exact ⟨0, 0, none, 0, [], [], Nat.zero_le _, Nat.zero_le _, rfl, rfl, by show _ ∧ _ ∧ _; exact ⟨rfl, by simp [unS], AllT.nil (by (repeat first | assumption | exact Frame.refl _ _ | refine Frame.trans1 ?_ (Frame.alloc _ _ _) | refine Frame.trans1 ?_ (Frame.drew _ _) | refine Frame.trans1 ?_ (Frame.drewN _ _ _)))⟩⟩
  case round =>
    obtain ⟨i, n, a2, c2, os, G, hi, hn, rfl, rfl, hR⟩ := hrel
    rename World => wo
    by_cases hlt : i < vs.length
    · have FO := Lib.hid (FA.out.trans1 hR.out.2.2.fr)
      have g1 : vs[i]? = some vs[i] := by simp [hlt]
      have W1 := T.out.r0.frame FO.out
      have hms : vs[i] ∈ vs := List.getElem_mem hlt
      have sl5 := T.out.l0 _ (List.getElem_mem hlt)
      obtain ⟨bv, ov, rfl, q1⟩ := RF.atV W1.rf g1
      have gF : (vs.map (·.l))[i]? = some vs[i].l := by simp [hlt]
      have NX := Lib.hid (unS_next (g := us.map (·.l)) gF)
      have BND : Hid (os.length + us.length ≤ 20000 ∧ os.length = i * us.length) := by
        have e1 := congrArg List.length hR.out.2.1
        rw [List.length_map, unS_len, List.length_take, List.length_map, List.length_map, Nat.min_eq_left (by omega)] at e1
        have := T.out.ll
        have h3 : (i + 1) * us.length ≤ vs.length * us.length := Nat.mul_le_mul_right _ hlt
        rw [Nat.succ_mul] at h3
        refine ⟨by omega, e1⟩
      have m0 := T.out.m0 _ FO.out
      have m1 := T.out.m1 _ FO.out
      generalize vs[i] = s at *
      have SL := Lib.hid sl5
      clear g1 W1 gF sl5
      go_wp2_with fail
      clear q1 m0 m1
      go_loopw [4, 19] (fun u i wr => ∃ (k m : Nat) (a' : Option Addr) (c' : Nat) (ps : List SV) (G : List Nat), k ≤ us.length ∧ m ≤ 20000 ∧ i = .int .i64 k ∧ u = .slice a' m c' ∧ Hid (ps.length = m ∧ m = n + k ∧ ps.map (·.l) = os.map (·.l) ++ ((us.map (·.l)).take k).map (fun b => srtI (s.l ++ b)) ∧ AllT wA wr (.slice a' m c') ps G ∧ Frame [] w wr)) (fun _ i _ => us.length - (intOf i).toNat)
      case atStart => exact ⟨0, n, a2, c2, os, G, Nat.zero_le _, hn, rfl, rfl, by show _ ∧ _ ∧ _ ∧ _ ∧ _; exact ⟨hR.out.1, by omega, by simp, hR.out.2.2.frame (by (repeat first | assumption | exact Frame.refl _ _ | refine Frame.trans1 ?_ (Frame.alloc _ _ _) | refine Frame.trans1 ?_ (Frame.drew _ _) | refine Frame.trans1 ?_ (Frame.drewN _ _ _))), FO.out⟩⟩
      case round =>
        obtain ⟨j, m, a3, c3, ps, G3, hj, hm, rfl, rfl, hP⟩ := hrel
        rename World => wq
        by_cases hjl : j < us.length
        · have FQ := Lib.hid hP.out.2.2.2.2
          have g2 : us[j]? = some us[j] := by simp [hjl]
          have W2 := T.out.r1.frame FQ.out
          have okt := W2.ok _ (List.getElem_mem hjl)
          have tl5 := T.out.l1 _ (List.getElem_mem hjl)
          obtain ⟨bu, ou, rfl, q2⟩ := RF.atV W2.rf g2
          have NX2 : Hid (((us.map (·.l)).take (j + 1)).map (fun b => srtI (s.l ++ b)) = ((us.map (·.l)).take j).map (fun b => srtI (s.l ++ b)) ++ [srtI (s.l ++ us[j].l)]) := by
            show _ = _
            rw [take_one' (show (us.map (·.l))[j]? = some us[j].l by simp [hjl])]
            simp
          generalize us[j] = t at *
          have OKt := Lib.hid okt
          have LT := Lib.hid tl5
          clear g2 W2 okt tl5
          go_wp2_with fail
          have CC : Hid (Calls Try.prog 46 #[.slice (some ⟨wq.heap.size, 0, none⟩) 2 2] (wq.alloc (.cells #[.slice s.a s.l.length s.c, .slice t.a t.l.length t.c] 22)) (FreshEnd 3 1 encI (s.l ++ t.l) (wq.alloc (.cells #[.slice s.a s.l.length s.c, .slice t.a t.l.length t.c] 22)))) := by
            have okq := (T.out.r0.frame FQ.out).ok _ hms
            have B := Blk.new wq 22 #[.slice s.a s.l.length s.c, .slice t.a t.l.length t.c]
            have := concat_any (some ⟨wq.heap.size, 0, none⟩) 2 [s, t] _ ⟨rf_blkV B rfl, fun x hx => by
              simp only [List.mem_cons, List.not_mem_nil, or_false] at hx
              rcases hx with rfl | rfl
              · exact okq.frame (Frame.alloc [] _ _) (by simp)
              · exact OKt.out.frame (Frame.alloc [] _ _) (by simp)⟩ (by simp) (fun x hx => by
              simp only [List.mem_cons, List.not_mem_nil, or_false] at hx
              have := SL.out
              have := LT.out
              rcases hx with rfl | rfl <;> omega)
            have e : catL [s, t] = s.l ++ t.l := by simp [catL]
            rw [e] at this
            exact this
          refine CC.out.mono ?_
          rintro e w3 ⟨a4, c4, G4, rfl, s4, f4, g4⟩
          have F3 : Hid (Frame [] wq w3) := (Frame.alloc [] wq (.cells #[.slice s.a s.l.length s.c, .slice t.a t.l.length t.c] 22)).trans1 f4
          have a3' := asorted_any a4 c4 (s.l ++ t.l) w3 s4.rdI (by have := SL.out; have := LT.out; simp; omega)
          rw [List.length_append] at a3'
          have A3 := Lib.hid a3'
          clear a3'
          clear CC s4 f4 g4
          go_wp2_with fail
          refine A3.out.mono ?_
          rintro e w4 ⟨a5, c5, G5, rfl, s5, f5, g5⟩
          have F4 := Lib.hid (F3.out.trans1 f5)
          have LS : Hid ((srtI (s.l ++ t.l)).length ≤ 1000000) := by
            show _ ≤ _
            have h1 := srtI_len (s.l ++ t.l)
            have := SL.out; have := LT.out
            rw [List.length_append] at h1
            omega
          have S5 := Lib.hid s5
          have G5' : Hid (∀ x ∈ G5, wq.heap.size ≤ x) := fun x hx => Nat.le_trans F3.out.size (g5 x hx)
          clear A3 s5 f5 g5
          have hm1 : m + 1 ≤ 20000 := by
            have := BND.out.1; have := hP.out.2.1; have := hR.out.1
            omega
          go_wp2_with (at_builtin; refine wpList_append_rf rfl (.tmp 23) (.tmp 29) 26 rfl 22 1 24 _ encV Try.underlying26 infoInts rfl (by omega) (.slice a3 m c3) ps m hP.out.1 G3 rfl ((hP.out.2.2.2.1.ov.sl.frame0 F4.out).frame0 (Frame.alloc [] _ _)) (fun y => y = _) _ 1 1 [⟨a5, c5, srtI (s.l ++ t.l)⟩] rfl (rf_one (Blk.new _ _ _) _ rfl) rfl encV_len encV_one (m + 1) rfl (by omega) (by omega) ?_; intro a6 cap6 w6 G6 sl6 f6 hG6; have R6 := Lib.hid (hP.out.2.2.2.1.push F4.out S5.out LS.out G5'.out (Frame.alloc [] _ _) sl6 f6 hG6); clear sl6 f6 hG6)
          go_roundw
          case rel => exact ⟨j + 1, m + 1, a6, cap6, ps ++ [⟨a5, c5, srtI (s.l ++ t.l)⟩], G6, by omega, by omega, by first | rfl | go_num, rfl, by
            show _ ∧ _ ∧ _ ∧ _ ∧ _
            refine ⟨by rw [List.length_append, hP.out.1]; rfl, by have := hP.out.2.1; omega, ?_, R6.out, FA.out.trans1 R6.out.fr⟩
            rw [NX2.out, List.map_append, hP.out.2.2.1, List.append_assoc]
            rfl⟩
          case measure => first | (simp [intOf]; done) | (simp [intOf]; omega)
        · obtain rfl : j = us.length := by omega
          have hd : decide ((m : Int) > 20000) = false := decide_eq_false (by omega)
          go_wp2_with fail
          go_roundw
          case rel => exact ⟨i + 1, m, a3, c3, ps, G3, by omega, by omega, by first | rfl | go_num, rfl, by
            show _ ∧ _ ∧ _
            refine ⟨hP.out.1, ?_, hP.out.2.2.2.1⟩
            rw [NX.out, hP.out.2.2.1, hR.out.2.1]
            congr 1
            rw [List.take_of_length_le (by simp)]⟩
          case measure => first | (simp [intOf]; done) | (simp [intOf]; omega)
    · obtain rfl : i = vs.length := by omega
      have IW : Hid (InW wA.heap.size wA wo (.slice a2 n c2) os G (timesL (vs.map (·.l)) (us.map (·.l)))) := by
        refine hR.out.2.2.inW ?_ (by have := hR.out.1; omega)
        rw [hR.out.2.1, List.take_of_length_le (by simp)]
      have x2 := M2.out wo (FA.out.trans1 hR.out.2.2.fr)
      have HB2 := HB.out
      clear HB
      go_wp2_with fail
      refine (within_in_bail IW.out FA.out.size HB2 (FA.out.trans1 hR.out.2.2.fr)).mono ?_
      rintro e w6 ⟨chain, rfl, hb, f6⟩
      exact ⟨rfl, chain, rfl, hb, f6⟩
end Go.Proofs.Ytojfemaamhampaa
