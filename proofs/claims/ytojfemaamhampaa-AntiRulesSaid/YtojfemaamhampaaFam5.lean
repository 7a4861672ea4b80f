/- Families of sets; anti.Of. -/
import Derived.Test.YtojfemaamhampaaLeast5
import Derived.Test.YtojfemaamhampaaAntiPure2
import Derived.Laws.ResultCell
import Derived.Laws.Rows
namespace Go.Proofs.Ytojfemaamhampaa
open Go.RowKit
set_option linter.unusedSimpArgs false
set_option linter.unusedVariables false

/-- A row of sets, as it is read. -/
structure RV (w : World) (a : Option Addr) (vs : List SV) : Prop where
  rf : RF (fun b => b < w.heap.size) w 1 encV a vs
  ok : ∀ s ∈ vs, s.ok (fun _ => True) w
theorem RV.frame {w w' : World} {a : Option Addr} {vs : List SV} (h : RV w a vs) (f : Frame [] w w') : RV w' a vs :=
  ⟨(h.rf.frame0 f).mono fun b hb => Nat.lt_of_lt_of_le hb f.size, fun s hs => (h.ok s hs).frame f (by simp)⟩
theorem RV.nil (w : World) (a : Option Addr) : RV w a [] := ⟨RF.nil _ _ _ _ _, by simp⟩
/-- A row of sets of one's own. -/
structure OV (w : World) (v : Value) (vs : List SV) (G : List Nat) : Prop where
  sl : Sl w 22 1 encV v vs G
  ok : ∀ s ∈ vs, s.ok (· ∉ G) w
theorem OV.frame0 {w w' : World} {v : Value} {vs : List SV} {G : List Nat} (h : OV w v vs G) (f : Frame [] w w') : OV w' v vs G := ⟨h.sl.frame0 f, fun s hs => (h.ok s hs).frame f (by simp)⟩
theorem OV.nil (w : World) : OV w (.slice none 0 0) [] [] := ⟨Sl.nil _ _ _ _, by simp⟩
theorem OV.rv {w : World} {a : Option Addr} {n c : Nat} {vs : List SV} {G : List Nat} (h : OV w (.slice a n c) vs G) : RV w a vs := ⟨h.sl.rf encV_len (fun b hb => h.sl.lt b hb), fun s hs => (h.ok s hs).mono fun _ _ => trivial⟩
theorem OV.push {w w' : World} {v v' : Value} {vs : List SV} {s : SV} {G G' : List Nat} (h : OV w v vs G) (hs : s.ok (· ∉ G) w) (sl : Sl w' 22 1 encV v' (vs ++ [s]) G') (f : Frame G w w') (hG : ∀ x ∈ G', x ∈ G ∨ w.heap.size ≤ x) : OV w' v' (vs ++ [s]) G' := by
  refine ⟨sl, fun t ht => ?_⟩
  have k : t.ok (· ∉ G) w := by
    rcases List.mem_append.1 ht with h1 | h1
    · exact h.ok t h1
    · obtain rfl : t = s := by simpa using h1
      exact hs
  have k' := k.frame f fun b hb => hb
  refine ⟨k'.rd, k'.len, fun hn b off e => ?_⟩
  intro hb
  rcases hG b hb with h1 | h1
  · exact k.at_ hn b off e h1
  · rcases k.rd with h2 | ⟨b', off', h3, h4, _⟩
    · exact hn h2
    · rw [e] at h3
      have h5 := congrArg (fun o => o.map Addr.block) h3
      have h5 : b = b' := by simpa using h5
      omega
/-- A new row of ints as a set. -/
theorem fresh_sv {w w' : World} {a : Option Addr} {c : Nat} {xs : List Int} {H G : List Nat} (h : Sl w' 3 1 encI (.slice a xs.length c) xs H) (hl : xs.length ≤ 1000000) (hH : ∀ x ∈ H, w.heap.size ≤ x) (hG : ∀ x ∈ G, x < w.heap.size) : SV.ok (· ∉ G) w' ⟨a, c, xs⟩ := by
  refine ⟨h.rdI, hl, fun hn b off e hb => ?_⟩
  rcases h with ⟨_, h, _⟩ | ⟨b', cap, hv, rfl, _⟩
  · exact hn h
  · injection hv with h1 _ _
    rw [h1] at e
    simp at e
    obtain ⟨rfl, rfl⟩ := e
    have := hH b' (by simp)
    have := hG b' hb
    omega

theorem fresh_in {w' : World} {a : Option Addr} {c : Nat} {xs : List Int} {H : List Nat} (h : Sl w' 3 1 encI (.slice a xs.length c) xs H) (hl : xs.length ≤ 1000000) : SV.ok (· ∈ H) w' ⟨a, c, xs⟩ := by
  refine ⟨h.rdI, hl, fun hn b off e => ?_⟩
  rcases h with ⟨_, h, _⟩ | ⟨b', cap, hv, rfl, _⟩
  · exact absurd h hn
  · injection hv with h1 _ _
    rw [h1] at e
    simp at e
    simp [e.1]
/-- A family's value. -/
def FV (w : World) (v : Value) (f : List (List Int)) : Prop := ∃ (a : Option Addr) (c : Nat) (vs : List SV), v = .agg #[.slice a vs.length c] ∧ RV w a vs ∧ vs.map (·.l) = f
theorem FV.frame {w w' : World} {v : Value} {f : List (List Int)} (h : FV w v f) (k : Frame [] w w') : FV w' v f := by
  obtain ⟨a, c, vs, h1, h2, h3⟩ := h
  exact ⟨a, c, vs, h1, h2.frame k, h3⟩
theorem FV.nil (w : World) : FV w (.agg #[.slice none 0 0]) [] := ⟨none, 0, [], rfl, RV.nil _ _, rfl⟩

theorem fam_load (w : World) (g : Nat) (x : Value) (hg : Blk w g 30 #[x]) : (loadVar 30 ⟨g, 0, none⟩).run Try.prog w = .ok (.agg #[x]) w :=
  run_loadVar_row w g 30 30 #[x] (0, 0) _ hg Try.underlying30 rfl (by kernel_rfl)
theorem results_fam {fn : Func} {p u : Tmp} (h : fn.results = #[.cell p 30, .tmp u]) (tmps : Array Value) (w : World) (g : Nat) (x : Value) (hp : tmps.getD p undef = .pointer (some ⟨g, 0, none⟩)) (hg : Blk w g 30 #[x]) :
    (results fn tmps).run Try.prog w = .ok (.tuple #[.agg #[x], tmps.getD u undef]) w := by
  rw [results_cell_tmp h, hp]
  simp [asAddr, Result.andThen, fam_load w g x hg]
theorem results_fam1 {fn : Func} {p : Tmp} (h : fn.results = #[.cell p 30]) (tmps : Array Value) (w : World) (g : Nat) (x : Value) (hp : tmps.getD p undef = .pointer (some ⟨g, 0, none⟩)) (hg : Blk w g 30 #[x]) :
    (results fn tmps).run Try.prog w = .ok (.agg #[x]) w :=
  results_cell_row h tmps w g 30 #[x] (0, 0) _ hp hg Try.underlying30 rfl (by kernel_rfl)

theorem entered_ofFn : Entered 37 := by intro args w; simp [go_sem]
theorem ofFn_any (n : Int) (w : World) : Calls Try.prog 37 #[.int .i64 n] w fun e w' => e = .returned (.bool (decide (n < 0))) ∧ Frame [] w w' := by
  go_enter Try.func37, Try.ntmps37
  go_wp2_with fail
  go_ret
  exact ⟨rfl, Frame.refl _ _⟩
def negI (l : List Int) : Bool := l.any fun n => decide (n < 0)
def goodL (l : List (List Int)) : Bool := l.all fun s => !negI s
theorem srtI_len (ys : List Int) : (srtI ys).length ≤ ys.length := by
  have h3 := compact_len5 (ys.mergeSort fun x y => decide (x ≤ y))
  rw [srtI_compact] at h3
  have h4 : (ys.mergeSort fun x y => decide (x ≤ y)).length = ys.length := by simp
  omega

set_option maxHeartbeats 4000000 in
set_option maxRecDepth 100000 in
theorem aof_any (a : Option Addr) (c : Nat) (vs : List SV) (w : World) (h : RV w a vs) (hl : vs.length ≤ 1000000) :
    Calls Try.prog 15 #[.slice a vs.length c] w fun e w' => ∃ v, e = .returned (.tuple #[v, .int .i64 (if goodL (vs.map (·.l)) then 0 else 1)]) ∧ FV w' v (if goodL (vs.map (·.l)) then leastR (vs.map (·.l)) else []) ∧ Frame [] w w' := by
  have H := Lib.hid h
  have HR : Hid (∀ r, r = goodL (vs.map (·.l)) → (if goodL (vs.map (·.l)) then (0 : Int) else 1) = (if r then 0 else 1)) := fun r hr => by rw [hr]
  have HE : Hid (goodL (vs.map (·.l)) = goodL (vs.map (·.l))) := rfl
  generalize hr : goodL (vs.map (·.l)) = r at HR ⊢
  have HG := Lib.hid hr
  clear h hr HR HE
  go_enter Try.func15, Try.ntmps15
  go_wp2_with fail
  go_loopw [4, 9] (fun u i wr => ∃ (k : Nat) (a' : Option Addr) (c' : Nat) (os : List SV) (G : List Nat), k ≤ vs.length ∧ os.length = k ∧ i = .int .i64 k ∧ u = .slice a' k c' ∧ Hid (OV wr (.slice a' os.length c') os G ∧ os.map (·.l) = ((vs.take k).map (·.l)).map srtI ∧ goodL ((vs.take k).map (·.l)) = true ∧ Frame [] (w.alloc (.cells #[.slice none 0 0] 30)) wr ∧ (∀ x ∈ G, w.heap.size + 1 ≤ x) ∧ ∀ s ∈ os, s.ok (fun b => w.heap.size + 1 ≤ b) wr)) (fun _ i _ => vs.length - (intOf i).toNat)
  case atStart => exact ⟨0, none, 0, [], [], Nat.zero_le _, rfl, rfl, rfl, by
    show _ ∧ _ ∧ _ ∧ _ ∧ _ ∧ _
    exact ⟨OV.nil _, by simp, by simp [goodL], Frame.refl _ _, by simp, by simp⟩⟩
  case round =>
    obtain ⟨k, a', c', os, G, hk, hol, rfl, rfl, hR⟩ := hrel
    rename World => wo
    subst hol
    by_cases hlt : os.length < vs.length
    · have g1 : vs[os.length]? = some vs[os.length] := by simp [hlt]
      have hms : vs[os.length] ∈ vs := List.getElem_mem _
      have hFw : Frame [] w wo := (Frame.alloc [] w _).trans1 hR.out.2.2.2.1
      have Hwo := H.out.frame hFw
      obtain ⟨b1, o1, rfl, q1⟩ := RF.atV Hwo.rf g1
      have OKs := Hwo.ok _ hms
      have NT := Lib.hid (take_one' g1)
      have hall : Hid (negI vs[os.length].l = true → r = false) := fun hn => by
        rw [← HG.out]
        unfold goodL
        rw [List.all_eq_false]
        exact ⟨vs[os.length].l, List.mem_map_of_mem hms, by simp [hn]⟩
      generalize vs[os.length] = s at *
      have CF := containsFunc_int s.a s.c s.l 37 #[] (fun n => decide (n < 0)) wo OKs.rd (by have := OKs.len; omega) ⟨entered_ofFn, fun w' _ n => ofFn_any n w'⟩
      have HOKs := Lib.hid OKs
      have G1 := Lib.hid g1
      have HF := Lib.hid hFw
      clear g1 hms hFw Hwo OKs
      cases hneg : s.l.any (fun n => decide (n < 0)) with
      | true =>
        rw [hneg] at CF
        have HC := Lib.hid CF
        obtain rfl := hall.out hneg
        clear CF hneg
        go_wp2_with fail
        refine HC.out.mono ?_
        rintro e w1 ⟨rfl, f1⟩
        have F1 := Lib.hid (hR.out.2.2.2.1.trans1 f1)
        clear f1
        have BX := (Blk.new w 30 #[.slice none 0 0]).frame F1.out (by simp)
        have bx := BX.at 0 rfl
        have bf := BX.frozen 0
        have BX := Lib.hid BX
        go_wp2_with fail
        refine bodyPost_ret (results_fam rfl _ _ _ _ rfl (BX.out.set 0 _)) rfl ?_
        exact ⟨_, rfl, FV.nil _, (((Frame.alloc [] w _).trans1 F1.out).trans (Frame.setCell (S := [w.heap.size]) _ _ _ (by simp)) (by simp))⟩
      | false =>
        rw [hneg] at CF
        have HC := Lib.hid CF
        have HNG := Lib.hid hneg
        clear CF hneg
        go_wp2_with fail
        refine HC.out.mono ?_
        rintro e w1 ⟨rfl, f1⟩
        have F1 := Lib.hid f1
        clear f1
        have AS := Lib.hid (asorted_any s.a s.c s.l w1 (HOKs.out.frame F1.out (by simp)).rd HOKs.out.len)
        go_wp2_with fail
        refine AS.out.mono ?_
        rintro e w2 ⟨a3, c3, H3, rfl, s3, f3, g3⟩
        have S3 := Lib.hid s3
        have G3 := Lib.hid g3
        have F3 := Lib.hid (F1.out.trans1 f3)
        have OS : Hid (OV w2 (.slice a' os.length c') os G) := (hR.out.1.frame0 F1.out).frame0 f3
        have hN : Hid (∃ t : SV, t = ⟨a3, c3, srtI s.l⟩) := ⟨_, rfl⟩
        have KT : Hid (SV.ok (· ∉ G) w2 ⟨a3, c3, srtI s.l⟩) := fresh_sv S3.out (by have := srtI_len s.l; have := HOKs.out.len; omega) G3.out fun x hx => Nat.lt_of_lt_of_le (hR.out.1.sl.lt x hx) F1.out.size
        have LG := Lib.hid (hR.out.2.2.2.2.1)
        have KI : Hid (SV.ok (· ∈ H3) w2 ⟨a3, c3, srtI s.l⟩) := fresh_in S3.out (by have := srtI_len s.l; have := HOKs.out.len; omega)
        clear s3 f3 g3
        go_wp2_with (at_builtin; refine wpList_append_rf rfl (.tmp 16) (.tmp 19) 26 rfl 22 1 24 _ encV Try.underlying26 infoInts rfl (by omega) (.slice a' os.length c') os os.length rfl G rfl (OS.out.sl.frame0 (by (repeat first | assumption | exact Frame.refl _ _ | refine Frame.trans1 ?_ (Frame.alloc _ _ _) | refine Frame.trans1 ?_ (Frame.drew _ _) | refine Frame.trans1 ?_ (Frame.drewN _ _ _)))) (fun y => y = _) _ 1 1 [⟨a3, c3, srtI s.l⟩] rfl (rf_one (Blk.new _ _ _) _ rfl) rfl encV_len encV_one (os.length + 1) rfl (by omega) (by omega) ?_; intro a4 cap4 w4 G4 sl4 f4 hG4; have f4 := (show Frame G w2 _ from by (repeat first | assumption | exact Frame.refl _ _ | refine Frame.trans1 ?_ (Frame.alloc _ _ _) | refine Frame.trans1 ?_ (Frame.drew _ _) | refine Frame.trans1 ?_ (Frame.drewN _ _ _))).trans1 f4; have hG4 := fun x hx => (hG4 x hx).imp id (fun h => Nat.le_trans (show w2.heap.size ≤ (w2.alloc (.cells #[.slice a3 (srtI s.l).length c3] 22)).heap.size from (Frame.alloc [] w2 _).size) h); have R4 := Lib.hid (And.intro (OS.out.push KT.out sl4 f4 hG4) (And.intro f4 hG4)); clear sl4 f4 hG4)
        go_roundw
        case rel => exact ⟨os.length + 1, a4, cap4, os ++ [⟨a3, c3, srtI s.l⟩], G4, by omega, by simp, by first | rfl | go_num, rfl, by
          show _ ∧ _ ∧ _ ∧ _ ∧ _ ∧ _
          rw [NT.out]
          refine ⟨by simpa using R4.out.1, by simp [hR.out.2.1], ?_, ?_, ?_, ?_⟩
          · have := hR.out.2.2.1
            unfold goodL at this ⊢
            rw [List.map_append, List.all_append, this]
            simpa [negI] using HNG.out
          · exact (hR.out.2.2.2.1.trans1 F3.out).trans R4.out.2.1 (fun x hx => .inr (by simpa using LG.out x hx))
          · intro x hx
            rcases R4.out.2.2 x hx with h | h
            · exact LG.out x h
            · have h1 := hR.out.2.2.2.1.size
              have h2 := F3.out.size
              simp at h1
              omega
          · have h1 := hR.out.2.2.2.1.size
            have h2 := F1.out.size
            simp at h1
            intro t ht
            have hk : t.ok (fun b => b ∉ G ∧ w.heap.size + 1 ≤ b) w2 := by
              rcases List.mem_append.1 ht with h | h
              · have k1 := (hR.out.1.ok t h).frame F3.out (by simp)
                have k2 := (hR.out.2.2.2.2.2 t h).frame F3.out (by simp)
                exact ⟨k1.rd, k1.len, fun hn b off e => ⟨k1.at_ hn b off e, k2.at_ hn b off e⟩⟩
              · obtain rfl := List.mem_singleton.1 h
                exact ⟨KT.out.rd, KT.out.len, fun hn b off e => ⟨KT.out.at_ hn b off e, by
                  have := G3.out b (KI.out.at_ hn b off e)
                  omega⟩⟩
            exact (hk.frame R4.out.2.1 fun b hb => hb.1).mono fun b hb => hb.2⟩
        case measure => first | (simp [intOf]; done) | (simp [intOf]; omega)
    · have hend : os.length = vs.length := by omega
      have hR' := hR.out
      rw [hend, List.take_length, HG.out] at hR'
      obtain ⟨h1, h2, rfl, h4, h5, h6⟩ := hR'
      have hup : ∀ s ∈ os, Up s.l := fun s hs => by
        have : s.l ∈ os.map (·.l) := List.mem_map_of_mem hs
        rw [h2] at this
        obtain ⟨x, _, e⟩ := List.mem_map.1 this
        rw [← e]; exact srtI_up x
      have A := Lib.hid (aleast_any _ os G wo h1.sl h1.ok hup (by omega))
      have H1 := Lib.hid h1
      have H2 := Lib.hid h2
      have H4 := Lib.hid h4
      have H5 := Lib.hid h5
      have H6 := Lib.hid h6
      rw [← hend] at A
      clear h1 h2 h4 h5 h6 hup hR hend
      go_wp2_with fail
      refine A.out.mono ?_
      rintro e w1 ⟨a1, c1, out, G1, rfl, s1, hsub, hfam, f1, g1⟩
      have BX := ((Blk.new w 30 #[.slice none 0 0]).frame H4.out (by simp)).frame f1 (fun h => by have := H5.out _ h; omega)
      have bx := BX.at 0 rfl
      have bf := BX.frozen 0
      have BX := Lib.hid BX
      have hF : Hid (Frame [w.heap.size] w1 (w1.setCell ⟨w.heap.size, 0, none⟩ (.slice a1 out.length c1))) := Frame.setCell _ _ _ (by simp)
      have FR : Hid (Frame [] w w1) := ((Frame.alloc [] w _).trans1 H4.out).trans f1 (fun x hx => .inr (by have := H5.out x hx; omega))
      have RR : Hid (FV (w1.setCell ⟨w.heap.size, 0, none⟩ (.slice a1 out.length c1)) (.agg #[.slice a1 out.length c1]) (leastR (vs.map (·.l)))) := by
        have hsz := H4.out.size
        simp at hsz
        refine ⟨a1, c1, out, rfl, ⟨?_, fun s hs => ?_⟩, ?_⟩
        · refine ((s1.rf encV_len (U := fun b => b < w1.heap.size ∧ b ≠ w.heap.size) fun b hb => ⟨s1.lt b hb, ?_⟩).frame hF.out fun b hb h => hb.2 (by simpa using h)).mono fun b hb => Nat.lt_of_lt_of_le hb.1 hF.out.size
          have := g1 b hb
          omega
        · have k1 := H1.out.ok s (hsub s hs)
          have k2 := H6.out s (hsub s hs)
          have k3 : s.ok (fun b => b ∉ G ∧ w.heap.size + 1 ≤ b) wo := ⟨k1.rd, k1.len, fun hn b off e => ⟨k1.at_ hn b off e, k2.at_ hn b off e⟩⟩
          exact ((k3.frame f1 fun b hb => hb.1).frame hF.out fun b hb h => by
            have : b = w.heap.size := by simpa using h
            omega).mono fun _ _ => trivial
        · exact hfam.ext (by rw [H2.out]; exact leastR_fam _)
      clear s1 hsub hfam f1 g1
      go_wp2_with fail
      refine bodyPost_ret (results_fam rfl _ _ _ _ rfl (BX.out.set 0 _)) rfl ?_
      exact ⟨_, rfl, RR.out, FR.out.trans hF.out (by simp)⟩
end Go.Proofs.Ytojfemaamhampaa
