/- Families: Plus. -/
import Derived.Test.YtojfemaamhampaaCau5
import Derived.Deep.RegionHeld3
namespace Go.Proofs.Ytojfemaamhampaa
open Go.RowKit
set_option linter.unusedSimpArgs false
set_option linter.unusedVariables false

theorem Frame.setNew {a b : World} (h : Frame [] a b) (p : Addr) (v : Value) (hp : a.heap.size ≤ p.block) : Frame [] a (b.setCell p v) :=
  h.trans (Frame.setCell (S := [p.block]) b p v (by simp)) (fun x hx => by simp at hx; subst hx; exact .inr hp)
theorem OV.cat {w w' : World} {v v' : Value} {vs us : List SV} {G G' : List Nat} (h : OV w v vs G) (hs : ∀ s ∈ us, s.ok (· ∉ G) w) (sl : Sl w' 22 1 encV v' (vs ++ us) G') (f : Frame G w w') (hG : ∀ x ∈ G', x ∈ G ∨ w.heap.size ≤ x) : OV w' v' (vs ++ us) G' := by
  refine ⟨sl, fun t ht => ?_⟩
  have k : t.ok (· ∉ G) w := by
    rcases List.mem_append.1 ht with h1 | h1
    · exact h.ok t h1
    · exact hs t h1
  exact (k.old.frame f fun b hb => hb.1).mono fun b hb hm => by
    rcases hG b hm with h1 | h1
    · exact hb.1 h1
    · have := hb.2
      omega
/-- Both rows of new sets, one behind the other, in a row that grew: all of it lies in blocks behind n. -/
theorem cat_new {w3 w3' w4 w5 : World} {n : Nat} {vs us : List SV} {G : List Nat} (o3 : ∀ s ∈ vs, s.ok (· ∉ G) w3) (i3 : ∀ s ∈ vs, s.ok (fun b => n ≤ b) w3) (f3 : Frame [] w3 w3') (hG : ∀ x ∈ G, x < w3'.heap.size) (h3 : n ≤ w3'.heap.size) (i4 : ∀ s ∈ us, s.ok (fun b => w3'.heap.size ≤ b) w4) (f4 : Frame [] w3' w4) (f5 : Frame G w4 w5) :
    ∀ s ∈ vs ++ us, s.ok (fun b => n ≤ b) w5 := by
  intro s hs
  rcases List.mem_append.1 hs with h | h
  · have k1 := o3 s h
    have k2 := i3 s h
    have k3 : s.ok (fun b => b ∉ G ∧ n ≤ b) w3 := ⟨k1.rd, k1.len, fun hn b off e => ⟨k1.at_ hn b off e, k2.at_ hn b off e⟩⟩
    exact (((k3.frame f3 (by simp)).frame f4 (by simp)).frame f5 fun b hb => hb.1).mono fun b hb => hb.2
  · exact ((i4 s h).frame f5 fun b hb hm => by have := hG b hm; have h9 : w3'.heap.size ≤ b := hb; omega).mono fun b hb => Nat.le_trans h3 hb
theorem cat_fam {vs us : List SV} {f g : List (List Int)} (h1 : vs.map (·.l) = f) (h2 : us.map (·.l) = g) (uf : Ups f) (ug : Ups g) : (∀ s ∈ vs ++ us, Up s.l) ∧ Fam ((vs ++ us).map (·.l)) (plusL f g) := by
  subst h1 h2
  have u : Ups (vs.map (·.l) ++ us.map (·.l)) := fun s hs => by
    rcases List.mem_append.1 hs with h | h
    · exact uf s h
    · exact ug s h
  refine ⟨fun s hs => u s.l ?_, ?_⟩
  · rw [← List.map_append]; exact List.mem_map_of_mem hs
  · rw [List.map_append]
    have := leastR_fam (vs.map (·.l) ++ us.map (·.l))
    rwa [map_srt_fix u] at this
/-- A row that within may take. -/
structure InW (n : Nat) (wA w5 : World) (v5 : Value) (vs : List SV) (G5 : List Nat) (pl : List (List Int)) : Prop where
  ov : OV w5 v5 vs G5
  new : ∀ s ∈ vs, s.ok (fun b => n ≤ b) w5
  up : ∀ s ∈ vs, Up s.l
  fam : Fam (vs.map (·.l)) pl
  len : vs.length ≤ 1000000
  far : ∀ x ∈ G5, n ≤ x
  fr : Frame [] wA w5
theorem cat_in {n : Nat} {wA w3 w4 w5 : World} {a3 : Option Addr} {c3 : Nat} {v5 : Value} {vs us : List SV} {G G' : List Nat} {f g : List (List Int)} (hn : wA.heap.size = n) (o3 : OV w3 (.slice a3 vs.length c3) vs G) (i3 : ∀ s ∈ vs, s.ok (fun b => n ≤ b) w3) (g3 : ∀ x ∈ G, n ≤ x) (b3 : Frame [] wA w3)
    (i4 : ∀ s ∈ us, s.ok (fun b => w3.heap.size ≤ b) w4) (f4 : Frame [] w3 w4) (sl : Sl w5 22 1 encV v5 (vs ++ us) G') (f5 : Frame G w4 w5) (hG : ∀ x ∈ G', x ∈ G ∨ w4.heap.size ≤ x) (e3 : vs.map (·.l) = f) (e4 : us.map (·.l) = g) (uf : Ups f) (ug : Ups g) (lf : f.length ≤ 100000) (lg : g.length ≤ 100000) : InW n wA w5 v5 (vs ++ us) G' (plusL f g) := by
  have c := cat_fam e3 e4 uf ug
  have h3 := b3.size
  have h4 := f4.size
  refine ⟨OV.cat (o3.frame0 f4) (fun s hs => (i4 s hs).mono fun b hb hm => ?_) sl f5 hG, cat_new o3.ok i3 (Frame.refl [] w3) (fun x hx => o3.sl.lt x hx) (by omega) i4 f4 f5, c.1, c.2, ?_, fun x hx => ?_, (b3.trans1 f4).trans f5 fun x hx => .inr ?_⟩
  · have h8 := o3.sl.lt b hm
    have h9 : w3.heap.size ≤ b := hb
    omega
  · have h8 := congrArg List.length e3
    have h9 := congrArg List.length e4
    simp at h8 h9 ⊢
    omega
  · rcases hG x hx with h | h
    · exact g3 x h
    · omega
  · have := g3 x hx
    omega
theorem within_in {n : Nat} {wA w5 : World} {v5 : Value} {vs : List SV} {G5 : List Nat} {pl : List (List Int)} {budget : Int} (h : InW n wA w5 v5 vs G5 pl) (hn : wA.heap.size = n) (h1 : (pl.length : Int) ≤ budget) (h2 : pl.length ≤ 5000) :
    Calls Try.prog 44 #[v5, .int .i64 budget] w5 fun e w6 => ∃ a n6 c, e = .returned (.agg #[.slice a n6 c]) ∧ FVU (fun b => n ≤ b) w6 (.agg #[.slice a n6 c]) pl ∧ Frame [] wA w6 := by
  refine (within_ok (fun b => n ≤ b) v5 vs G5 budget pl w5 h.ov h.up h.len h.fam h.new (fun b hb => by have := h.fr.size; omega) (fun x hx => h.ov.sl.lt x hx) h1 h2).mono ?_
  rintro e w6 ⟨v6, rfl, ⟨a6, c6, vs6, rfl, r6, s6, m6⟩, f6⟩
  exact ⟨a6, _, c6, rfl, FVU.mono ⟨a6, c6, vs6, rfl, r6, s6, m6⟩ (fun b hb => hb.1), h.fr.trans f6 (fun x hx => .inr (by have := h.far x hx; omega))⟩
theorem entered_plusFn : Entered 43 := by intro args w; simp [go_sem]
theorem bail_back {w w1 w2 : World} {k n : Int} {chain : List PanicEntry} (f : Frame [] w w1) (h : bailing w1 k n chain w2) : bailing w k n chain w2 := by
  obtain ⟨nb, e, h2, h3⟩ := h
  exact ⟨nb, e, Nat.le_trans f.size h2, h3⟩
set_option maxHeartbeats 4000000 in
set_option maxRecDepth 100000 in
theorem plusFn_ok (b0 b1 b2 : Nat) (a0 a1 : Option Addr) (n0 c0 n1 c1 : Nat) (f g : List (List Int)) (budget : Int) (w : World) (k0 : Blk w b0 30 #[.slice a0 n0 c0]) (k1 : Blk w b1 30 #[.slice a1 n1 c1]) (k2 : Blk w b2 3 #[.int .i64 budget])
    (hf : FV w (.agg #[.slice a0 n0 c0]) f) (hg : FV w (.agg #[.slice a1 n1 c1]) g) (uf : Ups f) (ug : Ups g) (lf : f.length ≤ 100000) (lg : g.length ≤ 100000) (h1 : ((plusL f g).length : Int) ≤ budget) (h2 : (plusL f g).length ≤ 5000) :
    Calls Try.prog 43 #[.pointer (some ⟨b0, 0, none⟩), .pointer (some ⟨b1, 0, none⟩), .pointer (some ⟨b2, 0, none⟩)] w fun e w' => ∃ v, e = .returned v ∧ FVU (fun b => w.heap.size ≤ b) w' v (plusL f g) ∧ Frame [] w w' := by
  have M0 : ∀ w', Frame [] w w' → w'.cell? ⟨b0, 0, none⟩ = some (.slice a0 n0 c0) := fun w' q => (k0.frame q (by simp)).at 0 rfl
  have M1 : ∀ w', Frame [] w w' → w'.cell? ⟨b1, 0, none⟩ = some (.slice a1 n1 c1) := fun w' q => (k1.frame q (by simp)).at 0 rfl
  have M2 : ∀ w', Frame [] w w' → w'.cell? ⟨b2, 0, none⟩ = some (.int .i64 budget) := fun w' q => (k2.frame q (by simp)).at 0 rfl
  have S0 := Lib.hid (fun (w' : World) (q : Frame [] w w') => asets_any (.agg #[.slice a0 n0 c0]) f w' (hf.frame q) (by omega))
  have S1 := Lib.hid (fun (w' : World) (q : Frame [] w w') => asets_any (.agg #[.slice a1 n1 c1]) g w' (hg.frame q) (by omega))
  clear k0 k1 k2 hf hg
  go_enter Try.func43, Try.ntmps43
  go_wp2_with fail
  have BA := Lib.hid (Blk.new w 30 #[.slice none 0 0])
  have hA : Hid ((w.alloc (.cells #[.slice none 0 0] 30)).heap.size = w.heap.size + 1) := by show _ = _; simp
  have FA := Lib.hid (Frame.alloc [] w (.cells #[.slice none 0 0] 30))
  have LF : Hid (Ups f ∧ Ups g ∧ f.length ≤ 100000 ∧ g.length ≤ 100000 ∧ ((plusL f g).length : Int) ≤ budget ∧ (plusL f g).length ≤ 5000) := ⟨uf, ug, lf, lg, h1, h2⟩
  clear uf ug lf lg h1 h2
  go_region_held3 (fun w' => Frame [] w w') ((repeat first | assumption | exact Frame.refl _ _ | refine Frame.trans1 ?_ (Frame.alloc _ _ _) | refine Frame.trans1 ?_ (Frame.drew _ _) | refine Frame.trans1 ?_ (Frame.drewN _ _ _) | refine Frame.setNew ?_ _ _ (by first | exact Nat.le_refl _ | simp | omega)))
    ((first
    | (go_at_call 44; refine (within_in IW5.out hA.out LF.out.2.2.2.2.1 LF.out.2.2.2.2.2).mono ?_; rintro e w6 ⟨a6, n6, c6, rfl, r6, b6⟩; have R6 := Lib.hid r6; have F6 : Frame [] w w6 := FA.out.trans1 b6; have BX : Blk w6 w.heap.size 30 #[.slice none 0 0] := BA.out.frame b6 (by simp); have bx := BX.at 0 rfl; have bf := BX.frozen 0; have HBX := Lib.hid BX; have B6 := Lib.hid b6; clear r6 b6 BX)
    | (go_at_call_of 16 (Value.agg #[Value.slice a0 n0 c0]); refine (S0.out _ (by (repeat first | assumption | exact Frame.refl _ _ | refine Frame.trans1 ?_ (Frame.alloc _ _ _) | refine Frame.trans1 ?_ (Frame.drew _ _) | refine Frame.trans1 ?_ (Frame.drewN _ _ _) | refine Frame.setNew ?_ _ _ (by first | exact Nat.le_refl _ | simp | omega)))).mono ?_; rintro e w3 ⟨a3, c3, vs3, G3, rfl, o3, e3, i3, f3, g3⟩; have B3 := Lib.hid ((show Frame [] (w.alloc (.cells #[.slice none 0 0] 30)) _ from by (repeat first | assumption | exact Frame.refl _ _ | refine Frame.trans1 ?_ (Frame.alloc _ _ _) | refine Frame.trans1 ?_ (Frame.drew _ _) | refine Frame.trans1 ?_ (Frame.drewN _ _ _))).trans1 f3); have F3 : Frame [] w w3 := FA.out.trans1 B3.out; have E3 := Lib.hid e3; have O3 := Lib.hid o3; have I3 : Hid (∀ s ∈ vs3, s.ok (fun b => w.heap.size + 1 ≤ b) w3) := (fun s hs => (i3 s hs).mono fun b hb => by simp at hb; omega); have GG3 : Hid (∀ x ∈ G3, w.heap.size + 1 ≤ x) := (fun x hx => by have := g3 x hx; simp at this; omega); clear e3 o3 i3 g3)
    | (go_at_call_of 16 (Value.agg #[Value.slice a1 n1 c1]); refine (S1.out _ (by (repeat first | assumption | exact Frame.refl _ _ | refine Frame.trans1 ?_ (Frame.alloc _ _ _) | refine Frame.trans1 ?_ (Frame.drew _ _) | refine Frame.trans1 ?_ (Frame.drewN _ _ _) | refine Frame.setNew ?_ _ _ (by first | exact Nat.le_refl _ | simp | omega)))).mono ?_; rintro e w4 ⟨a4, c4, vs4, G4, rfl, o4, e4, i4, f4, g4⟩; have B4 := Lib.hid (B3.out.trans1 f4); have F4 : Frame [] w w4 := FA.out.trans1 B4.out; have E4 := Lib.hid e4; have O4 := Lib.hid o4; have I4 := Lib.hid i4; clear e4 o4 i4 g4)
    | (refine step_append_rf (by rfl) (.tmp 5) (.tmp 7) 26 (by rfl) 22 1 24 _ encV Try.underlying26 infoInts rfl (by omega) (.slice a3 vs3.length c3) vs3 vs3.length rfl G3 (by rfl) (O3.out.sl.frame0 f4) _ _ vs4.length _ vs4 (by rfl) (O4.out.rv.rf) rfl encV_len encV_one (vs3.length + vs4.length) rfl (by have h8 := congrArg List.length E3.out; have h9 := congrArg List.length E4.out; have := LF.out; simp at h8 h9; omega) (by omega) ?_; intro a5 cap5 w5 G5 sl5 f5 hG5; have IW5 := Lib.hid (cat_in hA.out O3.out I3.out GG3.out B3.out I4.out f4 sl5 f5 hG5 E3.out E4.out LF.out.1 LF.out.2.1 LF.out.2.2.1 LF.out.2.2.2.1); have F5 : Frame [] w w5 := FA.out.trans1 IW5.out.fr; clear sl5 hG5)))
  go_wp2_with fail
  refine bodyPost_ret (results_fam1 rfl _ _ _ _ rfl (HBX.out.set 0 _)) rfl ?_
  have hF : Frame [w.heap.size] w6 (w6.setCell ⟨w.heap.size, 0, none⟩ (.slice a6 n6 c6)) := Frame.setCell _ _ _ (by simp)
  exact ⟨_, rfl, (R6.out.frame hF fun b hb h => by simp at h; omega).mono fun b hb => by omega, F6.trans hF (by simp)⟩
theorem within_in_bail {n : Nat} {w wA w5 : World} {v5 : Value} {vs : List SV} {G5 : List Nat} {pl : List (List Int)} {budget : Int} (h : InW n wA w5 v5 vs G5 pl) (hn : w.heap.size ≤ n) (h1 : ¬ ((pl.length : Int) ≤ budget ∧ pl.length ≤ 5000)) (f : Frame [] w w5) :
    Calls Try.prog 44 #[v5, .int .i64 budget] w5 fun e w6 => ∃ chain, e = .panicked chain ∧ bailing w 10 pl.length chain w6 ∧ Frame [] w w6 := by
  refine (within_bail v5 vs G5 budget pl w5 h.ov h.up h.len h.fam h1).mono ?_
  rintro e w6 ⟨chain, rfl, hb, f6⟩
  exact ⟨chain, rfl, bail_back f hb, f.trans f6 (fun x hx => .inr (Nat.le_trans hn (h.far x hx)))⟩
set_option maxHeartbeats 4000000 in
set_option maxRecDepth 100000 in
theorem plusFn_bail (b0 b1 b2 : Nat) (a0 a1 : Option Addr) (n0 c0 n1 c1 : Nat) (f g : List (List Int)) (budget : Int) (w : World) (k0 : Blk w b0 30 #[.slice a0 n0 c0]) (k1 : Blk w b1 30 #[.slice a1 n1 c1]) (k2 : Blk w b2 3 #[.int .i64 budget])
    (hf : FV w (.agg #[.slice a0 n0 c0]) f) (hg : FV w (.agg #[.slice a1 n1 c1]) g) (uf : Ups f) (ug : Ups g) (lf : f.length ≤ 100000) (lg : g.length ≤ 100000) (h1 : ¬ (((plusL f g).length : Int) ≤ budget ∧ (plusL f g).length ≤ 5000)) :
    Calls Try.prog 43 #[.pointer (some ⟨b0, 0, none⟩), .pointer (some ⟨b1, 0, none⟩), .pointer (some ⟨b2, 0, none⟩)] w fun e w' => ∃ chain, e = .panicked chain ∧ bailing w 10 (plusL f g).length chain w' ∧ Frame [] w w' := by
  have M0 : ∀ w', Frame [] w w' → w'.cell? ⟨b0, 0, none⟩ = some (.slice a0 n0 c0) := fun w' q => (k0.frame q (by simp)).at 0 rfl
  have M1 : ∀ w', Frame [] w w' → w'.cell? ⟨b1, 0, none⟩ = some (.slice a1 n1 c1) := fun w' q => (k1.frame q (by simp)).at 0 rfl
  have M2 : ∀ w', Frame [] w w' → w'.cell? ⟨b2, 0, none⟩ = some (.int .i64 budget) := fun w' q => (k2.frame q (by simp)).at 0 rfl
  have S0 := Lib.hid (fun (w' : World) (q : Frame [] w w') => asets_any (.agg #[.slice a0 n0 c0]) f w' (hf.frame q) (by omega))
  have S1 := Lib.hid (fun (w' : World) (q : Frame [] w w') => asets_any (.agg #[.slice a1 n1 c1]) g w' (hg.frame q) (by omega))
  clear k0 k1 k2 hf hg
  go_enter Try.func43, Try.ntmps43
  go_wp2_with fail
  have BA := Lib.hid (Blk.new w 30 #[.slice none 0 0])
  have hA : Hid ((w.alloc (.cells #[.slice none 0 0] 30)).heap.size = w.heap.size + 1) := by show _ = _; simp
  have FA := Lib.hid (Frame.alloc [] w (.cells #[.slice none 0 0] 30))
  have LF : Hid (Ups f ∧ Ups g ∧ f.length ≤ 100000 ∧ g.length ≤ 100000 ∧ ¬ (((plusL f g).length : Int) ≤ budget ∧ (plusL f g).length ≤ 5000)) := ⟨uf, ug, lf, lg, h1⟩
  clear uf ug lf lg h1
  refine wp_region_held_drew (S := fun w' => Frame [] w w') (by kernel_rfl) (by show Frame [] w _; (repeat first | assumption | exact Frame.refl _ _ | refine Frame.trans1 ?_ (Frame.alloc _ _ _) | refine Frame.trans1 ?_ (Frame.drew _ _) | refine Frame.trans1 ?_ (Frame.drewN _ _ _) | refine Frame.setNew ?_ _ _ (by first | exact Nat.le_refl _ | simp | omega))) ?_
  intro hS
  refine wpAnyH_take (i := 0) (v := ?_) rfl (by kernel_rfl) (by kernel_rfl) (by kernel_rfl) (fun _ _ _ h => h) (Or.inl ⟨by rfl, ?_⟩) hS ?_
  rotate_left
  · intro w hSw
    have hm := M0 w hSw
    go_simp
    with_reducible rfl
  try simp only [Act.put, List.setIfInBounds_toArray, List.set_cons_zero, List.set_cons_succ]
  refine wpAnyH_take (i := 2) (v := ?_) rfl (by kernel_rfl) (by kernel_rfl) (by kernel_rfl) (fun _ _ _ h => h) (Or.inl ⟨by rfl, ?_⟩) hS ?_
  rotate_left
  · intro w hSw
    have hm := M1 w hSw
    go_simp
    with_reducible rfl
  try simp only [Act.put, List.setIfInBounds_toArray, List.set_cons_zero, List.set_cons_succ]
  refine wpAnyH_take (i := 5) (v := ?_) rfl (by kernel_rfl) (by kernel_rfl) (by kernel_rfl) (fun _ _ _ h => h) (Or.inl ⟨by rfl, ?_⟩) hS ?_
  rotate_left
  · intro w hSw
    have hm := M2 w hSw
    go_simp
    with_reducible rfl
  try simp only [Act.put, List.setIfInBounds_toArray, List.set_cons_zero, List.set_cons_succ]
  refine wpAnyH_ready (rs := [1]) (by kernel_rfl) (by simp) ?_
  refine AllReadyH.cons rfl (fun K hK => ?_) AllReadyH.nil
  go_simp
  refine (S0.out _ (by (repeat first | assumption | exact Frame.refl _ _ | refine Frame.trans1 ?_ (Frame.alloc _ _ _) | refine Frame.trans1 ?_ (Frame.drew _ _) | refine Frame.trans1 ?_ (Frame.drewN _ _ _) | refine Frame.setNew ?_ _ _ (by first | exact Nat.le_refl _ | simp | omega)))).mono ?_
  rintro e w3 ⟨a3, c3, vs3, G3, rfl, o3, e3, i3, f3, g3⟩
  have B3 := Lib.hid ((show Frame [] (w.alloc (.cells #[.slice none 0 0] 30)) _ from by (repeat first | assumption | exact Frame.refl _ _ | refine Frame.trans1 ?_ (Frame.alloc _ _ _) | refine Frame.trans1 ?_ (Frame.drew _ _) | refine Frame.trans1 ?_ (Frame.drewN _ _ _))).trans1 f3)
  have F3 : Frame [] w w3 := FA.out.trans1 B3.out
  have E3 := Lib.hid e3
  have O3 := Lib.hid o3
  have I3 : Hid (∀ s ∈ vs3, s.ok (fun b => w.heap.size + 1 ≤ b) w3) := (fun s hs => (i3 s hs).mono fun b hb => by simp at hb; omega)
  have GG3 : Hid (∀ x ∈ G3, w.heap.size + 1 ≤ x) := (fun x hx => by have := g3 x hx; simp at this; omega)
  clear e3 o3 i3 g3
  refine hK.out _ _ F3 (fun hS => ?_)
  clear hK K
  try simp only [Act.put, List.setIfInBounds_toArray, List.set_cons_zero, List.set_cons_succ]
  refine wpAnyH_ready (rs := [3]) (by kernel_rfl) (by simp) ?_
  refine AllReadyH.cons rfl (fun K hK => ?_) AllReadyH.nil
  go_simp
  refine (S1.out _ (by (repeat first | assumption | exact Frame.refl _ _ | refine Frame.trans1 ?_ (Frame.alloc _ _ _) | refine Frame.trans1 ?_ (Frame.drew _ _) | refine Frame.trans1 ?_ (Frame.drewN _ _ _) | refine Frame.setNew ?_ _ _ (by first | exact Nat.le_refl _ | simp | omega)))).mono ?_
  rintro e w4 ⟨a4, c4, vs4, G4, rfl, o4, e4, i4, f4, g4⟩
  have B4 := Lib.hid (B3.out.trans1 f4)
  have F4 : Frame [] w w4 := FA.out.trans1 B4.out
  have E4 := Lib.hid e4
  have O4 := Lib.hid o4
  have I4 := Lib.hid i4
  clear e4 o4 i4 g4
  refine hK.out _ _ F4 (fun hS => ?_)
  clear hK K
  try simp only [Act.put, List.setIfInBounds_toArray, List.set_cons_zero, List.set_cons_succ]
  refine wpAnyH_ready (rs := [4]) (by kernel_rfl) (by simp) ?_
  refine AllReadyH.cons rfl (fun K hK => ?_) AllReadyH.nil
  refine step_append_rf (by rfl) (.tmp 5) (.tmp 7) 26 (by rfl) 22 1 24 _ encV Try.underlying26 infoInts rfl (by omega) (.slice a3 vs3.length c3) vs3 vs3.length rfl G3 (by rfl) (O3.out.sl.frame0 f4) _ _ vs4.length _ vs4 (by rfl) (O4.out.rv.rf) rfl encV_len encV_one (vs3.length + vs4.length) rfl (by have h8 := congrArg List.length E3.out; have h9 := congrArg List.length E4.out; have := LF.out; simp at h8 h9; omega) (by omega) ?_
  intro a5 cap5 w5 G5 sl5 f5 hG5
  have IW5 := Lib.hid (cat_in hA.out O3.out I3.out GG3.out B3.out I4.out f4 sl5 f5 hG5 E3.out E4.out LF.out.1 LF.out.2.1 LF.out.2.2.1 LF.out.2.2.2.1)
  have F5 : Frame [] w w5 := FA.out.trans1 IW5.out.fr
  clear sl5 hG5
  refine hK.out _ _ F5 (fun hS => ?_)
  clear hK K
  try simp only [Act.put, List.setIfInBounds_toArray, List.set_cons_zero, List.set_cons_succ]
  refine wpAnyH_ready (rs := [6]) (by kernel_rfl) (by simp) ?_
  refine AllReadyH.cons rfl (fun K hK => ?_) AllReadyH.nil
  go_simp
  refine (within_in_bail IW5.out (Nat.le_succ _) LF.out.2.2.2.2 F5).mono ?_
  rintro e w6 ⟨chain, rfl, hb, f6⟩
  exact ⟨rfl, chain, rfl, hb, f6⟩
end Go.Proofs.Ytojfemaamhampaa
