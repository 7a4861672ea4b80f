/- A node of its own. A graph's calls: AddNode, Add, Drop, Edge. A graph's calls: Add at a full graph, Drop, Edge. A graph's calls: DropNode. A graph's call: Add. A graph whole: its object, what its nodes hold; by values. -/
import Derived.Test.YtjcajidgaejhoaaGreatMi07
import Derived.Deep.RegionWith
import Derived.Test.YtjcajidgaejhoaaGreatMi11
import Derived.Deep.AppendLies
import Derived.Test.YtjcajidgaejhoaaGreatMi10
import Derived.Test.YtjcajidgaejhoaaGreatMi12
import Derived.Test.YtjcajidgaejhoaaGreatMi03
import Derived.Test.YtjcajidgaejhoaaGreatMi13
namespace Go.Proofs.YtjcajidgaejhoaaGreat
open Go.RowKit
set_option linter.unusedSimpArgs false
set_option linter.unusedVariables false


/-- What a node's slices hold. -/
def NdAt (w : World) (n : Nd) (ls : List ByteArray) (ps : List Pr) (L P : List Nat) : Prop :=
  n.ln = ls.length ∧ n.pn = ps.length ∧ Sl w 9 1 encS (.slice n.la ls.length n.lc) ls L ∧ Sl w 67 2 Pr.cs (.slice n.pa ps.length n.pc) ps P ∧ ∀ x ∈ L, x ∉ P
theorem NdAt.frame {w w' : World} {n : Nd} {ls : List ByteArray} {ps : List Pr} {L P S : List Nat} (h : NdAt w n ls ps L P) (f : Frame S w w') (h1 : ∀ x ∈ L, x ∉ S) (h2 : ∀ x ∈ P, x ∉ S) : NdAt w' n ls ps L P :=
  ⟨h.1, h.2.1, h.2.2.1.frame f h1, h.2.2.2.1.frame f h2, h.2.2.2.2⟩
theorem NdAt.lt {w : World} {n : Nd} {ls : List ByteArray} {ps : List Pr} {L P : List Nat} (h : NdAt w n ls ps L P) : ∀ x, x ∈ L ∨ x ∈ P → x < w.heap.size := fun x hx => hx.elim (h.2.2.1.lt x) (h.2.2.2.1.lt x)

set_option maxHeartbeats 4000000 in
theorem own_any (n : Nd) (ls : List ByteArray) (ps : List Pr) (L P : List Nat) (w : World) (h : NdAt w n ls ps L P) (h1 : ls.length ≤ 1000000) (h2 : ps.length ≤ 1000000) :
    Calls Tryz.prog 66 #[.agg #[.int .i64 n.id, .slice n.la n.ln n.lc, .slice n.pa n.pn n.pc]] w fun e w' => ∃ (n' : Nd) (L' P' : List Nat), e = .returned (.agg #[.int .i64 n'.id, .slice n'.la n'.ln n'.lc, .slice n'.pa n'.pn n'.pc]) ∧ n'.id = n.id ∧ NdAt w' n' ls ps L' P' ∧ Frame [] w w' ∧ ∀ x, x ∈ L' ∨ x ∈ P' → w.heap.size ≤ x := by
  obtain ⟨id, la, ln, lc, pa, pn, pc⟩ := n
  obtain ⟨rfl, rfl, hl, hp, hd⟩ := h
  simp only at hl hp ⊢
  have HS := Lib.hid (fun w' (f : Frame [] w w') => clone_str la lc ls L w' (hl.frame0 f) h1)
  have HP := Lib.hid (fun w' (f : Frame [] w w') => clone_prop pa pc ps P w' (hp.frame0 f) h2)
  clear hl hp hd h1 h2
  generalize hll : ls.length = ln at *
  generalize hpp : ps.length = pn at *
  have HL := Lib.hid hll
  have HN := Lib.hid hpp
  clear hll hpp
  go_enter Tryz.func66, Tryz.ntmps66
  go_wp2_with fail
  have b0 := (Blk.new w 41 #[.int .i64 id, .slice la ln lc, .slice pa pn pc]).alloc (.cells #[.int .i64 0, .slice none 0 0, .slice none 0 0] 41)
  have b1 := Blk.new (w.alloc (.cells #[.int .i64 id, .slice la ln lc, .slice pa pn pc] 41)) 41 #[.int .i64 0, .slice none 0 0, .slice none 0 0]
  have fr : Frame [] w ((w.alloc (.cells #[.int .i64 id, .slice la ln lc, .slice pa pn pc] 41)).alloc (.cells #[.int .i64 0, .slice none 0 0, .slice none 0 0] 41)) := by (repeat first | assumption | exact Frame.refl _ _ | refine Frame.trans1 ?_ (Frame.alloc _ _ _) | refine Frame.trans1 ?_ (Frame.drew _ _) | refine Frame.trans1 ?_ (Frame.drewN _ _ _))
  rw [show (w.alloc (.cells #[.int .i64 id, .slice la ln lc, .slice pa pn pc] 41)).heap.size = w.heap.size + 1 from by simp] at b1
  have hsz : ((w.alloc (.cells #[.int .i64 id, .slice la ln lc, .slice pa pn pc] 41)).alloc (.cells #[.int .i64 0, .slice none 0 0, .slice none 0 0] 41)).heap.size = w.heap.size + 2 := by simp
  generalize (w.alloc (.cells #[.int .i64 id, .slice la ln lc, .slice pa pn pc] 41)).alloc (.cells #[.int .i64 0, .slice none 0 0, .slice none 0 0] 41) = wa at *
  have c1 := b0.at 1 rfl
  have c2 := b0.at 2 rfl
  have hza : wa.heap.size = w.heap.size + 2 := hsz
  have HS' := Lib.hid (fun w' (f : Frame [] wa w') => HS.out w' (fr.trans1 f))
  have HP' := Lib.hid (fun w' (f : Frame [] wa w') => HP.out w' (fr.trans1 f))
  have BB := Lib.hid (And.intro b0 b1)
  have FR := Lib.hid fr
  have HZ := Lib.hid hza
  clear b0 b1 HS HP fr hza hsz
  go_cut [5, 8] (fun u v wx => ∃ la' lc' pa' pc' L' P', u = .slice la' ln lc' ∧ v = .slice pa' pn pc' ∧ Hid (Blk wx w.heap.size 41 #[.int .i64 id, .slice la' ln lc', .slice pa' pn pc'] ∧ Blk wx (w.heap.size + 1) 41 #[.int .i64 0, .slice none 0 0, .slice none 0 0] ∧
    Sl wx 9 1 encS (.slice la' ln lc') ls L' ∧ Sl wx 67 2 Pr.cs (.slice pa' pn pc') ps P' ∧ Frame [] w wx ∧ (∀ x ∈ L', w.heap.size + 2 ≤ x ∧ x ∉ P') ∧ ∀ x ∈ P', w.heap.size + 2 ≤ x))
  case first =>
    go_region_with (first
      | (go_at_call 89; refine (HS'.out _ (by (repeat first | assumption | exact Frame.refl _ _ | refine Frame.trans1 ?_ (Frame.alloc _ _ _) | refine Frame.trans1 ?_ (Frame.drew _ _) | refine Frame.trans1 ?_ (Frame.drewN _ _ _)))).mono ?_; rintro e ws ⟨sa, sc, SG, rfl, ssl, sf, snw⟩; have fas : Frame [] wa ws := (show Frame [] wa _ from by (repeat first | assumption | exact Frame.refl _ _ | refine Frame.trans1 ?_ (Frame.alloc _ _ _) | refine Frame.trans1 ?_ (Frame.drew _ _) | refine Frame.trans1 ?_ (Frame.drewN _ _ _))).trans1 sf; have c2 := (BB.out.1.frame fas (by simp)).at 2 rfl; have k1 := (BB.out.1.frame fas (by simp)).frozen 1; have k2 := (BB.out.1.frame fas (by simp)).frozen 2; have g1 := (BB.out.1.frame fas (by simp)).at 1 rfl; have SL := Lib.hid ssl; have NW := Lib.hid snw; clear ssl sf snw)
      | (go_at_call 90; refine (HP'.out _ (by (repeat first | assumption | exact Frame.refl _ _ | refine Frame.trans1 ?_ (Frame.alloc _ _ _) | refine Frame.trans1 ?_ (Frame.drew _ _) | refine Frame.trans1 ?_ (Frame.drewN _ _ _)))).mono ?_; rintro e wq ⟨qa, qc, PG, rfl, psl, pf, pnw⟩; have faq : Frame [] wa wq := (show Frame [] wa _ from by (repeat first | assumption | exact Frame.refl _ _ | refine Frame.trans1 ?_ (Frame.alloc _ _ _) | refine Frame.trans1 ?_ (Frame.drew _ _) | refine Frame.trans1 ?_ (Frame.drewN _ _ _))).trans1 pf; have c1 := (BB.out.1.frame faq (by simp)).at 1 rfl; have k1 := (BB.out.1.frame faq (by simp)).frozen 1; have k2 := (BB.out.1.frame faq (by simp)).frozen 2; have g2 := (BB.out.1.frame faq (by simp)).at 2 rfl; have fsq : Frame [] ws wq := (show Frame [] ws _ from by (repeat first | assumption | exact Frame.refl _ _ | refine Frame.trans1 ?_ (Frame.alloc _ _ _) | refine Frame.trans1 ?_ (Frame.drew _ _) | refine Frame.trans1 ?_ (Frame.drewN _ _ _))).trans1 pf; have PL := Lib.hid psl; have NQ := Lib.hid pnw; clear psl pf pnw))
    all_goals
      go_wp2_with fail
      go_meet
      case rel =>
        have hz1 := fas.size
        have hz2 := HZ.out
        have SLq := SL.out.frame0 fsq
        have n1 : ∀ x ∈ SG, w.heap.size + 2 ≤ x := fun x hx => by have := NW.out x hx; simp at this; omega
        have n2 : ∀ x ∈ PG, w.heap.size + 2 ≤ x := fun x hx => by have := NQ.out x hx; omega
        have fe : Frame [w.heap.size] wq ((wq.setCell ⟨w.heap.size, 1, none⟩ (.slice sa ln sc)).setCell ⟨w.heap.size, 2, none⟩ (.slice qa pn qc)) := (Frame.setCell wq _ _ (by simp)).trans1 (Frame.setCell _ _ _ (by simp))
        refine ⟨sa, sc, qa, qc, SG, PG, rfl, rfl, ?_, ?_, ?_, ?_, ?_, fun x hx => ⟨n1 x hx, fun hm => ?_⟩, n2⟩
        · simpa using ((BB.out.1.frame faq (by simp)).set 1 (.slice sa ln sc)).set 2 (.slice qa pn qc)
        · exact (BB.out.2.frame faq (by simp)).frame fe (by simp)
        · exact SLq.frame fe (fun x hx hm => by have := n1 x hx; simp at hm; omega)
        · exact PL.out.frame fe (fun x hx hm => by have := n2 x hx; simp at hm; omega)
        · exact (FR.out.trans1 faq).trans fe (by simp)
        · have a1 := SL.out.lt x hx
          have a2 := NQ.out x hm
          omega
  case rest =>
    obtain ⟨la', lc', pa', pc', L', P', rfl, rfl, hc⟩ := hcut
    have b0 := hc.out.1
    have e0 := b0.at 0 rfl
    have e1 := b0.at 1 rfl
    have e2 := b0.at 2 rfl
    have r := hc.out.2.1
    have z0 := r.at 0 rfl
    have z1 := r.at 1 rfl
    have z2 := r.at 2 rfl
    have y0 := r.frozen 0
    have y1 := r.frozen 1
    have y2 := r.frozen 2
    have B := Lib.hid r
    clear b0 r c1 c2
    go_wp2_with fail
    refine bodyPost_ret (v := .agg #[.int .i64 id, .slice la' ln lc', .slice pa' pn pc']) ?_ rfl ⟨⟨id, la', ln, lc', pa', pn, pc'⟩, L', P', rfl, rfl, ?_, ?_, ?_⟩
    · have b3 := ((B.out.set 0 (.int .i64 id)).set 1 (.slice la' ln lc')).set 2 (.slice pa' pn pc')
      have x0 := b3.at 0 rfl
      have x1 := b3.at 1 rfl
      have x2 := b3.at 2 rfl
      simp [results, Tryz.results66, go_sem, x0, x1, x2]
    · have fe : Frame [w.heap.size + 1] wc (((wc.setCell ⟨w.heap.size + 1, 0, none⟩ (.int .i64 id)).setCell ⟨w.heap.size + 1, 1, none⟩ (.slice la' ln lc')).setCell ⟨w.heap.size + 1, 2, none⟩ (.slice pa' pn pc')) := ((Frame.setCell wc _ _ (by simp)).trans1 (Frame.setCell _ _ _ (by simp))).trans1 (Frame.setCell _ _ _ (by simp))
      refine ⟨HL.out.symm, HN.out.symm, ?_, ?_, fun x hx => (hc.out.2.2.2.2.2.1 x hx).2⟩
      · rw [HL.out]; exact hc.out.2.2.1.frame fe (fun x hx hm => by have := (hc.out.2.2.2.2.2.1 x hx).1; simp at hm; omega)
      · rw [HN.out]; exact hc.out.2.2.2.1.frame fe (fun x hx hm => by have := hc.out.2.2.2.2.2.2 x hx; simp at hm; omega)
    · have fe : Frame [w.heap.size + 1] wc (((wc.setCell ⟨w.heap.size + 1, 0, none⟩ (.int .i64 id)).setCell ⟨w.heap.size + 1, 1, none⟩ (.slice la' ln lc')).setCell ⟨w.heap.size + 1, 2, none⟩ (.slice pa' pn pc')) := ((Frame.setCell wc _ _ (by simp)).trans1 (Frame.setCell _ _ _ (by simp))).trans1 (Frame.setCell _ _ _ (by simp))
      exact hc.out.2.2.2.2.1.trans fe (by simp)
    · intro x hx
      rcases hx with h | h
      · have := (hc.out.2.2.2.2.2.1 x h).1; omega
      · have := hc.out.2.2.2.2.2.2 x h; omega
end Go.Proofs.YtjcajidgaejhoaaGreat

namespace Go.Proofs.YtjcajidgaejhoaaGreat
open Go.RowKit
set_option linter.unusedSimpArgs false
set_option linter.unusedVariables false
section
variable {w : World} {pb : Nat} {F : List Nat} {ns : List Nd} {es : List Ed} {given : Int}

theorem addNode_dup (h : GSt w pb F ns es given) (hu : Up (ns.map (·.id))) (hn : ns.length ≤ 1000000) (t : Int) (h1 : 1 ≤ t) (h2 : t ≤ 1000) (hm : t ∈ ns.map (·.id)) :
    Calls Tryz.prog 60 #[.pointer (some ⟨pb, 0, none⟩), .int .i64 t] w fun e w' => e = .returned (.int .i64 7) ∧ Frame [] w w' := by
  have hc := gfind_any h hu hn t
  rw [decide_eq_true hm] at hc
  generalize rank (ns.map (·.id)) t = r at *
  have HC := Lib.hid hc
  clear hc h hu hm
  have h3 : ¬ t < 1 := by omega
  have h4 : ¬ t > 1000 := by omega
  go_enter Tryz.func60, Tryz.ntmps60
  go_wp2_with fail
  refine HC.out.mono ?_
  rintro e w3 ⟨rfl, f3⟩
  have F3 := Lib.hid f3
  clear f3
  go_wp2_with fail
  go_ret
  exact ⟨rfl, F3.out⟩

theorem addNode_new (h : GSt w pb F ns es given) (hu : Up (ns.map (·.id))) (hn : ns.length < 12) (t : Int) (h1 : 1 ≤ t) (h2 : t ≤ 1000) (hm : t ∉ ns.map (·.id)) :
    Calls Tryz.prog 60 #[.pointer (some ⟨pb, 0, none⟩), .int .i64 t] w fun e w' => e = .returned (.int .i64 0) ∧ GEnd w pb F (ns.take (rank (ns.map (·.id)) t) ++ ⟨t, none, 0, 0, none, 0, 0⟩ :: ns.drop (rank (ns.map (·.id)) t)) es given w' := by
  have hc := gfind_any h hu (by omega) t
  rw [decide_eq_false hm] at hc
  have hrk := rank_le (ns.map (·.id)) t
  rw [List.length_map] at hrk
  generalize rank (ns.map (·.id)) t = r at *
  obtain ⟨an, nc, ae, ec, G, H, hb, sn, se, n1, n2, n3, rfl⟩ := h
  have HC := Lib.hid hc
  have A := Lib.hid (And.intro hb (And.intro sn (And.intro se (And.intro n1 (And.intro n2 n3)))))
  clear hc hu hm hb sn se n1 n2 n3
  have h3 : ¬ t < 1 := by omega
  have h4 : ¬ t > 1000 := by omega
  go_enter Tryz.func60, Tryz.ntmps60
  go_wp2_with fail
  refine HC.out.mono ?_
  rintro e w3 ⟨rfl, f3⟩
  have hb3 := A.out.1.frame f3 (by simp)
  have c0 := hb3.at 0 rfl
  have F3 := Lib.hid f3
  have HB3 := Lib.hid hb3
  clear f3 hb3
  go_wp2_with fail
  refine (ins_node_any (.slice an ns.length nc) ns ⟨t, none, 0, 0, none, 0, 0⟩ G _ r _ ((A.out.2.1.frame0 F3.out).frame0 (Frame.alloc _ _ _)) (Blk.new _ _ _) (fun h => by have := (A.out.2.1.frame0 F3.out).lt _ h; omega) (by omega) hrk).mono ?_
  rintro e w4 ⟨b', cap', rfl, sl4, f4, hb4⟩
  have hb5 := (HB3.out.alloc _).frame f4 A.out.2.2.2.1
  have q0 := hb5.at 0 rfl
  have q1 := hb5.frozen 0
  have X := Lib.hid (And.intro sl4 (And.intro f4 (And.intro hb4 hb5)))
  clear sl4 f4 hb4 hb5 c0
  go_wp2_with fail
  go_ret
  have hz3 := F3.out.size
  have fw : Frame (pb :: (G ++ H)) w w4 := (F3.out.mono (S' := pb :: (G ++ H)) (by simp)).trans1 (((Frame.alloc (pb :: (G ++ H)) w3 _).trans1 (X.out.2.1.mono (fun x hx => .inl (by simp [hx])))))
  have hpb : pb ≠ b' := by
    rcases X.out.2.2.1 with h | h
    · intro e; subst e; exact A.out.2.2.2.1 h
    · have := HB3.out.lt; simp at h; omega
  have hlen : (ns.take r ++ (⟨t, none, 0, 0, none, 0, 0⟩ : Nd) :: ns.drop r).length = ns.length + 1 := by simp; omega
  refine ⟨rfl, pb :: ([b'] ++ H), ⟨some ⟨b', 0, none⟩, cap', ae, ec, [b'], H, ?_, ?_, ?_, ?_, A.out.2.2.2.2.1, ?_, rfl⟩, fw.trans1 (Frame.setCell (S := pb :: (G ++ H)) w4 _ _ (by simp)), ?_⟩
  · rw [hlen]
    have := X.out.2.2.2.set 0 (.slice (some ⟨b', 0, none⟩) (ns.length + 1) cap')
    simpa using this
  · have := X.out.1.frame (S := [pb]) (Frame.setCell w4 ⟨pb, 0, none⟩ (.slice (some ⟨b', 0, none⟩) (ns.length + 1) cap') (by simp)) (by simp; exact fun e => hpb e.symm)
    rw [hlen]
    exact this
  · have hH : ∀ x ∈ H, x ∉ G := fun x hx hg => A.out.2.2.2.2.2 x hg hx
    have s4 : Sl w4 44 4 Ed.cs (.slice ae es.length ec) es H := ((A.out.2.2.1.frame0 F3.out).frame0 (Frame.alloc _ _ _)).frame X.out.2.1 hH
    exact s4.frame (S := [pb]) (Frame.setCell w4 ⟨pb, 0, none⟩ _ (by simp)) (by simp; intro x hx e; subst e; exact A.out.2.2.2.2.1 hx)
  · simpa using hpb
  · intro x hx
    simp at hx; subst hx
    rcases X.out.2.2.1 with h | h
    · exact A.out.2.2.2.2.2 _ h
    · intro hh
      have := (A.out.2.2.1.frame0 F3.out).lt _ hh
      simp at h; omega
  · intro x hx
    simp at hx ⊢
    rcases hx with h | h | h
    · exact .inl (.inl h)
    · subst h
      rcases X.out.2.2.1 with h | h
      · exact .inl (.inr (.inl h))
      · right; simp at h; omega
    · exact .inl (.inr (.inr h))

theorem addNode_end (h : GSt w pb F ns es given) (hu : Up (ns.map (·.id))) (hn : ns.length < 12) (t : Int) (h1 : 1 ≤ t) (h2 : t ≤ 1000) (hm : t ∉ ns.map (·.id)) (hr : rank (ns.map (·.id)) t = ns.length) :
    Calls Tryz.prog 60 #[.pointer (some ⟨pb, 0, none⟩), .int .i64 t] w fun e w' => e = .returned (.int .i64 0) ∧ GEnd w pb F (ns ++ [⟨t, none, 0, 0, none, 0, 0⟩]) es given w' := by
  have := addNode_new h hu hn t h1 h2 hm
  rw [hr, List.take_of_length_le (Nat.le_refl _), List.drop_of_length_le (Nat.le_refl _)] at this
  exact this

theorem addNode_arg (h : GSt w pb F ns es given) (hu : Up (ns.map (·.id))) (hn : ns.length ≤ 1000000) (t : Int) (h1 : t < 1 ∨ 1000 < t) :
    Calls Tryz.prog 60 #[.pointer (some ⟨pb, 0, none⟩), .int .i64 t] w fun e w' => e = .returned (.int .i64 1) ∧ Frame [] w w' := by
  have hc := gfind_any h hu hn t
  generalize rank (ns.map (·.id)) t = r at *
  generalize decide (t ∈ ns.map (·.id)) = d at *
  have HC := Lib.hid hc
  clear hc h hu
  rcases (by omega : t < 1 ∨ (¬ t < 1 ∧ t > 1000)) with h3 | ⟨h3, h4⟩
  · go_enter Tryz.func60, Tryz.ntmps60
    go_wp2_with fail
    refine HC.out.mono ?_
    rintro e w3 ⟨rfl, f3⟩
    have F3 := Lib.hid f3
    clear f3
    go_wp2_with fail
    go_ret
    exact ⟨rfl, F3.out⟩
  · go_enter Tryz.func60, Tryz.ntmps60
    go_wp2_with fail
    refine HC.out.mono ?_
    rintro e w3 ⟨rfl, f3⟩
    have F3 := Lib.hid f3
    clear f3
    go_wp2_with fail
    go_ret
    exact ⟨rfl, F3.out⟩

theorem addNode_full (h : GSt w pb F ns es given) (hu : Up (ns.map (·.id))) (hn : 12 ≤ ns.length) (hl : ns.length ≤ 1000000) (t : Int) (h1 : 1 ≤ t) (h2 : t ≤ 1000) (hm : t ∉ ns.map (·.id)) :
    Calls Tryz.prog 60 #[.pointer (some ⟨pb, 0, none⟩), .int .i64 t] w fun e w' => e = .returned (.int .i64 5) ∧ Frame [] w w' := by
  have hc := gfind_any h hu hl t
  rw [decide_eq_false hm] at hc
  generalize rank (ns.map (·.id)) t = r at *
  obtain ⟨an, nc, ae, ec, G, H, hb, sn, se, n1, n2, n3, rfl⟩ := h
  have HC := Lib.hid hc
  have A := Lib.hid hb
  clear hc hu hm hb sn se n1 n2 n3
  have h3 : ¬ t < 1 := by omega
  have h4 : ¬ t > 1000 := by omega
  go_enter Tryz.func60, Tryz.ntmps60
  go_wp2_with fail
  refine HC.out.mono ?_
  rintro e w3 ⟨rfl, f3⟩
  have c0 := (A.out.frame f3 (by simp)).at 0 rfl
  have F3 := Lib.hid f3
  clear f3
  go_wp2_with fail
  go_ret
  exact ⟨rfl, F3.out⟩
end
end Go.Proofs.YtjcajidgaejhoaaGreat

namespace Go.Proofs.YtjcajidgaejhoaaGreat
open Go.RowKit
set_option linter.unusedSimpArgs false
set_option linter.unusedVariables false
section
variable {w : World} {pb : Nat} {F : List Nat} {ns : List Nd} {es : List Ed} {given : Int}

theorem gadd_full (h : GSt w pb F ns es given) (hu : Up (ns.map (·.id))) (hn : ns.length ≤ 1000000) (he : 60 ≤ es.length) (hle : es.length ≤ 1000000) (x y : Int) (s : ByteArray) (hs : namedB s = true) (hx : x ∈ ns.map (·.id)) (hy : y ∈ ns.map (·.id)) :
    Calls Tryz.prog 25 #[.pointer (some ⟨pb, 0, none⟩), .int .i64 x, .string s, .int .i64 y] w fun e w' => e = .returned (.tuple #[.int .i64 0, .int .i64 5]) ∧ Frame [] w w' := by
  have hcx := ghas_any h hu hn x
  rw [decide_eq_true hx] at hcx
  have hcy := fun w' (f : Frame [] w w') => ghas_any (h.frame0 f) hu hn y
  rw [decide_eq_true hy] at hcy
  have hnm := named_any s w (by simp [namedB] at hs; omega)
  rw [hs] at hnm
  obtain ⟨an, nc, ae, ec, G, H, hb, sn, se, n1, n2, n3, rfl⟩ := h
  have HX := Lib.hid hcx
  have HY := Lib.hid hcy
  have HN := Lib.hid hnm
  have A := Lib.hid hb
  clear hcx hcy hnm hb sn se n1 n2 n3 hu hx hy hs
  go_enter Tryz.func25, Tryz.ntmps25
  go_wp2_with fail
  refine HN.out.mono ?_
  rintro e w ⟨rfl, rfl⟩
  go_wp2_with fail
  refine HX.out.mono ?_
  rintro e w2 ⟨rfl, f2⟩
  have F2 := Lib.hid f2
  clear f2
  go_wp2_with fail
  refine (HY.out _ F2.out).mono ?_
  rintro e w3 ⟨rfl, f3⟩
  have F3 := Lib.hid (F2.out.trans1 f3)
  clear f3 F2
  have hb3 := A.out.frame F3.out (by simp)
  have c1 := hb3.at 1 rfl
  have hl : (60 : Int) ≤ es.length := by omega
  clear hb3
  go_wp2_with fail
  go_ret2
  exact ⟨rfl, F3.out⟩

theorem gdrop_none (h : GSt w pb F ns es given) (hu : Up (es.map (·.tok))) (hn : es.length ≤ 1000000) (t : Int) (ht : t ∉ es.map (·.tok)) :
    Calls Tryz.prog 26 #[.pointer (some ⟨pb, 0, none⟩), .int .i64 t] w fun e w' => e = .returned (.int .i64 8) ∧ Frame [] w w' := by
  have hc := gplace_any h hu hn t
  rw [decide_eq_false ht] at hc
  generalize rank (es.map (·.tok)) t = r at *
  have HC := Lib.hid hc
  clear hc h hu ht
  go_enter Tryz.func26, Tryz.ntmps26
  go_wp2_with fail
  refine HC.out.mono ?_
  rintro e w3 ⟨rfl, f3⟩
  have F3 := Lib.hid f3
  clear f3
  go_wp2_with fail
  go_ret
  exact ⟨rfl, F3.out⟩

theorem rank_lt {ks : List Int} {t : Int} (hu : Up ks) (ht : t ∈ ks) : rank ks t < ks.length ∧ ks[rank ks t]? = some t := by
  obtain ⟨i, hi, he⟩ := List.getElem_of_mem ht
  have : rank ks t = i := rank_of (by omega) (fun j hj h => by rw [← he]; exact (List.pairwise_iff_getElem.1 hu) j i hj hi h) (fun j hj h => by
    rcases Nat.lt_or_ge i j with q | q
    · have := (List.pairwise_iff_getElem.1 hu) i j hi hj q; omega
    · obtain rfl : i = j := by omega
      omega)
  rw [this]
  exact ⟨hi, by rw [List.getElem?_eq_getElem hi, he]⟩

theorem gdrop_ok (h : GSt w pb F ns es given) (hu : Up (es.map (·.tok))) (hn : es.length ≤ 1000000) (t : Int) (ht : t ∈ es.map (·.tok)) :
    Calls Tryz.prog 26 #[.pointer (some ⟨pb, 0, none⟩), .int .i64 t] w fun e w' => e = .returned (.int .i64 0) ∧ GEnd w pb F ns (es.eraseIdx (rank (es.map (·.tok)) t)) given w' := by
  have hc := gplace_any h hu hn t
  rw [decide_eq_true ht] at hc
  have hr := (rank_lt hu ht).1
  rw [List.length_map] at hr
  generalize rank (es.map (·.tok)) t = r at *
  obtain ⟨an, nc, ae, ec, G, H, hb, sn, se, n1, n2, n3, rfl⟩ := h
  obtain ⟨k, hk⟩ : ∃ k, es.length = k + 1 := ⟨es.length - 1, by omega⟩
  rcases id se with ⟨_, h0, _⟩ | ⟨b, cap, hv, rfl, hrow⟩
  · subst h0; simp at hk
  injection hv with hv1 _ hv2
  subst hv1 hv2
  have hlen : (es.eraseIdx r).length = k := by rw [List.length_eraseIdx, if_pos hr, hk]; rfl
  rw [hk] at hb se
  have HC := Lib.hid hc
  have A := Lib.hid (And.intro hb (And.intro sn (And.intro hrow (And.intro n1 (And.intro n2 n3)))))
  have HK := Lib.hid hk
  have HL := Lib.hid hlen
  clear hc hb sn se hrow n1 n2 n3 hk hlen hu ht
  go_enter Tryz.func26, Tryz.ntmps26
  go_wp2_with fail
  refine HC.out.mono ?_
  rintro e w3 ⟨rfl, f3⟩
  have F3 := Lib.hid f3
  clear f3
  have hb3 := A.out.1.frame F3.out (by simp)
  have c1 := hb3.at 1 rfl
  have HB3 := Lib.hid hb3
  clear hb3
  go_wp2_with fail
  refine (del_edge b ec k r es w3 (by have := A.out.2.2.1.frame F3.out (by simp); rw [HK.out] at this; exact this) HK.out (by have := HK.out; omega)).mono ?_
  rintro e w4 ⟨rfl, hr4, f4⟩
  have hpb : pb ≠ b := by have := A.out.2.2.2.2.1; simpa using this
  have hb4 := HB3.out.frame f4 (by simpa using hpb)
  have z1 := hb4.frozen 1
  have q1 := hb4.at 1 rfl
  have X := Lib.hid (And.intro hb4 (And.intro hr4 f4))
  clear hb4 hr4 f4 c1
  go_wp2_with fail
  go_ret
  have fw : Frame (pb :: (G ++ [b])) w w4 := (F3.out.mono (S' := pb :: (G ++ [b])) (by simp)).trans1 (X.out.2.2.mono (by simp))
  refine ⟨rfl, pb :: (G ++ [b]), ⟨an, nc, some ⟨b, 0, none⟩, ec, G, [b], ?_, ?_, ?_, A.out.2.2.2.1, A.out.2.2.2.2.1, A.out.2.2.2.2.2, rfl⟩, fw.trans1 (Frame.setCell (S := pb :: (G ++ [b])) w4 _ _ (by simp)), fun x hx => .inl hx⟩
  · rw [HL.out]
    have := X.out.1.set 1 (.slice (some ⟨b, 0, none⟩) k ec)
    simpa using this
  · have s4 := (A.out.2.1.frame0 F3.out).frame X.out.2.2 (fun x hx hm => A.out.2.2.2.2.2 x hx hm)
    exact s4.frame (S := [pb]) (Frame.setCell w4 ⟨pb, 1, none⟩ _ (by simp)) (by simp; intro x hx e; subst e; exact A.out.2.2.2.1 hx)
  · rw [HL.out]
    refine .inr ⟨b, ec, by rw [HL.out], rfl, ?_⟩
    rw [HL.out]
    exact RowAt.set_ne X.out.2.1 _ (fun e => hpb e.symm)

/-- The edge that Edge tells. -/
def edgeOf (es : List Ed) (t : Int) : Ed × Bool := if t ∈ es.map (·.tok) then ((es[rank (es.map (·.tok)) t]?).getD ⟨0, 0, ⟨#[]⟩, 0⟩, true) else (⟨0, 0, ⟨#[]⟩, 0⟩, false)
end
end Go.Proofs.YtjcajidgaejhoaaGreat

namespace Go.Proofs.YtjcajidgaejhoaaGreat
open Go.RowKit
set_option linter.unusedSimpArgs false
set_option linter.unusedVariables false
section
variable {w : World} {pb : Nat} {F : List Nat} {ns : List Nd} {es : List Ed} {given : Int}

end
end Go.Proofs.YtjcajidgaejhoaaGreat

namespace Go.Proofs.YtjcajidgaejhoaaGreat
open Go.RowKit
set_option linter.unusedSimpArgs false
set_option linter.unusedVariables false
section
variable {w : World} {pb : Nat} {F : List Nat} {ns : List Nd} {es : List Ed} {given : Int}

set_option maxHeartbeats 4000000 in
set_option maxRecDepth 100000 in
theorem gadd_ok (h : GSt w pb F ns es given) (hu : Up (ns.map (·.id))) (hn : ns.length ≤ 1000000) (he : es.length < 60) (hg0 : 0 ≤ given) (hg1 : given < 1099511627776) (x y : Int) (s : ByteArray) (hs : namedB s = true) (hx : x ∈ ns.map (·.id)) (hy : y ∈ ns.map (·.id)) :
    Calls Tryz.prog 25 #[.pointer (some ⟨pb, 0, none⟩), .int .i64 x, .string s, .int .i64 y] w fun e w' => e = .returned (.tuple #[.int .i64 (given + 1), .int .i64 0]) ∧ GEnd w pb F ns (es ++ [⟨given + 1, x, s, y⟩]) (given + 1) w' := by
  have hcx := ghas_any h hu hn x
  rw [decide_eq_true hx] at hcx
  have hcy := fun w' (f : Frame [] w w') => ghas_any (h.frame0 f) hu hn y
  rw [decide_eq_true hy] at hcy
  have hnm := named_any s w (by simp [namedB] at hs; omega)
  rw [hs] at hnm
  obtain ⟨an, nc, ae, ec, G, H, hb, sn, se, n1, n2, n3, rfl⟩ := h
  have HX := Lib.hid hcx
  have HY := Lib.hid hcy
  have HN := Lib.hid hnm
  have A := Lib.hid (And.intro hb (And.intro sn (And.intro se (And.intro n1 (And.intro n2 n3)))))
  clear hcx hcy hnm hb sn se n1 n2 n3 hu hx hy hs
  go_enter Tryz.func25, Tryz.ntmps25
  go_wp2_with fail
  refine HN.out.mono ?_
  rintro e w ⟨rfl, rfl⟩
  go_wp2_with fail
  refine HX.out.mono ?_
  rintro e w2 ⟨rfl, f2⟩
  have F2 := Lib.hid f2
  clear f2
  go_wp2_with fail
  refine (HY.out _ F2.out).mono ?_
  rintro e w3 ⟨rfl, f3⟩
  have F3 := Lib.hid (F2.out.trans1 f3)
  clear f3 F2
  have hb3 := A.out.1.frame F3.out (by simp)
  have c1 := hb3.at 1 rfl
  have c2 := hb3.at 2 rfl
  have z2 := hb3.frozen 2
  have hb5 : Blk (w3.setCell ⟨pb, 2, none⟩ (.int .i64 (given + 1))) pb 89 #[.slice an ns.length nc, .slice ae es.length ec, .int .i64 (given + 1)] := by simpa using hb3.set 2 (.int .i64 (given + 1))
  have fs := Frame.setCell (S := [pb]) w3 ⟨pb, 2, none⟩ (.int .i64 (given + 1)) (by simp)
  have HB5 := Lib.hid hb5
  have FS := Lib.hid fs
  have d1 := hb5.at 1 rfl
  have d2 := hb5.at 2 rfl
  clear hb3 hb5 fs
  have hl : ¬ (60 : Int) ≤ es.length := by omega
  have hl2 : ¬ (1099511627776 : Int) ≤ given := by omega
  go_wp2_with fail
  generalize w3.setCell ⟨pb, 2, none⟩ (.int .i64 (given + 1)) = w5 at *
  obtain ⟨i0, hi, hz0, hz1, hz2⟩ := info_parts infoEdge
  have HI := Lib.hid (And.intro hi (And.intro hz0 (And.intro hz1 hz2)))
  clear hi hz0 hz1 hz2 c1 c2 z2
  have HM : Hid (es.length + 1 ≤ maxLen) := Lib.hid (by unfold maxLen; omega)
  have f5 : Frame [pb] w w5 := (F3.out.mono (by simp)).trans1 FS.out
  have se5 : Sl w5 44 4 Ed.cs (.slice ae es.length ec) es H := A.out.2.2.1.frame f5 (by simp; intro x hx e; subst e; exact A.out.2.2.2.2.1 hx)
  have SE := Lib.hid se5
  have F5 := Lib.hid f5
  clear se5 f5
  have d1a := (HB5.out.alloc (.cells #[.int .i64 (given + 1), .int .i64 x, .string s, .int .i64 y] 44)).at 1 rfl
  go_cut [] (fun wx => ∃ g cap', Blk wx pb 89 #[.slice an ns.length nc, .slice (some ⟨g, 0, none⟩) (es.length + 1) cap', .int .i64 (given + 1)] ∧
    Sl wx 44 4 Ed.cs (.slice (some ⟨g, 0, none⟩) (es.length + 1) cap') (es ++ [⟨given + 1, x, s, y⟩]) [g] ∧ (g ∈ H ∨ w5.heap.size ≤ g) ∧ Frame (pb :: H) w5 wx)
  case first =>
    go_region_law (refine step_append_lies _ rfl (.tmp 50) (.tmp 59) 23 rfl 0 44 i0 _ 4 40 Tryz.underlying23 HI.out.1 HI.out.2.1 HI.out.2.2.1 HI.out.2.2.2 rfl (by decide) (.slice ae es.length ec) es.length (es.flatMap Ed.cs) (by simp [Act.eval, Act.put]) ((SE.out.frame0 (Frame.drew [] _)).frame0 (Frame.alloc [] _ _)).owns ⟨w5.heap.size, 0, none⟩ 1 1 [.int .i64 (given + 1), .int .i64 x, .string s, .int .i64 y] (by simp [Act.eval, Act.put, World.drew]) rfl (World.news_of_block (heap_alloc_new w5.drew _)) (by simp [Value.oneCell']) (by omega) HM.out (by omega) (by omega) (w5.heap.size + 1) (by simp [World.drew]) ?_; intro g cap' w6 hown hgrow hat hlt; have f6 := Frame.of_grown (S := H) hgrow (fun k hk => by rw [SE.out.own_block k hk]; simp); have h6 := (HB5.out.drew.alloc _).frame f6 A.out.2.2.2.2.1; have p0 := h6.at 1 rfl; have p1 := h6.frozen 1)
    all_goals
      go_wp2_with fail
      go_meet
      case rel =>
        have hat' : g ∈ H ∨ w5.heap.size ≤ g := by
          rcases hat with h | h
          · left; rw [SE.out.own_block g h]; simp
          · right; omega
        have hpg : pb ≠ g := by
          rcases hat' with h | h
          · intro e; subst e; exact A.out.2.2.2.2.1 h
          · have := HB5.out.lt; omega
        have fa : Frame (pb :: H) w5 (w5.drew.alloc (.cells #[.int .i64 (given + 1), .int .i64 x, .string s, .int .i64 y] 44)) := (Frame.drew _ _).trans1 (Frame.alloc _ _ _)
        refine ⟨g, cap', by simpa using h6.set 1 (.slice (some ⟨g, 0, none⟩) (es.length + 1) cap'), ?_, hat', (fa.trans f6 (by simp; intro x hx; exact .inl (.inr hx))).trans1 (Frame.setCell _ _ _ (by simp))⟩
        refine .inr ⟨g, cap', by simp, rfl, ?_⟩
        have := RowAt.set_ne (a := ⟨pb, 1, none⟩) hown (.slice (some ⟨g, 0, none⟩) (es.length + 1) cap') (fun e => hpg e.symm)
        simpa [Ed.cs] using this
  case rest =>
    obtain ⟨g, cap', q0, q1, q2, q3⟩ := hcut
    have r1 := q0.at 2 rfl
    have Q := Lib.hid (And.intro q0 (And.intro q1 (And.intro q2 q3)))
    clear q0 q1 q2 q3 d1a d1 d2
    go_wp2_with fail
    go_ret2
    have hz5 := F5.out.size
    have fw : Frame (pb :: (G ++ H)) w wc := (F5.out.mono (S' := pb :: (G ++ H)) (by simp)).trans1 (Q.out.2.2.2.mono (by simp; intro x hx; exact .inl (.inr (.inr hx))))
    refine ⟨rfl, pb :: (G ++ [g]), ⟨an, nc, some ⟨g, 0, none⟩, cap', G, [g], ?_, ?_, ?_, A.out.2.2.2.1, ?_, ?_, rfl⟩, fw, ?_⟩
    · have := Q.out.1; simpa using this
    · have s5 := (A.out.2.1).frame F5.out (by simp; intro x hx e; subst e; exact A.out.2.2.2.1 hx)
      exact s5.frame Q.out.2.2.2 (by simp; intro x hx; exact ⟨fun e => by subst e; exact A.out.2.2.2.1 hx, A.out.2.2.2.2.2 x hx⟩)
    · have := Q.out.2.1; simpa using this
    · simp
      rcases Q.out.2.2.1 with h | h
      · intro e; subst e; exact A.out.2.2.2.2.1 h
      · have := HB5.out.lt; omega
    · intro x hx; simp
      intro e; subst e
      rcases Q.out.2.2.1 with h | h
      · exact A.out.2.2.2.2.2 _ hx h
      · have := A.out.2.1.lt _ hx; omega
    · intro x hx
      simp at hx ⊢
      rcases hx with h | h | h
      · exact .inl (.inl h)
      · exact .inl (.inr (.inl h))
      · subst h
        rcases Q.out.2.2.1 with h | h
        · exact .inl (.inr (.inr h))
        · right; omega
end
end Go.Proofs.YtjcajidgaejhoaaGreat

namespace Go.Proofs.YtjcajidgaejhoaaGreat
open Go.RowKit
set_option linter.unusedSimpArgs false
set_option linter.unusedVariables false

theorem Sl.nodup {α : Type} {w : World} {e sz : Nat} {enc : α → List Value} {v : Value} {xs : List α} {G : List Nat} (h : Sl w e sz enc v xs G) : G.Nodup := by
  rcases h with ⟨_, _, rfl⟩ | ⟨b, _, _, rfl, _⟩ <;> simp
/-- A node with what its slices hold, and their blocks. -/
structure Rn where
  nd : Nd
  ls : List ByteArray
  ps : List Pr
  L : List Nat
  P : List Nat
def Rn.ok (w : World) (r : Rn) : Prop := NdAt w r.nd r.ls r.ps r.L r.P ∧ r.ls.length ≤ 1000000 ∧ r.ps.length ≤ 1000000
def Rn.bl (r : Rn) : List Nat := r.L ++ r.P
/-- A node by its values: number, labels, properties. -/
abbrev Nv := Int × List ByteArray × List Pr
def Rn.tell (r : Rn) : Nv := (r.nd.id, r.ls, r.ps)
theorem Rn.ok_frame {w w' : World} {r : Rn} {S : List Nat} (h : r.ok w) (f : Frame S w w') (hS : ∀ x ∈ r.bl, x ∉ S) : r.ok w' :=
  ⟨h.1.frame f (fun x hx => hS x (by simp [Rn.bl, hx])) (fun x hx => hS x (by simp [Rn.bl, hx])), h.2⟩
theorem Rn.ok_lt {w : World} {r : Rn} (h : r.ok w) : ∀ x ∈ r.bl, x < w.heap.size := fun x hx => h.1.lt x (by simpa [Rn.bl] using hx)
/-- A node without anything. -/
def nd0 (t : Int) : Nd := ⟨t, none, 0, 0, none, 0, 0⟩
def rn0 (t : Int) : Rn := ⟨nd0 t, [], [], [], []⟩
theorem rn0_ok (t : Int) (w : World) : (rn0 t).ok w := ⟨⟨rfl, rfl, Sl.nil _ _ _ _, Sl.nil _ _ _ _, by simp [rn0]⟩, by simp [rn0], by simp [rn0]⟩

theorem GSt.nodup {w : World} {pb : Nat} {F : List Nat} {ns : List Nd} {es : List Ed} {given : Int} (h : GSt w pb F ns es given) : F.Nodup := by
  obtain ⟨an, nc, ae, ec, G, H, hb, sn, se, n1, n2, n3, rfl⟩ := h
  refine List.nodup_cons.2 ⟨by simp [n1, n2], List.nodup_append.2 ⟨sn.nodup, se.nodup, fun x hx y hy e => n3 x hx (e ▸ hy)⟩⟩

/-- A graph: its nodes with what they hold, no block twice. -/
def GG (w : World) (pb : Nat) (F : List Nat) (rs : List Rn) (es : List Ed) (given : Int) : Prop :=
  ∃ FG, GSt w pb FG (rs.map (·.nd)) es given ∧ (∀ r ∈ rs, r.ok w) ∧ (FG ++ rs.flatMap Rn.bl).Nodup ∧ F = FG ++ rs.flatMap Rn.bl
/-- .. by values. -/
def GV (w : World) (pb : Nat) (F : List Nat) (ns : List Nv) (es : List Ed) (given : Int) : Prop := ∃ rs, GG w pb F rs es given ∧ rs.map Rn.tell = ns
/-- Behind a call that may write the graph. -/
def GVEnd (w : World) (pb : Nat) (F : List Nat) (ns : List Nv) (es : List Ed) (given : Int) (w' : World) : Prop :=
  ∃ F', GV w' pb F' ns es given ∧ Frame F w w' ∧ ∀ x ∈ F', x ∈ F ∨ w.heap.size ≤ x
section
variable {w w' : World} {pb : Nat} {F : List Nat} {rs : List Rn} {ns : List Nv} {es : List Ed} {given : Int}
theorem GG.frame {S : List Nat} (h : GG w pb F rs es given) (f : Frame S w w') (hS : ∀ x ∈ F, x ∉ S) : GG w' pb F rs es given := by
  obtain ⟨FG, h1, h2, h3, rfl⟩ := h
  exact ⟨FG, h1.frame f (fun x hx => hS x (by simp [hx])), fun r hr => Rn.ok_frame (h2 r hr) f (fun x hx => hS x (by simp; exact .inr ⟨r, hr, hx⟩)), h3, rfl⟩
theorem GV.frame {S : List Nat} (h : GV w pb F ns es given) (f : Frame S w w') (hS : ∀ x ∈ F, x ∉ S) : GV w' pb F ns es given := by
  obtain ⟨rs, h1, h2⟩ := h
  exact ⟨rs, h1.frame f hS, h2⟩
theorem GV.frame0 (h : GV w pb F ns es given) (f : Frame [] w w') : GV w' pb F ns es given := h.frame f (by simp)
theorem GG.lt (h : GG w pb F rs es given) : ∀ x ∈ F, x < w.heap.size := by
  obtain ⟨FG, h1, h2, h3, rfl⟩ := h
  intro x hx
  rcases List.mem_append.1 hx with hx | hx
  · exact h1.lt x hx
  · obtain ⟨r, hr, hx⟩ := List.mem_flatMap.1 hx
    exact Rn.ok_lt (h2 r hr) x hx
theorem GV.lt (h : GV w pb F ns es given) : ∀ x ∈ F, x < w.heap.size := by
  obtain ⟨rs, h1, _⟩ := h; exact h1.lt
theorem GV.pb_mem (h : GV w pb F ns es given) : pb ∈ F := by
  obtain ⟨rs, ⟨FG, ⟨an, nc, ae, ec, G, H, hb, sn, se, n1, n2, n3, rfl⟩, h2, h3, rfl⟩, _⟩ := h; simp
theorem GVEnd.quiet (h : GV w pb F ns es given) (f : Frame [] w w') : GVEnd w pb F ns es given w' := ⟨F, h.frame0 f, f.mono (by simp), fun x hx => .inl hx⟩
theorem tell_ids (rs : List Rn) : (rs.map Rn.tell).map (·.1) = (rs.map (·.nd)).map (·.id) := by simp [Rn.tell, Function.comp_def]
/-- A call that touches the object and its two rows alone. -/
theorem GG.lift {FG : List Nat} {rs' : List Rn} {es' : List Ed} {given' : Int} (h1 : GSt w pb FG (rs.map (·.nd)) es given) (h2 : ∀ r ∈ rs, r.ok w) (h3 : (FG ++ rs.flatMap Rn.bl).Nodup)
    (e : GEnd w pb FG (rs'.map (·.nd)) es' given' w') (hok : ∀ r ∈ rs', r.ok w) (hsub : (rs'.flatMap Rn.bl).Sublist (rs.flatMap Rn.bl)) :
    ∃ F', GG w' pb F' rs' es' given' ∧ Frame (FG ++ rs.flatMap Rn.bl) w w' ∧ ∀ x ∈ F', x ∈ FG ++ rs.flatMap Rn.bl ∨ w.heap.size ≤ x := by
  obtain ⟨FG', a, b, c⟩ := e
  obtain ⟨n1, n2, n3⟩ := List.nodup_append.1 h3
  have hlt : ∀ x ∈ rs'.flatMap Rn.bl, x < w.heap.size := fun x hx => by
    obtain ⟨r, hr, hx⟩ := List.mem_flatMap.1 hx
    exact Rn.ok_lt (hok r hr) x hx
  refine ⟨FG' ++ rs'.flatMap Rn.bl, ⟨FG', a, fun r hr => Rn.ok_frame (hok r hr) b (fun x hx hm => ?_), List.nodup_append.2 ⟨a.nodup, n2.sublist hsub, fun x hx y hy e => ?_⟩, rfl⟩, b.mono (fun x hx => .inl (by simp [hx])), fun x hx => ?_⟩
  · exact n3 x hm x (hsub.subset (List.mem_flatMap.2 ⟨r, hr, hx⟩)) rfl
  · subst e
    rcases c x hx with h | h
    · exact n3 x h x (hsub.subset hy) rfl
    · have := hlt x hy; omega
  · rcases List.mem_append.1 hx with hx | hx
    · rcases c x hx with h | h
      · exact .inl (by simp [h])
      · exact .inr h
    · exact .inl (List.mem_append.2 (.inr (hsub.subset hx)))
theorem GV.lift {FG : List Nat} {rs' : List Rn} {es' : List Ed} {given' : Int} {ns' : List Nv} (h1 : GSt w pb FG (rs.map (·.nd)) es given) (h2 : ∀ r ∈ rs, r.ok w) (h3 : (FG ++ rs.flatMap Rn.bl).Nodup)
    (e : GEnd w pb FG (rs'.map (·.nd)) es' given' w') (hok : ∀ r ∈ rs', r.ok w) (hsub : (rs'.flatMap Rn.bl).Sublist (rs.flatMap Rn.bl)) (hns : rs'.map Rn.tell = ns') : GVEnd w pb (FG ++ rs.flatMap Rn.bl) ns' es' given' w' := by
  obtain ⟨F', a, b, c⟩ := GG.lift h1 h2 h3 e hok hsub
  exact ⟨F', ⟨rs', a, hns⟩, b, c⟩

/-! ### AddNode -/
def vAddNode (ns : List Nv) (t : Int) : Int × List Nv :=
  if t < 1 ∨ 1000 < t then (1, ns) else if t ∈ ns.map (·.1) then (7, ns) else if 12 ≤ ns.length then (5, ns)
  else (0, ns.take (rank (ns.map (·.1)) t) ++ (t, [], []) :: ns.drop (rank (ns.map (·.1)) t))
theorem gv_addNode (h : GV w pb F ns es given) (hu : Up (ns.map (·.1))) (hn : ns.length ≤ 1000000) (t : Int) :
    Calls Tryz.prog 60 #[.pointer (some ⟨pb, 0, none⟩), .int .i64 t] w fun e w' => e = .returned (.int .i64 (vAddNode ns t).1) ∧ GVEnd w pb F (vAddNode ns t).2 es given w' := by
  have h0 := h
  obtain ⟨rs, ⟨FG, h1, h2, h3, rfl⟩, rfl⟩ := h
  rw [List.length_map] at hn
  rw [tell_ids] at hu
  have hl : (rs.map (·.nd)).length = rs.length := List.length_map _
  unfold vAddNode
  rw [tell_ids, List.length_map]
  by_cases q1 : t < 1 ∨ 1000 < t
  · rw [if_pos q1]
    exact (addNode_arg h1 hu (by rw [hl]; omega) t q1).mono fun e w' ⟨he, f⟩ => ⟨he, GVEnd.quiet h0 f⟩
  rw [if_neg q1]
  by_cases q2 : t ∈ (rs.map (·.nd)).map (·.id)
  · rw [if_pos q2]
    exact (addNode_dup h1 hu (by rw [hl]; omega) t (by omega) (by omega) q2).mono fun e w' ⟨he, f⟩ => ⟨he, GVEnd.quiet h0 f⟩
  rw [if_neg q2]
  by_cases q3 : 12 ≤ rs.length
  · rw [if_pos q3]
    exact (addNode_full h1 hu (by rw [hl]; omega) (by rw [hl]; omega) t (by omega) (by omega) q2).mono fun e w' ⟨he, f⟩ => ⟨he, GVEnd.quiet h0 f⟩
  rw [if_neg q3]
  refine (addNode_new h1 hu (by rw [hl]; omega) t (by omega) (by omega) q2).mono fun e w' ⟨he, hg⟩ => ⟨he, ?_⟩
  generalize rank ((rs.map (·.nd)).map (·.id)) t = r at *
  have e1 : (rs.map (·.nd)).take r ++ (⟨t, none, 0, 0, none, 0, 0⟩ : Nd) :: (rs.map (·.nd)).drop r = (rs.take r ++ rn0 t :: rs.drop r).map (·.nd) := by simp [rn0, nd0]
  rw [e1] at hg
  refine GV.lift h1 h2 h3 hg (fun x hx => ?_) ?_ (by simp [rn0, nd0, Rn.tell])
  · rcases List.mem_append.1 hx with hx | hx
    · exact h2 x (List.mem_of_mem_take hx)
    · rcases List.mem_cons.1 hx with rfl | hx
      · exact rn0_ok _ _
      · exact h2 x (List.mem_of_mem_drop hx)
  · rw [List.flatMap_append, List.flatMap_cons, show (rn0 t).bl = [] from rfl, List.nil_append, ← List.flatMap_append, List.take_append_drop]
    exact List.Sublist.refl _

/-! ### DropNode -/
def vDropNode (ns : List Nv) (es : List Ed) (t : Int) : Int × List Nv :=
  if t ∉ ns.map (·.1) then (7, ns) else if es.any (meets t) = true then (8, ns) else (0, ns.eraseIdx (rank (ns.map (·.1)) t))
theorem map_eraseIdx {α β : Type} (f : α → β) (l : List α) (i : Nat) : (l.eraseIdx i).map f = (l.map f).eraseIdx i := by
  induction l generalizing i with
  | nil => simp
  | cons x t ih => cases i with
    | zero => simp
    | succ i => simp [ih]
theorem flatMap_sublist {α β : Type} {f : α → List β} {l l' : List α} (h : l.Sublist l') : (l.flatMap f).Sublist (l'.flatMap f) := by
  induction h with
  | slnil => exact List.Sublist.refl _
  | cons a _ ih => rw [List.flatMap_cons]; exact ih.trans (List.sublist_append_right _ _)
  | cons_cons a _ ih => rw [List.flatMap_cons, List.flatMap_cons]; exact (List.Sublist.refl _).append ih
end
end Go.Proofs.YtjcajidgaejhoaaGreat

