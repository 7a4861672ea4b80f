/- A node of its own. -/
import Derived.Test.YtjcajidgaejhoaaMi05
import Derived.Deep.RegionWith
namespace Go.Proofs.Ytjcajidgaejhoaa
open Go.RowKit
set_option linter.unusedSimpArgs false
set_option linter.unusedVariables false


/-- What a node's slices hold. -/
def NdAt (w : World) (n : Nd) (ls : List ByteArray) (ps : List Pr) (L P : List Nat) : Prop :=
  n.ln = ls.length ∧ n.pn = ps.length ∧ Sl w 9 1 encS (.slice n.la ls.length n.lc) ls L ∧ Sl w 46 2 Pr.cs (.slice n.pa ps.length n.pc) ps P ∧ ∀ x ∈ L, x ∉ P
theorem NdAt.frame {w w' : World} {n : Nd} {ls : List ByteArray} {ps : List Pr} {L P S : List Nat} (h : NdAt w n ls ps L P) (f : Frame S w w') (h1 : ∀ x ∈ L, x ∉ S) (h2 : ∀ x ∈ P, x ∉ S) : NdAt w' n ls ps L P :=
  ⟨h.1, h.2.1, h.2.2.1.frame f h1, h.2.2.2.1.frame f h2, h.2.2.2.2⟩
theorem NdAt.lt {w : World} {n : Nd} {ls : List ByteArray} {ps : List Pr} {L P : List Nat} (h : NdAt w n ls ps L P) : ∀ x, x ∈ L ∨ x ∈ P → x < w.heap.size := fun x hx => hx.elim (h.2.2.1.lt x) (h.2.2.2.1.lt x)

set_option maxHeartbeats 4000000 in
theorem own_any (n : Nd) (ls : List ByteArray) (ps : List Pr) (L P : List Nat) (w : World) (h : NdAt w n ls ps L P) (h1 : ls.length ≤ 1000000) (h2 : ps.length ≤ 1000000) :
    Calls Try.prog 42 #[.agg #[.int .i64 n.id, .slice n.la n.ln n.lc, .slice n.pa n.pn n.pc]] w fun e w' => ∃ (n' : Nd) (L' P' : List Nat), e = .returned (.agg #[.int .i64 n'.id, .slice n'.la n'.ln n'.lc, .slice n'.pa n'.pn n'.pc]) ∧ n'.id = n.id ∧ NdAt w' n' ls ps L' P' ∧ Frame [] w w' ∧ ∀ x, x ∈ L' ∨ x ∈ P' → w.heap.size ≤ x := by
  obtain ⟨id, la, ln, lc, pa, pn, pc⟩ := n
  obtain ⟨rfl, rfl, hl, hp, hd⟩ := h
  simp only at hl hp ⊢
  have HS := Lib.hid (fun w' (f : Frame [] w w') => clone_str la lc ls L w' (hl.frame0 f) h1)
  have HP := Lib.hid (fun w' (f : Frame [] w w') => clone_prop pa pc ps P w' (hp.frame0 f) h2)
  clear hl hp hd h1 h2
  generalize hll : ls.length = ln at *
  generalize hpp : ps.length = pn at *
  have HL := Lib.hid hll
  have HN := Lib.hid hpp
  clear hll hpp
  go_enter Try.func42, Try.ntmps42
  go_wp2_with fail
  have b0 := (Blk.new w 41 #[.int .i64 id, .slice la ln lc, .slice pa pn pc]).alloc (.cells #[.int .i64 0, .slice none 0 0, .slice none 0 0] 41)
  have b1 := Blk.new (w.alloc (.cells #[.int .i64 id, .slice la ln lc, .slice pa pn pc] 41)) 41 #[.int .i64 0, .slice none 0 0, .slice none 0 0]
  have fr : Frame [] w ((w.alloc (.cells #[.int .i64 id, .slice la ln lc, .slice pa pn pc] 41)).alloc (.cells #[.int .i64 0, .slice none 0 0, .slice none 0 0] 41)) := by (repeat first | assumption | exact Frame.refl _ _ | refine Frame.trans1 ?_ (Frame.alloc _ _ _) | refine Frame.trans1 ?_ (Frame.drew _ _) | refine Frame.trans1 ?_ (Frame.drewN _ _ _))
  rw [show (w.alloc (.cells #[.int .i64 id, .slice la ln lc, .slice pa pn pc] 41)).heap.size = w.heap.size + 1 from by simp] at b1
  have hsz : ((w.alloc (.cells #[.int .i64 id, .slice la ln lc, .slice pa pn pc] 41)).alloc (.cells #[.int .i64 0, .slice none 0 0, .slice none 0 0] 41)).heap.size = w.heap.size + 2 := by simp
  generalize (w.alloc (.cells #[.int .i64 id, .slice la ln lc, .slice pa pn pc] 41)).alloc (.cells #[.int .i64 0, .slice none 0 0, .slice none 0 0] 41) = wa at *
  have c1 := b0.at 1 rfl
  have c2 := b0.at 2 rfl
  have hza : wa.heap.size = w.heap.size + 2 := hsz
  have HS' := Lib.hid (fun w' (f : Frame [] wa w') => HS.out w' (fr.trans1 f))
  have HP' := Lib.hid (fun w' (f : Frame [] wa w') => HP.out w' (fr.trans1 f))
  have BB := Lib.hid (And.intro b0 b1)
  have FR := Lib.hid fr
  have HZ := Lib.hid hza
  clear b0 b1 HS HP fr hza hsz
  go_cut [5, 8] (fun u v wx => ∃ la' lc' pa' pc' L' P', u = .slice la' ln lc' ∧ v = .slice pa' pn pc' ∧ Hid (Blk wx w.heap.size 41 #[.int .i64 id, .slice la' ln lc', .slice pa' pn pc'] ∧ Blk wx (w.heap.size + 1) 41 #[.int .i64 0, .slice none 0 0, .slice none 0 0] ∧
    Sl wx 9 1 encS (.slice la' ln lc') ls L' ∧ Sl wx 46 2 Pr.cs (.slice pa' pn pc') ps P' ∧ Frame [] w wx ∧ (∀ x ∈ L', w.heap.size + 2 ≤ x ∧ x ∉ P') ∧ ∀ x ∈ P', w.heap.size + 2 ≤ x))
  case first =>
    go_region_with (first
      | (go_at_call 60; refine (HS'.out _ (by (repeat first | assumption | exact Frame.refl _ _ | refine Frame.trans1 ?_ (Frame.alloc _ _ _) | refine Frame.trans1 ?_ (Frame.drew _ _) | refine Frame.trans1 ?_ (Frame.drewN _ _ _)))).mono ?_; rintro e ws ⟨sa, sc, SG, rfl, ssl, sf, snw⟩; have fas : Frame [] wa ws := (show Frame [] wa _ from by (repeat first | assumption | exact Frame.refl _ _ | refine Frame.trans1 ?_ (Frame.alloc _ _ _) | refine Frame.trans1 ?_ (Frame.drew _ _) | refine Frame.trans1 ?_ (Frame.drewN _ _ _))).trans1 sf; have c2 := (BB.out.1.frame fas (by simp)).at 2 rfl; have k1 := (BB.out.1.frame fas (by simp)).frozen 1; have k2 := (BB.out.1.frame fas (by simp)).frozen 2; have g1 := (BB.out.1.frame fas (by simp)).at 1 rfl; have SL := Lib.hid ssl; have NW := Lib.hid snw; clear ssl sf snw)
      | (go_at_call 61; refine (HP'.out _ (by (repeat first | assumption | exact Frame.refl _ _ | refine Frame.trans1 ?_ (Frame.alloc _ _ _) | refine Frame.trans1 ?_ (Frame.drew _ _) | refine Frame.trans1 ?_ (Frame.drewN _ _ _)))).mono ?_; rintro e wq ⟨qa, qc, PG, rfl, psl, pf, pnw⟩; have faq : Frame [] wa wq := (show Frame [] wa _ from by (repeat first | assumption | exact Frame.refl _ _ | refine Frame.trans1 ?_ (Frame.alloc _ _ _) | refine Frame.trans1 ?_ (Frame.drew _ _) | refine Frame.trans1 ?_ (Frame.drewN _ _ _))).trans1 pf; have c1 := (BB.out.1.frame faq (by simp)).at 1 rfl; have k1 := (BB.out.1.frame faq (by simp)).frozen 1; have k2 := (BB.out.1.frame faq (by simp)).frozen 2; have g2 := (BB.out.1.frame faq (by simp)).at 2 rfl; have fsq : Frame [] ws wq := (show Frame [] ws _ from by (repeat first | assumption | exact Frame.refl _ _ | refine Frame.trans1 ?_ (Frame.alloc _ _ _) | refine Frame.trans1 ?_ (Frame.drew _ _) | refine Frame.trans1 ?_ (Frame.drewN _ _ _))).trans1 pf; have PL := Lib.hid psl; have NQ := Lib.hid pnw; clear psl pf pnw))
    all_goals
      go_wp2_with fail
      go_meet
      case rel =>
        have hz1 := fas.size
        have hz2 := HZ.out
        have SLq := SL.out.frame0 fsq
        have n1 : ∀ x ∈ SG, w.heap.size + 2 ≤ x := fun x hx => by have := NW.out x hx; simp at this; omega
        have n2 : ∀ x ∈ PG, w.heap.size + 2 ≤ x := fun x hx => by have := NQ.out x hx; omega
        have fe : Frame [w.heap.size] wq ((wq.setCell ⟨w.heap.size, 1, none⟩ (.slice sa ln sc)).setCell ⟨w.heap.size, 2, none⟩ (.slice qa pn qc)) := (Frame.setCell wq _ _ (by simp)).trans1 (Frame.setCell _ _ _ (by simp))
        refine ⟨sa, sc, qa, qc, SG, PG, rfl, rfl, ?_, ?_, ?_, ?_, ?_, fun x hx => ⟨n1 x hx, fun hm => ?_⟩, n2⟩
        · simpa using ((BB.out.1.frame faq (by simp)).set 1 (.slice sa ln sc)).set 2 (.slice qa pn qc)
        · exact (BB.out.2.frame faq (by simp)).frame fe (by simp)
        · exact SLq.frame fe (fun x hx hm => by have := n1 x hx; simp at hm; omega)
        · exact PL.out.frame fe (fun x hx hm => by have := n2 x hx; simp at hm; omega)
        · exact (FR.out.trans1 faq).trans fe (by simp)
        · have a1 := SL.out.lt x hx
          have a2 := NQ.out x hm
          omega
  case rest =>
    obtain ⟨la', lc', pa', pc', L', P', rfl, rfl, hc⟩ := hcut
    have b0 := hc.out.1
    have e0 := b0.at 0 rfl
    have e1 := b0.at 1 rfl
    have e2 := b0.at 2 rfl
    have r := hc.out.2.1
    have z0 := r.at 0 rfl
    have z1 := r.at 1 rfl
    have z2 := r.at 2 rfl
    have y0 := r.frozen 0
    have y1 := r.frozen 1
    have y2 := r.frozen 2
    have B := Lib.hid r
    clear b0 r c1 c2
    go_wp2_with fail
    refine bodyPost_ret (v := .agg #[.int .i64 id, .slice la' ln lc', .slice pa' pn pc']) ?_ rfl ⟨⟨id, la', ln, lc', pa', pn, pc'⟩, L', P', rfl, rfl, ?_, ?_, ?_⟩
    · have b3 := ((B.out.set 0 (.int .i64 id)).set 1 (.slice la' ln lc')).set 2 (.slice pa' pn pc')
      have x0 := b3.at 0 rfl
      have x1 := b3.at 1 rfl
      have x2 := b3.at 2 rfl
      simp [results, Try.results42, go_sem, x0, x1, x2]
    · have fe : Frame [w.heap.size + 1] wc (((wc.setCell ⟨w.heap.size + 1, 0, none⟩ (.int .i64 id)).setCell ⟨w.heap.size + 1, 1, none⟩ (.slice la' ln lc')).setCell ⟨w.heap.size + 1, 2, none⟩ (.slice pa' pn pc')) := ((Frame.setCell wc _ _ (by simp)).trans1 (Frame.setCell _ _ _ (by simp))).trans1 (Frame.setCell _ _ _ (by simp))
      refine ⟨HL.out.symm, HN.out.symm, ?_, ?_, fun x hx => (hc.out.2.2.2.2.2.1 x hx).2⟩
      · rw [HL.out]; exact hc.out.2.2.1.frame fe (fun x hx hm => by have := (hc.out.2.2.2.2.2.1 x hx).1; simp at hm; omega)
      · rw [HN.out]; exact hc.out.2.2.2.1.frame fe (fun x hx hm => by have := hc.out.2.2.2.2.2.2 x hx; simp at hm; omega)
    · have fe : Frame [w.heap.size + 1] wc (((wc.setCell ⟨w.heap.size + 1, 0, none⟩ (.int .i64 id)).setCell ⟨w.heap.size + 1, 1, none⟩ (.slice la' ln lc')).setCell ⟨w.heap.size + 1, 2, none⟩ (.slice pa' pn pc')) := ((Frame.setCell wc _ _ (by simp)).trans1 (Frame.setCell _ _ _ (by simp))).trans1 (Frame.setCell _ _ _ (by simp))
      exact hc.out.2.2.2.2.1.trans fe (by simp)
    · intro x hx
      rcases hx with h | h
      · have := (hc.out.2.2.2.2.2.1 x h).1; omega
      · have := hc.out.2.2.2.2.2.2 x h; omega
end Go.Proofs.Ytjcajidgaejhoaa

