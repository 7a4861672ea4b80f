/- slices.Clone: a graph's edges; texts; properties. A node of its own. -/
import Derived.Test.YtolkmapdbilolaaMg01
import Derived.Lib.SliceRun
import Derived.Deep.RegionWith
namespace Go.Proofs.Ytolkmapdbilolaa
open Go.RowKit
set_option linter.unusedSimpArgs false
set_option linter.unusedVariables false
def encS (s : ByteArray) : List Value := [.string s]
theorem encS_len (s : ByteArray) : (encS s).length = 1 := rfl
theorem encS_one (s : ByteArray) : ∀ u ∈ encS s, u.oneCell' = true := by simp [encS, Value.oneCell']
theorem infoStr : (Try.prog.info? 9).map (fun i => (i.zero, i.size, i.bytes)) = some (some (.string ⟨#[]⟩), 1, 16) := by kernel_rfl
/-- A property. -/
structure Pr where
  name : ByteArray
  val : ByteArray
  deriving DecidableEq
def Pr.cs (p : Pr) : List Value := [.string p.name, .string p.val]
theorem pr_len (p : Pr) : p.cs.length = 2 := rfl
theorem pr_one (p : Pr) : ∀ u ∈ p.cs, u.oneCell' = true := by simp [Pr.cs, Value.oneCell']
theorem infoProp : (Try.prog.info? 129).map (fun i => (i.zero, i.size, i.bytes)) = some (some (.agg #[.string ⟨#[]⟩, .string ⟨#[]⟩]), 2, 32) := by kernel_rfl

set_option maxRecDepth 100000 in
theorem clone_edge (a : Option Addr) (cap : Nat) (xs : List Ed) (G : List Nat) (w : World) (h : Sl w 49 4 Ed.cs (.slice a xs.length cap) xs G) (hn : xs.length ≤ 1000000) :
    Calls Try.prog 70 #[.slice a xs.length cap] w fun e w' => ∃ a' cap' G', e = .returned (.slice a' xs.length cap') ∧ Sl w' 49 4 Ed.cs (.slice a' xs.length cap') xs G' ∧ Frame [] w w' ∧ ∀ x ∈ G', w.heap.size ≤ x := by
  rcases id h with ⟨hv, rfl, _⟩ | ⟨b, cap', hv, _, hr⟩
  · injection hv with hv1 _ hv2
    subst hv1 hv2
    clear h
    have q22 : ∀ (w : World) (a : Option Addr) (n c n' c' : Nat), (binOp .eql 53 (.slice a n c) (.slice none n' c')).run Try.prog w = .ok (.bool a.isNone) w := fun w a n c n' c' => Lib.run_eql_slice_nil w _ _ a n c n' c' Try.underlying53
    go_enter Try.func70, Try.ntmps70
    go_wp2_with fail
    go_ret
    exact ⟨none, 0, [], rfl, Sl.nil _ _ _ _, Frame.refl _ _, by simp⟩
  · injection hv with hv1 _ hv2
    subst hv1 hv2
    obtain ⟨i0, hi, hz0, hz1, hz2⟩ := info_parts infoEdge
    have HI := Lib.hid (And.intro hi (And.intro hz0 (And.intro hz1 hz2)))
    obtain ⟨news, hnews⟩ : ∃ news, news = xs.flatMap Ed.cs := ⟨_, rfl⟩
    have s1 : Hid (news.length = xs.length * 4) := Lib.hid (by rw [hnews]; exact flat_len ed_len xs)
    have s2 : Hid (∀ w', Frame [] w w' → ∀ j u, news[j]? = some u → w'.cell? ((⟨b, 0, none⟩ : Addr).add j) = some u) := Lib.hid (fun w' f j u hj => by
      rw [Addr.add_lit, Nat.zero_add]
      exact (hr.frame f (by simp)).cell (by rw [← hnews]; exact hj))
    have s3 : Hid (∀ u ∈ news, u.oneCell' = true) := Lib.hid (fun u hu => by
      rw [hnews] at hu
      obtain ⟨y, _, hy⟩ := List.mem_flatMap.1 hu
      exact ed_one y u hy)
    have s4 : Hid (0 + xs.length ≤ maxLen) := Lib.hid (by unfold maxLen; omega)
    have s5 : Hid ((0 + xs.length) * 40 ≤ 140737488355328) := Lib.hid (by omega)
    have HN := Lib.hid hnews
    clear h hr hnews hi hz0 hz1 hz2
    have q22 : ∀ (w : World) (a : Option Addr) (n c n' c' : Nat), (binOp .eql 53 (.slice a n c) (.slice none n' c')).run Try.prog w = .ok (.bool a.isNone) w := fun w a n c n' c' => Lib.run_eql_slice_nil w _ _ a n c n' c' Try.underlying53
    go_enter Try.func70, Try.ntmps70
    go_wp2_with (at_builtin; refine wpList_append_own _ rfl _ _ 53 rfl w.heap.size 49 i0 _ 4 40 Try.underlying53 HI.out.1 HI.out.2.1 HI.out.2.2.1 HI.out.2.2.2 rfl (by decide) _ _ _ rfl (World.ownsRow_made w #[] 0 (Nat.le_refl _) (Nat.zero_le _) (by simp)) ⟨b, 0, none⟩ xs.length cap news rfl s1.out (s2.out _ (Frame.alloc _ _ _)) s3.out s4.out s5.out (by simp) ?_)
    intro v' w1 hown hgrow hnil
    go_wp2_with fail
    go_ret
    have hf : Frame [] w w1 := by
      have fa := Frame.alloc [] w (.cells #[] 49)
      refine fa.trans (Frame.of_grown (S := [w.heap.size]) hgrow (by intro k hk; simp [Value.ownBlock] at hk; simp [hk])) (by simp)
    rcases hown.2 with ⟨e, _⟩ | ⟨g, c, cur, e, hg, h1, h2, h3, h4, h5⟩
    · exact absurd e hnil
    · refine ⟨some ⟨g, 0, none⟩, c, [g], by rw [e]; simp, .inr ⟨g, c, rfl, rfl, RowAt.of_blk h1 (by omega) h3 h4 (by rw [← HN.out]; simpa using h5)⟩, hf, by simpa using hg⟩

set_option maxRecDepth 100000 in
theorem clone_str (a : Option Addr) (cap : Nat) (xs : List ByteArray) (G : List Nat) (w : World) (h : Sl w 9 1 encS (.slice a xs.length cap) xs G) (hn : xs.length ≤ 1000000) :
    Calls Try.prog 121 #[.slice a xs.length cap] w fun e w' => ∃ a' cap' G', e = .returned (.slice a' xs.length cap') ∧ Sl w' 9 1 encS (.slice a' xs.length cap') xs G' ∧ Frame [] w w' ∧ ∀ x ∈ G', w.heap.size ≤ x := by
  rcases id h with ⟨hv, rfl, _⟩ | ⟨b, cap', hv, _, hr⟩
  · injection hv with hv1 _ hv2
    subst hv1 hv2
    clear h
    have q22 : ∀ (w : World) (a : Option Addr) (n c n' c' : Nat), (binOp .eql 83 (.slice a n c) (.slice none n' c')).run Try.prog w = .ok (.bool a.isNone) w := fun w a n c n' c' => Lib.run_eql_slice_nil w _ _ a n c n' c' Try.underlying83
    go_enter Try.func121, Try.ntmps121
    go_wp2_with fail
    go_ret
    exact ⟨none, 0, [], rfl, Sl.nil _ _ _ _, Frame.refl _ _, by simp⟩
  · injection hv with hv1 _ hv2
    subst hv1 hv2
    obtain ⟨i0, hi, hz0, hz1, hz2⟩ := info_parts infoStr
    have HI := Lib.hid (And.intro hi (And.intro hz0 (And.intro hz1 hz2)))
    obtain ⟨news, hnews⟩ : ∃ news, news = xs.flatMap encS := ⟨_, rfl⟩
    have s1 : Hid (news.length = xs.length * 1) := Lib.hid (by rw [hnews]; exact flat_len encS_len xs)
    have s2 : Hid (∀ w', Frame [] w w' → ∀ j u, news[j]? = some u → w'.cell? ((⟨b, 0, none⟩ : Addr).add j) = some u) := Lib.hid (fun w' f j u hj => by
      rw [Addr.add_lit, Nat.zero_add]
      exact (hr.frame f (by simp)).cell (by rw [← hnews]; exact hj))
    have s3 : Hid (∀ u ∈ news, u.oneCell' = true) := Lib.hid (fun u hu => by
      rw [hnews] at hu
      obtain ⟨y, _, hy⟩ := List.mem_flatMap.1 hu
      exact encS_one y u hy)
    have s4 : Hid (0 + xs.length ≤ maxLen) := Lib.hid (by unfold maxLen; omega)
    have s5 : Hid ((0 + xs.length) * 16 ≤ 140737488355328) := Lib.hid (by omega)
    have HN := Lib.hid hnews
    clear h hr hnews hi hz0 hz1 hz2
    have q22 : ∀ (w : World) (a : Option Addr) (n c n' c' : Nat), (binOp .eql 83 (.slice a n c) (.slice none n' c')).run Try.prog w = .ok (.bool a.isNone) w := fun w a n c n' c' => Lib.run_eql_slice_nil w _ _ a n c n' c' Try.underlying83
    go_enter Try.func121, Try.ntmps121
    go_wp2_with (at_builtin; refine wpList_append_own _ rfl _ _ 83 rfl w.heap.size 9 i0 _ 1 16 Try.underlying83 HI.out.1 HI.out.2.1 HI.out.2.2.1 HI.out.2.2.2 rfl (by decide) _ _ _ rfl (World.ownsRow_made w #[] 0 (Nat.le_refl _) (Nat.zero_le _) (by simp)) ⟨b, 0, none⟩ xs.length cap news rfl s1.out (s2.out _ (Frame.alloc _ _ _)) s3.out s4.out s5.out (by simp) ?_)
    intro v' w1 hown hgrow hnil
    go_wp2_with fail
    go_ret
    have hf : Frame [] w w1 := by
      have fa := Frame.alloc [] w (.cells #[] 9)
      refine fa.trans (Frame.of_grown (S := [w.heap.size]) hgrow (by intro k hk; simp [Value.ownBlock] at hk; simp [hk])) (by simp)
    rcases hown.2 with ⟨e, _⟩ | ⟨g, c, cur, e, hg, h1, h2, h3, h4, h5⟩
    · exact absurd e hnil
    · refine ⟨some ⟨g, 0, none⟩, c, [g], by rw [e]; simp, .inr ⟨g, c, rfl, rfl, RowAt.of_blk h1 (by omega) h3 h4 (by rw [← HN.out]; simpa using h5)⟩, hf, by simpa using hg⟩

set_option maxRecDepth 100000 in
theorem clone_prop (a : Option Addr) (cap : Nat) (xs : List Pr) (G : List Nat) (w : World) (h : Sl w 129 2 Pr.cs (.slice a xs.length cap) xs G) (hn : xs.length ≤ 1000000) :
    Calls Try.prog 122 #[.slice a xs.length cap] w fun e w' => ∃ a' cap' G', e = .returned (.slice a' xs.length cap') ∧ Sl w' 129 2 Pr.cs (.slice a' xs.length cap') xs G' ∧ Frame [] w w' ∧ ∀ x ∈ G', w.heap.size ≤ x := by
  rcases id h with ⟨hv, rfl, _⟩ | ⟨b, cap', hv, _, hr⟩
  · injection hv with hv1 _ hv2
    subst hv1 hv2
    clear h
    have q22 : ∀ (w : World) (a : Option Addr) (n c n' c' : Nat), (binOp .eql 84 (.slice a n c) (.slice none n' c')).run Try.prog w = .ok (.bool a.isNone) w := fun w a n c n' c' => Lib.run_eql_slice_nil w _ _ a n c n' c' Try.underlying84
    go_enter Try.func122, Try.ntmps122
    go_wp2_with fail
    go_ret
    exact ⟨none, 0, [], rfl, Sl.nil _ _ _ _, Frame.refl _ _, by simp⟩
  · injection hv with hv1 _ hv2
    subst hv1 hv2
    obtain ⟨i0, hi, hz0, hz1, hz2⟩ := info_parts infoProp
    have HI := Lib.hid (And.intro hi (And.intro hz0 (And.intro hz1 hz2)))
    obtain ⟨news, hnews⟩ : ∃ news, news = xs.flatMap Pr.cs := ⟨_, rfl⟩
    have s1 : Hid (news.length = xs.length * 2) := Lib.hid (by rw [hnews]; exact flat_len pr_len xs)
    have s2 : Hid (∀ w', Frame [] w w' → ∀ j u, news[j]? = some u → w'.cell? ((⟨b, 0, none⟩ : Addr).add j) = some u) := Lib.hid (fun w' f j u hj => by
      rw [Addr.add_lit, Nat.zero_add]
      exact (hr.frame f (by simp)).cell (by rw [← hnews]; exact hj))
    have s3 : Hid (∀ u ∈ news, u.oneCell' = true) := Lib.hid (fun u hu => by
      rw [hnews] at hu
      obtain ⟨y, _, hy⟩ := List.mem_flatMap.1 hu
      exact pr_one y u hy)
    have s4 : Hid (0 + xs.length ≤ maxLen) := Lib.hid (by unfold maxLen; omega)
    have s5 : Hid ((0 + xs.length) * 32 ≤ 140737488355328) := Lib.hid (by omega)
    have HN := Lib.hid hnews
    clear h hr hnews hi hz0 hz1 hz2
    have q22 : ∀ (w : World) (a : Option Addr) (n c n' c' : Nat), (binOp .eql 84 (.slice a n c) (.slice none n' c')).run Try.prog w = .ok (.bool a.isNone) w := fun w a n c n' c' => Lib.run_eql_slice_nil w _ _ a n c n' c' Try.underlying84
    go_enter Try.func122, Try.ntmps122
    go_wp2_with (at_builtin; refine wpList_append_own _ rfl _ _ 84 rfl w.heap.size 129 i0 _ 2 32 Try.underlying84 HI.out.1 HI.out.2.1 HI.out.2.2.1 HI.out.2.2.2 rfl (by decide) _ _ _ rfl (World.ownsRow_made w #[] 0 (Nat.le_refl _) (Nat.zero_le _) (by simp)) ⟨b, 0, none⟩ xs.length cap news rfl s1.out (s2.out _ (Frame.alloc _ _ _)) s3.out s4.out s5.out (by simp) ?_)
    intro v' w1 hown hgrow hnil
    go_wp2_with fail
    go_ret
    have hf : Frame [] w w1 := by
      have fa := Frame.alloc [] w (.cells #[] 129)
      refine fa.trans (Frame.of_grown (S := [w.heap.size]) hgrow (by intro k hk; simp [Value.ownBlock] at hk; simp [hk])) (by simp)
    rcases hown.2 with ⟨e, _⟩ | ⟨g, c, cur, e, hg, h1, h2, h3, h4, h5⟩
    · exact absurd e hnil
    · refine ⟨some ⟨g, 0, none⟩, c, [g], by rw [e]; simp, .inr ⟨g, c, rfl, rfl, RowAt.of_blk h1 (by omega) h3 h4 (by rw [← HN.out]; simpa using h5)⟩, hf, by simpa using hg⟩
end Go.Proofs.Ytolkmapdbilolaa

namespace Go.Proofs.Ytolkmapdbilolaa
open Go.RowKit
set_option linter.unusedSimpArgs false
set_option linter.unusedVariables false


/-- What a node's slices hold. -/
def NdAt (w : World) (n : Nd) (ls : List ByteArray) (ps : List Pr) (L P : List Nat) : Prop :=
  n.ln = ls.length ∧ n.pn = ps.length ∧ Sl w 9 1 encS (.slice n.la ls.length n.lc) ls L ∧ Sl w 129 2 Pr.cs (.slice n.pa ps.length n.pc) ps P ∧ ∀ x ∈ L, x ∉ P
theorem NdAt.frame {w w' : World} {n : Nd} {ls : List ByteArray} {ps : List Pr} {L P S : List Nat} (h : NdAt w n ls ps L P) (f : Frame S w w') (h1 : ∀ x ∈ L, x ∉ S) (h2 : ∀ x ∈ P, x ∉ S) : NdAt w' n ls ps L P :=
  ⟨h.1, h.2.1, h.2.2.1.frame f h1, h.2.2.2.1.frame f h2, h.2.2.2.2⟩
theorem NdAt.lt {w : World} {n : Nd} {ls : List ByteArray} {ps : List Pr} {L P : List Nat} (h : NdAt w n ls ps L P) : ∀ x, x ∈ L ∨ x ∈ P → x < w.heap.size := fun x hx => hx.elim (h.2.2.1.lt x) (h.2.2.2.1.lt x)

set_option maxHeartbeats 4000000 in
theorem own_any (n : Nd) (ls : List ByteArray) (ps : List Pr) (L P : List Nat) (w : World) (h : NdAt w n ls ps L P) (h1 : ls.length ≤ 1000000) (h2 : ps.length ≤ 1000000) :
    Calls Try.prog 71 #[.agg #[.int .i64 n.id, .slice n.la n.ln n.lc, .slice n.pa n.pn n.pc]] w fun e w' => ∃ (n' : Nd) (L' P' : List Nat), e = .returned (.agg #[.int .i64 n'.id, .slice n'.la n'.ln n'.lc, .slice n'.pa n'.pn n'.pc]) ∧ n'.id = n.id ∧ NdAt w' n' ls ps L' P' ∧ Frame [] w w' ∧ ∀ x, x ∈ L' ∨ x ∈ P' → w.heap.size ≤ x := by
  obtain ⟨id, la, ln, lc, pa, pn, pc⟩ := n
  obtain ⟨rfl, rfl, hl, hp, hd⟩ := h
  simp only at hl hp ⊢
  have HS := Lib.hid (fun w' (f : Frame [] w w') => clone_str la lc ls L w' (hl.frame0 f) h1)
  have HP := Lib.hid (fun w' (f : Frame [] w w') => clone_prop pa pc ps P w' (hp.frame0 f) h2)
  clear hl hp hd h1 h2
  generalize hll : ls.length = ln at *
  generalize hpp : ps.length = pn at *
  have HL := Lib.hid hll
  have HN := Lib.hid hpp
  clear hll hpp
  go_enter Try.func71, Try.ntmps71
  go_wp2_with fail
  have b0 := (Blk.new w 86 #[.int .i64 id, .slice la ln lc, .slice pa pn pc]).alloc (.cells #[.int .i64 0, .slice none 0 0, .slice none 0 0] 86)
  have b1 := Blk.new (w.alloc (.cells #[.int .i64 id, .slice la ln lc, .slice pa pn pc] 86)) 86 #[.int .i64 0, .slice none 0 0, .slice none 0 0]
  have fr : Frame [] w ((w.alloc (.cells #[.int .i64 id, .slice la ln lc, .slice pa pn pc] 86)).alloc (.cells #[.int .i64 0, .slice none 0 0, .slice none 0 0] 86)) := by (repeat first | assumption | exact Frame.refl _ _ | refine Frame.trans1 ?_ (Frame.alloc _ _ _) | refine Frame.trans1 ?_ (Frame.drew _ _) | refine Frame.trans1 ?_ (Frame.drewN _ _ _))
  rw [show (w.alloc (.cells #[.int .i64 id, .slice la ln lc, .slice pa pn pc] 86)).heap.size = w.heap.size + 1 from by simp] at b1
  have hsz : ((w.alloc (.cells #[.int .i64 id, .slice la ln lc, .slice pa pn pc] 86)).alloc (.cells #[.int .i64 0, .slice none 0 0, .slice none 0 0] 86)).heap.size = w.heap.size + 2 := by simp
  generalize (w.alloc (.cells #[.int .i64 id, .slice la ln lc, .slice pa pn pc] 86)).alloc (.cells #[.int .i64 0, .slice none 0 0, .slice none 0 0] 86) = wa at *
  have c1 := b0.at 1 rfl
  have c2 := b0.at 2 rfl
  have hza : wa.heap.size = w.heap.size + 2 := hsz
  have HS' := Lib.hid (fun w' (f : Frame [] wa w') => HS.out w' (fr.trans1 f))
  have HP' := Lib.hid (fun w' (f : Frame [] wa w') => HP.out w' (fr.trans1 f))
  have BB := Lib.hid (And.intro b0 b1)
  have FR := Lib.hid fr
  have HZ := Lib.hid hza
  clear b0 b1 HS HP fr hza hsz
  go_cut [5, 8] (fun u v wx => ∃ la' lc' pa' pc' L' P', u = .slice la' ln lc' ∧ v = .slice pa' pn pc' ∧ Hid (Blk wx w.heap.size 86 #[.int .i64 id, .slice la' ln lc', .slice pa' pn pc'] ∧ Blk wx (w.heap.size + 1) 86 #[.int .i64 0, .slice none 0 0, .slice none 0 0] ∧
    Sl wx 9 1 encS (.slice la' ln lc') ls L' ∧ Sl wx 129 2 Pr.cs (.slice pa' pn pc') ps P' ∧ Frame [] w wx ∧ (∀ x ∈ L', w.heap.size + 2 ≤ x ∧ x ∉ P') ∧ ∀ x ∈ P', w.heap.size + 2 ≤ x))
  case first =>
    go_region_with (first
      | (go_at_call 121; refine (HS'.out _ (by (repeat first | assumption | exact Frame.refl _ _ | refine Frame.trans1 ?_ (Frame.alloc _ _ _) | refine Frame.trans1 ?_ (Frame.drew _ _) | refine Frame.trans1 ?_ (Frame.drewN _ _ _)))).mono ?_; rintro e ws ⟨sa, sc, SG, rfl, ssl, sf, snw⟩; have fas : Frame [] wa ws := (show Frame [] wa _ from by (repeat first | assumption | exact Frame.refl _ _ | refine Frame.trans1 ?_ (Frame.alloc _ _ _) | refine Frame.trans1 ?_ (Frame.drew _ _) | refine Frame.trans1 ?_ (Frame.drewN _ _ _))).trans1 sf; have c2 := (BB.out.1.frame fas (by simp)).at 2 rfl; have k1 := (BB.out.1.frame fas (by simp)).frozen 1; have k2 := (BB.out.1.frame fas (by simp)).frozen 2; have g1 := (BB.out.1.frame fas (by simp)).at 1 rfl; have SL := Lib.hid ssl; have NW := Lib.hid snw; clear ssl sf snw)
      | (go_at_call 122; refine (HP'.out _ (by (repeat first | assumption | exact Frame.refl _ _ | refine Frame.trans1 ?_ (Frame.alloc _ _ _) | refine Frame.trans1 ?_ (Frame.drew _ _) | refine Frame.trans1 ?_ (Frame.drewN _ _ _)))).mono ?_; rintro e wq ⟨qa, qc, PG, rfl, psl, pf, pnw⟩; have faq : Frame [] wa wq := (show Frame [] wa _ from by (repeat first | assumption | exact Frame.refl _ _ | refine Frame.trans1 ?_ (Frame.alloc _ _ _) | refine Frame.trans1 ?_ (Frame.drew _ _) | refine Frame.trans1 ?_ (Frame.drewN _ _ _))).trans1 pf; have c1 := (BB.out.1.frame faq (by simp)).at 1 rfl; have k1 := (BB.out.1.frame faq (by simp)).frozen 1; have k2 := (BB.out.1.frame faq (by simp)).frozen 2; have g2 := (BB.out.1.frame faq (by simp)).at 2 rfl; have fsq : Frame [] ws wq := (show Frame [] ws _ from by (repeat first | assumption | exact Frame.refl _ _ | refine Frame.trans1 ?_ (Frame.alloc _ _ _) | refine Frame.trans1 ?_ (Frame.drew _ _) | refine Frame.trans1 ?_ (Frame.drewN _ _ _))).trans1 pf; have PL := Lib.hid psl; have NQ := Lib.hid pnw; clear psl pf pnw))
    all_goals
      go_wp2_with fail
      go_meet
      case rel =>
        have hz1 := fas.size
        have hz2 := HZ.out
        have SLq := SL.out.frame0 fsq
        have n1 : ∀ x ∈ SG, w.heap.size + 2 ≤ x := fun x hx => by have := NW.out x hx; simp at this; omega
        have n2 : ∀ x ∈ PG, w.heap.size + 2 ≤ x := fun x hx => by have := NQ.out x hx; omega
        have fe : Frame [w.heap.size] wq ((wq.setCell ⟨w.heap.size, 1, none⟩ (.slice sa ln sc)).setCell ⟨w.heap.size, 2, none⟩ (.slice qa pn qc)) := (Frame.setCell wq _ _ (by simp)).trans1 (Frame.setCell _ _ _ (by simp))
        refine ⟨sa, sc, qa, qc, SG, PG, rfl, rfl, ?_, ?_, ?_, ?_, ?_, fun x hx => ⟨n1 x hx, fun hm => ?_⟩, n2⟩
        · simpa using ((BB.out.1.frame faq (by simp)).set 1 (.slice sa ln sc)).set 2 (.slice qa pn qc)
        · exact (BB.out.2.frame faq (by simp)).frame fe (by simp)
        · exact SLq.frame fe (fun x hx hm => by have := n1 x hx; simp at hm; omega)
        · exact PL.out.frame fe (fun x hx hm => by have := n2 x hx; simp at hm; omega)
        · exact (FR.out.trans1 faq).trans fe (by simp)
        · have a1 := SL.out.lt x hx
          have a2 := NQ.out x hm
          omega
  case rest =>
    obtain ⟨la', lc', pa', pc', L', P', rfl, rfl, hc⟩ := hcut
    have b0 := hc.out.1
    have e0 := b0.at 0 rfl
    have e1 := b0.at 1 rfl
    have e2 := b0.at 2 rfl
    have r := hc.out.2.1
    have z0 := r.at 0 rfl
    have z1 := r.at 1 rfl
    have z2 := r.at 2 rfl
    have y0 := r.frozen 0
    have y1 := r.frozen 1
    have y2 := r.frozen 2
    have B := Lib.hid r
    clear b0 r c1 c2
    go_wp2_with fail
    refine bodyPost_ret (v := .agg #[.int .i64 id, .slice la' ln lc', .slice pa' pn pc']) ?_ rfl ⟨⟨id, la', ln, lc', pa', pn, pc'⟩, L', P', rfl, rfl, ?_, ?_, ?_⟩
    · have b3 := ((B.out.set 0 (.int .i64 id)).set 1 (.slice la' ln lc')).set 2 (.slice pa' pn pc')
      have x0 := b3.at 0 rfl
      have x1 := b3.at 1 rfl
      have x2 := b3.at 2 rfl
      simp [results, Try.results71, go_sem, x0, x1, x2]
    · have fe : Frame [w.heap.size + 1] wc (((wc.setCell ⟨w.heap.size + 1, 0, none⟩ (.int .i64 id)).setCell ⟨w.heap.size + 1, 1, none⟩ (.slice la' ln lc')).setCell ⟨w.heap.size + 1, 2, none⟩ (.slice pa' pn pc')) := ((Frame.setCell wc _ _ (by simp)).trans1 (Frame.setCell _ _ _ (by simp))).trans1 (Frame.setCell _ _ _ (by simp))
      refine ⟨HL.out.symm, HN.out.symm, ?_, ?_, fun x hx => (hc.out.2.2.2.2.2.1 x hx).2⟩
      · rw [HL.out]; exact hc.out.2.2.1.frame fe (fun x hx hm => by have := (hc.out.2.2.2.2.2.1 x hx).1; simp at hm; omega)
      · rw [HN.out]; exact hc.out.2.2.2.1.frame fe (fun x hx hm => by have := hc.out.2.2.2.2.2.2 x hx; simp at hm; omega)
    · have fe : Frame [w.heap.size + 1] wc (((wc.setCell ⟨w.heap.size + 1, 0, none⟩ (.int .i64 id)).setCell ⟨w.heap.size + 1, 1, none⟩ (.slice la' ln lc')).setCell ⟨w.heap.size + 1, 2, none⟩ (.slice pa' pn pc')) := ((Frame.setCell wc _ _ (by simp)).trans1 (Frame.setCell _ _ _ (by simp))).trans1 (Frame.setCell _ _ _ (by simp))
      exact hc.out.2.2.2.2.1.trans fe (by simp)
    · intro x hx
      rcases hx with h | h
      · have := (hc.out.2.2.2.2.2.1 x h).1; omega
      · have := hc.out.2.2.2.2.2.2 x h; omega
end Go.Proofs.Ytolkmapdbilolaa

