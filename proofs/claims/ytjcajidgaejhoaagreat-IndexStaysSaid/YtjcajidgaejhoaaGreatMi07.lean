/- slices.Clone: a graph's edges; texts; properties. -/
import Derived.Test.YtjcajidgaejhoaaGreatMi06
import Derived.Lib.SliceRun
namespace Go.Proofs.YtjcajidgaejhoaaGreat
open Go.RowKit
set_option linter.unusedSimpArgs false
set_option linter.unusedVariables false
def encS (s : ByteArray) : List Value := [.string s]
theorem encS_len (s : ByteArray) : (encS s).length = 1 := rfl
theorem encS_one (s : ByteArray) : ∀ u ∈ encS s, u.oneCell' = true := by simp [encS, Value.oneCell']
theorem infoStr : (Tryz.prog.info? 9).map (fun i => (i.zero, i.size, i.bytes)) = some (some (.string ⟨#[]⟩), 1, 16) := by kernel_rfl
/-- A property. -/
structure Pr where
  name : ByteArray
  val : ByteArray
  deriving DecidableEq
def Pr.cs (p : Pr) : List Value := [.string p.name, .string p.val]
theorem pr_len (p : Pr) : p.cs.length = 2 := rfl
theorem pr_one (p : Pr) : ∀ u ∈ p.cs, u.oneCell' = true := by simp [Pr.cs, Value.oneCell']
theorem infoProp : (Tryz.prog.info? 67).map (fun i => (i.zero, i.size, i.bytes)) = some (some (.agg #[.string ⟨#[]⟩, .string ⟨#[]⟩]), 2, 32) := by kernel_rfl

set_option maxRecDepth 100000 in
theorem clone_edge (a : Option Addr) (cap : Nat) (xs : List Ed) (G : List Nat) (w : World) (h : Sl w 44 4 Ed.cs (.slice a xs.length cap) xs G) (hn : xs.length ≤ 1000000) :
    Calls Tryz.prog 65 #[.slice a xs.length cap] w fun e w' => ∃ a' cap' G', e = .returned (.slice a' xs.length cap') ∧ Sl w' 44 4 Ed.cs (.slice a' xs.length cap') xs G' ∧ Frame [] w w' ∧ ∀ x ∈ G', w.heap.size ≤ x := by
  rcases id h with ⟨hv, rfl, _⟩ | ⟨b, cap', hv, _, hr⟩
  · injection hv with hv1 _ hv2
    subst hv1 hv2
    clear h
    have q22 : ∀ (w : World) (a : Option Addr) (n c n' c' : Nat), (binOp .eql 23 (.slice a n c) (.slice none n' c')).run Tryz.prog w = .ok (.bool a.isNone) w := fun w a n c n' c' => Lib.run_eql_slice_nil w _ _ a n c n' c' Tryz.underlying23
    go_enter Tryz.func65, Tryz.ntmps65
    go_wp2_with fail
    go_ret
    exact ⟨none, 0, [], rfl, Sl.nil _ _ _ _, Frame.refl _ _, by simp⟩
  · injection hv with hv1 _ hv2
    subst hv1 hv2
    obtain ⟨i0, hi, hz0, hz1, hz2⟩ := info_parts infoEdge
    have HI := Lib.hid (And.intro hi (And.intro hz0 (And.intro hz1 hz2)))
    obtain ⟨news, hnews⟩ : ∃ news, news = xs.flatMap Ed.cs := ⟨_, rfl⟩
    have s1 : Hid (news.length = xs.length * 4) := Lib.hid (by rw [hnews]; exact flat_len ed_len xs)
    have s2 : Hid (∀ w', Frame [] w w' → ∀ j u, news[j]? = some u → w'.cell? ((⟨b, 0, none⟩ : Addr).add j) = some u) := Lib.hid (fun w' f j u hj => by
      rw [Addr.add_lit, Nat.zero_add]
      exact (hr.frame f (by simp)).cell (by rw [← hnews]; exact hj))
    have s3 : Hid (∀ u ∈ news, u.oneCell' = true) := Lib.hid (fun u hu => by
      rw [hnews] at hu
      obtain ⟨y, _, hy⟩ := List.mem_flatMap.1 hu
      exact ed_one y u hy)
    have s4 : Hid (0 + xs.length ≤ maxLen) := Lib.hid (by unfold maxLen; omega)
    have s5 : Hid ((0 + xs.length) * 40 ≤ 140737488355328) := Lib.hid (by omega)
    have HN := Lib.hid hnews
    clear h hr hnews hi hz0 hz1 hz2
    have q22 : ∀ (w : World) (a : Option Addr) (n c n' c' : Nat), (binOp .eql 23 (.slice a n c) (.slice none n' c')).run Tryz.prog w = .ok (.bool a.isNone) w := fun w a n c n' c' => Lib.run_eql_slice_nil w _ _ a n c n' c' Tryz.underlying23
    go_enter Tryz.func65, Tryz.ntmps65
    go_wp2_with (at_builtin; refine wpList_append_own _ rfl _ _ 23 rfl w.heap.size 44 i0 _ 4 40 Tryz.underlying23 HI.out.1 HI.out.2.1 HI.out.2.2.1 HI.out.2.2.2 rfl (by decide) _ _ _ rfl (World.ownsRow_made w #[] 0 (Nat.le_refl _) (Nat.zero_le _) (by simp)) ⟨b, 0, none⟩ xs.length cap news rfl s1.out (s2.out _ (Frame.alloc _ _ _)) s3.out s4.out s5.out (by simp) ?_)
    intro v' w1 hown hgrow hnil
    go_wp2_with fail
    go_ret
    have hf : Frame [] w w1 := by
      have fa := Frame.alloc [] w (.cells #[] 44)
      refine fa.trans (Frame.of_grown (S := [w.heap.size]) hgrow (by intro k hk; simp [Value.ownBlock] at hk; simp [hk])) (by simp)
    rcases hown.2 with ⟨e, _⟩ | ⟨g, c, cur, e, hg, h1, h2, h3, h4, h5⟩
    · exact absurd e hnil
    · refine ⟨some ⟨g, 0, none⟩, c, [g], by rw [e]; simp, .inr ⟨g, c, rfl, rfl, RowAt.of_blk h1 (by omega) h3 h4 (by rw [← HN.out]; simpa using h5)⟩, hf, by simpa using hg⟩

set_option maxRecDepth 100000 in
theorem clone_str (a : Option Addr) (cap : Nat) (xs : List ByteArray) (G : List Nat) (w : World) (h : Sl w 9 1 encS (.slice a xs.length cap) xs G) (hn : xs.length ≤ 1000000) :
    Calls Tryz.prog 89 #[.slice a xs.length cap] w fun e w' => ∃ a' cap' G', e = .returned (.slice a' xs.length cap') ∧ Sl w' 9 1 encS (.slice a' xs.length cap') xs G' ∧ Frame [] w w' ∧ ∀ x ∈ G', w.heap.size ≤ x := by
  rcases id h with ⟨hv, rfl, _⟩ | ⟨b, cap', hv, _, hr⟩
  · injection hv with hv1 _ hv2
    subst hv1 hv2
    clear h
    have q22 : ∀ (w : World) (a : Option Addr) (n c n' c' : Nat), (binOp .eql 38 (.slice a n c) (.slice none n' c')).run Tryz.prog w = .ok (.bool a.isNone) w := fun w a n c n' c' => Lib.run_eql_slice_nil w _ _ a n c n' c' Tryz.underlying38
    go_enter Tryz.func89, Tryz.ntmps89
    go_wp2_with fail
    go_ret
    exact ⟨none, 0, [], rfl, Sl.nil _ _ _ _, Frame.refl _ _, by simp⟩
  · injection hv with hv1 _ hv2
    subst hv1 hv2
    obtain ⟨i0, hi, hz0, hz1, hz2⟩ := info_parts infoStr
    have HI := Lib.hid (And.intro hi (And.intro hz0 (And.intro hz1 hz2)))
    obtain ⟨news, hnews⟩ : ∃ news, news = xs.flatMap encS := ⟨_, rfl⟩
    have s1 : Hid (news.length = xs.length * 1) := Lib.hid (by rw [hnews]; exact flat_len encS_len xs)
    have s2 : Hid (∀ w', Frame [] w w' → ∀ j u, news[j]? = some u → w'.cell? ((⟨b, 0, none⟩ : Addr).add j) = some u) := Lib.hid (fun w' f j u hj => by
      rw [Addr.add_lit, Nat.zero_add]
      exact (hr.frame f (by simp)).cell (by rw [← hnews]; exact hj))
    have s3 : Hid (∀ u ∈ news, u.oneCell' = true) := Lib.hid (fun u hu => by
      rw [hnews] at hu
      obtain ⟨y, _, hy⟩ := List.mem_flatMap.1 hu
      exact encS_one y u hy)
    have s4 : Hid (0 + xs.length ≤ maxLen) := Lib.hid (by unfold maxLen; omega)
    have s5 : Hid ((0 + xs.length) * 16 ≤ 140737488355328) := Lib.hid (by omega)
    have HN := Lib.hid hnews
    clear h hr hnews hi hz0 hz1 hz2
    have q22 : ∀ (w : World) (a : Option Addr) (n c n' c' : Nat), (binOp .eql 38 (.slice a n c) (.slice none n' c')).run Tryz.prog w = .ok (.bool a.isNone) w := fun w a n c n' c' => Lib.run_eql_slice_nil w _ _ a n c n' c' Tryz.underlying38
    go_enter Tryz.func89, Tryz.ntmps89
    go_wp2_with (at_builtin; refine wpList_append_own _ rfl _ _ 38 rfl w.heap.size 9 i0 _ 1 16 Tryz.underlying38 HI.out.1 HI.out.2.1 HI.out.2.2.1 HI.out.2.2.2 rfl (by decide) _ _ _ rfl (World.ownsRow_made w #[] 0 (Nat.le_refl _) (Nat.zero_le _) (by simp)) ⟨b, 0, none⟩ xs.length cap news rfl s1.out (s2.out _ (Frame.alloc _ _ _)) s3.out s4.out s5.out (by simp) ?_)
    intro v' w1 hown hgrow hnil
    go_wp2_with fail
    go_ret
    have hf : Frame [] w w1 := by
      have fa := Frame.alloc [] w (.cells #[] 9)
      refine fa.trans (Frame.of_grown (S := [w.heap.size]) hgrow (by intro k hk; simp [Value.ownBlock] at hk; simp [hk])) (by simp)
    rcases hown.2 with ⟨e, _⟩ | ⟨g, c, cur, e, hg, h1, h2, h3, h4, h5⟩
    · exact absurd e hnil
    · refine ⟨some ⟨g, 0, none⟩, c, [g], by rw [e]; simp, .inr ⟨g, c, rfl, rfl, RowAt.of_blk h1 (by omega) h3 h4 (by rw [← HN.out]; simpa using h5)⟩, hf, by simpa using hg⟩

set_option maxRecDepth 100000 in
theorem clone_prop (a : Option Addr) (cap : Nat) (xs : List Pr) (G : List Nat) (w : World) (h : Sl w 67 2 Pr.cs (.slice a xs.length cap) xs G) (hn : xs.length ≤ 1000000) :
    Calls Tryz.prog 90 #[.slice a xs.length cap] w fun e w' => ∃ a' cap' G', e = .returned (.slice a' xs.length cap') ∧ Sl w' 67 2 Pr.cs (.slice a' xs.length cap') xs G' ∧ Frame [] w w' ∧ ∀ x ∈ G', w.heap.size ≤ x := by
  rcases id h with ⟨hv, rfl, _⟩ | ⟨b, cap', hv, _, hr⟩
  · injection hv with hv1 _ hv2
    subst hv1 hv2
    clear h
    have q22 : ∀ (w : World) (a : Option Addr) (n c n' c' : Nat), (binOp .eql 39 (.slice a n c) (.slice none n' c')).run Tryz.prog w = .ok (.bool a.isNone) w := fun w a n c n' c' => Lib.run_eql_slice_nil w _ _ a n c n' c' Tryz.underlying39
    go_enter Tryz.func90, Tryz.ntmps90
    go_wp2_with fail
    go_ret
    exact ⟨none, 0, [], rfl, Sl.nil _ _ _ _, Frame.refl _ _, by simp⟩
  · injection hv with hv1 _ hv2
    subst hv1 hv2
    obtain ⟨i0, hi, hz0, hz1, hz2⟩ := info_parts infoProp
    have HI := Lib.hid (And.intro hi (And.intro hz0 (And.intro hz1 hz2)))
    obtain ⟨news, hnews⟩ : ∃ news, news = xs.flatMap Pr.cs := ⟨_, rfl⟩
    have s1 : Hid (news.length = xs.length * 2) := Lib.hid (by rw [hnews]; exact flat_len pr_len xs)
    have s2 : Hid (∀ w', Frame [] w w' → ∀ j u, news[j]? = some u → w'.cell? ((⟨b, 0, none⟩ : Addr).add j) = some u) := Lib.hid (fun w' f j u hj => by
      rw [Addr.add_lit, Nat.zero_add]
      exact (hr.frame f (by simp)).cell (by rw [← hnews]; exact hj))
    have s3 : Hid (∀ u ∈ news, u.oneCell' = true) := Lib.hid (fun u hu => by
      rw [hnews] at hu
      obtain ⟨y, _, hy⟩ := List.mem_flatMap.1 hu
      exact pr_one y u hy)
    have s4 : Hid (0 + xs.length ≤ maxLen) := Lib.hid (by unfold maxLen; omega)
    have s5 : Hid ((0 + xs.length) * 32 ≤ 140737488355328) := Lib.hid (by omega)
    have HN := Lib.hid hnews
    clear h hr hnews hi hz0 hz1 hz2
    have q22 : ∀ (w : World) (a : Option Addr) (n c n' c' : Nat), (binOp .eql 39 (.slice a n c) (.slice none n' c')).run Tryz.prog w = .ok (.bool a.isNone) w := fun w a n c n' c' => Lib.run_eql_slice_nil w _ _ a n c n' c' Tryz.underlying39
    go_enter Tryz.func90, Tryz.ntmps90
    go_wp2_with (at_builtin; refine wpList_append_own _ rfl _ _ 39 rfl w.heap.size 67 i0 _ 2 32 Tryz.underlying39 HI.out.1 HI.out.2.1 HI.out.2.2.1 HI.out.2.2.2 rfl (by decide) _ _ _ rfl (World.ownsRow_made w #[] 0 (Nat.le_refl _) (Nat.zero_le _) (by simp)) ⟨b, 0, none⟩ xs.length cap news rfl s1.out (s2.out _ (Frame.alloc _ _ _)) s3.out s4.out s5.out (by simp) ?_)
    intro v' w1 hown hgrow hnil
    go_wp2_with fail
    go_ret
    have hf : Frame [] w w1 := by
      have fa := Frame.alloc [] w (.cells #[] 67)
      refine fa.trans (Frame.of_grown (S := [w.heap.size]) hgrow (by intro k hk; simp [Value.ownBlock] at hk; simp [hk])) (by simp)
    rcases hown.2 with ⟨e, _⟩ | ⟨g, c, cur, e, hg, h1, h2, h3, h4, h5⟩
    · exact absurd e hnil
    · refine ⟨some ⟨g, 0, none⟩, c, [g], by rw [e]; simp, .inr ⟨g, c, rfl, rfl, RowAt.of_blk h1 (by omega) h3 h4 (by rw [← HN.out]; simpa using h5)⟩, hf, by simpa using hg⟩
end Go.Proofs.YtjcajidgaejhoaaGreat

