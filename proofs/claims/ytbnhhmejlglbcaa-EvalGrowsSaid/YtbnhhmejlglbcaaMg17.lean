/- tansyref22.Ints at rows alike, walked; the reference's Sorted at rows without twins. The reference's Sorted at rows without twins. The reference's Sorted at rows without twins, walked. The reference's Tokens, walked. Reach and Tokens of what is no gate, both sides. Both stores side by side. One step, done to both stores. -/
import Derived.Test.YtbnhhmejlglbcaaMg12
import Derived.BigQuiet
import Derived.Test.YtbnhhmejlglbcaaMg14
import Derived.Test.YtbnhhmejlglbcaaMg15
import Derived.Test.YtbnhhmejlglbcaaMg07
import Derived.Test.YtbnhhmejlglbcaaMg16
import Derived.Test.YtbnhhmejlglbcaaMg01
namespace Go.Proofs.Ytbnhhmejlglbcaa
open Go.RowKit
set_option linter.unusedSimpArgs false
set_option linter.unusedVariables false

end Go.Proofs.Ytbnhhmejlglbcaa

namespace Go.Proofs.Ytbnhhmejlglbcaa
open Go.RowKit
set_option linter.unusedSimpArgs false
set_option linter.unusedVariables false

theorem flat_map (xs : List Int) : xs.flatMap encI = xs.map (Value.int .i64) := by
  induction xs with
  | nil => rfl
  | cons x t ih => simp [List.flatMap_cons, ih, encI]
theorem Sl.setI {w : World} {b n cap : Nat} {xs : List Int} (h : Sl w 3 1 encI (.slice (some ⟨b, 0, none⟩) n cap) xs [b]) (k : Nat) (x : Int) : Sl (w.setCell ⟨b, k, none⟩ (.int .i64 x)) 3 1 encI (.slice (some ⟨b, 0, none⟩) n cap) (xs.set k x) [b] := by
  rcases h with ⟨h1, _⟩ | ⟨b', cap', h1, h2, hr⟩
  · simp at h1
  · simp only [Value.slice.injEq, Option.some.injEq, Addr.mk.injEq] at h1
    obtain ⟨⟨rfl, -⟩, rfl, rfl⟩ := h1
    refine .inr ⟨b, cap, by simp, rfl, ?_⟩
    obtain ⟨cs, g1, g2, g3, g4, g5⟩ := RowAt.blk hr
    rw [List.length_set]
    refine RowAt.of_blk (g1.set _ _) g2 g3 (by simpa using g4) ?_
    rw [Array.toList_setIfInBounds, List.take_set, g5, flat_map, flat_map, List.map_set]
theorem Sl.frozenI {w : World} {b n cap : Nat} {xs : List Int} (h : Sl w 3 1 encI (.slice (some ⟨b, 0, none⟩) n cap) xs [b]) (k : Nat) : w.frozen? ⟨b, k, none⟩ = false := by
  rcases h with ⟨h1, _⟩ | ⟨b', cap', h1, h2, hr⟩
  · simp at h1
  · simp only [Value.slice.injEq, Option.some.injEq, Addr.mk.injEq] at h1
    obtain ⟨⟨rfl, -⟩, rfl, rfl⟩ := h1
    exact RowAt.frozen hr k
theorem Sl.atI {w : World} {b n cap : Nat} {xs : List Int} {k : Nat} {x : Int} (h : Sl w 3 1 encI (.slice (some ⟨b, 0, none⟩) n cap) xs [b]) (hx : xs[k]? = some x) : w.cell? ⟨b, k, none⟩ = some (.int .i64 x) := by
  obtain ⟨b', cap', hq, -, -, hc⟩ := h.cell encI_len hx
  simp only [Value.slice.injEq, Option.some.injEq, Addr.mk.injEq] at hq
  obtain ⟨⟨rfl, -⟩, -, rfl⟩ := hq
  have := hc 0 _ rfl
  simpa using this

/-- The sorted row of some first ones. -/
def sm (xs : List Int) (i : Nat) : List Int := (xs.take i).mergeSort fun x y => decide (x ≤ y)
theorem leTr (a b c : Int) (h1 : decide (a ≤ b) = true) (h2 : decide (b ≤ c) = true) : decide (a ≤ c) = true := by simp at *; omega
theorem leTo (a b : Int) : (decide (a ≤ b) || decide (b ≤ a)) = true := by simp; omega
theorem sm_len {xs : List Int} {i : Nat} (h : i ≤ xs.length) : (sm xs i).length = i := by
  unfold sm; rw [List.length_mergeSort, List.length_take]; omega
theorem sm_zero (xs : List Int) : sm xs 0 = [] := by simp [sm]
theorem sm_all (xs : List Int) : sm xs xs.length = xs.mergeSort fun x y => decide (x ≤ y) := by simp [sm]
theorem sm_up (xs : List Int) (i : Nat) : (sm xs i).Pairwise fun x y => decide (x ≤ y) = true := List.pairwise_mergeSort leTr leTo _
theorem sm_no {xs : List Int} (hd : xs.Nodup) {i : Nat} {x : Int} (hx : xs[i]? = some x) : x ∉ sm xs i := by
  intro h
  unfold sm at h
  rw [List.mem_mergeSort] at h
  obtain ⟨j, hj, e⟩ := List.getElem_of_mem h
  rw [List.length_take] at hj
  rw [List.getElem_take] at e
  obtain ⟨hi, e2⟩ := List.getElem?_eq_some_iff.mp hx
  have := (List.nodup_iff_pairwise_ne.mp hd)
  rw [List.pairwise_iff_getElem] at this
  exact this j i (by omega) hi (by omega) (e.trans e2.symm)
theorem sm_put {xs : List Int} {i at' : Nat} {x : Int} (hx : xs[i]? = some x) (hle : at' ≤ i) (h1 : ∀ j y, at' ≤ j → (sm xs i)[j]? = some y → x < y) (h2 : ∀ y, (sm xs i)[at' - 1]? = some y → 0 < at' → y ≤ x) :
    (sm xs i).take at' ++ x :: (sm xs i).drop at' = sm xs (i + 1) := by
  obtain ⟨hi, e2⟩ := List.getElem?_eq_some_iff.mp hx
  have hl := sm_len (xs := xs) (i := i) (by omega)
  have hup := sm_up xs i
  refine List.Perm.eq_of_pairwise (le := fun a b => decide (a ≤ b) = true) (fun a b _ _ h1 h2 => by simp only [decide_eq_true_eq] at h1 h2; omega) ?_ (sm_up xs (i + 1)) ?_
  · rw [List.pairwise_append]
    refine ⟨hup.sublist (List.take_sublist _ _), ?_, ?_⟩
    · rw [List.pairwise_cons]
      refine ⟨fun y hy => ?_, hup.sublist (List.drop_sublist _ _)⟩
      obtain ⟨j, hj, e⟩ := List.getElem_of_mem hy
      rw [List.getElem_drop] at e
      have := h1 (at' + j) y (by omega) (by rw [← e]; exact List.getElem?_eq_getElem _)
      simp; omega
    · intro a ha b hb
      have hax : a ≤ x := by
        obtain ⟨j, hj, e⟩ := List.getElem_of_mem ha
        rw [List.length_take] at hj
        rw [List.getElem_take] at e
        have hlast := h2 ((sm xs i)[at' - 1]'(by omega)) (List.getElem?_eq_getElem _) (by omega)
        rw [List.pairwise_iff_getElem] at hup
        by_cases hjj : j = at' - 1
        · subst hjj; omega
        · have := hup j (at' - 1) (by omega) (by omega) (by omega)
          simp at this; omega
      rw [List.mem_cons] at hb
      rcases hb with rfl | hb
      · simpa using hax
      · obtain ⟨j, hj, e⟩ := List.getElem_of_mem hb
        rw [List.getElem_drop] at e
        have := h1 (at' + j) b (by omega) (by rw [← e]; exact List.getElem?_eq_getElem _)
        simp; omega
  · refine List.perm_middle.trans ?_
    rw [List.take_append_drop]
    unfold sm
    rw [take_one hx]
    refine (List.Perm.cons x (List.mergeSort_perm _ _)).trans ?_
    exact (List.perm_append_comm (l₁ := [x]) (l₂ := xs.take i)).trans (List.mergeSort_perm _ _).symm
end Go.Proofs.Ytbnhhmejlglbcaa

namespace Go.Proofs.Ytbnhhmejlglbcaa
open Go.RowKit
set_option linter.unusedSimpArgs false
set_option linter.unusedVariables false

theorem shift_set {S : List Int} {k : Nat} {u y : Int} (hy : S[k]? = some y) : (S.take (k + 1) ++ u :: S.drop (k + 1)).set (k + 1) y = S.take k ++ y :: S.drop k := by
  obtain ⟨hk, e⟩ := List.getElem?_eq_some_iff.mp hy
  have hl : (S.take (k + 1)).length = k + 1 := by rw [List.length_take]; omega
  rw [List.set_append_right _ _ (by omega), hl, Nat.sub_self, List.set_cons_zero, take_one hy, List.append_assoc, List.drop_eq_getElem_cons hk, e]
  rfl
theorem last_set {S : List Int} {k : Nat} {u y : Int} (hk : k ≤ S.length) : (S.take k ++ u :: S.drop k).set k y = S.take k ++ y :: S.drop k := by
  have hl : (S.take k).length = k := by rw [List.length_take]; omega
  rw [List.set_append_right _ _ (by omega), hl, Nat.sub_self, List.set_cons_zero]
theorem last_at {S : List Int} {k : Nat} {u y : Int} (hy : S[k]? = some y) : (S.take (k + 1) ++ u :: S.drop (k + 1))[k]? = some y := by
  obtain ⟨hk, e⟩ := List.getElem?_eq_some_iff.mp hy
  rw [List.getElem?_append_left (by rw [List.length_take]; omega), List.getElem?_take, if_pos (by omega), hy]

end Go.Proofs.Ytbnhhmejlglbcaa

namespace Go.Proofs.Ytbnhhmejlglbcaa
open Go.RowKit
set_option linter.unusedSimpArgs false
set_option linter.unusedVariables false

end Go.Proofs.Ytbnhhmejlglbcaa

namespace Go.Proofs.Ytbnhhmejlglbcaa
open Go.RowKit
set_option linter.unusedSimpArgs false
set_option linter.unusedVariables false

set_option maxHeartbeats 4000000 in
set_option maxRecDepth 100000 in
theorem reach_none (pb : Nat) (F : List Nat) (l : List Gt) (left : Int) (k : Int) (w : World) (h : St w pb F l left) (hk : notG l.length k = true) :
    Calls Try.prog 28 #[.pointer (some ⟨pb, 0, none⟩), .int .i64 k] w fun e w' => e = .returned (.slice none 0 0) ∧ Frame [] w w' := by
  have HA : Hid (areG l.length [k] = false) := by show areG l.length [k] = false; simp [areG, hk]
  have H := Lib.hid h
  clear h hk
  go_enter Try.func28, Try.ntmps28
  go_wp2_with fail
  have fr : Frame [] w (w.alloc (.cells #[.int .i64 k] 3)) := Frame.alloc _ _ _
  refine (is_any (some ⟨pb, 0, none⟩) l.length _ 1 [k] _ (RdI.one w k 3) (by simp) (H.out.frame0 fr).lens).mono ?_
  rw [HA.out]
  rintro e w1 ⟨rfl, f1⟩
  have F1 := Lib.hid (fr.trans1 f1)
  clear fr f1
  go_wp2_with fail
  go_ret
  exact ⟨rfl, F1.out⟩
end Go.Proofs.Ytbnhhmejlglbcaa

namespace Go.Proofs.Ytbnhhmejlglbcaa
open Go.RowKit
set_option linter.unusedSimpArgs false
set_option linter.unusedVariables false

/-- circ's store at pb, the reference's at rb, both made behind w0. -/
def BSg (KB : List Nat) (Kp : World → Prop) (w0 : World) (pb rb : Nat) (l1 : List Gt) (left : Int) (l2 : List Gt) (bud : Int) (w : World) : Prop :=
  ∃ F F', St w pb F l1 left ∧ RSt w rb F' l2 bud ∧ Frame [] w0 w ∧ (∀ x ∈ F, w0.heap.size ≤ x) ∧ (∀ x ∈ F', w0.heap.size ≤ x) ∧ (∀ x ∈ F, x ∉ F') ∧ Kp w ∧ ∀ x ∈ KB, x ∉ F ∧ x ∉ F'
section
variable {KB : List Nat} {Kp : World → Prop} {w0 w w' : World} {pb rb : Nat} {l1 l2 l1' l2' : List Gt} {left left' bud : Int} {F F' : List Nat}
theorem BSg.frame (h : BSg KB Kp w0 pb rb l1 left l2 bud w) : Frame [] w0 w := by obtain ⟨_, _, _, _, f, _⟩ := h; exact f
theorem BSg.quiet (hK : Keep KB Kp) (h : BSg KB Kp w0 pb rb l1 left l2 bud w) (f : Frame [] w w') : BSg KB Kp w0 pb rb l1 left l2 bud w' := by
  obtain ⟨F, F', s, r, f0, n, n', d, k, kb⟩ := h
  exact ⟨F, F', s.frame0 f, r.frame0 f, f0.trans1 f, n, n', d, hK.st _ _ _ k f (by simp), kb⟩
theorem BSg.step1 (hK : Keep KB Kp) (k : Kp w) (kb : ∀ x ∈ KB, x ∉ F ∧ x ∉ F') (s : St w pb F l1 left) (r : RSt w rb F' l2 bud) (f : Frame [] w0 w) (n : ∀ x ∈ F, w0.heap.size ≤ x) (n' : ∀ x ∈ F', w0.heap.size ≤ x) (d : ∀ x ∈ F, x ∉ F') (h : StEnd w pb F l1' left' w') : BSg KB Kp w0 pb rb l1' left' l2 bud w' := by
  obtain ⟨F1, a, b, c⟩ := h
  have hz := f.size
  refine ⟨F1, F', a, r.frame b (fun x hx hm => d x hm hx), f.trans b (fun x hx => .inr (n x hx)), fun x hx => ?_, n', fun x hx hm => ?_, hK.st _ _ _ k b (fun x hx => (kb x hx).1), fun x hx => ⟨fun hm => ?_, (kb x hx).2⟩⟩
  · rcases c x hx with h | h
    · exact n x h
    · omega
  · rcases c x hx with h | h
    · exact d x h hm
    · have := r.lt x hm; omega
  · rcases c x hm with h | h
    · exact (kb x hx).1 h
    · have := hK.lt _ k x hx; omega
theorem BSg.step2 (hK : Keep KB Kp) (k : Kp w) (kb : ∀ x ∈ KB, x ∉ F ∧ x ∉ F') (s : St w pb F l1 left) (r : RSt w rb F' l2 bud) (f : Frame [] w0 w) (n : ∀ x ∈ F, w0.heap.size ≤ x) (n' : ∀ x ∈ F', w0.heap.size ≤ x) (d : ∀ x ∈ F, x ∉ F') (h : REnd w rb F' l2' bud w') : BSg KB Kp w0 pb rb l1 left l2' bud w' := by
  obtain ⟨F1, a, b, c⟩ := h
  have hz := f.size
  refine ⟨F, F1, s.frame b (fun x hx hm => d x hx hm), a, f.trans b (fun x hx => .inr (n' x hx)), n, fun x hx => ?_, fun x hx hm => ?_, hK.st _ _ _ k b (fun x hx => (kb x hx).2), fun x hx => ⟨(kb x hx).1, fun hm => ?_⟩⟩
  · rcases c x hx with h | h
    · exact n' x h
    · omega
  · rcases c x hm with h | h
    · exact d x hx h
    · have := s.lt x hx; omega
  · rcases c x hm with h | h
    · exact (kb x hx).2 h
    · have := hK.lt _ k x hx; omega
theorem BSg.more {T : Nat} {cs : Array Value} (h : BSg [] (fun _ => True) w0 pb rb l1 left l2 bud w) : BSg [w.heap.size] (fun w' => Blk w' w.heap.size T cs) w0 pb rb l1 left l2 bud (w.alloc (.cells cs T)) := by
  obtain ⟨F, F', s, r, f, n, n', d, k, kb⟩ := h
  have fa : Frame [] w (w.alloc (.cells cs T)) := Frame.alloc _ _ _
  exact ⟨F, F', s.frame0 fa, r.frame0 fa, f.trans1 fa, n, n', d, Blk.new _ _ _, fun x hx => by
    simp at hx; subst hx
    exact ⟨fun hm => absurd (s.lt _ hm) (by omega), fun hm => absurd (r.lt _ hm) (by omega)⟩⟩
theorem BSg.kp (h : BSg KB Kp w0 pb rb l1 left l2 bud w) : Kp w := by
  obtain ⟨F, F', s, r, f, n, n', d, k, kb⟩ := h
  exact k
theorem BSg.less (h : BSg KB Kp w0 pb rb l1 left l2 bud w) : BSg [] (fun _ => True) w0 pb rb l1 left l2 bud w := by
  obtain ⟨F, F', s, r, f, n, n', d, k, kb⟩ := h
  exact ⟨F, F', s, r, f, n, n', d, trivial, by simp⟩
theorem BSg.var (hK : Keep KB Kp) (h : BSg KB Kp w0 pb rb l1 left l2 bud w) (t : Int) (h0 : 0 < l1.length) :
    Calls Try.prog 15 #[.pointer (some ⟨pb, 0, none⟩), .int .i64 t] w fun e w' => e = .returned (.tuple #[.int .i64 (mkVar t l1 left).1.1, .int .i64 (mkVar t l1 left).1.2]) ∧ BSg KB Kp w0 pb rb (mkVar t l1 left).2.1 (mkVar t l1 left).2.2 l2 bud w' := by
  obtain ⟨F, F', s, r, f, n, n', d, k, kb⟩ := h
  exact (var_any pb F l1 left t w s h0).mono fun e w' ⟨h1, h2⟩ => ⟨h1, BSg.step1 hK k kb s r f n n' d h2⟩
theorem BSg.rvar (hK : Keep KB Kp) (h : BSg KB Kp w0 pb rb l1 left l2 bud w) (t : Int) (hl : l2.length ≤ 1000000) :
    Calls Try.prog 16 #[.pointer (some ⟨rb, 0, none⟩), .int .i64 t] w fun e w' => e = .returned (.tuple #[.int .i64 (mkVar t l2 (bud - l2.length)).1.1, .int .i64 (mkVar t l2 (bud - l2.length)).1.2]) ∧ BSg KB Kp w0 pb rb l1 left (mkVar t l2 (bud - l2.length)).2.1 bud w' := by
  obtain ⟨F, F', s, r, f, n, n', d, k, kb⟩ := h
  exact (rvar_any r t hl).mono fun e w' ⟨h1, h2⟩ => ⟨h1, BSg.step2 hK k kb s r f n n' d h2⟩
theorem BSg.plus (hK : Keep KB Kp) (h : BSg KB Kp w0 pb rb l1 left l2 bud w) (a b : Int) (h0 : 0 < l1.length) :
    Calls Try.prog 17 #[.pointer (some ⟨pb, 0, none⟩), .int .i64 a, .int .i64 b] w fun e w' => e = .returned (.tuple #[.int .i64 (mkPlus a b l1 left).1.1, .int .i64 (mkPlus a b l1 left).1.2]) ∧ BSg KB Kp w0 pb rb (mkPlus a b l1 left).2.1 (mkPlus a b l1 left).2.2 l2 bud w' := by
  obtain ⟨F, F', s, r, f, n, n', d, k, kb⟩ := h
  exact (plus_any pb F l1 left a b w s h0).mono fun e w' ⟨h1, h2⟩ => ⟨h1, BSg.step1 hK k kb s r f n n' d h2⟩
theorem BSg.rplus (hK : Keep KB Kp) (h : BSg KB Kp w0 pb rb l1 left l2 bud w) (a b : Int) (hl : l2.length ≤ 1000000) :
    Calls Try.prog 18 #[.pointer (some ⟨rb, 0, none⟩), .int .i64 a, .int .i64 b] w fun e w' => e = .returned (.tuple #[.int .i64 (mkPlus a b l2 (bud - l2.length)).1.1, .int .i64 (mkPlus a b l2 (bud - l2.length)).1.2]) ∧ BSg KB Kp w0 pb rb l1 left (mkPlus a b l2 (bud - l2.length)).2.1 bud w' := by
  obtain ⟨F, F', s, r, f, n, n', d, k, kb⟩ := h
  exact (rplus_any r a b hl).mono fun e w' ⟨h1, h2⟩ => ⟨h1, BSg.step2 hK k kb s r f n n' d h2⟩
theorem BSg.times (hK : Keep KB Kp) (h : BSg KB Kp w0 pb rb l1 left l2 bud w) (a b : Int) (h0 : 0 < l1.length) :
    Calls Try.prog 19 #[.pointer (some ⟨pb, 0, none⟩), .int .i64 a, .int .i64 b] w fun e w' => e = .returned (.tuple #[.int .i64 (mkTimes a b l1 left).1.1, .int .i64 (mkTimes a b l1 left).1.2]) ∧ BSg KB Kp w0 pb rb (mkTimes a b l1 left).2.1 (mkTimes a b l1 left).2.2 l2 bud w' := by
  obtain ⟨F, F', s, r, f, n, n', d, k, kb⟩ := h
  exact (times_any pb F l1 left a b w s h0).mono fun e w' ⟨h1, h2⟩ => ⟨h1, BSg.step1 hK k kb s r f n n' d h2⟩
theorem BSg.rtimes (hK : Keep KB Kp) (h : BSg KB Kp w0 pb rb l1 left l2 bud w) (a b : Int) (hl : l2.length ≤ 1000000) :
    Calls Try.prog 20 #[.pointer (some ⟨rb, 0, none⟩), .int .i64 a, .int .i64 b] w fun e w' => e = .returned (.tuple #[.int .i64 (mkTimes a b l2 (bud - l2.length)).1.1, .int .i64 (mkTimes a b l2 (bud - l2.length)).1.2]) ∧ BSg KB Kp w0 pb rb l1 left (mkTimes a b l2 (bud - l2.length)).2.1 bud w' := by
  obtain ⟨F, F', s, r, f, n, n', d, k, kb⟩ := h
  exact (rtimes_any r a b hl).mono fun e w' ⟨h1, h2⟩ => ⟨h1, BSg.step2 hK k kb s r f n n' d h2⟩
theorem BSg.star (hK : Keep KB Kp) (h : BSg KB Kp w0 pb rb l1 left l2 bud w) (a : Int) (h0 : 0 < l1.length) :
    Calls Try.prog 21 #[.pointer (some ⟨pb, 0, none⟩), .int .i64 a] w fun e w' => e = .returned (.tuple #[.int .i64 (mkStar a l1 left).1.1, .int .i64 (mkStar a l1 left).1.2]) ∧ BSg KB Kp w0 pb rb (mkStar a l1 left).2.1 (mkStar a l1 left).2.2 l2 bud w' := by
  obtain ⟨F, F', s, r, f, n, n', d, k, kb⟩ := h
  exact (star_any pb F l1 left a w s h0).mono fun e w' ⟨h1, h2⟩ => ⟨h1, BSg.step1 hK k kb s r f n n' d h2⟩
theorem BSg.rstar (hK : Keep KB Kp) (h : BSg KB Kp w0 pb rb l1 left l2 bud w) (a : Int) (hl : l2.length ≤ 1000000) :
    Calls Try.prog 22 #[.pointer (some ⟨rb, 0, none⟩), .int .i64 a] w fun e w' => e = .returned (.tuple #[.int .i64 (mkStar a l2 (bud - l2.length)).1.1, .int .i64 (mkStar a l2 (bud - l2.length)).1.2]) ∧ BSg KB Kp w0 pb rb l1 left (mkStar a l2 (bud - l2.length)).2.1 bud w' := by
  obtain ⟨F, F', s, r, f, n, n', d, k, kb⟩ := h
  exact (rstar_any r a hl).mono fun e w' ⟨h1, h2⟩ => ⟨h1, BSg.step2 hK k kb s r f n n' d h2⟩
/-- A row of the law's own, apart from what was made behind. -/
theorem row_apart {a : Option Addr} {xs : List Int} {F : List Nat} (hx : xs ≠ [] → ∀ b off, a = some ⟨b, off, none⟩ → b < w0.heap.size) (n : ∀ x ∈ F, w0.heap.size ≤ x) : xs ≠ [] → RdI.Apart a F := fun h0 b off e hm => by
  have := hx h0 b off e
  have := n b hm
  omega
end
end Go.Proofs.Ytbnhhmejlglbcaa

namespace Go.Proofs.Ytbnhhmejlglbcaa
open Go.RowKit
set_option linter.unusedSimpArgs false
set_option linter.unusedVariables false

/-- A step's answer and gates. -/
def opS (s : Stp) (l : List Gt) (left : Int) : (Int × Int) × List Gt × Int :=
  if s.kind = 1 then mkVar s.a l left else if s.kind = 2 then mkPlus s.a s.b l left else if s.kind = 3 then mkTimes s.a s.b l left
  else if s.kind = 4 then mkStar s.a l left else if s.kind = 5 then mkSum s.l 0 l left else ((0, 0), l, left)

end Go.Proofs.Ytbnhhmejlglbcaa

