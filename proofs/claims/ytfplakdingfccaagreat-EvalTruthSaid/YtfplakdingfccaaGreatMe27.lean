/- tansyref22.Ints at rows alike, walked; the reference's Sorted at rows without twins. The reference's Sorted at rows without twins. -/
import Derived.Test.YtfplakdingfccaaGreatMe24
import Derived.BigQuiet
namespace Go.Proofs.YtfplakdingfccaaGreat
open Go.RowKit
set_option linter.unusedSimpArgs false
set_option linter.unusedVariables false

set_option maxHeartbeats 4000000 in
set_option maxRecDepth 100000 in
theorem ints_same (w : World) (v1 v2 : Value) (xs : List Int) (G1 G2 : List Nat) (h1 : Sl w 3 1 encI v1 xs G1) (h2 : Sl w 3 1 encI v2 xs G2) (hl : xs.length ≤ 1000000) :
    Calls Tryz.prog 75 #[v1, v2] w fun e w' => e = .returned (.bool true) ∧ Frame [] w w' := by
  obtain ⟨va, ca, hv⟩ := h1.form
  subst hv
  obtain ⟨vb, cb, hv⟩ := h2.form
  subst hv
  have H1 := Lib.hid h1
  have H2 := Lib.hid h2
  clear h1 h2
  generalize hn : xs.length = n at *
  go_enter Tryz.func75, Tryz.ntmps75
  go_wp2_with fail
  go_loopw [5] (fun i wr => ∃ t : Nat, t ≤ n ∧ i = .int .i64 t ∧ Hid (Frame [] w wr)) (fun i _ => (n - intOf i).toNat)
  case atStart => exact ⟨0, Nat.zero_le _, rfl, Lib.hid (Frame.refl _ _)⟩
  case round =>
    obtain ⟨t, ht, rfl, hR⟩ := hrel
    by_cases hlt : t < n
    · have hx : xs[t]? = some (xs[t]'(by omega)) := by simp [hn, hlt]
      generalize xs[t]'(by omega) = x at hx
      obtain ⟨b1, c1, hq1, -, -, k1⟩ := (H1.out.frame0 hR.out).cell encI_len hx
      obtain ⟨b2, c2, hq2, -, -, k2⟩ := (H2.out.frame0 hR.out).cell encI_len hx
      simp only [Value.slice.injEq] at hq1 hq2
      obtain ⟨rfl, -, rfl⟩ := hq1
      obtain ⟨rfl, -, rfl⟩ := hq2
      have r1 := k1 0 _ rfl
      have r2 := k2 0 _ rfl
      simp only [Nat.mul_one, Nat.add_zero] at r1 r2
      clear k1 k2 hx
      go_wp2_with fail
      go_quiet (fail)
      go_wp2_with fail
      go_roundw
      case rel => exact ⟨t + 1, by omega, by first | rfl | go_num, Lib.hid (hR.out.trans1 (by (repeat first | assumption | exact Frame.refl _ _ | refine Frame.trans1 ?_ (Frame.alloc _ _ _) | refine Frame.trans1 ?_ (Frame.drew _ _) | refine Frame.trans1 ?_ (Frame.drewN _ _ _))))⟩
      case measure => first | (simp [intOf]; done) | (simp [intOf]; omega)
    · obtain rfl : t = n := by omega
      go_wp2_with fail
      go_ret
      exact ⟨rfl, hR.out⟩
end Go.Proofs.YtfplakdingfccaaGreat

namespace Go.Proofs.YtfplakdingfccaaGreat
open Go.RowKit
set_option linter.unusedSimpArgs false
set_option linter.unusedVariables false

theorem flat_map (xs : List Int) : xs.flatMap encI = xs.map (Value.int .i64) := by
  induction xs with
  | nil => rfl
  | cons x t ih => simp [List.flatMap_cons, ih, encI]
theorem Sl.setI {w : World} {b n cap : Nat} {xs : List Int} (h : Sl w 3 1 encI (.slice (some ⟨b, 0, none⟩) n cap) xs [b]) (k : Nat) (x : Int) : Sl (w.setCell ⟨b, k, none⟩ (.int .i64 x)) 3 1 encI (.slice (some ⟨b, 0, none⟩) n cap) (xs.set k x) [b] := by
  rcases h with ⟨h1, _⟩ | ⟨b', cap', h1, h2, hr⟩
  · simp at h1
  · simp only [Value.slice.injEq, Option.some.injEq, Addr.mk.injEq] at h1
    obtain ⟨⟨rfl, -⟩, rfl, rfl⟩ := h1
    refine .inr ⟨b, cap, by simp, rfl, ?_⟩
    obtain ⟨cs, g1, g2, g3, g4, g5⟩ := RowAt.blk hr
    rw [List.length_set]
    refine RowAt.of_blk (g1.set _ _) g2 g3 (by simpa using g4) ?_
    rw [Array.toList_setIfInBounds, List.take_set, g5, flat_map, flat_map, List.map_set]
theorem Sl.frozenI {w : World} {b n cap : Nat} {xs : List Int} (h : Sl w 3 1 encI (.slice (some ⟨b, 0, none⟩) n cap) xs [b]) (k : Nat) : w.frozen? ⟨b, k, none⟩ = false := by
  rcases h with ⟨h1, _⟩ | ⟨b', cap', h1, h2, hr⟩
  · simp at h1
  · simp only [Value.slice.injEq, Option.some.injEq, Addr.mk.injEq] at h1
    obtain ⟨⟨rfl, -⟩, rfl, rfl⟩ := h1
    exact RowAt.frozen hr k
theorem Sl.atI {w : World} {b n cap : Nat} {xs : List Int} {k : Nat} {x : Int} (h : Sl w 3 1 encI (.slice (some ⟨b, 0, none⟩) n cap) xs [b]) (hx : xs[k]? = some x) : w.cell? ⟨b, k, none⟩ = some (.int .i64 x) := by
  obtain ⟨b', cap', hq, -, -, hc⟩ := h.cell encI_len hx
  simp only [Value.slice.injEq, Option.some.injEq, Addr.mk.injEq] at hq
  obtain ⟨⟨rfl, -⟩, -, rfl⟩ := hq
  have := hc 0 _ rfl
  simpa using this

/-- The sorted row of some first ones. -/
def sm (xs : List Int) (i : Nat) : List Int := (xs.take i).mergeSort fun x y => decide (x ≤ y)
theorem leTr (a b c : Int) (h1 : decide (a ≤ b) = true) (h2 : decide (b ≤ c) = true) : decide (a ≤ c) = true := by simp at *; omega
theorem leTo (a b : Int) : (decide (a ≤ b) || decide (b ≤ a)) = true := by simp; omega
theorem sm_len {xs : List Int} {i : Nat} (h : i ≤ xs.length) : (sm xs i).length = i := by
  unfold sm; rw [List.length_mergeSort, List.length_take]; omega
theorem sm_zero (xs : List Int) : sm xs 0 = [] := by simp [sm]
theorem sm_all (xs : List Int) : sm xs xs.length = xs.mergeSort fun x y => decide (x ≤ y) := by simp [sm]
theorem sm_up (xs : List Int) (i : Nat) : (sm xs i).Pairwise fun x y => decide (x ≤ y) = true := List.pairwise_mergeSort leTr leTo _
theorem sm_no {xs : List Int} (hd : xs.Nodup) {i : Nat} {x : Int} (hx : xs[i]? = some x) : x ∉ sm xs i := by
  intro h
  unfold sm at h
  rw [List.mem_mergeSort] at h
  obtain ⟨j, hj, e⟩ := List.getElem_of_mem h
  rw [List.length_take] at hj
  rw [List.getElem_take] at e
  obtain ⟨hi, e2⟩ := List.getElem?_eq_some_iff.mp hx
  have := (List.nodup_iff_pairwise_ne.mp hd)
  rw [List.pairwise_iff_getElem] at this
  exact this j i (by omega) hi (by omega) (e.trans e2.symm)
theorem sm_put {xs : List Int} {i at' : Nat} {x : Int} (hx : xs[i]? = some x) (hle : at' ≤ i) (h1 : ∀ j y, at' ≤ j → (sm xs i)[j]? = some y → x < y) (h2 : ∀ y, (sm xs i)[at' - 1]? = some y → 0 < at' → y ≤ x) :
    (sm xs i).take at' ++ x :: (sm xs i).drop at' = sm xs (i + 1) := by
  obtain ⟨hi, e2⟩ := List.getElem?_eq_some_iff.mp hx
  have hl := sm_len (xs := xs) (i := i) (by omega)
  have hup := sm_up xs i
  refine List.Perm.eq_of_pairwise (le := fun a b => decide (a ≤ b) = true) (fun a b _ _ h1 h2 => by simp only [decide_eq_true_eq] at h1 h2; omega) ?_ (sm_up xs (i + 1)) ?_
  · rw [List.pairwise_append]
    refine ⟨hup.sublist (List.take_sublist _ _), ?_, ?_⟩
    · rw [List.pairwise_cons]
      refine ⟨fun y hy => ?_, hup.sublist (List.drop_sublist _ _)⟩
      obtain ⟨j, hj, e⟩ := List.getElem_of_mem hy
      rw [List.getElem_drop] at e
      have := h1 (at' + j) y (by omega) (by rw [← e]; exact List.getElem?_eq_getElem _)
      simp; omega
    · intro a ha b hb
      have hax : a ≤ x := by
        obtain ⟨j, hj, e⟩ := List.getElem_of_mem ha
        rw [List.length_take] at hj
        rw [List.getElem_take] at e
        have hlast := h2 ((sm xs i)[at' - 1]'(by omega)) (List.getElem?_eq_getElem _) (by omega)
        rw [List.pairwise_iff_getElem] at hup
        by_cases hjj : j = at' - 1
        · subst hjj; omega
        · have := hup j (at' - 1) (by omega) (by omega) (by omega)
          simp at this; omega
      rw [List.mem_cons] at hb
      rcases hb with rfl | hb
      · simpa using hax
      · obtain ⟨j, hj, e⟩ := List.getElem_of_mem hb
        rw [List.getElem_drop] at e
        have := h1 (at' + j) b (by omega) (by rw [← e]; exact List.getElem?_eq_getElem _)
        simp; omega
  · refine List.perm_middle.trans ?_
    rw [List.take_append_drop]
    unfold sm
    rw [take_one hx]
    refine (List.Perm.cons x (List.mergeSort_perm _ _)).trans ?_
    exact (List.perm_append_comm (l₁ := [x]) (l₂ := xs.take i)).trans (List.mergeSort_perm _ _).symm
end Go.Proofs.YtfplakdingfccaaGreat

