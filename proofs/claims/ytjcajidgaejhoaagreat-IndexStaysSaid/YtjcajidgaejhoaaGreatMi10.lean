/- slices.Delete, one element: a graph's edges, and its nodes. -/
import Derived.Test.YtjcajidgaejhoaaGreatMi06
import Derived.Test.YtjcajidgaejhoaaGreatMi08
import Derived.Deep.RegionLaw
namespace Go.Proofs.YtjcajidgaejhoaaGreat
open Go.RowKit
set_option linter.unusedSimpArgs false
set_option linter.unusedVariables false

theorem zero_del_edge (w : World) : (zeroValue 44).run Tryz.prog w = .ok (.agg #[.int .i64 0, .int .i64 0, .string ⟨#[]⟩, .int .i64 0]) w := by
  obtain ⟨i0, h2, h3, h4, h5⟩ := info_parts infoEdge
  simp [zeroValue, typeInfo, h2, h3]

set_option maxHeartbeats 4000000 in
set_option maxRecDepth 100000 in
theorem del_edge (b cap k i : Nat) (xs : List Ed) (w : World) (h : RowAt w b 44 4 (k + 1) cap (xs.flatMap Ed.cs)) (hk : xs.length = k + 1) (hi : i ≤ k) :
    Calls Tryz.prog 53 #[.slice (some ⟨b, 0, none⟩) (k + 1 : Nat) cap, .int .i64 i, .int .i64 (i + 1)] w fun e w' => e = .returned (.slice (some ⟨b, 0, none⟩) k cap) ∧ RowAt w' b 44 4 k cap ((xs.eraseIdx i).flatMap Ed.cs) ∧ Frame [b] w w' := by
  obtain ⟨cs, hb, hn, hcm, hcs, htk⟩ := h.blk
  obtain ⟨news, hnews⟩ : ∃ news, news = (xs.drop (i + 1)).flatMap Ed.cs := ⟨_, rfl⟩
  have hlen : news.length = (k - i) * 4 := by rw [hnews, flat_len ed_len, List.length_drop, hk, Nat.add_sub_add_right]
  have hsplit : xs.flatMap Ed.cs = (xs.take (i + 1)).flatMap Ed.cs ++ news := by rw [hnews, ← List.flatMap_append, List.take_append_drop]
  have hl1 : ((xs.take (i + 1)).flatMap Ed.cs).length = (i + 1) * 4 := by rw [flat_len ed_len, List.length_take, hk, Nat.min_eq_left (by omega)]
  have hread : ∀ j u, news[j]? = some u → w.drew.cell? ⟨b, (i + 1) * 4 + j, none⟩ = some u := by
    intro j u hu
    have hj := (List.getElem?_eq_some_iff.1 hu).1
    refine h.cell (i := (i + 1) * 4 + j) ?_
    rw [hsplit, List.getElem?_append_right (by omega), hl1]
    rw [Nat.add_sub_cancel_left]
    exact hu
  obtain ⟨A, hA, hsrc⟩ : ∃ A : Addr, (if cap = i + 1 then some (⟨b, 0, none⟩ : Addr) else some ⟨b, (i + 1) * 4, none⟩) = some A ∧ Hid (∀ t u, news[t]? = some u → w.drew.cell? (A.add t) = some u) := by
    by_cases hc : cap = i + 1
    · refine ⟨⟨b, 0, none⟩, by simp [hc], fun t u hu => ?_⟩
      have h0 : news.length = 0 := by rw [hlen, show k - i = 0 by omega, Nat.zero_mul]
      rw [List.length_eq_zero_iff.1 h0] at hu
      simp at hu
    · refine ⟨⟨b, (i + 1) * 4, none⟩, by simp [hc], fun t u hu => ?_⟩
      rw [Addr.add_lit]
      exact hread t u hu
  have s1 : Hid (news.length = (k - i) * 4) := hlen
  have s2 : Hid (∀ u ∈ news, u.oneCell' = true) := by
    intro u hu
    rw [hnews] at hu
    obtain ⟨x, _, hx⟩ := List.mem_flatMap.1 hu
    exact ed_one x u hx
  have hfit : 0 + i * 4 + news.length ≤ cs.size := by
    rw [hlen, hcs]
    have : i * 4 + (k - i) * 4 = k * 4 := by rw [← Nat.add_mul]; congr 1; omega
    have := Nat.mul_le_mul_right 4 hn
    omega
  have s3 : Hid (∀ t, t < news.length → (w.drew.cell? ⟨b, 0 + i * 4 + t, none⟩).isSome = true ∧ w.drew.frozen? ⟨b, 0 + i * 4 + t, none⟩ = false) := by
    intro t ht
    exact ⟨hb.drew.isSome (by omega), hb.drew.frozen _⟩
  obtain ⟨W1, hW1⟩ : ∃ W1, W1 = w.drew.setCells b (0 + i * 4) news := ⟨_, rfl⟩
  have hb1 : Blk W1 b 44 (over cs.toList (0 + i * 4) news).toArray := by rw [hW1]; exact Blk.setCells hb.drew hfit
  have hsz1 : (over cs.toList (0 + i * 4) news).toArray.size = cs.size := by
    rw [List.size_toArray, over_len (by simpa using hfit)]; simp
  have hkc : k * 4 + 4 ≤ cs.size := by
    rw [hcs]; have := Nat.mul_le_mul_right 4 hn; rw [Nat.add_mul] at this; omega
  have hcl : ∀ ty, (Builtin.clear_ #[23] ty #[.slice (some ⟨b, k * 4, none⟩) 1 (cap - k)]).run Tryz.prog W1 = .ok (.tuple #[]) (W1.setCells b (k * 4) [.int .i64 0, .int .i64 0, .string ⟨#[]⟩, .int .i64 0]) :=
    fun ty => run_clear_k W1 _ _ ty _ _ Tryz.underlying23 zero_del_edge b (k * 4) 1 _ (by omega) (by kernel_rfl) (by simp [Value.oneCell']) (fun j hj => hb1.isSome (by rw [hsz1]; simp at hj; omega)) (fun j hj => hb1.frozen _)
  have hL : (over cs.toList (0 + i * 4) news).length = cap * 4 := by rw [over_len (by simpa using hfit)]; simp [hcs]
  have hfin : RowAt (W1.setCells b (k * 4) [.int .i64 0, .int .i64 0, .string ⟨#[]⟩, .int .i64 0]) b 44 4 k cap ((xs.eraseIdx i).flatMap Ed.cs) := by
    refine RowAt.of_blk (Blk.setCells hb1 (by rw [hsz1]; simpa using hkc)) (by omega) hcm ?_ ?_
    · show (over (over cs.toList (0 + i * 4) news) (k * 4) [.int .i64 0, .int .i64 0, .string ⟨#[]⟩, .int .i64 0]).length = cap * 4
      rw [over_len (by rw [hL, ← hcs]; exact hkc), hL]
    · have e1 : (over (over cs.toList (0 + i * 4) news) (k * 4) [.int .i64 0, .int .i64 0, .string ⟨#[]⟩, .int .i64 0]).take (k * 4) = (over cs.toList (0 + i * 4) news).take (k * 4) := by
        unfold over
        rw [List.append_assoc, List.take_append_of_le_length (by simp; omega), List.take_take]
        simp
      have e2 : (over cs.toList (0 + i * 4) news).take (k * 4) = cs.toList.take (i * 4) ++ news := by
        unfold over
        rw [Nat.zero_add]
        have hle : i * 4 + news.length = k * 4 := by rw [hlen, ← Nat.add_mul]; congr 1; omega
        rw [List.take_append_of_le_length (by simp; omega), List.take_of_length_le (by simp; omega)]
      have e3 : cs.toList.take (i * 4) = (xs.take i).flatMap Ed.cs := by
        have : cs.toList.take (i * 4) = (cs.toList.take ((k + 1) * 4)).take (i * 4) := by rw [List.take_take]; congr 1; omega
        rw [this, htk]
        conv => lhs; rw [← List.take_append_drop i xs, List.flatMap_append]
        rw [List.take_append_of_le_length (by rw [flat_len ed_len, List.length_take, hk, Nat.min_eq_left (by omega)]; exact Nat.le_refl _), List.take_of_length_le (by rw [flat_len ed_len, List.length_take, hk, Nat.min_eq_left (by omega)]; exact Nat.le_refl _)]
      simp only [List.toList_toArray] at *
      rw [e1, e2, e3, hnews, ← List.flatMap_append, ← List.eraseIdx_eq_take_drop_succ]
  have hfr : Frame [b] w (W1.setCells b (k * 4) [.int .i64 0, .int .i64 0, .string ⟨#[]⟩, .int .i64 0]) := by rw [hW1]; exact ((Frame.drew _ _).trans1 (Frame.setCells _ _ _ _)).trans1 (Frame.setCells _ _ _ _)
  have FIN := Lib.hid (And.intro hfin hfr)
  have hW : Hid (W1 = w.drew.setCells b (0 + i * 4) news) := hW1
  obtain ⟨i0, g2, g3, g4, g5⟩ := info_parts infoEdge
  have I2 := Lib.hid g2
  have I4 := Lib.hid g4
  have hic : i ≤ cap := by omega
  have hp : (0 : Int) ≤ (i : Int) + 1 := by omega
  clear hL hW1 hfin hfr hb1 hsz1 hkc hfit hread hsplit hl1 hlen htk hcs hcm hb h hnews g2 g3 g4 g5 hk
  go_enter Tryz.func53, Tryz.ntmps53
  go_wp2_with fail
  go_region_law (refine step_append_room rfl (.tmp 22) (.tmp 25) 23 rfl 44 i0 4 Tryz.underlying23 I2.out I4.out b 0 i cap (by simp [Act.eval, Act.put]) A (k - i) (cap - (i + 1)) news (by simp [Act.eval, Act.put]) s1.out hsrc.out s2.out (by omega) s3.out ?_; rw [← hW.out, show i + (k - i) = k by omega])
  go_wp2_with fail
  go_ret
  exact ⟨rfl, FIN.out.1, FIN.out.2⟩

theorem zero_del_node (w : World) : (zeroValue 41).run Tryz.prog w = .ok (.agg #[.int .i64 0, .slice none 0 0, .slice none 0 0]) w := by
  obtain ⟨i0, h2, h3, h4, h5⟩ := info_parts infoNode
  simp [zeroValue, typeInfo, h2, h3]

end Go.Proofs.YtjcajidgaejhoaaGreat

