/- slices.Delete, one element: a graph's edges, and its nodes. The graph's object, and its small calls. A graph's calls: AddNode, Add, Drop, Edge. -/
import Derived.Test.YtolkmapdbilolaaMg01
import Derived.Test.YtolkmapdbilolaaMg03
import Derived.Deep.RegionLaw
import Derived.Test.YtolkmapdbilolaaMg04
import Derived.Deep.AppendLies
namespace Go.Proofs.Ytolkmapdbilolaa
open Go.RowKit
set_option linter.unusedSimpArgs false
set_option linter.unusedVariables false

theorem zero_del_edge (w : World) : (zeroValue 49).run Try.prog w = .ok (.agg #[.int .i64 0, .int .i64 0, .string ⟨#[]⟩, .int .i64 0]) w := by
  obtain ⟨i0, h2, h3, h4, h5⟩ := info_parts infoEdge
  simp [zeroValue, typeInfo, h2, h3]

set_option maxHeartbeats 4000000 in
set_option maxRecDepth 100000 in
theorem del_edge (b cap k i : Nat) (xs : List Ed) (w : World) (h : RowAt w b 49 4 (k + 1) cap (xs.flatMap Ed.cs)) (hk : xs.length = k + 1) (hi : i ≤ k) :
    Calls Try.prog 69 #[.slice (some ⟨b, 0, none⟩) (k + 1 : Nat) cap, .int .i64 i, .int .i64 (i + 1)] w fun e w' => e = .returned (.slice (some ⟨b, 0, none⟩) k cap) ∧ RowAt w' b 49 4 k cap ((xs.eraseIdx i).flatMap Ed.cs) ∧ Frame [b] w w' := by
  obtain ⟨cs, hb, hn, hcm, hcs, htk⟩ := h.blk
  obtain ⟨news, hnews⟩ : ∃ news, news = (xs.drop (i + 1)).flatMap Ed.cs := ⟨_, rfl⟩
  have hlen : news.length = (k - i) * 4 := by rw [hnews, flat_len ed_len, List.length_drop, hk, Nat.add_sub_add_right]
  have hsplit : xs.flatMap Ed.cs = (xs.take (i + 1)).flatMap Ed.cs ++ news := by rw [hnews, ← List.flatMap_append, List.take_append_drop]
  have hl1 : ((xs.take (i + 1)).flatMap Ed.cs).length = (i + 1) * 4 := by rw [flat_len ed_len, List.length_take, hk, Nat.min_eq_left (by omega)]
  have hread : ∀ j u, news[j]? = some u → w.drew.cell? ⟨b, (i + 1) * 4 + j, none⟩ = some u := by
    intro j u hu
    have hj := (List.getElem?_eq_some_iff.1 hu).1
    refine h.cell (i := (i + 1) * 4 + j) ?_
    rw [hsplit, List.getElem?_append_right (by omega), hl1]
    rw [Nat.add_sub_cancel_left]
    exact hu
  obtain ⟨A, hA, hsrc⟩ : ∃ A : Addr, (if cap = i + 1 then some (⟨b, 0, none⟩ : Addr) else some ⟨b, (i + 1) * 4, none⟩) = some A ∧ Hid (∀ t u, news[t]? = some u → w.drew.cell? (A.add t) = some u) := by
    by_cases hc : cap = i + 1
    · refine ⟨⟨b, 0, none⟩, by simp [hc], fun t u hu => ?_⟩
      have h0 : news.length = 0 := by rw [hlen, show k - i = 0 by omega, Nat.zero_mul]
      rw [List.length_eq_zero_iff.1 h0] at hu
      simp at hu
    · refine ⟨⟨b, (i + 1) * 4, none⟩, by simp [hc], fun t u hu => ?_⟩
      rw [Addr.add_lit]
      exact hread t u hu
  have s1 : Hid (news.length = (k - i) * 4) := hlen
  have s2 : Hid (∀ u ∈ news, u.oneCell' = true) := by
    intro u hu
    rw [hnews] at hu
    obtain ⟨x, _, hx⟩ := List.mem_flatMap.1 hu
    exact ed_one x u hx
  have hfit : 0 + i * 4 + news.length ≤ cs.size := by
    rw [hlen, hcs]
    have : i * 4 + (k - i) * 4 = k * 4 := by rw [← Nat.add_mul]; congr 1; omega
    have := Nat.mul_le_mul_right 4 hn
    omega
  have s3 : Hid (∀ t, t < news.length → (w.drew.cell? ⟨b, 0 + i * 4 + t, none⟩).isSome = true ∧ w.drew.frozen? ⟨b, 0 + i * 4 + t, none⟩ = false) := by
    intro t ht
    exact ⟨hb.drew.isSome (by omega), hb.drew.frozen _⟩
  obtain ⟨W1, hW1⟩ : ∃ W1, W1 = w.drew.setCells b (0 + i * 4) news := ⟨_, rfl⟩
  have hb1 : Blk W1 b 49 (over cs.toList (0 + i * 4) news).toArray := by rw [hW1]; exact Blk.setCells hb.drew hfit
  have hsz1 : (over cs.toList (0 + i * 4) news).toArray.size = cs.size := by
    rw [List.size_toArray, over_len (by simpa using hfit)]; simp
  have hkc : k * 4 + 4 ≤ cs.size := by
    rw [hcs]; have := Nat.mul_le_mul_right 4 hn; rw [Nat.add_mul] at this; omega
  have hcl : ∀ ty, (Builtin.clear_ #[53] ty #[.slice (some ⟨b, k * 4, none⟩) 1 (cap - k)]).run Try.prog W1 = .ok (.tuple #[]) (W1.setCells b (k * 4) [.int .i64 0, .int .i64 0, .string ⟨#[]⟩, .int .i64 0]) :=
    fun ty => run_clear_k W1 _ _ ty _ _ Try.underlying53 zero_del_edge b (k * 4) 1 _ (by omega) (by kernel_rfl) (by simp [Value.oneCell']) (fun j hj => hb1.isSome (by rw [hsz1]; simp at hj; omega)) (fun j hj => hb1.frozen _)
  have hL : (over cs.toList (0 + i * 4) news).length = cap * 4 := by rw [over_len (by simpa using hfit)]; simp [hcs]
  have hfin : RowAt (W1.setCells b (k * 4) [.int .i64 0, .int .i64 0, .string ⟨#[]⟩, .int .i64 0]) b 49 4 k cap ((xs.eraseIdx i).flatMap Ed.cs) := by
    refine RowAt.of_blk (Blk.setCells hb1 (by rw [hsz1]; simpa using hkc)) (by omega) hcm ?_ ?_
    · show (over (over cs.toList (0 + i * 4) news) (k * 4) [.int .i64 0, .int .i64 0, .string ⟨#[]⟩, .int .i64 0]).length = cap * 4
      rw [over_len (by rw [hL, ← hcs]; exact hkc), hL]
    · have e1 : (over (over cs.toList (0 + i * 4) news) (k * 4) [.int .i64 0, .int .i64 0, .string ⟨#[]⟩, .int .i64 0]).take (k * 4) = (over cs.toList (0 + i * 4) news).take (k * 4) := by
        unfold over
        rw [List.append_assoc, List.take_append_of_le_length (by simp; omega), List.take_take]
        simp
      have e2 : (over cs.toList (0 + i * 4) news).take (k * 4) = cs.toList.take (i * 4) ++ news := by
        unfold over
        rw [Nat.zero_add]
        have hle : i * 4 + news.length = k * 4 := by rw [hlen, ← Nat.add_mul]; congr 1; omega
        rw [List.take_append_of_le_length (by simp; omega), List.take_of_length_le (by simp; omega)]
      have e3 : cs.toList.take (i * 4) = (xs.take i).flatMap Ed.cs := by
        have : cs.toList.take (i * 4) = (cs.toList.take ((k + 1) * 4)).take (i * 4) := by rw [List.take_take]; congr 1; omega
        rw [this, htk]
        conv => lhs; rw [← List.take_append_drop i xs, List.flatMap_append]
        rw [List.take_append_of_le_length (by rw [flat_len ed_len, List.length_take, hk, Nat.min_eq_left (by omega)]; exact Nat.le_refl _), List.take_of_length_le (by rw [flat_len ed_len, List.length_take, hk, Nat.min_eq_left (by omega)]; exact Nat.le_refl _)]
      simp only [List.toList_toArray] at *
      rw [e1, e2, e3, hnews, ← List.flatMap_append, ← List.eraseIdx_eq_take_drop_succ]
  have hfr : Frame [b] w (W1.setCells b (k * 4) [.int .i64 0, .int .i64 0, .string ⟨#[]⟩, .int .i64 0]) := by rw [hW1]; exact ((Frame.drew _ _).trans1 (Frame.setCells _ _ _ _)).trans1 (Frame.setCells _ _ _ _)
  have FIN := Lib.hid (And.intro hfin hfr)
  have hW : Hid (W1 = w.drew.setCells b (0 + i * 4) news) := hW1
  obtain ⟨i0, g2, g3, g4, g5⟩ := info_parts infoEdge
  have I2 := Lib.hid g2
  have I4 := Lib.hid g4
  have hic : i ≤ cap := by omega
  have hp : (0 : Int) ≤ (i : Int) + 1 := by omega
  clear hL hW1 hfin hfr hb1 hsz1 hkc hfit hread hsplit hl1 hlen htk hcs hcm hb h hnews g2 g3 g4 g5 hk
  go_enter Try.func69, Try.ntmps69
  go_wp2_with fail
  go_region_law (refine step_append_room rfl (.tmp 22) (.tmp 25) 53 rfl 49 i0 4 Try.underlying53 I2.out I4.out b 0 i cap (by simp [Act.eval, Act.put]) A (k - i) (cap - (i + 1)) news (by simp [Act.eval, Act.put]) s1.out hsrc.out s2.out (by omega) s3.out ?_; rw [← hW.out, show i + (k - i) = k by omega])
  go_wp2_with fail
  go_ret
  exact ⟨rfl, FIN.out.1, FIN.out.2⟩

theorem zero_del_node (w : World) : (zeroValue 86).run Try.prog w = .ok (.agg #[.int .i64 0, .slice none 0 0, .slice none 0 0]) w := by
  obtain ⟨i0, h2, h3, h4, h5⟩ := info_parts infoNode
  simp [zeroValue, typeInfo, h2, h3]

set_option maxHeartbeats 4000000 in
set_option maxRecDepth 100000 in
theorem del_node (b cap k i : Nat) (xs : List Nd) (w : World) (h : RowAt w b 86 3 (k + 1) cap (xs.flatMap Nd.cs)) (hk : xs.length = k + 1) (hi : i ≤ k) :
    Calls Try.prog 74 #[.slice (some ⟨b, 0, none⟩) (k + 1 : Nat) cap, .int .i64 i, .int .i64 (i + 1)] w fun e w' => e = .returned (.slice (some ⟨b, 0, none⟩) k cap) ∧ RowAt w' b 86 3 k cap ((xs.eraseIdx i).flatMap Nd.cs) ∧ Frame [b] w w' := by
  obtain ⟨cs, hb, hn, hcm, hcs, htk⟩ := h.blk
  obtain ⟨news, hnews⟩ : ∃ news, news = (xs.drop (i + 1)).flatMap Nd.cs := ⟨_, rfl⟩
  have hlen : news.length = (k - i) * 3 := by rw [hnews, flat_len nd_len, List.length_drop, hk, Nat.add_sub_add_right]
  have hsplit : xs.flatMap Nd.cs = (xs.take (i + 1)).flatMap Nd.cs ++ news := by rw [hnews, ← List.flatMap_append, List.take_append_drop]
  have hl1 : ((xs.take (i + 1)).flatMap Nd.cs).length = (i + 1) * 3 := by rw [flat_len nd_len, List.length_take, hk, Nat.min_eq_left (by omega)]
  have hread : ∀ j u, news[j]? = some u → w.drew.cell? ⟨b, (i + 1) * 3 + j, none⟩ = some u := by
    intro j u hu
    have hj := (List.getElem?_eq_some_iff.1 hu).1
    refine h.cell (i := (i + 1) * 3 + j) ?_
    rw [hsplit, List.getElem?_append_right (by omega), hl1]
    rw [Nat.add_sub_cancel_left]
    exact hu
  obtain ⟨A, hA, hsrc⟩ : ∃ A : Addr, (if cap = i + 1 then some (⟨b, 0, none⟩ : Addr) else some ⟨b, (i + 1) * 3, none⟩) = some A ∧ Hid (∀ t u, news[t]? = some u → w.drew.cell? (A.add t) = some u) := by
    by_cases hc : cap = i + 1
    · refine ⟨⟨b, 0, none⟩, by simp [hc], fun t u hu => ?_⟩
      have h0 : news.length = 0 := by rw [hlen, show k - i = 0 by omega, Nat.zero_mul]
      rw [List.length_eq_zero_iff.1 h0] at hu
      simp at hu
    · refine ⟨⟨b, (i + 1) * 3, none⟩, by simp [hc], fun t u hu => ?_⟩
      rw [Addr.add_lit]
      exact hread t u hu
  have s1 : Hid (news.length = (k - i) * 3) := hlen
  have s2 : Hid (∀ u ∈ news, u.oneCell' = true) := by
    intro u hu
    rw [hnews] at hu
    obtain ⟨x, _, hx⟩ := List.mem_flatMap.1 hu
    exact nd_one x u hx
  have hfit : 0 + i * 3 + news.length ≤ cs.size := by
    rw [hlen, hcs]
    have : i * 3 + (k - i) * 3 = k * 3 := by rw [← Nat.add_mul]; congr 1; omega
    have := Nat.mul_le_mul_right 3 hn
    omega
  have s3 : Hid (∀ t, t < news.length → (w.drew.cell? ⟨b, 0 + i * 3 + t, none⟩).isSome = true ∧ w.drew.frozen? ⟨b, 0 + i * 3 + t, none⟩ = false) := by
    intro t ht
    exact ⟨hb.drew.isSome (by omega), hb.drew.frozen _⟩
  obtain ⟨W1, hW1⟩ : ∃ W1, W1 = w.drew.setCells b (0 + i * 3) news := ⟨_, rfl⟩
  have hb1 : Blk W1 b 86 (over cs.toList (0 + i * 3) news).toArray := by rw [hW1]; exact Blk.setCells hb.drew hfit
  have hsz1 : (over cs.toList (0 + i * 3) news).toArray.size = cs.size := by
    rw [List.size_toArray, over_len (by simpa using hfit)]; simp
  have hkc : k * 3 + 3 ≤ cs.size := by
    rw [hcs]; have := Nat.mul_le_mul_right 3 hn; rw [Nat.add_mul] at this; omega
  have hcl : ∀ ty, (Builtin.clear_ #[52] ty #[.slice (some ⟨b, k * 3, none⟩) 1 (cap - k)]).run Try.prog W1 = .ok (.tuple #[]) (W1.setCells b (k * 3) [.int .i64 0, .slice none 0 0, .slice none 0 0]) :=
    fun ty => run_clear_k W1 _ _ ty _ _ Try.underlying52 zero_del_node b (k * 3) 1 _ (by omega) (by kernel_rfl) (by simp [Value.oneCell']) (fun j hj => hb1.isSome (by rw [hsz1]; simp at hj; omega)) (fun j hj => hb1.frozen _)
  have hL : (over cs.toList (0 + i * 3) news).length = cap * 3 := by rw [over_len (by simpa using hfit)]; simp [hcs]
  have hfin : RowAt (W1.setCells b (k * 3) [.int .i64 0, .slice none 0 0, .slice none 0 0]) b 86 3 k cap ((xs.eraseIdx i).flatMap Nd.cs) := by
    refine RowAt.of_blk (Blk.setCells hb1 (by rw [hsz1]; simpa using hkc)) (by omega) hcm ?_ ?_
    · show (over (over cs.toList (0 + i * 3) news) (k * 3) [.int .i64 0, .slice none 0 0, .slice none 0 0]).length = cap * 3
      rw [over_len (by rw [hL, ← hcs]; exact hkc), hL]
    · have e1 : (over (over cs.toList (0 + i * 3) news) (k * 3) [.int .i64 0, .slice none 0 0, .slice none 0 0]).take (k * 3) = (over cs.toList (0 + i * 3) news).take (k * 3) := by
        unfold over
        rw [List.append_assoc, List.take_append_of_le_length (by simp; omega), List.take_take]
        simp
      have e2 : (over cs.toList (0 + i * 3) news).take (k * 3) = cs.toList.take (i * 3) ++ news := by
        unfold over
        rw [Nat.zero_add]
        have hle : i * 3 + news.length = k * 3 := by rw [hlen, ← Nat.add_mul]; congr 1; omega
        rw [List.take_append_of_le_length (by simp; omega), List.take_of_length_le (by simp; omega)]
      have e3 : cs.toList.take (i * 3) = (xs.take i).flatMap Nd.cs := by
        have : cs.toList.take (i * 3) = (cs.toList.take ((k + 1) * 3)).take (i * 3) := by rw [List.take_take]; congr 1; omega
        rw [this, htk]
        conv => lhs; rw [← List.take_append_drop i xs, List.flatMap_append]
        rw [List.take_append_of_le_length (by rw [flat_len nd_len, List.length_take, hk, Nat.min_eq_left (by omega)]; exact Nat.le_refl _), List.take_of_length_le (by rw [flat_len nd_len, List.length_take, hk, Nat.min_eq_left (by omega)]; exact Nat.le_refl _)]
      simp only [List.toList_toArray] at *
      rw [e1, e2, e3, hnews, ← List.flatMap_append, ← List.eraseIdx_eq_take_drop_succ]
  have hfr : Frame [b] w (W1.setCells b (k * 3) [.int .i64 0, .slice none 0 0, .slice none 0 0]) := by rw [hW1]; exact ((Frame.drew _ _).trans1 (Frame.setCells _ _ _ _)).trans1 (Frame.setCells _ _ _ _)
  have FIN := Lib.hid (And.intro hfin hfr)
  have hW : Hid (W1 = w.drew.setCells b (0 + i * 3) news) := hW1
  obtain ⟨i0, g2, g3, g4, g5⟩ := info_parts infoNode
  have I2 := Lib.hid g2
  have I4 := Lib.hid g4
  have hic : i ≤ cap := by omega
  have hp : (0 : Int) ≤ (i : Int) + 1 := by omega
  clear hL hW1 hfin hfr hb1 hsz1 hkc hfit hread hsplit hl1 hlen htk hcs hcm hb h hnews g2 g3 g4 g5 hk
  go_enter Try.func74, Try.ntmps74
  go_wp2_with fail
  go_region_law (refine step_append_room rfl (.tmp 22) (.tmp 25) 52 rfl 86 i0 3 Try.underlying52 I2.out I4.out b 0 i cap (by simp [Act.eval, Act.put]) A (k - i) (cap - (i + 1)) news (by simp [Act.eval, Act.put]) s1.out hsrc.out s2.out (by omega) s3.out ?_; rw [← hW.out, show i + (k - i) = k by omega])
  go_wp2_with fail
  go_ret
  exact ⟨rfl, FIN.out.1, FIN.out.2⟩
end Go.Proofs.Ytolkmapdbilolaa

namespace Go.Proofs.Ytolkmapdbilolaa
open Go.RowKit
set_option linter.unusedSimpArgs false
set_option linter.unusedVariables false

/-- The graph at block pb; F: its blocks (but those of labels and properties). -/
def GSt (w : World) (pb : Nat) (F : List Nat) (ns : List Nd) (es : List Ed) (given : Int) : Prop :=
  ∃ an nc ae ec G H, Blk w pb 59 #[.slice an ns.length nc, .slice ae es.length ec, .int .i64 given] ∧ Sl w 86 3 Nd.cs (.slice an ns.length nc) ns G ∧ Sl w 49 4 Ed.cs (.slice ae es.length ec) es H ∧
    pb ∉ G ∧ pb ∉ H ∧ (∀ x ∈ G, x ∉ H) ∧ F = pb :: (G ++ H)
theorem GSt.lt {w : World} {pb : Nat} {F : List Nat} {ns : List Nd} {es : List Ed} {given : Int} (h : GSt w pb F ns es given) : ∀ x ∈ F, x < w.heap.size := by
  obtain ⟨an, nc, ae, ec, G, H, hb, sn, se, _, _, _, rfl⟩ := h
  intro x hx
  simp at hx
  rcases hx with rfl | h | h
  · exact hb.lt
  · exact sn.lt x h
  · exact se.lt x h
theorem GSt.frame {w w' : World} {pb : Nat} {F S : List Nat} {ns : List Nd} {es : List Ed} {given : Int} (h : GSt w pb F ns es given) (f : Frame S w w') (hS : ∀ x ∈ F, x ∉ S) : GSt w' pb F ns es given := by
  obtain ⟨an, nc, ae, ec, G, H, hb, sn, se, n1, n2, n3, rfl⟩ := h
  exact ⟨an, nc, ae, ec, G, H, hb.frame f (hS _ (by simp)), sn.frame f (fun x hx => hS x (by simp [hx])), se.frame f (fun x hx => hS x (by simp [hx])), n1, n2, n3, rfl⟩
theorem GSt.frame0 {w w' : World} {pb : Nat} {F : List Nat} {ns : List Nd} {es : List Ed} {given : Int} (h : GSt w pb F ns es given) (f : Frame [] w w') : GSt w' pb F ns es given := h.frame f (by simp)
/-- Behind a call that may write the graph. -/
def GEnd (w : World) (pb : Nat) (F : List Nat) (ns : List Nd) (es : List Ed) (given : Int) (w' : World) : Prop :=
  ∃ F', GSt w' pb F' ns es given ∧ Frame F w w' ∧ ∀ x ∈ F', x ∈ F ∨ w.heap.size ≤ x

theorem gnew_any (w : World) : Calls Try.prog 27 #[] w fun e w' => ∃ pb, e = .returned (.pointer (some ⟨pb, 0, none⟩)) ∧ GSt w' pb [pb] [] [] 0 ∧ Frame [] w w' ∧ w.heap.size ≤ pb := by
  go_enter Try.func27, Try.ntmps27
  go_wp2
  go_ret
  exact ⟨_, rfl, ⟨none, 0, none, 0, [], [], Blk.new _ _ _, Sl.nil _ _ _ _, Sl.nil _ _ _ _, by simp, by simp, by simp, by simp⟩, Frame.alloc _ _ _, Nat.le_refl _⟩

section
variable {w : World} {pb : Nat} {F : List Nat} {ns : List Nd} {es : List Ed} {given : Int}
theorem gfind_any (h : GSt w pb F ns es given) (hu : Up (ns.map (·.id))) (hn : ns.length ≤ 1000000) (t : Int) :
    Calls Try.prog 64 #[.pointer (some ⟨pb, 0, none⟩), .int .i64 t] w fun e w' => e = .returned (.tuple #[.int .i64 (rank (ns.map (·.id)) t), .bool (decide (t ∈ ns.map (·.id)))]) ∧ Frame [] w w' := by
  obtain ⟨an, nc, ae, ec, G, H, hb, sn, se, n1, n2, n3, rfl⟩ := h
  have c0 := hb.at 0 rfl
  have hc := bsf_node an nc ns G t w sn hu (by omega)
  generalize rank (ns.map (·.id)) t = r at *
  generalize decide (t ∈ ns.map (·.id)) = d at *
  have HC := Lib.hid hc
  clear hc hb sn se n1 n2 n3 hu
  go_enter Try.func64, Try.ntmps64
  go_wp2_with fail
  refine HC.out.mono ?_
  rintro e w3 ⟨rfl, f3⟩
  have F3 := Lib.hid f3
  clear f3
  go_wp2_with fail
  go_ret2
  exact ⟨rfl, F3.out⟩
theorem gplace_any (h : GSt w pb F ns es given) (hu : Up (es.map (·.tok))) (hn : es.length ≤ 1000000) (t : Int) :
    Calls Try.prog 68 #[.pointer (some ⟨pb, 0, none⟩), .int .i64 t] w fun e w' => e = .returned (.tuple #[.int .i64 (rank (es.map (·.tok)) t), .bool (decide (t ∈ es.map (·.tok)))]) ∧ Frame [] w w' := by
  obtain ⟨an, nc, ae, ec, G, H, hb, sn, se, n1, n2, n3, rfl⟩ := h
  have c1 := hb.at 1 rfl
  have hc := bsf_edge ae ec es H t w se hu (by omega)
  generalize rank (es.map (·.tok)) t = r at *
  generalize decide (t ∈ es.map (·.tok)) = d at *
  have HC := Lib.hid hc
  clear hc hb sn se n1 n2 n3 hu
  go_enter Try.func68, Try.ntmps68
  go_wp2_with fail
  refine HC.out.mono ?_
  rintro e w3 ⟨rfl, f3⟩
  have F3 := Lib.hid f3
  clear f3
  go_wp2_with fail
  go_ret2
  exact ⟨rfl, F3.out⟩
theorem ghas_any (h : GSt w pb F ns es given) (hu : Up (ns.map (·.id))) (hn : ns.length ≤ 1000000) (t : Int) :
    Calls Try.prog 67 #[.pointer (some ⟨pb, 0, none⟩), .int .i64 t] w fun e w' => e = .returned (.bool (decide (t ∈ ns.map (·.id)))) ∧ Frame [] w w' := by
  have hc := gfind_any h hu hn t
  generalize rank (ns.map (·.id)) t = r at *
  generalize decide (t ∈ ns.map (·.id)) = d at *
  have HC := Lib.hid hc
  clear hc h hu
  go_enter Try.func67, Try.ntmps67
  go_wp2_with fail
  refine HC.out.mono ?_
  rintro e w3 ⟨rfl, f3⟩
  have F3 := Lib.hid f3
  clear f3
  go_wp2_with fail
  go_ret
  exact ⟨rfl, F3.out⟩
end
/-- May a name be? -/
def namedB (s : ByteArray) : Bool := decide (0 < s.size) && decide (s.size ≤ 20)
theorem named_any (s : ByteArray) (w : World) (hs : s.size ≤ 9223372036854775807) : Calls Try.prog 66 #[.string s] w fun e w' => e = .returned (.bool (namedB s)) ∧ w' = w := by
  by_cases h0 : 0 < s.size
  · by_cases h1 : s.size ≤ 20
    · have e : namedB s = true := by simp [namedB, h0, h1]
      rw [e]
      clear e
      go_enter Try.func66, Try.ntmps66
      go_wp2
      go_ret
      exact ⟨by simp; omega, rfl⟩
    · have e : namedB s = false := by simp [namedB, h0, h1]
      rw [e]
      clear e
      go_enter Try.func66, Try.ntmps66
      go_wp2
      go_ret
      exact ⟨by simp; omega, rfl⟩
  · have e : namedB s = false := by simp [namedB, h0]
    have e0 : s.size = 0 := by omega
    rw [e]
    clear e
    go_enter Try.func66, Try.ntmps66
    go_wp2
    go_ret
    exact ⟨rfl, rfl⟩
end Go.Proofs.Ytolkmapdbilolaa

namespace Go.Proofs.Ytolkmapdbilolaa
open Go.RowKit
set_option linter.unusedSimpArgs false
set_option linter.unusedVariables false
section
variable {w : World} {pb : Nat} {F : List Nat} {ns : List Nd} {es : List Ed} {given : Int}

theorem addNode_dup (h : GSt w pb F ns es given) (hu : Up (ns.map (·.id))) (hn : ns.length ≤ 1000000) (t : Int) (h1 : 1 ≤ t) (h2 : t ≤ 1000) (hm : t ∈ ns.map (·.id)) :
    Calls Try.prog 28 #[.pointer (some ⟨pb, 0, none⟩), .int .i64 t] w fun e w' => e = .returned (.int .i64 7) ∧ Frame [] w w' := by
  have hc := gfind_any h hu hn t
  rw [decide_eq_true hm] at hc
  generalize rank (ns.map (·.id)) t = r at *
  have HC := Lib.hid hc
  clear hc h hu hm
  have h3 : ¬ t < 1 := by omega
  have h4 : ¬ t > 1000 := by omega
  go_enter Try.func28, Try.ntmps28
  go_wp2_with fail
  refine HC.out.mono ?_
  rintro e w3 ⟨rfl, f3⟩
  have F3 := Lib.hid f3
  clear f3
  go_wp2_with fail
  go_ret
  exact ⟨rfl, F3.out⟩

theorem addNode_new (h : GSt w pb F ns es given) (hu : Up (ns.map (·.id))) (hn : ns.length < 12) (t : Int) (h1 : 1 ≤ t) (h2 : t ≤ 1000) (hm : t ∉ ns.map (·.id)) :
    Calls Try.prog 28 #[.pointer (some ⟨pb, 0, none⟩), .int .i64 t] w fun e w' => e = .returned (.int .i64 0) ∧ GEnd w pb F (ns.take (rank (ns.map (·.id)) t) ++ ⟨t, none, 0, 0, none, 0, 0⟩ :: ns.drop (rank (ns.map (·.id)) t)) es given w' := by
  have hc := gfind_any h hu (by omega) t
  rw [decide_eq_false hm] at hc
  have hrk := rank_le (ns.map (·.id)) t
  rw [List.length_map] at hrk
  generalize rank (ns.map (·.id)) t = r at *
  obtain ⟨an, nc, ae, ec, G, H, hb, sn, se, n1, n2, n3, rfl⟩ := h
  have HC := Lib.hid hc
  have A := Lib.hid (And.intro hb (And.intro sn (And.intro se (And.intro n1 (And.intro n2 n3)))))
  clear hc hu hm hb sn se n1 n2 n3
  have h3 : ¬ t < 1 := by omega
  have h4 : ¬ t > 1000 := by omega
  go_enter Try.func28, Try.ntmps28
  go_wp2_with fail
  refine HC.out.mono ?_
  rintro e w3 ⟨rfl, f3⟩
  have hb3 := A.out.1.frame f3 (by simp)
  have c0 := hb3.at 0 rfl
  have F3 := Lib.hid f3
  have HB3 := Lib.hid hb3
  clear f3 hb3
  go_wp2_with fail
  refine (ins_node_any (.slice an ns.length nc) ns ⟨t, none, 0, 0, none, 0, 0⟩ G _ r _ ((A.out.2.1.frame0 F3.out).frame0 (Frame.alloc _ _ _)) (Blk.new _ _ _) (fun h => by have := (A.out.2.1.frame0 F3.out).lt _ h; omega) (by omega) hrk).mono ?_
  rintro e w4 ⟨b', cap', rfl, sl4, f4, hb4⟩
  have hb5 := (HB3.out.alloc _).frame f4 A.out.2.2.2.1
  have q0 := hb5.at 0 rfl
  have q1 := hb5.frozen 0
  have X := Lib.hid (And.intro sl4 (And.intro f4 (And.intro hb4 hb5)))
  clear sl4 f4 hb4 hb5 c0
  go_wp2_with fail
  go_ret
  have hz3 := F3.out.size
  have fw : Frame (pb :: (G ++ H)) w w4 := (F3.out.mono (S' := pb :: (G ++ H)) (by simp)).trans1 (((Frame.alloc (pb :: (G ++ H)) w3 _).trans1 (X.out.2.1.mono (fun x hx => .inl (by simp [hx])))))
  have hpb : pb ≠ b' := by
    rcases X.out.2.2.1 with h | h
    · intro e; subst e; exact A.out.2.2.2.1 h
    · have := HB3.out.lt; simp at h; omega
  have hlen : (ns.take r ++ (⟨t, none, 0, 0, none, 0, 0⟩ : Nd) :: ns.drop r).length = ns.length + 1 := by simp; omega
  refine ⟨rfl, pb :: ([b'] ++ H), ⟨some ⟨b', 0, none⟩, cap', ae, ec, [b'], H, ?_, ?_, ?_, ?_, A.out.2.2.2.2.1, ?_, rfl⟩, fw.trans1 (Frame.setCell (S := pb :: (G ++ H)) w4 _ _ (by simp)), ?_⟩
  · rw [hlen]
    have := X.out.2.2.2.set 0 (.slice (some ⟨b', 0, none⟩) (ns.length + 1) cap')
    simpa using this
  · have := X.out.1.frame (S := [pb]) (Frame.setCell w4 ⟨pb, 0, none⟩ (.slice (some ⟨b', 0, none⟩) (ns.length + 1) cap') (by simp)) (by simp; exact fun e => hpb e.symm)
    rw [hlen]
    exact this
  · have hH : ∀ x ∈ H, x ∉ G := fun x hx hg => A.out.2.2.2.2.2 x hg hx
    have s4 : Sl w4 49 4 Ed.cs (.slice ae es.length ec) es H := ((A.out.2.2.1.frame0 F3.out).frame0 (Frame.alloc _ _ _)).frame X.out.2.1 hH
    exact s4.frame (S := [pb]) (Frame.setCell w4 ⟨pb, 0, none⟩ _ (by simp)) (by simp; intro x hx e; subst e; exact A.out.2.2.2.2.1 hx)
  · simpa using hpb
  · intro x hx
    simp at hx; subst hx
    rcases X.out.2.2.1 with h | h
    · exact A.out.2.2.2.2.2 _ h
    · intro hh
      have := (A.out.2.2.1.frame0 F3.out).lt _ hh
      simp at h; omega
  · intro x hx
    simp at hx ⊢
    rcases hx with h | h | h
    · exact .inl (.inl h)
    · subst h
      rcases X.out.2.2.1 with h | h
      · exact .inl (.inr (.inl h))
      · right; simp at h; omega
    · exact .inl (.inr (.inr h))

theorem addNode_end (h : GSt w pb F ns es given) (hu : Up (ns.map (·.id))) (hn : ns.length < 12) (t : Int) (h1 : 1 ≤ t) (h2 : t ≤ 1000) (hm : t ∉ ns.map (·.id)) (hr : rank (ns.map (·.id)) t = ns.length) :
    Calls Try.prog 28 #[.pointer (some ⟨pb, 0, none⟩), .int .i64 t] w fun e w' => e = .returned (.int .i64 0) ∧ GEnd w pb F (ns ++ [⟨t, none, 0, 0, none, 0, 0⟩]) es given w' := by
  have := addNode_new h hu hn t h1 h2 hm
  rw [hr, List.take_of_length_le (Nat.le_refl _), List.drop_of_length_le (Nat.le_refl _)] at this
  exact this

theorem addNode_arg (h : GSt w pb F ns es given) (hu : Up (ns.map (·.id))) (hn : ns.length ≤ 1000000) (t : Int) (h1 : t < 1 ∨ 1000 < t) :
    Calls Try.prog 28 #[.pointer (some ⟨pb, 0, none⟩), .int .i64 t] w fun e w' => e = .returned (.int .i64 1) ∧ Frame [] w w' := by
  have hc := gfind_any h hu hn t
  generalize rank (ns.map (·.id)) t = r at *
  generalize decide (t ∈ ns.map (·.id)) = d at *
  have HC := Lib.hid hc
  clear hc h hu
  rcases (by omega : t < 1 ∨ (¬ t < 1 ∧ t > 1000)) with h3 | ⟨h3, h4⟩
  · go_enter Try.func28, Try.ntmps28
    go_wp2_with fail
    refine HC.out.mono ?_
    rintro e w3 ⟨rfl, f3⟩
    have F3 := Lib.hid f3
    clear f3
    go_wp2_with fail
    go_ret
    exact ⟨rfl, F3.out⟩
  · go_enter Try.func28, Try.ntmps28
    go_wp2_with fail
    refine HC.out.mono ?_
    rintro e w3 ⟨rfl, f3⟩
    have F3 := Lib.hid f3
    clear f3
    go_wp2_with fail
    go_ret
    exact ⟨rfl, F3.out⟩

theorem addNode_full (h : GSt w pb F ns es given) (hu : Up (ns.map (·.id))) (hn : 12 ≤ ns.length) (hl : ns.length ≤ 1000000) (t : Int) (h1 : 1 ≤ t) (h2 : t ≤ 1000) (hm : t ∉ ns.map (·.id)) :
    Calls Try.prog 28 #[.pointer (some ⟨pb, 0, none⟩), .int .i64 t] w fun e w' => e = .returned (.int .i64 5) ∧ Frame [] w w' := by
  have hc := gfind_any h hu hl t
  rw [decide_eq_false hm] at hc
  generalize rank (ns.map (·.id)) t = r at *
  obtain ⟨an, nc, ae, ec, G, H, hb, sn, se, n1, n2, n3, rfl⟩ := h
  have HC := Lib.hid hc
  have A := Lib.hid hb
  clear hc hu hm hb sn se n1 n2 n3
  have h3 : ¬ t < 1 := by omega
  have h4 : ¬ t > 1000 := by omega
  go_enter Try.func28, Try.ntmps28
  go_wp2_with fail
  refine HC.out.mono ?_
  rintro e w3 ⟨rfl, f3⟩
  have c0 := (A.out.frame f3 (by simp)).at 0 rfl
  have F3 := Lib.hid f3
  clear f3
  go_wp2_with fail
  go_ret
  exact ⟨rfl, F3.out⟩
end
end Go.Proofs.Ytolkmapdbilolaa

