/- A graph's calls: Add at a full graph, Drop, Edge. -/
import Derived.Test.YtolkmapdbilolaaGst
import Derived.Test.YtolkmapdbilolaaDel
namespace Go.Proofs.Ytolkmapdbilolaa
open Go.RowKit
set_option linter.unusedSimpArgs false
set_option linter.unusedVariables false
section
variable {w : World} {pb : Nat} {F : List Nat} {ns : List Nd} {es : List Ed} {given : Int}

theorem gadd_full (h : GSt w pb F ns es given) (hu : Up (ns.map (·.id))) (hn : ns.length ≤ 1000000) (he : 60 ≤ es.length) (hle : es.length ≤ 1000000) (x y : Int) (s : ByteArray) (hs : namedB s = true) (hx : x ∈ ns.map (·.id)) (hy : y ∈ ns.map (·.id)) :
    Calls Try.prog 29 #[.pointer (some ⟨pb, 0, none⟩), .int .i64 x, .string s, .int .i64 y] w fun e w' => e = .returned (.tuple #[.int .i64 0, .int .i64 5]) ∧ Frame [] w w' := by
  have hcx := ghas_any h hu hn x
  rw [decide_eq_true hx] at hcx
  have hcy := fun w' (f : Frame [] w w') => ghas_any (h.frame0 f) hu hn y
  rw [decide_eq_true hy] at hcy
  have hnm := named_any s w (by simp [namedB] at hs; omega)
  rw [hs] at hnm
  obtain ⟨an, nc, ae, ec, G, H, hb, sn, se, n1, n2, n3, rfl⟩ := h
  have HX := Lib.hid hcx
  have HY := Lib.hid hcy
  have HN := Lib.hid hnm
  have A := Lib.hid hb
  clear hcx hcy hnm hb sn se n1 n2 n3 hu hx hy hs
  go_enter Try.func29, Try.ntmps29
  go_wp2_with fail
  refine HN.out.mono ?_
  rintro e w ⟨rfl, rfl⟩
  go_wp2_with fail
  refine HX.out.mono ?_
  rintro e w2 ⟨rfl, f2⟩
  have F2 := Lib.hid f2
  clear f2
  go_wp2_with fail
  refine (HY.out _ F2.out).mono ?_
  rintro e w3 ⟨rfl, f3⟩
  have F3 := Lib.hid (F2.out.trans1 f3)
  clear f3 F2
  have hb3 := A.out.frame F3.out (by simp)
  have c1 := hb3.at 1 rfl
  have hl : (60 : Int) ≤ es.length := by omega
  clear hb3
  go_wp2_with fail
  go_ret2
  exact ⟨rfl, F3.out⟩

theorem gdrop_none (h : GSt w pb F ns es given) (hu : Up (es.map (·.tok))) (hn : es.length ≤ 1000000) (t : Int) (ht : t ∉ es.map (·.tok)) :
    Calls Try.prog 31 #[.pointer (some ⟨pb, 0, none⟩), .int .i64 t] w fun e w' => e = .returned (.int .i64 8) ∧ Frame [] w w' := by
  have hc := gplace_any h hu hn t
  rw [decide_eq_false ht] at hc
  generalize rank (es.map (·.tok)) t = r at *
  have HC := Lib.hid hc
  clear hc h hu ht
  go_enter Try.func31, Try.ntmps31
  go_wp2_with fail
  refine HC.out.mono ?_
  rintro e w3 ⟨rfl, f3⟩
  have F3 := Lib.hid f3
  clear f3
  go_wp2_with fail
  go_ret
  exact ⟨rfl, F3.out⟩

theorem rank_lt {ks : List Int} {t : Int} (hu : Up ks) (ht : t ∈ ks) : rank ks t < ks.length ∧ ks[rank ks t]? = some t := by
  obtain ⟨i, hi, he⟩ := List.getElem_of_mem ht
  have : rank ks t = i := rank_of (by omega) (fun j hj h => by rw [← he]; exact (List.pairwise_iff_getElem.1 hu) j i hj hi h) (fun j hj h => by
    rcases Nat.lt_or_ge i j with q | q
    · have := (List.pairwise_iff_getElem.1 hu) i j hi hj q; omega
    · obtain rfl : i = j := by omega
      omega)
  rw [this]
  exact ⟨hi, by rw [List.getElem?_eq_getElem hi, he]⟩

theorem gdrop_ok (h : GSt w pb F ns es given) (hu : Up (es.map (·.tok))) (hn : es.length ≤ 1000000) (t : Int) (ht : t ∈ es.map (·.tok)) :
    Calls Try.prog 31 #[.pointer (some ⟨pb, 0, none⟩), .int .i64 t] w fun e w' => e = .returned (.int .i64 0) ∧ GEnd w pb F ns (es.eraseIdx (rank (es.map (·.tok)) t)) given w' := by
  have hc := gplace_any h hu hn t
  rw [decide_eq_true ht] at hc
  have hr := (rank_lt hu ht).1
  rw [List.length_map] at hr
  generalize rank (es.map (·.tok)) t = r at *
  obtain ⟨an, nc, ae, ec, G, H, hb, sn, se, n1, n2, n3, rfl⟩ := h
  obtain ⟨k, hk⟩ : ∃ k, es.length = k + 1 := ⟨es.length - 1, by omega⟩
  rcases id se with ⟨_, h0, _⟩ | ⟨b, cap, hv, rfl, hrow⟩
  · subst h0; simp at hk
  injection hv with hv1 _ hv2
  subst hv1 hv2
  have hlen : (es.eraseIdx r).length = k := by rw [List.length_eraseIdx, if_pos hr, hk]; rfl
  rw [hk] at hb se
  have HC := Lib.hid hc
  have A := Lib.hid (And.intro hb (And.intro sn (And.intro hrow (And.intro n1 (And.intro n2 n3)))))
  have HK := Lib.hid hk
  have HL := Lib.hid hlen
  clear hc hb sn se hrow n1 n2 n3 hk hlen hu ht
  go_enter Try.func31, Try.ntmps31
  go_wp2_with fail
  refine HC.out.mono ?_
  rintro e w3 ⟨rfl, f3⟩
  have F3 := Lib.hid f3
  clear f3
  have hb3 := A.out.1.frame F3.out (by simp)
  have c1 := hb3.at 1 rfl
  have HB3 := Lib.hid hb3
  clear hb3
  go_wp2_with fail
  refine (del_edge b ec k r es w3 (by have := A.out.2.2.1.frame F3.out (by simp); rw [HK.out] at this; exact this) HK.out (by have := HK.out; omega)).mono ?_
  rintro e w4 ⟨rfl, hr4, f4⟩
  have hpb : pb ≠ b := by have := A.out.2.2.2.2.1; simpa using this
  have hb4 := HB3.out.frame f4 (by simpa using hpb)
  have z1 := hb4.frozen 1
  have q1 := hb4.at 1 rfl
  have X := Lib.hid (And.intro hb4 (And.intro hr4 f4))
  clear hb4 hr4 f4 c1
  go_wp2_with fail
  go_ret
  have fw : Frame (pb :: (G ++ [b])) w w4 := (F3.out.mono (S' := pb :: (G ++ [b])) (by simp)).trans1 (X.out.2.2.mono (by simp))
  refine ⟨rfl, pb :: (G ++ [b]), ⟨an, nc, some ⟨b, 0, none⟩, ec, G, [b], ?_, ?_, ?_, A.out.2.2.2.1, A.out.2.2.2.2.1, A.out.2.2.2.2.2, rfl⟩, fw.trans1 (Frame.setCell (S := pb :: (G ++ [b])) w4 _ _ (by simp)), fun x hx => .inl hx⟩
  · rw [HL.out]
    have := X.out.1.set 1 (.slice (some ⟨b, 0, none⟩) k ec)
    simpa using this
  · have s4 := (A.out.2.1.frame0 F3.out).frame X.out.2.2 (fun x hx hm => A.out.2.2.2.2.2 x hx hm)
    exact s4.frame (S := [pb]) (Frame.setCell w4 ⟨pb, 1, none⟩ _ (by simp)) (by simp; intro x hx e; subst e; exact A.out.2.2.2.1 hx)
  · rw [HL.out]
    refine .inr ⟨b, ec, by rw [HL.out], rfl, ?_⟩
    rw [HL.out]
    exact RowAt.set_ne X.out.2.1 _ (fun e => hpb e.symm)

/-- The edge that Edge tells. -/
def edgeOf (es : List Ed) (t : Int) : Ed × Bool := if t ∈ es.map (·.tok) then ((es[rank (es.map (·.tok)) t]?).getD ⟨0, 0, ⟨#[]⟩, 0⟩, true) else (⟨0, 0, ⟨#[]⟩, 0⟩, false)
theorem gedge_any (h : GSt w pb F ns es given) (hu : Up (es.map (·.tok))) (hn : es.length ≤ 1000000) (t : Int) :
    Calls Try.prog 30 #[.pointer (some ⟨pb, 0, none⟩), .int .i64 t] w fun e w' => e = .returned (.tuple #[.agg #[.int .i64 (edgeOf es t).1.tok, .int .i64 (edgeOf es t).1.src, .string (edgeOf es t).1.lab, .int .i64 (edgeOf es t).1.dst], .bool (edgeOf es t).2]) ∧ Frame [] w w' := by
  have hc := fun w' (f : Frame [] w w') => gplace_any (h.frame0 f) hu hn t
  by_cases ht : t ∈ es.map (·.tok)
  · rw [decide_eq_true ht] at hc
    have hr := (rank_lt hu ht).1
    rw [List.length_map] at hr
    have he : edgeOf es t = (es[rank (es.map (·.tok)) t], true) := by simp only [edgeOf, if_pos ht]; rw [List.getElem?_eq_getElem hr]; rfl
    rw [he]
    clear he ht
    generalize rank (es.map (·.tok)) t = r at *
    obtain ⟨an, nc, ae, ec, G, H, hb, sn, se, n1, n2, n3, rfl⟩ := h
    have A := Lib.hid (And.intro hb (And.intro se n2))
    have hx : es[r]? = some es[r] := List.getElem?_eq_getElem hr
    have HX := Lib.hid hx
    have HC := Lib.hid hc
    clear hc hb sn se n1 n2 n3 hu hx
    generalize es[r] = x at *
    go_enter Try.func30, Try.ntmps30
    go_wp2_with fail
    have fr : Frame [] w (w.alloc (.cells #[.int .i64 0, .int .i64 0, .string ⟨#[]⟩, .int .i64 0] 49)) := Frame.alloc _ _ _
    have bz := Blk.new w 49 #[.int .i64 0, .int .i64 0, .string ⟨#[]⟩, .int .i64 0]
    refine (HC.out _ fr).mono ?_
    rintro e w3 ⟨rfl, f3⟩
    have ft := fr.trans1 f3
    have bz1 := bz.frame f3 (by simp)
    have hb3 := A.out.1.frame ft (by simp)
    have c1 := hb3.at 1 rfl
    obtain ⟨b, cap, hv, _, _, hcells⟩ := (A.out.2.1.frame0 ft).cell ed_len HX.out
    injection hv with hv1 _ hv2
    subst hv1 hv2
    have d0 := hcells 0 _ rfl
    have d1 := hcells 1 _ rfl
    have d2 := hcells 2 _ rfl
    have d3 := hcells 3 _ rfl
    simp only [Nat.add_zero] at d0
    have z0 := bz1.at 0 rfl
    have z1 := bz1.at 1 rfl
    have z2 := bz1.at 2 rfl
    have z3 := bz1.at 3 rfl
    have y0 := bz1.frozen 0
    have y1 := bz1.frozen 1
    have y2 := bz1.frozen 2
    have y3 := bz1.frozen 3
    have B := Lib.hid bz1
    have FT := Lib.hid ft
    clear hcells hb3 bz bz1 ft f3 fr
    go_wp2_with fail
    have hz := B.out.lt
    refine bodyPost_ret (v := .tuple #[.agg #[.int .i64 x.tok, .int .i64 x.src, .string x.lab, .int .i64 x.dst], .bool true]) ?_ rfl ⟨rfl, ?_⟩
    · have b3 := (((B.out.set 0 (.int .i64 x.tok)).set 1 (.int .i64 x.src)).set 2 (.string x.lab)).set 3 (.int .i64 x.dst)
      have x0 := b3.at 0 rfl
      have x1 := b3.at 1 rfl
      have x2 := b3.at 2 rfl
      have x3 := b3.at 3 rfl
      simp [results, Try.results30, go_sem, x0, x1, x2, x3]
    · exact (((FT.out.trans (Frame.setCell (S := [w.heap.size]) _ _ _ (by simp)) (by simp)).trans (Frame.setCell (S := [w.heap.size]) _ _ _ (by simp)) (by simp)).trans (Frame.setCell (S := [w.heap.size]) _ _ _ (by simp)) (by simp)).trans (Frame.setCell (S := [w.heap.size]) _ _ _ (by simp)) (by simp)
  · rw [decide_eq_false ht] at hc
    have he : edgeOf es t = (⟨0, 0, ⟨#[]⟩, 0⟩, false) := by simp only [edgeOf, if_neg ht]
    rw [he]
    clear he ht
    generalize rank (es.map (·.tok)) t = r at *
    have HC := Lib.hid hc
    clear hc h hu
    go_enter Try.func30, Try.ntmps30
    go_wp2_with fail
    have fr : Frame [] w (w.alloc (.cells #[.int .i64 0, .int .i64 0, .string ⟨#[]⟩, .int .i64 0] 49)) := Frame.alloc _ _ _
    have bz := Blk.new w 49 #[.int .i64 0, .int .i64 0, .string ⟨#[]⟩, .int .i64 0]
    refine (HC.out _ fr).mono ?_
    rintro e w3 ⟨rfl, f3⟩
    have ft := fr.trans1 f3
    have bz1 := bz.frame f3 (by simp)
    have z0 := bz1.at 0 rfl
    have z1 := bz1.at 1 rfl
    have z2 := bz1.at 2 rfl
    have z3 := bz1.at 3 rfl
    have y0 := bz1.frozen 0
    have y1 := bz1.frozen 1
    have y2 := bz1.frozen 2
    have y3 := bz1.frozen 3
    have B := Lib.hid bz1
    have FT := Lib.hid ft
    clear bz bz1 ft f3 fr
    go_wp2_with fail
    refine bodyPost_ret (v := .tuple #[.agg #[.int .i64 0, .int .i64 0, .string ⟨#[]⟩, .int .i64 0], .bool false]) ?_ rfl ⟨rfl, ?_⟩
    · have b3 := (((B.out.set 0 (.int .i64 0)).set 1 (.int .i64 0)).set 2 (.string ⟨#[]⟩)).set 3 (.int .i64 0)
      have x0 := b3.at 0 rfl
      have x1 := b3.at 1 rfl
      have x2 := b3.at 2 rfl
      have x3 := b3.at 3 rfl
      simp [results, Try.results30, go_sem, x0, x1, x2, x3]
    · exact (((FT.out.trans (Frame.setCell (S := [w.heap.size]) _ _ _ (by simp)) (by simp)).trans (Frame.setCell (S := [w.heap.size]) _ _ _ (by simp)) (by simp)).trans (Frame.setCell (S := [w.heap.size]) _ _ _ (by simp)) (by simp)).trans (Frame.setCell (S := [w.heap.size]) _ _ _ (by simp)) (by simp)
end
end Go.Proofs.Ytolkmapdbilolaa
