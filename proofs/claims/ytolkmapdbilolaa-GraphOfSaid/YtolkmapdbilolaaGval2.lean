/- A graph's calls by values: Add, Drop. -/
import Derived.Test.YtolkmapdbilolaaGval
namespace Go.Proofs.Ytolkmapdbilolaa
open Go.RowKit
set_option linter.unusedSimpArgs false
set_option linter.unusedVariables false
section
variable {w : World} {pb : Nat} {F : List Nat} {ns : List Nd} {es : List Ed} {given : Int}
theorem gadd_name (x y : Int) (s : ByteArray) (hs : namedB s = false) (hl : s.size ≤ 9223372036854775807) :
    Calls Try.prog 29 #[.pointer (some ⟨pb, 0, none⟩), .int .i64 x, .string s, .int .i64 y] w fun e w' => e = .returned (.tuple #[.int .i64 0, .int .i64 2]) ∧ Frame [] w w' := by
  have HN := Lib.hid (named_any s w hl)
  have HS := Lib.hid hs
  clear hs
  go_enter Try.func29, Try.ntmps29
  go_wp2_with fail
  refine HN.out.mono ?_
  rintro e w' ⟨rfl, rfl⟩
  rw [HS.out]
  go_wp2_with fail
  go_ret2
  exact ⟨rfl, Frame.refl _ _⟩
theorem gadd_nof (h : GSt w pb F ns es given) (hu : Up (ns.map (·.id))) (hn : ns.length ≤ 1000000) (x y : Int) (s : ByteArray) (hs : namedB s = true) (hx : x ∉ ns.map (·.id)) :
    Calls Try.prog 29 #[.pointer (some ⟨pb, 0, none⟩), .int .i64 x, .string s, .int .i64 y] w fun e w' => e = .returned (.tuple #[.int .i64 0, .int .i64 7]) ∧ Frame [] w w' := by
  have hcx := ghas_any h hu hn x
  rw [decide_eq_false hx] at hcx
  have hnm := named_any s w (by simp [namedB] at hs; omega)
  rw [hs] at hnm
  have HX := Lib.hid hcx
  have HN := Lib.hid hnm
  clear hcx hnm h hu hx hs
  go_enter Try.func29, Try.ntmps29
  go_wp2_with fail
  refine HN.out.mono ?_
  rintro e w ⟨rfl, rfl⟩
  go_wp2_with fail
  refine HX.out.mono ?_
  rintro e w2 ⟨rfl, f2⟩
  have F2 := Lib.hid f2
  clear f2
  go_wp2_with fail
  go_ret2
  exact ⟨rfl, F2.out⟩
theorem gadd_noto (h : GSt w pb F ns es given) (hu : Up (ns.map (·.id))) (hn : ns.length ≤ 1000000) (x y : Int) (s : ByteArray) (hs : namedB s = true) (hx : x ∈ ns.map (·.id)) (hy : y ∉ ns.map (·.id)) :
    Calls Try.prog 29 #[.pointer (some ⟨pb, 0, none⟩), .int .i64 x, .string s, .int .i64 y] w fun e w' => e = .returned (.tuple #[.int .i64 0, .int .i64 7]) ∧ Frame [] w w' := by
  have hcx := ghas_any h hu hn x
  rw [decide_eq_true hx] at hcx
  have hcy := fun w' (f : Frame [] w w') => ghas_any (h.frame0 f) hu hn y
  rw [decide_eq_false hy] at hcy
  have hnm := named_any s w (by simp [namedB] at hs; omega)
  rw [hs] at hnm
  have HX := Lib.hid hcx
  have HY := Lib.hid hcy
  have HN := Lib.hid hnm
  clear hcx hcy hnm h hu hx hy hs
  go_enter Try.func29, Try.ntmps29
  go_wp2_with fail
  refine HN.out.mono ?_
  rintro e w ⟨rfl, rfl⟩
  go_wp2_with fail
  refine HX.out.mono ?_
  rintro e w2 ⟨rfl, f2⟩
  have F2 := Lib.hid f2
  clear f2
  go_wp2_with fail
  refine (HY.out _ F2.out).mono ?_
  rintro e w3 ⟨rfl, f3⟩
  have F3 := Lib.hid (F2.out.trans1 f3)
  clear f3 F2
  go_wp2_with fail
  go_ret2
  exact ⟨rfl, F3.out⟩
theorem gadd_tok (h : GSt w pb F ns es given) (hu : Up (ns.map (·.id))) (hn : ns.length ≤ 1000000) (he : es.length < 60) (hg : 1099511627776 ≤ given) (x y : Int) (s : ByteArray) (hs : namedB s = true) (hx : x ∈ ns.map (·.id)) (hy : y ∈ ns.map (·.id)) :
    Calls Try.prog 29 #[.pointer (some ⟨pb, 0, none⟩), .int .i64 x, .string s, .int .i64 y] w fun e w' => e = .returned (.tuple #[.int .i64 0, .int .i64 5]) ∧ Frame [] w w' := by
  have hcx := ghas_any h hu hn x
  rw [decide_eq_true hx] at hcx
  have hcy := fun w' (f : Frame [] w w') => ghas_any (h.frame0 f) hu hn y
  rw [decide_eq_true hy] at hcy
  have hnm := named_any s w (by simp [namedB] at hs; omega)
  rw [hs] at hnm
  obtain ⟨an, nc, ae, ec, G, H, hb, sn, se, n1, n2, n3, rfl⟩ := h
  have HX := Lib.hid hcx
  have HY := Lib.hid hcy
  have HN := Lib.hid hnm
  have A := Lib.hid hb
  clear hcx hcy hnm hb sn se n1 n2 n3 hu hx hy hs
  go_enter Try.func29, Try.ntmps29
  go_wp2_with fail
  refine HN.out.mono ?_
  rintro e w ⟨rfl, rfl⟩
  go_wp2_with fail
  refine HX.out.mono ?_
  rintro e w2 ⟨rfl, f2⟩
  have F2 := Lib.hid f2
  clear f2
  go_wp2_with fail
  refine (HY.out _ F2.out).mono ?_
  rintro e w3 ⟨rfl, f3⟩
  have F3 := Lib.hid (F2.out.trans1 f3)
  clear f3 F2
  have hb3 := A.out.frame F3.out (by simp)
  have c1 := hb3.at 1 rfl
  have c2 := hb3.at 2 rfl
  clear hb3
  go_wp2_with fail
  go_ret2
  exact ⟨rfl, F3.out⟩

end

def vAdd (ns : List Nv) (es : List Ed) (given x : Int) (s : ByteArray) (y : Int) : (Int × Int) × List Ed × Int :=
  if namedB s = false then ((0, 2), es, given) else if x ∉ ns.map (·.1) ∨ y ∉ ns.map (·.1) then ((0, 7), es, given)
  else if 60 ≤ es.length ∨ 1099511627776 ≤ given then ((0, 5), es, given) else ((given + 1, 0), es ++ [⟨given + 1, x, s, y⟩], given + 1)
/-- What holds of a graph's edges. -/
structure EOk (es : List Ed) (given : Int) : Prop where
  up : Up (es.map (·.tok))
  le : ∀ e ∈ es, 1 ≤ e.tok ∧ e.tok ≤ given
  len : es.length ≤ 60
  given0 : 0 ≤ given
  given1 : given ≤ 1099511627776
theorem EOk.nil : EOk [] 0 := ⟨by simp [Up], by simp, by simp, by omega, by omega⟩
theorem up_snoc' {ks : List Int} {t : Int} (h : Up ks) (ht : ∀ k ∈ ks, k < t) : Up (ks ++ [t]) := by
  refine List.pairwise_append.2 ⟨h, by simp, fun a ha b hb => ?_⟩
  simp at hb; subst hb; exact ht a ha
theorem EOk.add {es : List Ed} {given : Int} (h : EOk es given) (ns : List Nv) (x : Int) (s : ByteArray) (y : Int) : EOk (vAdd ns es given x s y).2.1 (vAdd ns es given x s y).2.2 := by
  unfold vAdd
  split
  · exact h
  · split
    · exact h
    · split
      · exact h
      · rename_i q1 q2 q3
        obtain ⟨a, b, c, d, e⟩ := h
        refine ⟨?_, fun z hz => ?_, by simp; omega, by simp; omega, by simp; omega⟩
        · rw [List.map_append]
          refine up_snoc' a (fun k hk => ?_)
          obtain ⟨z, hz, rfl⟩ := List.mem_map.1 hk
          have := b z hz; simp; omega
        · rcases List.mem_append.1 hz with hz | hz
          · have := b z hz; simp; omega
          · simp at hz; subst hz; simp; omega
def vDrop (es : List Ed) (t : Int) : Int × List Ed := if t ∉ es.map (·.tok) then (8, es) else (0, es.eraseIdx (rank (es.map (·.tok)) t))
theorem EOk.drop {es : List Ed} {given : Int} (h : EOk es given) (t : Int) : EOk (vDrop es t).2 given := by
  unfold vDrop
  split
  · exact h
  · obtain ⟨a, b, c, d, e⟩ := h
    refine ⟨?_, fun z hz => b z (List.mem_of_mem_eraseIdx hz), ?_, d, e⟩
    · rw [map_eraseIdx]; exact a.sublist (List.eraseIdx_sublist _ _)
    · have := List.length_eraseIdx_le es (rank (es.map (·.tok)) t); simp only; omega
section
variable {w : World} {pb : Nat} {F : List Nat} {ns : List Nv} {es : List Ed} {given : Int}
theorem gv_add (h : GV w pb F ns es given) (hv : VOk ns) (he : EOk es given) (x : Int) (s : ByteArray) (y : Int) (hl : s.size ≤ 9223372036854775807) :
    Calls Try.prog 29 #[.pointer (some ⟨pb, 0, none⟩), .int .i64 x, .string s, .int .i64 y] w fun e w' => e = .returned (.tuple #[.int .i64 (vAdd ns es given x s y).1.1, .int .i64 (vAdd ns es given x s y).1.2]) ∧ GVEnd w pb F ns (vAdd ns es given x s y).2.1 (vAdd ns es given x s y).2.2 w' := by
  have h0 := h
  have hu := hv.up
  have hn := hv.len
  obtain ⟨rs, ⟨FG, h1, h2, h3, rfl⟩, rfl⟩ := h
  rw [List.length_map] at hn
  rw [tell_ids] at hu
  have hlen : (rs.map (·.nd)).length = rs.length := List.length_map _
  unfold vAdd
  rw [tell_ids]
  cases hs : namedB s with
  | false =>
    rw [if_pos rfl]
    exact (gadd_name x y s hs hl).mono fun e w' ⟨he, f⟩ => ⟨he, GVEnd.quiet h0 f⟩
  | true =>
    rw [if_neg (by simp)]
    by_cases hx : x ∈ (rs.map (·.nd)).map (·.id)
    · by_cases hy : y ∈ (rs.map (·.nd)).map (·.id)
      · rw [if_neg (by simp only [not_or, Classical.not_not]; exact ⟨hx, hy⟩)]
        by_cases h60 : 60 ≤ es.length
        · rw [if_pos (.inl h60)]
          exact (gadd_full h1 hu (by rw [hlen]; omega) h60 (by have := he.len; omega) x y s hs hx hy).mono fun e w' ⟨he, f⟩ => ⟨he, GVEnd.quiet h0 f⟩
        · by_cases hg : 1099511627776 ≤ given
          · rw [if_pos (.inr hg)]
            exact (gadd_tok h1 hu (by rw [hlen]; omega) (by omega) hg x y s hs hx hy).mono fun e w' ⟨he, f⟩ => ⟨he, GVEnd.quiet h0 f⟩
          · rw [if_neg (by omega)]
            exact (gadd_ok h1 hu (by rw [hlen]; omega) (by omega) he.given0 (by omega) x y s hs hx hy).mono fun e w' ⟨he, hg⟩ => ⟨he, GV.lift h1 h2 h3 hg h2 (List.Sublist.refl _) rfl⟩
      · rw [if_pos (.inr hy)]
        exact (gadd_noto h1 hu (by rw [hlen]; omega) x y s hs hx hy).mono fun e w' ⟨he, f⟩ => ⟨he, GVEnd.quiet h0 f⟩
    · rw [if_pos (.inl hx)]
      exact (gadd_nof h1 hu (by rw [hlen]; omega) x y s hs hx).mono fun e w' ⟨he, f⟩ => ⟨he, GVEnd.quiet h0 f⟩
theorem gv_drop (h : GV w pb F ns es given) (he : EOk es given) (t : Int) :
    Calls Try.prog 31 #[.pointer (some ⟨pb, 0, none⟩), .int .i64 t] w fun e w' => e = .returned (.int .i64 (vDrop es t).1) ∧ GVEnd w pb F ns (vDrop es t).2 given w' := by
  have h0 := h
  obtain ⟨rs, ⟨FG, h1, h2, h3, rfl⟩, rfl⟩ := h
  unfold vDrop
  by_cases hm : t ∈ es.map (·.tok)
  · rw [if_neg (by simpa using hm)]
    exact (gdrop_ok h1 he.up (by have := he.len; omega) t hm).mono fun e w' ⟨he, hg⟩ => ⟨he, GV.lift h1 h2 h3 hg h2 (List.Sublist.refl _) rfl⟩
  · rw [if_pos hm]
    exact (gdrop_none h1 he.up (by have := he.len; omega) t hm).mono fun e w' ⟨he, f⟩ => ⟨he, GVEnd.quiet h0 f⟩
theorem gv_new (w : World) : Calls Try.prog 27 #[] w fun e w' => ∃ pb, e = .returned (.pointer (some ⟨pb, 0, none⟩)) ∧ GV w' pb [pb] [] [] 0 ∧ Frame [] w w' ∧ w.heap.size ≤ pb := by
  refine (gnew_any w).mono ?_
  rintro e w' ⟨pb, he, s, f, hn⟩
  exact ⟨pb, he, ⟨[], ⟨[pb], s, by simp, by simp, by simp⟩, rfl⟩, f, hn⟩
end

/-- A graph that a call has made for itself. -/
def VOwn (w : World) (pb : Nat) (ns : List Nv) (es : List Ed) (given : Int) (w' : World) : Prop := ∃ F, GV w' pb F ns es given ∧ Frame [] w w' ∧ ∀ x ∈ F, w.heap.size ≤ x
theorem VOwn.next {w w1 w2 : World} {pb : Nat} {F : List Nat} {ns : List Nv} {es : List Ed} {given : Int} (hF : Frame [] w w1) (hn : ∀ x ∈ F, w.heap.size ≤ x) (h : GVEnd w1 pb F ns es given w2) : VOwn w pb ns es given w2 := by
  obtain ⟨F', a, b, c⟩ := h
  exact ⟨F', a, hF.trans b (fun x hx => .inr (hn x hx)), fun x hx => by rcases c x hx with h | h; exact hn x h; have := hF.size; omega⟩
theorem VOwn.quiet {w w1 w2 : World} {pb : Nat} {ns : List Nv} {es : List Ed} {given : Int} (h : VOwn w pb ns es given w1) (f : Frame [] w1 w2) : VOwn w pb ns es given w2 := by
  obtain ⟨F, a, b, c⟩ := h
  exact ⟨F, a.frame0 f, b.trans1 f, c⟩
end Go.Proofs.Ytolkmapdbilolaa
