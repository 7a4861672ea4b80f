/- A graph's calls by values: Add, Drop. What holds of every graph that the calls have made; what again makes of a graph that is told. -/
import Derived.Test.YtjcajidgaejhoaaGreatMi25
import Derived.Test.YtjcajidgaejhoaaGreatMi20
namespace Go.Proofs.YtjcajidgaejhoaaGreat
open Go.RowKit
set_option linter.unusedSimpArgs false
set_option linter.unusedVariables false
section
variable {w : World} {pb : Nat} {F : List Nat} {ns : List Nd} {es : List Ed} {given : Int}
theorem gadd_name (x y : Int) (s : ByteArray) (hs : namedB s = false) (hl : s.size ≤ 9223372036854775807) :
    Calls Tryz.prog 25 #[.pointer (some ⟨pb, 0, none⟩), .int .i64 x, .string s, .int .i64 y] w fun e w' => e = .returned (.tuple #[.int .i64 0, .int .i64 2]) ∧ Frame [] w w' := by
  have HN := Lib.hid (named_any s w hl)
  have HS := Lib.hid hs
  clear hs
  go_enter Tryz.func25, Tryz.ntmps25
  go_wp2_with fail
  refine HN.out.mono ?_
  rintro e w' ⟨rfl, rfl⟩
  rw [HS.out]
  go_wp2_with fail
  go_ret2
  exact ⟨rfl, Frame.refl _ _⟩
theorem gadd_nof (h : GSt w pb F ns es given) (hu : Up (ns.map (·.id))) (hn : ns.length ≤ 1000000) (x y : Int) (s : ByteArray) (hs : namedB s = true) (hx : x ∉ ns.map (·.id)) :
    Calls Tryz.prog 25 #[.pointer (some ⟨pb, 0, none⟩), .int .i64 x, .string s, .int .i64 y] w fun e w' => e = .returned (.tuple #[.int .i64 0, .int .i64 7]) ∧ Frame [] w w' := by
  have hcx := ghas_any h hu hn x
  rw [decide_eq_false hx] at hcx
  have hnm := named_any s w (by simp [namedB] at hs; omega)
  rw [hs] at hnm
  have HX := Lib.hid hcx
  have HN := Lib.hid hnm
  clear hcx hnm h hu hx hs
  go_enter Tryz.func25, Tryz.ntmps25
  go_wp2_with fail
  refine HN.out.mono ?_
  rintro e w ⟨rfl, rfl⟩
  go_wp2_with fail
  refine HX.out.mono ?_
  rintro e w2 ⟨rfl, f2⟩
  have F2 := Lib.hid f2
  clear f2
  go_wp2_with fail
  go_ret2
  exact ⟨rfl, F2.out⟩
theorem gadd_noto (h : GSt w pb F ns es given) (hu : Up (ns.map (·.id))) (hn : ns.length ≤ 1000000) (x y : Int) (s : ByteArray) (hs : namedB s = true) (hx : x ∈ ns.map (·.id)) (hy : y ∉ ns.map (·.id)) :
    Calls Tryz.prog 25 #[.pointer (some ⟨pb, 0, none⟩), .int .i64 x, .string s, .int .i64 y] w fun e w' => e = .returned (.tuple #[.int .i64 0, .int .i64 7]) ∧ Frame [] w w' := by
  have hcx := ghas_any h hu hn x
  rw [decide_eq_true hx] at hcx
  have hcy := fun w' (f : Frame [] w w') => ghas_any (h.frame0 f) hu hn y
  rw [decide_eq_false hy] at hcy
  have hnm := named_any s w (by simp [namedB] at hs; omega)
  rw [hs] at hnm
  have HX := Lib.hid hcx
  have HY := Lib.hid hcy
  have HN := Lib.hid hnm
  clear hcx hcy hnm h hu hx hy hs
  go_enter Tryz.func25, Tryz.ntmps25
  go_wp2_with fail
  refine HN.out.mono ?_
  rintro e w ⟨rfl, rfl⟩
  go_wp2_with fail
  refine HX.out.mono ?_
  rintro e w2 ⟨rfl, f2⟩
  have F2 := Lib.hid f2
  clear f2
  go_wp2_with fail
  refine (HY.out _ F2.out).mono ?_
  rintro e w3 ⟨rfl, f3⟩
  have F3 := Lib.hid (F2.out.trans1 f3)
  clear f3 F2
  go_wp2_with fail
  go_ret2
  exact ⟨rfl, F3.out⟩
theorem gadd_tok (h : GSt w pb F ns es given) (hu : Up (ns.map (·.id))) (hn : ns.length ≤ 1000000) (he : es.length < 60) (hg : 1099511627776 ≤ given) (x y : Int) (s : ByteArray) (hs : namedB s = true) (hx : x ∈ ns.map (·.id)) (hy : y ∈ ns.map (·.id)) :
    Calls Tryz.prog 25 #[.pointer (some ⟨pb, 0, none⟩), .int .i64 x, .string s, .int .i64 y] w fun e w' => e = .returned (.tuple #[.int .i64 0, .int .i64 5]) ∧ Frame [] w w' := by
  have hcx := ghas_any h hu hn x
  rw [decide_eq_true hx] at hcx
  have hcy := fun w' (f : Frame [] w w') => ghas_any (h.frame0 f) hu hn y
  rw [decide_eq_true hy] at hcy
  have hnm := named_any s w (by simp [namedB] at hs; omega)
  rw [hs] at hnm
  obtain ⟨an, nc, ae, ec, G, H, hb, sn, se, n1, n2, n3, rfl⟩ := h
  have HX := Lib.hid hcx
  have HY := Lib.hid hcy
  have HN := Lib.hid hnm
  have A := Lib.hid hb
  clear hcx hcy hnm hb sn se n1 n2 n3 hu hx hy hs
  go_enter Tryz.func25, Tryz.ntmps25
  go_wp2_with fail
  refine HN.out.mono ?_
  rintro e w ⟨rfl, rfl⟩
  go_wp2_with fail
  refine HX.out.mono ?_
  rintro e w2 ⟨rfl, f2⟩
  have F2 := Lib.hid f2
  clear f2
  go_wp2_with fail
  refine (HY.out _ F2.out).mono ?_
  rintro e w3 ⟨rfl, f3⟩
  have F3 := Lib.hid (F2.out.trans1 f3)
  clear f3 F2
  have hb3 := A.out.frame F3.out (by simp)
  have c1 := hb3.at 1 rfl
  have c2 := hb3.at 2 rfl
  clear hb3
  go_wp2_with fail
  go_ret2
  exact ⟨rfl, F3.out⟩

end

def vAdd (ns : List Nv) (es : List Ed) (given x : Int) (s : ByteArray) (y : Int) : (Int × Int) × List Ed × Int :=
  if namedB s = false then ((0, 2), es, given) else if x ∉ ns.map (·.1) ∨ y ∉ ns.map (·.1) then ((0, 7), es, given)
  else if 60 ≤ es.length ∨ 1099511627776 ≤ given then ((0, 5), es, given) else ((given + 1, 0), es ++ [⟨given + 1, x, s, y⟩], given + 1)
/-- What holds of a graph's edges. -/
structure EOk (es : List Ed) (given : Int) : Prop where
  up : Up (es.map (·.tok))
  le : ∀ e ∈ es, 1 ≤ e.tok ∧ e.tok ≤ given
  len : es.length ≤ 60
  given0 : 0 ≤ given
  given1 : given ≤ 1099511627776
theorem EOk.nil : EOk [] 0 := ⟨by simp [Up], by simp, by simp, by omega, by omega⟩
theorem up_snoc' {ks : List Int} {t : Int} (h : Up ks) (ht : ∀ k ∈ ks, k < t) : Up (ks ++ [t]) := by
  refine List.pairwise_append.2 ⟨h, by simp, fun a ha b hb => ?_⟩
  simp at hb; subst hb; exact ht a ha
theorem EOk.add {es : List Ed} {given : Int} (h : EOk es given) (ns : List Nv) (x : Int) (s : ByteArray) (y : Int) : EOk (vAdd ns es given x s y).2.1 (vAdd ns es given x s y).2.2 := by
  unfold vAdd
  split
  · exact h
  · split
    · exact h
    · split
      · exact h
      · rename_i q1 q2 q3
        obtain ⟨a, b, c, d, e⟩ := h
        refine ⟨?_, fun z hz => ?_, by simp; omega, by simp; omega, by simp; omega⟩
        · rw [List.map_append]
          refine up_snoc' a (fun k hk => ?_)
          obtain ⟨z, hz, rfl⟩ := List.mem_map.1 hk
          have := b z hz; simp; omega
        · rcases List.mem_append.1 hz with hz | hz
          · have := b z hz; simp; omega
          · simp at hz; subst hz; simp; omega
def vDrop (es : List Ed) (t : Int) : Int × List Ed := if t ∉ es.map (·.tok) then (8, es) else (0, es.eraseIdx (rank (es.map (·.tok)) t))
theorem EOk.drop {es : List Ed} {given : Int} (h : EOk es given) (t : Int) : EOk (vDrop es t).2 given := by
  unfold vDrop
  split
  · exact h
  · obtain ⟨a, b, c, d, e⟩ := h
    refine ⟨?_, fun z hz => b z (List.mem_of_mem_eraseIdx hz), ?_, d, e⟩
    · rw [map_eraseIdx]; exact a.sublist (List.eraseIdx_sublist _ _)
    · have := List.length_eraseIdx_le es (rank (es.map (·.tok)) t); simp only; omega
section
variable {w : World} {pb : Nat} {F : List Nat} {ns : List Nv} {es : List Ed} {given : Int}
theorem gv_add (h : GV w pb F ns es given) (hv : VOk ns) (he : EOk es given) (x : Int) (s : ByteArray) (y : Int) (hl : s.size ≤ 9223372036854775807) :
    Calls Tryz.prog 25 #[.pointer (some ⟨pb, 0, none⟩), .int .i64 x, .string s, .int .i64 y] w fun e w' => e = .returned (.tuple #[.int .i64 (vAdd ns es given x s y).1.1, .int .i64 (vAdd ns es given x s y).1.2]) ∧ GVEnd w pb F ns (vAdd ns es given x s y).2.1 (vAdd ns es given x s y).2.2 w' := by
  have h0 := h
  have hu := hv.up
  have hn := hv.len
  obtain ⟨rs, ⟨FG, h1, h2, h3, rfl⟩, rfl⟩ := h
  rw [List.length_map] at hn
  rw [tell_ids] at hu
  have hlen : (rs.map (·.nd)).length = rs.length := List.length_map _
  unfold vAdd
  rw [tell_ids]
  cases hs : namedB s with
  | false =>
    rw [if_pos rfl]
    exact (gadd_name x y s hs hl).mono fun e w' ⟨he, f⟩ => ⟨he, GVEnd.quiet h0 f⟩
  | true =>
    rw [if_neg (by simp)]
    by_cases hx : x ∈ (rs.map (·.nd)).map (·.id)
    · by_cases hy : y ∈ (rs.map (·.nd)).map (·.id)
      · rw [if_neg (by simp only [not_or, Classical.not_not]; exact ⟨hx, hy⟩)]
        by_cases h60 : 60 ≤ es.length
        · rw [if_pos (.inl h60)]
          exact (gadd_full h1 hu (by rw [hlen]; omega) h60 (by have := he.len; omega) x y s hs hx hy).mono fun e w' ⟨he, f⟩ => ⟨he, GVEnd.quiet h0 f⟩
        · by_cases hg : 1099511627776 ≤ given
          · rw [if_pos (.inr hg)]
            exact (gadd_tok h1 hu (by rw [hlen]; omega) (by omega) hg x y s hs hx hy).mono fun e w' ⟨he, f⟩ => ⟨he, GVEnd.quiet h0 f⟩
          · rw [if_neg (by omega)]
            exact (gadd_ok h1 hu (by rw [hlen]; omega) (by omega) he.given0 (by omega) x y s hs hx hy).mono fun e w' ⟨he, hg⟩ => ⟨he, GV.lift h1 h2 h3 hg h2 (List.Sublist.refl _) rfl⟩
      · rw [if_pos (.inr hy)]
        exact (gadd_noto h1 hu (by rw [hlen]; omega) x y s hs hx hy).mono fun e w' ⟨he, f⟩ => ⟨he, GVEnd.quiet h0 f⟩
    · rw [if_pos (.inl hx)]
      exact (gadd_nof h1 hu (by rw [hlen]; omega) x y s hs hx).mono fun e w' ⟨he, f⟩ => ⟨he, GVEnd.quiet h0 f⟩
theorem gv_drop (h : GV w pb F ns es given) (he : EOk es given) (t : Int) :
    Calls Tryz.prog 26 #[.pointer (some ⟨pb, 0, none⟩), .int .i64 t] w fun e w' => e = .returned (.int .i64 (vDrop es t).1) ∧ GVEnd w pb F ns (vDrop es t).2 given w' := by
  have h0 := h
  obtain ⟨rs, ⟨FG, h1, h2, h3, rfl⟩, rfl⟩ := h
  unfold vDrop
  by_cases hm : t ∈ es.map (·.tok)
  · rw [if_neg (by simpa using hm)]
    exact (gdrop_ok h1 he.up (by have := he.len; omega) t hm).mono fun e w' ⟨he, hg⟩ => ⟨he, GV.lift h1 h2 h3 hg h2 (List.Sublist.refl _) rfl⟩
  · rw [if_pos hm]
    exact (gdrop_none h1 he.up (by have := he.len; omega) t hm).mono fun e w' ⟨he, f⟩ => ⟨he, GVEnd.quiet h0 f⟩
theorem gv_new (w : World) : Calls Tryz.prog 59 #[] w fun e w' => ∃ pb, e = .returned (.pointer (some ⟨pb, 0, none⟩)) ∧ GV w' pb [pb] [] [] 0 ∧ Frame [] w w' ∧ w.heap.size ≤ pb := by
  refine (gnew_any w).mono ?_
  rintro e w' ⟨pb, he, s, f, hn⟩
  exact ⟨pb, he, ⟨[], ⟨[pb], s, by simp, by simp, by simp⟩, rfl⟩, f, hn⟩
end

/-- A graph that a call has made for itself. -/
def VOwn (w : World) (pb : Nat) (ns : List Nv) (es : List Ed) (given : Int) (w' : World) : Prop := ∃ F, GV w' pb F ns es given ∧ Frame [] w w' ∧ ∀ x ∈ F, w.heap.size ≤ x
theorem VOwn.next {w w1 w2 : World} {pb : Nat} {F : List Nat} {ns : List Nv} {es : List Ed} {given : Int} (hF : Frame [] w w1) (hn : ∀ x ∈ F, w.heap.size ≤ x) (h : GVEnd w1 pb F ns es given w2) : VOwn w pb ns es given w2 := by
  obtain ⟨F', a, b, c⟩ := h
  exact ⟨F', a, hF.trans b (fun x hx => .inr (hn x hx)), fun x hx => by rcases c x hx with h | h; exact hn x h; have := hF.size; omega⟩
theorem VOwn.quiet {w w1 w2 : World} {pb : Nat} {ns : List Nv} {es : List Ed} {given : Int} (h : VOwn w pb ns es given w1) (f : Frame [] w1 w2) : VOwn w pb ns es given w2 := by
  obtain ⟨F, a, b, c⟩ := h
  exact ⟨F, a.frame0 f, b.trans1 f, c⟩
end Go.Proofs.YtjcajidgaejhoaaGreat

namespace Go.Proofs.YtjcajidgaejhoaaGreat
open Go.RowKit
set_option linter.unusedSimpArgs false
set_option linter.unusedVariables false

def NodeOk (n : Nv) : Prop := (1 ≤ n.1 ∧ n.1 ≤ 1000) ∧ (∀ s ∈ n.2.1, namedB s = true) ∧ ∀ p ∈ n.2.2, namedB p.name = true ∧ namedB p.val = true
structure GOk (ns : List Nv) (es : List Ed) (given : Int) : Prop where
  v : VOk ns
  e : EOk es given
  nd : ∀ n ∈ ns, NodeOk n
  ed : ∀ e ∈ es, namedB e.lab = true ∧ e.src ∈ ns.map (·.1) ∧ e.dst ∈ ns.map (·.1)
theorem GOk.nil : GOk [] [] 0 := ⟨VOk.nil, EOk.nil, by simp, by simp⟩
theorem GOk.addNode {ns : List Nv} {es : List Ed} {given : Int} (h : GOk ns es given) (t : Int) : GOk (vAddNode ns t).2 es given := by
  have hv := h.v.addNode t
  unfold vAddNode at *
  by_cases q1 : t < 1 ∨ 1000 < t
  · rw [if_pos q1] at *; exact h
  rw [if_neg q1] at *
  by_cases q2 : t ∈ ns.map (·.1)
  · rw [if_pos q2] at *; exact h
  rw [if_neg q2] at *
  by_cases q3 : 12 ≤ ns.length
  · rw [if_pos q3] at *; exact h
  rw [if_neg q3] at *
  generalize rank (ns.map (·.1)) t = r at *
  refine ⟨hv, h.e, fun n hn => ?_, fun e he => ?_⟩
  · simp only [List.mem_append, List.mem_cons] at hn
    rcases hn with hn | rfl | hn
    · exact h.nd n (List.mem_of_mem_take hn)
    · exact ⟨by omega, by simp, by simp⟩
    · exact h.nd n (List.mem_of_mem_drop hn)
  · have hh := h.ed e he
    have hsub : ∀ x, x ∈ ns.map (·.1) → x ∈ (ns.take r ++ (t, [], []) :: ns.drop r).map (·.1) := fun x hx => by
      rw [List.map_append, List.map_cons]
      rw [← List.take_append_drop r ns, List.map_append] at hx
      simp only [List.mem_append, List.mem_cons] at hx ⊢
      rcases hx with hx | hx
      · exact .inl hx
      · exact .inr (.inr hx)
    exact ⟨hh.1, hsub _ hh.2.1, hsub _ hh.2.2⟩
theorem GOk.mid {A B : List Nv} {n n' : Nv} {es : List Ed} {given : Int} (h : GOk (A ++ n :: B) es given) (hv : VOk (A ++ n' :: B)) (h1 : n'.1 = n.1) (hn : NodeOk n') : GOk (A ++ n' :: B) es given := by
  refine ⟨hv, h.e, fun x hx => ?_, fun e he => ?_⟩
  · simp only [List.mem_append, List.mem_cons] at hx
    rcases hx with hx | rfl | hx
    · exact h.nd x (by simp [hx])
    · exact hn
    · exact h.nd x (by simp [hx])
  · have := h.ed e he
    simpa [h1] using this
theorem mem_ins {α : Type} {l : List α} {r : Nat} {x y : α} (h : y ∈ l.take r ++ x :: l.drop r) : y = x ∨ y ∈ l := by
  simp only [List.mem_append, List.mem_cons] at h
  rcases h with h | h | h
  · exact .inr (List.mem_of_mem_take h)
  · exact .inl h
  · exact .inr (List.mem_of_mem_drop h)
theorem mem_put {α : Type} {l : List α} {r : Nat} {x y : α} (h : y ∈ l.take r ++ x :: l.drop (r + 1)) : y = x ∨ y ∈ l := by
  simp only [List.mem_append, List.mem_cons] at h
  rcases h with h | h | h
  · exact .inr (List.mem_of_mem_take h)
  · exact .inl h
  · exact .inr (List.mem_of_mem_drop h)
theorem GOk.label {ns : List Nv} {es : List Ed} {given : Int} (h : GOk ns es given) (t : Int) (s : ByteArray) : GOk (vLabel ns t s).2 es given := by
  have hv := h.v.label t s
  cases hs : namedB s with
  | false => simpa [vLabel, hs] using h
  | true =>
    by_cases hm : t ∈ ns.map (·.1)
    · obtain ⟨A, n, B, rfl, hA, rfl⟩ := v_split h.v.up hm
      rw [vLabel_mid h.v.up s hs] at *
      cases hq : memS s n.2.1 with
      | true => rw [if_pos rfl]; exact h
      | false =>
        rw [hq] at hv
        by_cases h8 : 8 ≤ n.2.1.length
        · rw [if_neg (by simp), if_pos h8]; exact h
        · rw [if_neg (by simp), if_neg h8] at *
          have hn := h.nd n (by simp)
          exact h.mid hv rfl ⟨hn.1, fun x hx => by
            rcases mem_ins hx with rfl | hx
            · exact hs
            · exact hn.2.1 x hx, hn.2.2⟩
    · have e : vLabel ns t s = (7, ns) := by unfold vLabel; rw [if_neg (by simp [hs]), if_pos hm]
      rw [e]; exact h
theorem GOk.set {ns : List Nv} {es : List Ed} {given : Int} (h : GOk ns es given) (t : Int) (s v : ByteArray) : GOk (vSet ns t s v).2 es given := by
  have hv := h.v.set t s v
  by_cases hs : namedB s = false ∨ namedB v = false
  · simpa [vSet, hs] using h
  · have hs1 : namedB s = true := by cases h1 : namedB s <;> simp [h1] at hs ⊢
    have hs2 : namedB v = true := by cases h1 : namedB v <;> simp [h1] at hs ⊢
    by_cases hm : t ∈ ns.map (·.1)
    · obtain ⟨A, n, B, rfl, hA, rfl⟩ := v_split h.v.up hm
      rw [vSet_mid h.v.up s v hs1 hs2] at *
      have hn := h.nd n (by simp)
      cases hq : memS s (n.2.2.map (·.name)) with
      | true =>
        rw [hq] at hv
        rw [if_pos rfl] at *
        exact h.mid hv rfl ⟨hn.1, hn.2.1, fun x hx => by
          rcases mem_put hx with rfl | hx
          · exact ⟨hs1, hs2⟩
          · exact hn.2.2 x hx⟩
      | false =>
        rw [hq] at hv
        by_cases h8 : 8 ≤ n.2.2.length
        · rw [if_neg (by simp), if_pos h8]; exact h
        · rw [if_neg (by simp), if_neg h8] at *
          exact h.mid hv rfl ⟨hn.1, hn.2.1, fun x hx => by
            rcases mem_ins hx with rfl | hx
            · exact ⟨hs1, hs2⟩
            · exact hn.2.2 x hx⟩
    · have e : vSet ns t s v = (7, ns) := by unfold vSet; rw [if_neg hs, if_pos hm]
      rw [e]; exact h
theorem EOk.more {es : List Ed} {given given' : Int} (h : EOk es given) (h1 : given ≤ given') (h2 : given' ≤ 1099511627776) : EOk es given' :=
  ⟨h.up, fun e he => by have := h.le e he; omega, h.len, by have := h.given0; omega, h2⟩
theorem GOk.more {ns : List Nv} {es : List Ed} {given given' : Int} (h : GOk ns es given) (h1 : given ≤ given') (h2 : given' ≤ 1099511627776) : GOk ns es given' := ⟨h.v, h.e.more h1 h2, h.nd, h.ed⟩
theorem GOk.add {ns : List Nv} {es : List Ed} {given : Int} (h : GOk ns es given) (x : Int) (s : ByteArray) (y : Int) : GOk ns (vAdd ns es given x s y).2.1 (vAdd ns es given x s y).2.2 := by
  refine ⟨h.v, h.e.add ns x s y, h.nd, fun e he => ?_⟩
  unfold vAdd at he
  split at he
  · exact h.ed e he
  · rename_i q1
    split at he
    · exact h.ed e he
    · rename_i q2
      split at he
      · exact h.ed e he
      · simp only [List.mem_append, List.mem_singleton] at he
        rcases he with he | rfl
        · exact h.ed e he
        · simp only [not_or, Classical.not_not] at q2
          exact ⟨by simpa using q1, q2.1, q2.2⟩

/-! ### order, neighbour by neighbour -/
theorem pairwise_of_steps {α : Type} {R : α → α → Prop} (tr : ∀ a b c, R a b → R b c → R a c) {xs : List α} (h : ∀ j a b, 0 < j → xs[j - 1]? = some a → xs[j]? = some b → R a b) : xs.Pairwise R := by
  rw [List.pairwise_iff_getElem]
  intro i j hi hj hij
  induction j with
  | zero => omega
  | succ j ih =>
    have hs : R (xs[j]'(by omega)) xs[j + 1] := h (j + 1) (xs[j]'(by omega)) xs[j + 1] (by omega) (by simp) (by simp)
    rcases Nat.lt_or_ge i j with h1 | h1
    · exact tr _ _ _ (ih (by omega) h1) hs
    · obtain rfl : i = j := by omega
      exact hs
theorem steps_of_pairwise {α : Type} {R : α → α → Prop} {xs : List α} (h : xs.Pairwise R) {j : Nat} {a b : α} (h0 : 0 < j) (ha : xs[j - 1]? = some a) (hb : xs[j]? = some b) : R a b := by
  rw [List.pairwise_iff_getElem] at h
  obtain ⟨h1, rfl⟩ := List.getElem?_eq_some_iff.1 ha
  obtain ⟨h2, rfl⟩ := List.getElem?_eq_some_iff.1 hb
  exact h _ _ h1 h2 (by omega)
theorem placeV_mem {ns : List Nv} {t : Int} : 0 ≤ placeV ns t ↔ t ∈ ns.map (·.1) := by
  unfold placeV
  cases hq : (ns.map (·.1)).findIdx? (fun x => decide (x = t)) with
  | none =>
    rw [List.findIdx?_eq_none_iff] at hq
    simp only
    constructor
    · intro h; omega
    · intro h; have := hq t h; simp at this
  | some k =>
    rw [List.findIdx?_eq_some_iff_getElem] at hq
    obtain ⟨h1, h2, _⟩ := hq
    simp only
    constructor
    · intro _
      have : (ns.map (·.1))[k] = t := by simpa using h2
      rw [← this]; exact List.getElem_mem h1
    · intro _; omega
theorem SoundN.of {n : Nv} (h : NodeOk n) (h1 : UpS n.2.1) (l1 : n.2.1.length ≤ 8) (h2 : UpS (n.2.2.map (·.name))) (l2 : n.2.2.length ≤ 8) : SoundN n := by
  refine ⟨h.1, l1, l2, fun j s hs => ⟨h.2.1 s (List.mem_of_getElem? hs), fun t h0 ht => steps_of_pairwise h1 h0 ht hs⟩, fun j p hp => ?_⟩
  have := h.2.2 p (List.mem_of_getElem? hp)
  exact ⟨this.1, this.2, fun q h0 hq => steps_of_pairwise h2 (a := q.name) (b := p.name) h0 (by rw [List.getElem?_map, hq]; rfl) (by rw [List.getElem?_map, hp]; rfl)⟩
theorem SoundN.upS {n : Nv} (h : SoundN n) : UpS n.2.1 := pairwise_of_steps (R := fun a b => ltS a b = true) (fun a b c => ltS_trans) (fun j a b h0 ha hb => (h.2.2.2.1 j b hb).2 a h0 ha)
theorem SoundN.upP {n : Nv} (h : SoundN n) : UpS (n.2.2.map (·.name)) := pairwise_of_steps (R := fun a b => ltS a b = true) (fun a b c => ltS_trans) (fun j a b h0 ha hb => by
  rw [List.getElem?_map] at ha hb
  obtain ⟨p, hp, rfl⟩ := Option.map_eq_some_iff.1 ha
  obtain ⟨q, hq, rfl⟩ := Option.map_eq_some_iff.1 hb
  exact (h.2.2.2.2 j q hq).2.2 p h0 hp)
theorem SoundN.ok {n : Nv} (h : SoundN n) : NodeOk n := ⟨h.1, fun s hs => by
  obtain ⟨j, hj, rfl⟩ := List.getElem_of_mem hs
  exact (h.2.2.2.1 j n.2.1[j] (by simp)).1, fun p hp => by
  obtain ⟨j, hj, rfl⟩ := List.getElem_of_mem hp
  have := h.2.2.2.2 j n.2.2[j] (by simp)
  exact ⟨this.1, this.2.1⟩⟩
/-- A graph may be just if the calls can make it. -/
theorem MayX.gok {x : Gx} (h : MayX x) : GOk x.ns x.es (x.next - 1) := by
  obtain ⟨h1, h2, h3, h4, h5, h6⟩ := h
  have sn : ∀ n ∈ x.ns, SoundN n := fun n hn => by
    obtain ⟨j, hj, rfl⟩ := List.getElem_of_mem hn
    exact (h5 j x.ns[j] (by simp)).1
  have un : Up (x.ns.map (·.1)) := pairwise_of_steps (fun a b c h1 h2 => by omega) (fun j a b h0 ha hb => by
    rw [List.getElem?_map] at ha hb
    obtain ⟨p, hp, rfl⟩ := Option.map_eq_some_iff.1 ha
    obtain ⟨q, hq, rfl⟩ := Option.map_eq_some_iff.1 hb
    exact (h5 j q hq).2 p h0 hp)
  have ue : Up (x.es.map (·.tok)) := pairwise_of_steps (fun a b c h1 h2 => by omega) (fun j a b h0 ha hb => by
    rw [List.getElem?_map] at ha hb
    obtain ⟨p, hp, rfl⟩ := Option.map_eq_some_iff.1 ha
    obtain ⟨q, hq, rfl⟩ := Option.map_eq_some_iff.1 hb
    exact (h6 j q hq).2.2.1 p h0 hp)
  have se : ∀ e ∈ x.es, 1 ≤ e.tok ∧ e.tok < x.next ∧ namedB e.lab = true ∧ 0 ≤ placeV x.ns e.src ∧ 0 ≤ placeV x.ns e.dst := fun e he => by
    obtain ⟨j, hj, rfl⟩ := List.getElem_of_mem he
    have := h6 j x.es[j] (by simp)
    exact ⟨this.1, this.2.1, this.2.2.2.1, this.2.2.2.2.1, this.2.2.2.2.2⟩
  refine ⟨⟨un, h1, fun n hn => ⟨(sn n hn).upS, (sn n hn).2.1⟩, fun n hn => ⟨(sn n hn).upP, (sn n hn).2.2.1⟩⟩, ⟨ue, fun e he => ?_, h2, by omega, by omega⟩, fun n hn => (sn n hn).ok, fun e he => ?_⟩
  · have := se e he; omega
  · have := se e he
    exact ⟨this.2.2.1, placeV_mem.1 this.2.2.2.1, placeV_mem.1 this.2.2.2.2⟩
theorem GOk.may {x : Gx} (h : GOk x.ns x.es (x.next - 1)) : MayX x := by
  obtain ⟨v, e, nd, ed⟩ := h
  have g0 := e.given0
  have g1 := e.given1
  refine ⟨v.len, e.len, by omega, by omega, fun j n hn => ?_, fun j d hd => ?_⟩
  · have hm := List.mem_of_getElem? hn
    refine ⟨SoundN.of (nd n hm) (v.ls n hm).1 (v.ls n hm).2 (v.ps n hm).1 (v.ps n hm).2, fun m h0 hmm => ?_⟩
    exact steps_of_pairwise v.up (a := m.1) (b := n.1) h0 (by rw [List.getElem?_map, hmm]; rfl) (by rw [List.getElem?_map, hn]; rfl)
  · have hm := List.mem_of_getElem? hd
    have hl := e.le d hm
    have he := ed d hm
    exact ⟨hl.1, by omega, fun f h0 hf => steps_of_pairwise e.up (a := f.tok) (b := d.tok) h0 (by rw [List.getElem?_map, hf]; rfl) (by rw [List.getElem?_map, hd]; rfl), he.1, placeV_mem.2 he.2.1, placeV_mem.2 he.2.2⟩

/-! ### again, step by step -/
theorem take_one' {α : Type} {js : List α} {i : Nat} {j : α} (hj : js[i]? = some j) : js.take (i + 1) = js.take i ++ [j] := by
  rw [List.take_add_one, hj]; rfl
theorem rank_end {ks : List Int} {t : Int} (h : ∀ k ∈ ks, k < t) : rank ks t = ks.length := by
  unfold rank
  rw [List.countP_eq_length]
  intro k hk
  simpa using h k hk
theorem rankS_end {ks : List ByteArray} {t : ByteArray} (h : ∀ k ∈ ks, ltS k t = true) : rankS ks t = ks.length := by
  unfold rankS
  rw [List.countP_eq_length]
  intro k hk
  exact h k hk
theorem before_of {α β : Type} {R : β → β → Prop} {f : α → β} {xs : List α} (h : (xs.map f).Pairwise R) {k : Nat} {x : α} (hx : xs[k]? = some x) : ∀ y ∈ (xs.take k).map f, R y (f x) := fun y hy => by
  obtain ⟨z, hz, rfl⟩ := List.mem_map.1 hy
  obtain ⟨i, hi, rfl⟩ := List.getElem_of_mem hz
  obtain ⟨hk, rfl⟩ := List.getElem?_eq_some_iff.1 hx
  rw [List.pairwise_iff_getElem] at h
  have hi' : i < k ∧ i < xs.length := by simp at hi; omega
  have := h i k (by simp; omega) (by simpa using hk) hi'.1
  simpa using this
theorem again_node {x : Gx} (h : MayX x) {k : Nat} {n : Nv} (hn : x.ns[k]? = some n) : vAddNode (x.ns.take k) n.1 = (0, x.ns.take k ++ [(n.1, [], [])]) := by
  have g := h.gok
  have hb := before_of (f := fun n : Nv => n.1) g.v.up hn
  have hk : k < x.ns.length := (List.getElem?_eq_some_iff.1 hn).1
  have hok := (g.nd n (List.mem_of_getElem? hn)).1
  have hl := g.v.len
  unfold vAddNode
  rw [if_neg (by omega), if_neg (fun hm => by have := hb _ hm; simp at this), if_neg (by simp; omega), rank_end hb, List.length_map]
  simp only [List.take_length, List.drop_length]
theorem again_label {A : List Nv} {i : Int} {ls : List ByteArray} (hu : Up ((A ++ [(i, ([] : List ByteArray), ([] : List Pr))]).map (·.1))) (hup : UpS ls) (hl : ls.length ≤ 8) {k : Nat} {s : ByteArray} (hs : ls[k]? = some s) (hnm : namedB s = true) :
    vLabel (A ++ [(i, ls.take k, [])]) i s = (0, A ++ [(i, ls.take (k + 1), [])]) := by
  have hb := before_of (f := id) (R := fun a b => ltS a b = true) (by simpa [UpS] using hup) hs
  rw [List.map_id] at hb
  have hk : k < ls.length := (List.getElem?_eq_some_iff.1 hs).1
  have hmem : memS s (ls.take k) = false := memS_not.2 (fun hm => by have := hb s hm; simp [ltS_irrefl] at this)
  have := vLabel_mid (A := A) (B := []) (n := (i, ls.take k, [])) (by simpa using hu) s hnm
  rw [this, hmem, if_neg (by simp), if_neg (by simp; omega)]
  have hr : rankS (ls.take k) s = (ls.take k).length := rankS_end hb
  simp only [hr, List.take_length, List.drop_length]
  rw [take_one' hs]
theorem again_set {A : List Nv} {i : Int} {ls : List ByteArray} {ps : List Pr} (hu : Up ((A ++ [(i, ([] : List ByteArray), ([] : List Pr))]).map (·.1))) (hup : UpS (ps.map (·.name))) (hl : ps.length ≤ 8) {k : Nat} {p : Pr} (hs : ps[k]? = some p) (hnm : namedB p.name = true) (hnv : namedB p.val = true) :
    vSet (A ++ [(i, ls, ps.take k)]) i p.name p.val = (0, A ++ [(i, ls, ps.take (k + 1))]) := by
  have hb := before_of (f := fun p : Pr => p.name) (R := fun a b => ltS a b = true) hup hs
  have hk : k < ps.length := (List.getElem?_eq_some_iff.1 hs).1
  have hmem : memS p.name ((ps.take k).map (·.name)) = false := memS_not.2 (fun hm => by have := hb _ hm; rw [ltS_irrefl] at this; cases this)
  have := vSet_mid (A := A) (B := []) (n := (i, ls, ps.take k)) (by simpa using hu) p.name p.val hnm hnv
  rw [this, hmem, if_neg (by simp), if_neg (by simp; omega)]
  have hr : rankS ((ps.take k).map (·.name)) p.name = ((ps.take k).map (·.name)).length := rankS_end hb
  simp only [hr, List.length_map, List.take_length, List.drop_length]
  rw [take_one' hs]
theorem again_edge {x : Gx} (h : MayX x) {k : Nat} {e : Ed} (he : x.es[k]? = some e) : vAdd x.ns (x.es.take k) (e.tok - 1) e.src e.lab e.dst = ((e.tok, 0), x.es.take (k + 1), e.tok) := by
  have g := h.gok
  have hm := List.mem_of_getElem? he
  have hk : k < x.es.length := (List.getElem?_eq_some_iff.1 he).1
  have hed := g.ed e hm
  have hl := g.e.len
  have hle := g.e.le e hm
  have hg := g.e.given1
  unfold vAdd
  rw [if_neg (by simp [hed.1]), if_neg (by simp only [not_or, Classical.not_not]; exact hed.2), if_neg (by simp; omega)]
  have e1 : e.tok - 1 + 1 = e.tok := by omega
  rw [e1, take_one' he]
end Go.Proofs.YtjcajidgaejhoaaGreat

