/- A graph's calls: AddNode, Add, Drop, Edge. A graph's calls: Add at a full graph, Drop, Edge. A graph's calls: DropNode. A graph's call: Add. A graph whole: its object, what its nodes hold; by values. -/
import Derived.Test.YtjcajidgaejhoaaMi10
import Derived.Deep.AppendLies
import Derived.Test.YtjcajidgaejhoaaMi09
import Derived.Test.YtjcajidgaejhoaaMi12
import Derived.Test.YtjcajidgaejhoaaMi13
import Derived.Test.YtjcajidgaejhoaaMi06
import Derived.Test.YtjcajidgaejhoaaMi14
namespace Go.Proofs.Ytjcajidgaejhoaa
open Go.RowKit
set_option linter.unusedSimpArgs false
set_option linter.unusedVariables false
section
variable {w : World} {pb : Nat} {F : List Nat} {ns : List Nd} {es : List Ed} {given : Int}

theorem addNode_dup (h : GSt w pb F ns es given) (hu : Up (ns.map (·.id))) (hn : ns.length ≤ 1000000) (t : Int) (h1 : 1 ≤ t) (h2 : t ≤ 1000) (hm : t ∈ ns.map (·.id)) :
    Calls Try.prog 34 #[.pointer (some ⟨pb, 0, none⟩), .int .i64 t] w fun e w' => e = .returned (.int .i64 7) ∧ Frame [] w w' := by
  have hc := gfind_any h hu hn t
  rw [decide_eq_true hm] at hc
  generalize rank (ns.map (·.id)) t = r at *
  have HC := Lib.hid hc
  clear hc h hu hm
  have h3 : ¬ t < 1 := by omega
  have h4 : ¬ t > 1000 := by omega
  go_enter Try.func34, Try.ntmps34
  go_wp2_with fail
  refine HC.out.mono ?_
  rintro e w3 ⟨rfl, f3⟩
  have F3 := Lib.hid f3
  clear f3
  go_wp2_with fail
  go_ret
  exact ⟨rfl, F3.out⟩

theorem addNode_new (h : GSt w pb F ns es given) (hu : Up (ns.map (·.id))) (hn : ns.length < 12) (t : Int) (h1 : 1 ≤ t) (h2 : t ≤ 1000) (hm : t ∉ ns.map (·.id)) :
    Calls Try.prog 34 #[.pointer (some ⟨pb, 0, none⟩), .int .i64 t] w fun e w' => e = .returned (.int .i64 0) ∧ GEnd w pb F (ns.take (rank (ns.map (·.id)) t) ++ ⟨t, none, 0, 0, none, 0, 0⟩ :: ns.drop (rank (ns.map (·.id)) t)) es given w' := by
  have hc := gfind_any h hu (by omega) t
  rw [decide_eq_false hm] at hc
  have hrk := rank_le (ns.map (·.id)) t
  rw [List.length_map] at hrk
  generalize rank (ns.map (·.id)) t = r at *
  obtain ⟨an, nc, ae, ec, G, H, hb, sn, se, n1, n2, n3, rfl⟩ := h
  have HC := Lib.hid hc
  have A := Lib.hid (And.intro hb (And.intro sn (And.intro se (And.intro n1 (And.intro n2 n3)))))
  clear hc hu hm hb sn se n1 n2 n3
  have h3 : ¬ t < 1 := by omega
  have h4 : ¬ t > 1000 := by omega
  go_enter Try.func34, Try.ntmps34
  go_wp2_with fail
  refine HC.out.mono ?_
  rintro e w3 ⟨rfl, f3⟩
  have hb3 := A.out.1.frame f3 (by simp)
  have c0 := hb3.at 0 rfl
  have F3 := Lib.hid f3
  have HB3 := Lib.hid hb3
  clear f3 hb3
  go_wp2_with fail
  refine (ins_node_any (.slice an ns.length nc) ns ⟨t, none, 0, 0, none, 0, 0⟩ G _ r _ ((A.out.2.1.frame0 F3.out).frame0 (Frame.alloc _ _ _)) (Blk.new _ _ _) (fun h => by have := (A.out.2.1.frame0 F3.out).lt _ h; omega) (by omega) hrk).mono ?_
  rintro e w4 ⟨b', cap', rfl, sl4, f4, hb4⟩
  have hb5 := (HB3.out.alloc _).frame f4 A.out.2.2.2.1
  have q0 := hb5.at 0 rfl
  have q1 := hb5.frozen 0
  have X := Lib.hid (And.intro sl4 (And.intro f4 (And.intro hb4 hb5)))
  clear sl4 f4 hb4 hb5 c0
  go_wp2_with fail
  go_ret
  have hz3 := F3.out.size
  have fw : Frame (pb :: (G ++ H)) w w4 := (F3.out.mono (S' := pb :: (G ++ H)) (by simp)).trans1 (((Frame.alloc (pb :: (G ++ H)) w3 _).trans1 (X.out.2.1.mono (fun x hx => .inl (by simp [hx])))))
  have hpb : pb ≠ b' := by
    rcases X.out.2.2.1 with h | h
    · intro e; subst e; exact A.out.2.2.2.1 h
    · have := HB3.out.lt; simp at h; omega
  have hlen : (ns.take r ++ (⟨t, none, 0, 0, none, 0, 0⟩ : Nd) :: ns.drop r).length = ns.length + 1 := by simp; omega
  refine ⟨rfl, pb :: ([b'] ++ H), ⟨some ⟨b', 0, none⟩, cap', ae, ec, [b'], H, ?_, ?_, ?_, ?_, A.out.2.2.2.2.1, ?_, rfl⟩, fw.trans1 (Frame.setCell (S := pb :: (G ++ H)) w4 _ _ (by simp)), ?_⟩
  · rw [hlen]
    have := X.out.2.2.2.set 0 (.slice (some ⟨b', 0, none⟩) (ns.length + 1) cap')
    simpa using this
  · have := X.out.1.frame (S := [pb]) (Frame.setCell w4 ⟨pb, 0, none⟩ (.slice (some ⟨b', 0, none⟩) (ns.length + 1) cap') (by simp)) (by simp; exact fun e => hpb e.symm)
    rw [hlen]
    exact this
  · have hH : ∀ x ∈ H, x ∉ G := fun x hx hg => A.out.2.2.2.2.2 x hg hx
    have s4 : Sl w4 43 4 Ed.cs (.slice ae es.length ec) es H := ((A.out.2.2.1.frame0 F3.out).frame0 (Frame.alloc _ _ _)).frame X.out.2.1 hH
    exact s4.frame (S := [pb]) (Frame.setCell w4 ⟨pb, 0, none⟩ _ (by simp)) (by simp; intro x hx e; subst e; exact A.out.2.2.2.2.1 hx)
  · simpa using hpb
  · intro x hx
    simp at hx; subst hx
    rcases X.out.2.2.1 with h | h
    · exact A.out.2.2.2.2.2 _ h
    · intro hh
      have := (A.out.2.2.1.frame0 F3.out).lt _ hh
      simp at h; omega
  · intro x hx
    simp at hx ⊢
    rcases hx with h | h | h
    · exact .inl (.inl h)
    · subst h
      rcases X.out.2.2.1 with h | h
      · exact .inl (.inr (.inl h))
      · right; simp at h; omega
    · exact .inl (.inr (.inr h))

theorem addNode_end (h : GSt w pb F ns es given) (hu : Up (ns.map (·.id))) (hn : ns.length < 12) (t : Int) (h1 : 1 ≤ t) (h2 : t ≤ 1000) (hm : t ∉ ns.map (·.id)) (hr : rank (ns.map (·.id)) t = ns.length) :
    Calls Try.prog 34 #[.pointer (some ⟨pb, 0, none⟩), .int .i64 t] w fun e w' => e = .returned (.int .i64 0) ∧ GEnd w pb F (ns ++ [⟨t, none, 0, 0, none, 0, 0⟩]) es given w' := by
  have := addNode_new h hu hn t h1 h2 hm
  rw [hr, List.take_of_length_le (Nat.le_refl _), List.drop_of_length_le (Nat.le_refl _)] at this
  exact this

theorem addNode_arg (h : GSt w pb F ns es given) (hu : Up (ns.map (·.id))) (hn : ns.length ≤ 1000000) (t : Int) (h1 : t < 1 ∨ 1000 < t) :
    Calls Try.prog 34 #[.pointer (some ⟨pb, 0, none⟩), .int .i64 t] w fun e w' => e = .returned (.int .i64 1) ∧ Frame [] w w' := by
  have hc := gfind_any h hu hn t
  generalize rank (ns.map (·.id)) t = r at *
  generalize decide (t ∈ ns.map (·.id)) = d at *
  have HC := Lib.hid hc
  clear hc h hu
  rcases (by omega : t < 1 ∨ (¬ t < 1 ∧ t > 1000)) with h3 | ⟨h3, h4⟩
  · go_enter Try.func34, Try.ntmps34
    go_wp2_with fail
    refine HC.out.mono ?_
    rintro e w3 ⟨rfl, f3⟩
    have F3 := Lib.hid f3
    clear f3
    go_wp2_with fail
    go_ret
    exact ⟨rfl, F3.out⟩
  · go_enter Try.func34, Try.ntmps34
    go_wp2_with fail
    refine HC.out.mono ?_
    rintro e w3 ⟨rfl, f3⟩
    have F3 := Lib.hid f3
    clear f3
    go_wp2_with fail
    go_ret
    exact ⟨rfl, F3.out⟩

theorem addNode_full (h : GSt w pb F ns es given) (hu : Up (ns.map (·.id))) (hn : 12 ≤ ns.length) (hl : ns.length ≤ 1000000) (t : Int) (h1 : 1 ≤ t) (h2 : t ≤ 1000) (hm : t ∉ ns.map (·.id)) :
    Calls Try.prog 34 #[.pointer (some ⟨pb, 0, none⟩), .int .i64 t] w fun e w' => e = .returned (.int .i64 5) ∧ Frame [] w w' := by
  have hc := gfind_any h hu hl t
  rw [decide_eq_false hm] at hc
  generalize rank (ns.map (·.id)) t = r at *
  obtain ⟨an, nc, ae, ec, G, H, hb, sn, se, n1, n2, n3, rfl⟩ := h
  have HC := Lib.hid hc
  have A := Lib.hid hb
  clear hc hu hm hb sn se n1 n2 n3
  have h3 : ¬ t < 1 := by omega
  have h4 : ¬ t > 1000 := by omega
  go_enter Try.func34, Try.ntmps34
  go_wp2_with fail
  refine HC.out.mono ?_
  rintro e w3 ⟨rfl, f3⟩
  have c0 := (A.out.frame f3 (by simp)).at 0 rfl
  have F3 := Lib.hid f3
  clear f3
  go_wp2_with fail
  go_ret
  exact ⟨rfl, F3.out⟩
end
end Go.Proofs.Ytjcajidgaejhoaa

namespace Go.Proofs.Ytjcajidgaejhoaa
open Go.RowKit
set_option linter.unusedSimpArgs false
set_option linter.unusedVariables false
section
variable {w : World} {pb : Nat} {F : List Nat} {ns : List Nd} {es : List Ed} {given : Int}

theorem gadd_full (h : GSt w pb F ns es given) (hu : Up (ns.map (·.id))) (hn : ns.length ≤ 1000000) (he : 60 ≤ es.length) (hle : es.length ≤ 1000000) (x y : Int) (s : ByteArray) (hs : namedB s = true) (hx : x ∈ ns.map (·.id)) (hy : y ∈ ns.map (·.id)) :
    Calls Try.prog 37 #[.pointer (some ⟨pb, 0, none⟩), .int .i64 x, .string s, .int .i64 y] w fun e w' => e = .returned (.tuple #[.int .i64 0, .int .i64 5]) ∧ Frame [] w w' := by
  have hcx := ghas_any h hu hn x
  rw [decide_eq_true hx] at hcx
  have hcy := fun w' (f : Frame [] w w') => ghas_any (h.frame0 f) hu hn y
  rw [decide_eq_true hy] at hcy
  have hnm := named_any s w (by simp [namedB] at hs; omega)
  rw [hs] at hnm
  obtain ⟨an, nc, ae, ec, G, H, hb, sn, se, n1, n2, n3, rfl⟩ := h
  have HX := Lib.hid hcx
  have HY := Lib.hid hcy
  have HN := Lib.hid hnm
  have A := Lib.hid hb
  clear hcx hcy hnm hb sn se n1 n2 n3 hu hx hy hs
  go_enter Try.func37, Try.ntmps37
  go_wp2_with fail
  refine HN.out.mono ?_
  rintro e w ⟨rfl, rfl⟩
  go_wp2_with fail
  refine HX.out.mono ?_
  rintro e w2 ⟨rfl, f2⟩
  have F2 := Lib.hid f2
  clear f2
  go_wp2_with fail
  refine (HY.out _ F2.out).mono ?_
  rintro e w3 ⟨rfl, f3⟩
  have F3 := Lib.hid (F2.out.trans1 f3)
  clear f3 F2
  have hb3 := A.out.frame F3.out (by simp)
  have c1 := hb3.at 1 rfl
  have hl : (60 : Int) ≤ es.length := by omega
  clear hb3
  go_wp2_with fail
  go_ret2
  exact ⟨rfl, F3.out⟩

theorem rank_lt {ks : List Int} {t : Int} (hu : Up ks) (ht : t ∈ ks) : rank ks t < ks.length ∧ ks[rank ks t]? = some t := by
  obtain ⟨i, hi, he⟩ := List.getElem_of_mem ht
  have : rank ks t = i := rank_of (by omega) (fun j hj h => by rw [← he]; exact (List.pairwise_iff_getElem.1 hu) j i hj hi h) (fun j hj h => by
    rcases Nat.lt_or_ge i j with q | q
    · have := (List.pairwise_iff_getElem.1 hu) i j hi hj q; omega
    · obtain rfl : i = j := by omega
      omega)
  rw [this]
  exact ⟨hi, by rw [List.getElem?_eq_getElem hi, he]⟩

/-- The edge that Edge tells. -/
def edgeOf (es : List Ed) (t : Int) : Ed × Bool := if t ∈ es.map (·.tok) then ((es[rank (es.map (·.tok)) t]?).getD ⟨0, 0, ⟨#[]⟩, 0⟩, true) else (⟨0, 0, ⟨#[]⟩, 0⟩, false)
end
end Go.Proofs.Ytjcajidgaejhoaa

namespace Go.Proofs.Ytjcajidgaejhoaa
open Go.RowKit
set_option linter.unusedSimpArgs false
set_option linter.unusedVariables false
section
variable {w : World} {pb : Nat} {F : List Nat} {ns : List Nd} {es : List Ed} {given : Int}

end
end Go.Proofs.Ytjcajidgaejhoaa

namespace Go.Proofs.Ytjcajidgaejhoaa
open Go.RowKit
set_option linter.unusedSimpArgs false
set_option linter.unusedVariables false
section
variable {w : World} {pb : Nat} {F : List Nat} {ns : List Nd} {es : List Ed} {given : Int}

set_option maxHeartbeats 4000000 in
set_option maxRecDepth 100000 in
theorem gadd_ok (h : GSt w pb F ns es given) (hu : Up (ns.map (·.id))) (hn : ns.length ≤ 1000000) (he : es.length < 60) (hg0 : 0 ≤ given) (hg1 : given < 1099511627776) (x y : Int) (s : ByteArray) (hs : namedB s = true) (hx : x ∈ ns.map (·.id)) (hy : y ∈ ns.map (·.id)) :
    Calls Try.prog 37 #[.pointer (some ⟨pb, 0, none⟩), .int .i64 x, .string s, .int .i64 y] w fun e w' => e = .returned (.tuple #[.int .i64 (given + 1), .int .i64 0]) ∧ GEnd w pb F ns (es ++ [⟨given + 1, x, s, y⟩]) (given + 1) w' := by
  have hcx := ghas_any h hu hn x
  rw [decide_eq_true hx] at hcx
  have hcy := fun w' (f : Frame [] w w') => ghas_any (h.frame0 f) hu hn y
  rw [decide_eq_true hy] at hcy
  have hnm := named_any s w (by simp [namedB] at hs; omega)
  rw [hs] at hnm
  obtain ⟨an, nc, ae, ec, G, H, hb, sn, se, n1, n2, n3, rfl⟩ := h
  have HX := Lib.hid hcx
  have HY := Lib.hid hcy
  have HN := Lib.hid hnm
  have A := Lib.hid (And.intro hb (And.intro sn (And.intro se (And.intro n1 (And.intro n2 n3)))))
  clear hcx hcy hnm hb sn se n1 n2 n3 hu hx hy hs
  go_enter Try.func37, Try.ntmps37
  go_wp2_with fail
  refine HN.out.mono ?_
  rintro e w ⟨rfl, rfl⟩
  go_wp2_with fail
  refine HX.out.mono ?_
  rintro e w2 ⟨rfl, f2⟩
  have F2 := Lib.hid f2
  clear f2
  go_wp2_with fail
  refine (HY.out _ F2.out).mono ?_
  rintro e w3 ⟨rfl, f3⟩
  have F3 := Lib.hid (F2.out.trans1 f3)
  clear f3 F2
  have hb3 := A.out.1.frame F3.out (by simp)
  have c1 := hb3.at 1 rfl
  have c2 := hb3.at 2 rfl
  have z2 := hb3.frozen 2
  have hb5 : Blk (w3.setCell ⟨pb, 2, none⟩ (.int .i64 (given + 1))) pb 78 #[.slice an ns.length nc, .slice ae es.length ec, .int .i64 (given + 1)] := by simpa using hb3.set 2 (.int .i64 (given + 1))
  have fs := Frame.setCell (S := [pb]) w3 ⟨pb, 2, none⟩ (.int .i64 (given + 1)) (by simp)
  have HB5 := Lib.hid hb5
  have FS := Lib.hid fs
  have d1 := hb5.at 1 rfl
  have d2 := hb5.at 2 rfl
  clear hb3 hb5 fs
  have hl : ¬ (60 : Int) ≤ es.length := by omega
  have hl2 : ¬ (1099511627776 : Int) ≤ given := by omega
  go_wp2_with fail
  generalize w3.setCell ⟨pb, 2, none⟩ (.int .i64 (given + 1)) = w5 at *
  obtain ⟨i0, hi, hz0, hz1, hz2⟩ := info_parts infoEdge
  have HI := Lib.hid (And.intro hi (And.intro hz0 (And.intro hz1 hz2)))
  clear hi hz0 hz1 hz2 c1 c2 z2
  have HM : Hid (es.length + 1 ≤ maxLen) := Lib.hid (by unfold maxLen; omega)
  have f5 : Frame [pb] w w5 := (F3.out.mono (by simp)).trans1 FS.out
  have se5 : Sl w5 43 4 Ed.cs (.slice ae es.length ec) es H := A.out.2.2.1.frame f5 (by simp; intro x hx e; subst e; exact A.out.2.2.2.2.1 hx)
  have SE := Lib.hid se5
  have F5 := Lib.hid f5
  clear se5 f5
  have d1a := (HB5.out.alloc (.cells #[.int .i64 (given + 1), .int .i64 x, .string s, .int .i64 y] 43)).at 1 rfl
  go_cut [] (fun wx => ∃ g cap', Blk wx pb 78 #[.slice an ns.length nc, .slice (some ⟨g, 0, none⟩) (es.length + 1) cap', .int .i64 (given + 1)] ∧
    Sl wx 43 4 Ed.cs (.slice (some ⟨g, 0, none⟩) (es.length + 1) cap') (es ++ [⟨given + 1, x, s, y⟩]) [g] ∧ (g ∈ H ∨ w5.heap.size ≤ g) ∧ Frame (pb :: H) w5 wx)
  case first =>
    go_region_law (refine step_append_lies _ rfl (.tmp 50) (.tmp 59) 23 rfl 0 43 i0 _ 4 40 Try.underlying23 HI.out.1 HI.out.2.1 HI.out.2.2.1 HI.out.2.2.2 rfl (by decide) (.slice ae es.length ec) es.length (es.flatMap Ed.cs) (by simp [Act.eval, Act.put]) ((SE.out.frame0 (Frame.drew [] _)).frame0 (Frame.alloc [] _ _)).owns ⟨w5.heap.size, 0, none⟩ 1 1 [.int .i64 (given + 1), .int .i64 x, .string s, .int .i64 y] (by simp [Act.eval, Act.put, World.drew]) rfl (World.news_of_block (heap_alloc_new w5.drew _)) (by simp [Value.oneCell']) (by omega) HM.out (by omega) (by omega) (w5.heap.size + 1) (by simp [World.drew]) ?_; intro g cap' w6 hown hgrow hat hlt; have f6 := Frame.of_grown (S := H) hgrow (fun k hk => by rw [SE.out.own_block k hk]; simp); have h6 := (HB5.out.drew.alloc _).frame f6 A.out.2.2.2.2.1; have p0 := h6.at 1 rfl; have p1 := h6.frozen 1)
    all_goals
      go_wp2_with fail
      go_meet
      case rel =>
        have hat' : g ∈ H ∨ w5.heap.size ≤ g := by
          rcases hat with h | h
          · left; rw [SE.out.own_block g h]; simp
          · right; omega
        have hpg : pb ≠ g := by
          rcases hat' with h | h
          · intro e; subst e; exact A.out.2.2.2.2.1 h
          · have := HB5.out.lt; omega
        have fa : Frame (pb :: H) w5 (w5.drew.alloc (.cells #[.int .i64 (given + 1), .int .i64 x, .string s, .int .i64 y] 43)) := (Frame.drew _ _).trans1 (Frame.alloc _ _ _)
        refine ⟨g, cap', by simpa using h6.set 1 (.slice (some ⟨g, 0, none⟩) (es.length + 1) cap'), ?_, hat', (fa.trans f6 (by simp; intro x hx; exact .inl (.inr hx))).trans1 (Frame.setCell _ _ _ (by simp))⟩
        refine .inr ⟨g, cap', by simp, rfl, ?_⟩
        have := RowAt.set_ne (a := ⟨pb, 1, none⟩) hown (.slice (some ⟨g, 0, none⟩) (es.length + 1) cap') (fun e => hpg e.symm)
        simpa [Ed.cs] using this
  case rest =>
    obtain ⟨g, cap', q0, q1, q2, q3⟩ := hcut
    have r1 := q0.at 2 rfl
    have Q := Lib.hid (And.intro q0 (And.intro q1 (And.intro q2 q3)))
    clear q0 q1 q2 q3 d1a d1 d2
    go_wp2_with fail
    go_ret2
    have hz5 := F5.out.size
    have fw : Frame (pb :: (G ++ H)) w wc := (F5.out.mono (S' := pb :: (G ++ H)) (by simp)).trans1 (Q.out.2.2.2.mono (by simp; intro x hx; exact .inl (.inr (.inr hx))))
    refine ⟨rfl, pb :: (G ++ [g]), ⟨an, nc, some ⟨g, 0, none⟩, cap', G, [g], ?_, ?_, ?_, A.out.2.2.2.1, ?_, ?_, rfl⟩, fw, ?_⟩
    · have := Q.out.1; simpa using this
    · have s5 := (A.out.2.1).frame F5.out (by simp; intro x hx e; subst e; exact A.out.2.2.2.1 hx)
      exact s5.frame Q.out.2.2.2 (by simp; intro x hx; exact ⟨fun e => by subst e; exact A.out.2.2.2.1 hx, A.out.2.2.2.2.2 x hx⟩)
    · have := Q.out.2.1; simpa using this
    · simp
      rcases Q.out.2.2.1 with h | h
      · intro e; subst e; exact A.out.2.2.2.2.1 h
      · have := HB5.out.lt; omega
    · intro x hx; simp
      intro e; subst e
      rcases Q.out.2.2.1 with h | h
      · exact A.out.2.2.2.2.2 _ hx h
      · have := A.out.2.1.lt _ hx; omega
    · intro x hx
      simp at hx ⊢
      rcases hx with h | h | h
      · exact .inl (.inl h)
      · exact .inl (.inr (.inl h))
      · subst h
        rcases Q.out.2.2.1 with h | h
        · exact .inl (.inr (.inr h))
        · right; omega
end
end Go.Proofs.Ytjcajidgaejhoaa

namespace Go.Proofs.Ytjcajidgaejhoaa
open Go.RowKit
set_option linter.unusedSimpArgs false
set_option linter.unusedVariables false

theorem Sl.nodup {α : Type} {w : World} {e sz : Nat} {enc : α → List Value} {v : Value} {xs : List α} {G : List Nat} (h : Sl w e sz enc v xs G) : G.Nodup := by
  rcases h with ⟨_, _, rfl⟩ | ⟨b, _, _, rfl, _⟩ <;> simp
/-- A node with what its slices hold, and their blocks. -/
structure Rn where
  nd : Nd
  ls : List ByteArray
  ps : List Pr
  L : List Nat
  P : List Nat
def Rn.ok (w : World) (r : Rn) : Prop := NdAt w r.nd r.ls r.ps r.L r.P ∧ r.ls.length ≤ 1000000 ∧ r.ps.length ≤ 1000000
def Rn.bl (r : Rn) : List Nat := r.L ++ r.P
/-- A node by its values: number, labels, properties. -/
abbrev Nv := Int × List ByteArray × List Pr
def Rn.tell (r : Rn) : Nv := (r.nd.id, r.ls, r.ps)
theorem Rn.ok_frame {w w' : World} {r : Rn} {S : List Nat} (h : r.ok w) (f : Frame S w w') (hS : ∀ x ∈ r.bl, x ∉ S) : r.ok w' :=
  ⟨h.1.frame f (fun x hx => hS x (by simp [Rn.bl, hx])) (fun x hx => hS x (by simp [Rn.bl, hx])), h.2⟩
theorem Rn.ok_lt {w : World} {r : Rn} (h : r.ok w) : ∀ x ∈ r.bl, x < w.heap.size := fun x hx => h.1.lt x (by simpa [Rn.bl] using hx)
/-- A node without anything. -/
def nd0 (t : Int) : Nd := ⟨t, none, 0, 0, none, 0, 0⟩
def rn0 (t : Int) : Rn := ⟨nd0 t, [], [], [], []⟩
theorem rn0_ok (t : Int) (w : World) : (rn0 t).ok w := ⟨⟨rfl, rfl, Sl.nil _ _ _ _, Sl.nil _ _ _ _, by simp [rn0]⟩, by simp [rn0], by simp [rn0]⟩

theorem GSt.nodup {w : World} {pb : Nat} {F : List Nat} {ns : List Nd} {es : List Ed} {given : Int} (h : GSt w pb F ns es given) : F.Nodup := by
  obtain ⟨an, nc, ae, ec, G, H, hb, sn, se, n1, n2, n3, rfl⟩ := h
  refine List.nodup_cons.2 ⟨by simp [n1, n2], List.nodup_append.2 ⟨sn.nodup, se.nodup, fun x hx y hy e => n3 x hx (e ▸ hy)⟩⟩

/-- A graph: its nodes with what they hold, no block twice. -/
def GG (w : World) (pb : Nat) (F : List Nat) (rs : List Rn) (es : List Ed) (given : Int) : Prop :=
  ∃ FG, GSt w pb FG (rs.map (·.nd)) es given ∧ (∀ r ∈ rs, r.ok w) ∧ (FG ++ rs.flatMap Rn.bl).Nodup ∧ F = FG ++ rs.flatMap Rn.bl
/-- .. by values. -/
def GV (w : World) (pb : Nat) (F : List Nat) (ns : List Nv) (es : List Ed) (given : Int) : Prop := ∃ rs, GG w pb F rs es given ∧ rs.map Rn.tell = ns
/-- Behind a call that may write the graph. -/
def GVEnd (w : World) (pb : Nat) (F : List Nat) (ns : List Nv) (es : List Ed) (given : Int) (w' : World) : Prop :=
  ∃ F', GV w' pb F' ns es given ∧ Frame F w w' ∧ ∀ x ∈ F', x ∈ F ∨ w.heap.size ≤ x
section
variable {w w' : World} {pb : Nat} {F : List Nat} {rs : List Rn} {ns : List Nv} {es : List Ed} {given : Int}
theorem GG.frame {S : List Nat} (h : GG w pb F rs es given) (f : Frame S w w') (hS : ∀ x ∈ F, x ∉ S) : GG w' pb F rs es given := by
  obtain ⟨FG, h1, h2, h3, rfl⟩ := h
  exact ⟨FG, h1.frame f (fun x hx => hS x (by simp [hx])), fun r hr => Rn.ok_frame (h2 r hr) f (fun x hx => hS x (by simp; exact .inr ⟨r, hr, hx⟩)), h3, rfl⟩
theorem GV.frame {S : List Nat} (h : GV w pb F ns es given) (f : Frame S w w') (hS : ∀ x ∈ F, x ∉ S) : GV w' pb F ns es given := by
  obtain ⟨rs, h1, h2⟩ := h
  exact ⟨rs, h1.frame f hS, h2⟩
theorem GV.frame0 (h : GV w pb F ns es given) (f : Frame [] w w') : GV w' pb F ns es given := h.frame f (by simp)
theorem GG.lt (h : GG w pb F rs es given) : ∀ x ∈ F, x < w.heap.size := by
  obtain ⟨FG, h1, h2, h3, rfl⟩ := h
  intro x hx
  rcases List.mem_append.1 hx with hx | hx
  · exact h1.lt x hx
  · obtain ⟨r, hr, hx⟩ := List.mem_flatMap.1 hx
    exact Rn.ok_lt (h2 r hr) x hx
theorem GV.lt (h : GV w pb F ns es given) : ∀ x ∈ F, x < w.heap.size := by
  obtain ⟨rs, h1, _⟩ := h; exact h1.lt
theorem GV.pb_mem (h : GV w pb F ns es given) : pb ∈ F := by
  obtain ⟨rs, ⟨FG, ⟨an, nc, ae, ec, G, H, hb, sn, se, n1, n2, n3, rfl⟩, h2, h3, rfl⟩, _⟩ := h; simp
theorem GVEnd.quiet (h : GV w pb F ns es given) (f : Frame [] w w') : GVEnd w pb F ns es given w' := ⟨F, h.frame0 f, f.mono (by simp), fun x hx => .inl hx⟩
theorem tell_ids (rs : List Rn) : (rs.map Rn.tell).map (·.1) = (rs.map (·.nd)).map (·.id) := by simp [Rn.tell, Function.comp_def]
/-- A call that touches the object and its two rows alone. -/
theorem GG.lift {FG : List Nat} {rs' : List Rn} {es' : List Ed} {given' : Int} (h1 : GSt w pb FG (rs.map (·.nd)) es given) (h2 : ∀ r ∈ rs, r.ok w) (h3 : (FG ++ rs.flatMap Rn.bl).Nodup)
    (e : GEnd w pb FG (rs'.map (·.nd)) es' given' w') (hok : ∀ r ∈ rs', r.ok w) (hsub : (rs'.flatMap Rn.bl).Sublist (rs.flatMap Rn.bl)) :
    ∃ F', GG w' pb F' rs' es' given' ∧ Frame (FG ++ rs.flatMap Rn.bl) w w' ∧ ∀ x ∈ F', x ∈ FG ++ rs.flatMap Rn.bl ∨ w.heap.size ≤ x := by
  obtain ⟨FG', a, b, c⟩ := e
  obtain ⟨n1, n2, n3⟩ := List.nodup_append.1 h3
  have hlt : ∀ x ∈ rs'.flatMap Rn.bl, x < w.heap.size := fun x hx => by
    obtain ⟨r, hr, hx⟩ := List.mem_flatMap.1 hx
    exact Rn.ok_lt (hok r hr) x hx
  refine ⟨FG' ++ rs'.flatMap Rn.bl, ⟨FG', a, fun r hr => Rn.ok_frame (hok r hr) b (fun x hx hm => ?_), List.nodup_append.2 ⟨a.nodup, n2.sublist hsub, fun x hx y hy e => ?_⟩, rfl⟩, b.mono (fun x hx => .inl (by simp [hx])), fun x hx => ?_⟩
  · exact n3 x hm x (hsub.subset (List.mem_flatMap.2 ⟨r, hr, hx⟩)) rfl
  · subst e
    rcases c x hx with h | h
    · exact n3 x h x (hsub.subset hy) rfl
    · have := hlt x hy; omega
  · rcases List.mem_append.1 hx with hx | hx
    · rcases c x hx with h | h
      · exact .inl (by simp [h])
      · exact .inr h
    · exact .inl (List.mem_append.2 (.inr (hsub.subset hx)))
theorem GV.lift {FG : List Nat} {rs' : List Rn} {es' : List Ed} {given' : Int} {ns' : List Nv} (h1 : GSt w pb FG (rs.map (·.nd)) es given) (h2 : ∀ r ∈ rs, r.ok w) (h3 : (FG ++ rs.flatMap Rn.bl).Nodup)
    (e : GEnd w pb FG (rs'.map (·.nd)) es' given' w') (hok : ∀ r ∈ rs', r.ok w) (hsub : (rs'.flatMap Rn.bl).Sublist (rs.flatMap Rn.bl)) (hns : rs'.map Rn.tell = ns') : GVEnd w pb (FG ++ rs.flatMap Rn.bl) ns' es' given' w' := by
  obtain ⟨F', a, b, c⟩ := GG.lift h1 h2 h3 e hok hsub
  exact ⟨F', ⟨rs', a, hns⟩, b, c⟩

/-! ### AddNode -/
def vAddNode (ns : List Nv) (t : Int) : Int × List Nv :=
  if t < 1 ∨ 1000 < t then (1, ns) else if t ∈ ns.map (·.1) then (7, ns) else if 12 ≤ ns.length then (5, ns)
  else (0, ns.take (rank (ns.map (·.1)) t) ++ (t, [], []) :: ns.drop (rank (ns.map (·.1)) t))
theorem gv_addNode (h : GV w pb F ns es given) (hu : Up (ns.map (·.1))) (hn : ns.length ≤ 1000000) (t : Int) :
    Calls Try.prog 34 #[.pointer (some ⟨pb, 0, none⟩), .int .i64 t] w fun e w' => e = .returned (.int .i64 (vAddNode ns t).1) ∧ GVEnd w pb F (vAddNode ns t).2 es given w' := by
  have h0 := h
  obtain ⟨rs, ⟨FG, h1, h2, h3, rfl⟩, rfl⟩ := h
  rw [List.length_map] at hn
  rw [tell_ids] at hu
  have hl : (rs.map (·.nd)).length = rs.length := List.length_map _
  unfold vAddNode
  rw [tell_ids, List.length_map]
  by_cases q1 : t < 1 ∨ 1000 < t
  · rw [if_pos q1]
    exact (addNode_arg h1 hu (by rw [hl]; omega) t q1).mono fun e w' ⟨he, f⟩ => ⟨he, GVEnd.quiet h0 f⟩
  rw [if_neg q1]
  by_cases q2 : t ∈ (rs.map (·.nd)).map (·.id)
  · rw [if_pos q2]
    exact (addNode_dup h1 hu (by rw [hl]; omega) t (by omega) (by omega) q2).mono fun e w' ⟨he, f⟩ => ⟨he, GVEnd.quiet h0 f⟩
  rw [if_neg q2]
  by_cases q3 : 12 ≤ rs.length
  · rw [if_pos q3]
    exact (addNode_full h1 hu (by rw [hl]; omega) (by rw [hl]; omega) t (by omega) (by omega) q2).mono fun e w' ⟨he, f⟩ => ⟨he, GVEnd.quiet h0 f⟩
  rw [if_neg q3]
  refine (addNode_new h1 hu (by rw [hl]; omega) t (by omega) (by omega) q2).mono fun e w' ⟨he, hg⟩ => ⟨he, ?_⟩
  generalize rank ((rs.map (·.nd)).map (·.id)) t = r at *
  have e1 : (rs.map (·.nd)).take r ++ (⟨t, none, 0, 0, none, 0, 0⟩ : Nd) :: (rs.map (·.nd)).drop r = (rs.take r ++ rn0 t :: rs.drop r).map (·.nd) := by simp [rn0, nd0]
  rw [e1] at hg
  refine GV.lift h1 h2 h3 hg (fun x hx => ?_) ?_ (by simp [rn0, nd0, Rn.tell])
  · rcases List.mem_append.1 hx with hx | hx
    · exact h2 x (List.mem_of_mem_take hx)
    · rcases List.mem_cons.1 hx with rfl | hx
      · exact rn0_ok _ _
      · exact h2 x (List.mem_of_mem_drop hx)
  · rw [List.flatMap_append, List.flatMap_cons, show (rn0 t).bl = [] from rfl, List.nil_append, ← List.flatMap_append, List.take_append_drop]
    exact List.Sublist.refl _

/-! ### DropNode -/
def vDropNode (ns : List Nv) (es : List Ed) (t : Int) : Int × List Nv :=
  if t ∉ ns.map (·.1) then (7, ns) else if es.any (meets t) = true then (8, ns) else (0, ns.eraseIdx (rank (ns.map (·.1)) t))
theorem map_eraseIdx {α β : Type} (f : α → β) (l : List α) (i : Nat) : (l.eraseIdx i).map f = (l.map f).eraseIdx i := by
  induction l generalizing i with
  | nil => simp
  | cons x t ih => cases i with
    | zero => simp
    | succ i => simp [ih]
theorem flatMap_sublist {α β : Type} {f : α → List β} {l l' : List α} (h : l.Sublist l') : (l.flatMap f).Sublist (l'.flatMap f) := by
  induction h with
  | slnil => exact List.Sublist.refl _
  | cons a _ ih => rw [List.flatMap_cons]; exact ih.trans (List.sublist_append_right _ _)
  | cons_cons a _ ih => rw [List.flatMap_cons, List.flatMap_cons]; exact (List.Sublist.refl _).append ih
end
end Go.Proofs.Ytjcajidgaejhoaa

