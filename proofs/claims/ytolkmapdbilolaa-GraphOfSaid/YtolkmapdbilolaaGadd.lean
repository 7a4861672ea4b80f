/- A graph's call: Add. -/
import Derived.Test.YtolkmapdbilolaaGops
import Derived.Test.YtolkmapdbilolaaGate
namespace Go.Proofs.Ytolkmapdbilolaa
open Go.RowKit
set_option linter.unusedSimpArgs false
set_option linter.unusedVariables false
section
variable {w : World} {pb : Nat} {F : List Nat} {ns : List Nd} {es : List Ed} {given : Int}

set_option maxHeartbeats 4000000 in
set_option maxRecDepth 100000 in
theorem gadd_ok (h : GSt w pb F ns es given) (hu : Up (ns.map (·.id))) (hn : ns.length ≤ 1000000) (he : es.length < 60) (hg0 : 0 ≤ given) (hg1 : given < 1099511627776) (x y : Int) (s : ByteArray) (hs : namedB s = true) (hx : x ∈ ns.map (·.id)) (hy : y ∈ ns.map (·.id)) :
    Calls Try.prog 29 #[.pointer (some ⟨pb, 0, none⟩), .int .i64 x, .string s, .int .i64 y] w fun e w' => e = .returned (.tuple #[.int .i64 (given + 1), .int .i64 0]) ∧ GEnd w pb F ns (es ++ [⟨given + 1, x, s, y⟩]) (given + 1) w' := by
  have hcx := ghas_any h hu hn x
  rw [decide_eq_true hx] at hcx
  have hcy := fun w' (f : Frame [] w w') => ghas_any (h.frame0 f) hu hn y
  rw [decide_eq_true hy] at hcy
  have hnm := named_any s w (by simp [namedB] at hs; omega)
  rw [hs] at hnm
  obtain ⟨an, nc, ae, ec, G, H, hb, sn, se, n1, n2, n3, rfl⟩ := h
  have HX := Lib.hid hcx
  have HY := Lib.hid hcy
  have HN := Lib.hid hnm
  have A := Lib.hid (And.intro hb (And.intro sn (And.intro se (And.intro n1 (And.intro n2 n3)))))
  clear hcx hcy hnm hb sn se n1 n2 n3 hu hx hy hs
  go_enter Try.func29, Try.ntmps29
  go_wp2_with fail
  refine HN.out.mono ?_
  rintro e w ⟨rfl, rfl⟩
  go_wp2_with fail
  refine HX.out.mono ?_
  rintro e w2 ⟨rfl, f2⟩
  have F2 := Lib.hid f2
  clear f2
  go_wp2_with fail
  refine (HY.out _ F2.out).mono ?_
  rintro e w3 ⟨rfl, f3⟩
  have F3 := Lib.hid (F2.out.trans1 f3)
  clear f3 F2
  have hb3 := A.out.1.frame F3.out (by simp)
  have c1 := hb3.at 1 rfl
  have c2 := hb3.at 2 rfl
  have z2 := hb3.frozen 2
  have hb5 : Blk (w3.setCell ⟨pb, 2, none⟩ (.int .i64 (given + 1))) pb 59 #[.slice an ns.length nc, .slice ae es.length ec, .int .i64 (given + 1)] := by simpa using hb3.set 2 (.int .i64 (given + 1))
  have fs := Frame.setCell (S := [pb]) w3 ⟨pb, 2, none⟩ (.int .i64 (given + 1)) (by simp)
  have HB5 := Lib.hid hb5
  have FS := Lib.hid fs
  have d1 := hb5.at 1 rfl
  have d2 := hb5.at 2 rfl
  clear hb3 hb5 fs
  have hl : ¬ (60 : Int) ≤ es.length := by omega
  have hl2 : ¬ (1099511627776 : Int) ≤ given := by omega
  go_wp2_with fail
  generalize w3.setCell ⟨pb, 2, none⟩ (.int .i64 (given + 1)) = w5 at *
  obtain ⟨i0, hi, hz0, hz1, hz2⟩ := info_parts infoEdge
  have HI := Lib.hid (And.intro hi (And.intro hz0 (And.intro hz1 hz2)))
  clear hi hz0 hz1 hz2 c1 c2 z2
  have HM : Hid (es.length + 1 ≤ maxLen) := Lib.hid (by unfold maxLen; omega)
  have f5 : Frame [pb] w w5 := (F3.out.mono (by simp)).trans1 FS.out
  have se5 : Sl w5 49 4 Ed.cs (.slice ae es.length ec) es H := A.out.2.2.1.frame f5 (by simp; intro x hx e; subst e; exact A.out.2.2.2.2.1 hx)
  have SE := Lib.hid se5
  have F5 := Lib.hid f5
  clear se5 f5
  have d1a := (HB5.out.alloc (.cells #[.int .i64 (given + 1), .int .i64 x, .string s, .int .i64 y] 49)).at 1 rfl
  go_cut [] (fun wx => ∃ g cap', Blk wx pb 59 #[.slice an ns.length nc, .slice (some ⟨g, 0, none⟩) (es.length + 1) cap', .int .i64 (given + 1)] ∧
    Sl wx 49 4 Ed.cs (.slice (some ⟨g, 0, none⟩) (es.length + 1) cap') (es ++ [⟨given + 1, x, s, y⟩]) [g] ∧ (g ∈ H ∨ w5.heap.size ≤ g) ∧ Frame (pb :: H) w5 wx)
  case first =>
    go_region_law (refine step_append_lies _ rfl (.tmp 50) (.tmp 59) 53 rfl 0 49 i0 _ 4 40 Try.underlying53 HI.out.1 HI.out.2.1 HI.out.2.2.1 HI.out.2.2.2 rfl (by decide) (.slice ae es.length ec) es.length (es.flatMap Ed.cs) (by simp [Act.eval, Act.put]) ((SE.out.frame0 (Frame.drew [] _)).frame0 (Frame.alloc [] _ _)).owns ⟨w5.heap.size, 0, none⟩ 1 1 [.int .i64 (given + 1), .int .i64 x, .string s, .int .i64 y] (by simp [Act.eval, Act.put, World.drew]) rfl (World.news_of_block (heap_alloc_new w5.drew _)) (by simp [Value.oneCell']) (by omega) HM.out (by omega) (by omega) (w5.heap.size + 1) (by simp [World.drew]) ?_; intro g cap' w6 hown hgrow hat hlt; have f6 := Frame.of_grown (S := H) hgrow (fun k hk => by rw [SE.out.own_block k hk]; simp); have h6 := (HB5.out.drew.alloc _).frame f6 A.out.2.2.2.2.1; have p0 := h6.at 1 rfl; have p1 := h6.frozen 1)
    all_goals
      go_wp2_with fail
      go_meet
      case rel =>
        have hat' : g ∈ H ∨ w5.heap.size ≤ g := by
          rcases hat with h | h
          · left; rw [SE.out.own_block g h]; simp
          · right; omega
        have hpg : pb ≠ g := by
          rcases hat' with h | h
          · intro e; subst e; exact A.out.2.2.2.2.1 h
          · have := HB5.out.lt; omega
        have fa : Frame (pb :: H) w5 (w5.drew.alloc (.cells #[.int .i64 (given + 1), .int .i64 x, .string s, .int .i64 y] 49)) := (Frame.drew _ _).trans1 (Frame.alloc _ _ _)
        refine ⟨g, cap', by simpa using h6.set 1 (.slice (some ⟨g, 0, none⟩) (es.length + 1) cap'), ?_, hat', (fa.trans f6 (by simp; intro x hx; exact .inl (.inr hx))).trans1 (Frame.setCell _ _ _ (by simp))⟩
        refine .inr ⟨g, cap', by simp, rfl, ?_⟩
        have := RowAt.set_ne (a := ⟨pb, 1, none⟩) hown (.slice (some ⟨g, 0, none⟩) (es.length + 1) cap') (fun e => hpg e.symm)
        simpa [Ed.cs] using this
  case rest =>
    obtain ⟨g, cap', q0, q1, q2, q3⟩ := hcut
    have r1 := q0.at 2 rfl
    have Q := Lib.hid (And.intro q0 (And.intro q1 (And.intro q2 q3)))
    clear q0 q1 q2 q3 d1a d1 d2
    go_wp2_with fail
    go_ret2
    have hz5 := F5.out.size
    have fw : Frame (pb :: (G ++ H)) w wc := (F5.out.mono (S' := pb :: (G ++ H)) (by simp)).trans1 (Q.out.2.2.2.mono (by simp; intro x hx; exact .inl (.inr (.inr hx))))
    refine ⟨rfl, pb :: (G ++ [g]), ⟨an, nc, some ⟨g, 0, none⟩, cap', G, [g], ?_, ?_, ?_, A.out.2.2.2.1, ?_, ?_, rfl⟩, fw, ?_⟩
    · have := Q.out.1; simpa using this
    · have s5 := (A.out.2.1).frame F5.out (by simp; intro x hx e; subst e; exact A.out.2.2.2.1 hx)
      exact s5.frame Q.out.2.2.2 (by simp; intro x hx; exact ⟨fun e => by subst e; exact A.out.2.2.2.1 hx, A.out.2.2.2.2.2 x hx⟩)
    · have := Q.out.2.1; simpa using this
    · simp
      rcases Q.out.2.2.1 with h | h
      · intro e; subst e; exact A.out.2.2.2.2.1 h
      · have := HB5.out.lt; omega
    · intro x hx; simp
      intro e; subst e
      rcases Q.out.2.2.1 with h | h
      · exact A.out.2.2.2.2.2 _ hx h
      · have := A.out.2.1.lt _ hx; omega
    · intro x hx
      simp at hx ⊢
      rcases hx with h | h | h
      · exact .inl (.inl h)
      · exact .inl (.inr (.inl h))
      · subst h
        rcases Q.out.2.2.1 with h | h
        · exact .inl (.inr (.inr h))
        · right; omega
end
end Go.Proofs.Ytolkmapdbilolaa
