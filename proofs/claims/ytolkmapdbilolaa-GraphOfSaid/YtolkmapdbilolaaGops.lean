/- A graph's calls: AddNode, Add, Drop, Edge. -/
import Derived.Test.YtolkmapdbilolaaGst
import Derived.Deep.AppendLies
namespace Go.Proofs.Ytolkmapdbilolaa
open Go.RowKit
set_option linter.unusedSimpArgs false
set_option linter.unusedVariables false
section
variable {w : World} {pb : Nat} {F : List Nat} {ns : List Nd} {es : List Ed} {given : Int}

theorem addNode_dup (h : GSt w pb F ns es given) (hu : Up (ns.map (·.id))) (hn : ns.length ≤ 1000000) (t : Int) (h1 : 1 ≤ t) (h2 : t ≤ 1000) (hm : t ∈ ns.map (·.id)) :
    Calls Try.prog 28 #[.pointer (some ⟨pb, 0, none⟩), .int .i64 t] w fun e w' => e = .returned (.int .i64 7) ∧ Frame [] w w' := by
  have hc := gfind_any h hu hn t
  rw [decide_eq_true hm] at hc
  generalize rank (ns.map (·.id)) t = r at *
  have HC := Lib.hid hc
  clear hc h hu hm
  have h3 : ¬ t < 1 := by omega
  have h4 : ¬ t > 1000 := by omega
  go_enter Try.func28, Try.ntmps28
  go_wp2_with fail
  refine HC.out.mono ?_
  rintro e w3 ⟨rfl, f3⟩
  have F3 := Lib.hid f3
  clear f3
  go_wp2_with fail
  go_ret
  exact ⟨rfl, F3.out⟩

theorem addNode_new (h : GSt w pb F ns es given) (hu : Up (ns.map (·.id))) (hn : ns.length < 12) (t : Int) (h1 : 1 ≤ t) (h2 : t ≤ 1000) (hm : t ∉ ns.map (·.id)) :
    Calls Try.prog 28 #[.pointer (some ⟨pb, 0, none⟩), .int .i64 t] w fun e w' => e = .returned (.int .i64 0) ∧ GEnd w pb F (ns.take (rank (ns.map (·.id)) t) ++ ⟨t, none, 0, 0, none, 0, 0⟩ :: ns.drop (rank (ns.map (·.id)) t)) es given w' := by
  have hc := gfind_any h hu (by omega) t
  rw [decide_eq_false hm] at hc
  have hrk := rank_le (ns.map (·.id)) t
  rw [List.length_map] at hrk
  generalize rank (ns.map (·.id)) t = r at *
  obtain ⟨an, nc, ae, ec, G, H, hb, sn, se, n1, n2, n3, rfl⟩ := h
  have HC := Lib.hid hc
  have A := Lib.hid (And.intro hb (And.intro sn (And.intro se (And.intro n1 (And.intro n2 n3)))))
  clear hc hu hm hb sn se n1 n2 n3
  have h3 : ¬ t < 1 := by omega
  have h4 : ¬ t > 1000 := by omega
  go_enter Try.func28, Try.ntmps28
  go_wp2_with fail
  refine HC.out.mono ?_
  rintro e w3 ⟨rfl, f3⟩
  have hb3 := A.out.1.frame f3 (by simp)
  have c0 := hb3.at 0 rfl
  have F3 := Lib.hid f3
  have HB3 := Lib.hid hb3
  clear f3 hb3
  go_wp2_with fail
  refine (ins_node_any (.slice an ns.length nc) ns ⟨t, none, 0, 0, none, 0, 0⟩ G _ r _ ((A.out.2.1.frame0 F3.out).frame0 (Frame.alloc _ _ _)) (Blk.new _ _ _) (fun h => by have := (A.out.2.1.frame0 F3.out).lt _ h; omega) (by omega) hrk).mono ?_
  rintro e w4 ⟨b', cap', rfl, sl4, f4, hb4⟩
  have hb5 := (HB3.out.alloc _).frame f4 A.out.2.2.2.1
  have q0 := hb5.at 0 rfl
  have q1 := hb5.frozen 0
  have X := Lib.hid (And.intro sl4 (And.intro f4 (And.intro hb4 hb5)))
  clear sl4 f4 hb4 hb5 c0
  go_wp2_with fail
  go_ret
  have hz3 := F3.out.size
  have fw : Frame (pb :: (G ++ H)) w w4 := (F3.out.mono (S' := pb :: (G ++ H)) (by simp)).trans1 (((Frame.alloc (pb :: (G ++ H)) w3 _).trans1 (X.out.2.1.mono (fun x hx => .inl (by simp [hx])))))
  have hpb : pb ≠ b' := by
    rcases X.out.2.2.1 with h | h
    · intro e; subst e; exact A.out.2.2.2.1 h
    · have := HB3.out.lt; simp at h; omega
  have hlen : (ns.take r ++ (⟨t, none, 0, 0, none, 0, 0⟩ : Nd) :: ns.drop r).length = ns.length + 1 := by simp; omega
  refine ⟨rfl, pb :: ([b'] ++ H), ⟨some ⟨b', 0, none⟩, cap', ae, ec, [b'], H, ?_, ?_, ?_, ?_, A.out.2.2.2.2.1, ?_, rfl⟩, fw.trans1 (Frame.setCell (S := pb :: (G ++ H)) w4 _ _ (by simp)), ?_⟩
  · rw [hlen]
    have := X.out.2.2.2.set 0 (.slice (some ⟨b', 0, none⟩) (ns.length + 1) cap')
    simpa using this
  · have := X.out.1.frame (S := [pb]) (Frame.setCell w4 ⟨pb, 0, none⟩ (.slice (some ⟨b', 0, none⟩) (ns.length + 1) cap') (by simp)) (by simp; exact fun e => hpb e.symm)
    rw [hlen]
    exact this
  · have hH : ∀ x ∈ H, x ∉ G := fun x hx hg => A.out.2.2.2.2.2 x hg hx
    have s4 : Sl w4 49 4 Ed.cs (.slice ae es.length ec) es H := ((A.out.2.2.1.frame0 F3.out).frame0 (Frame.alloc _ _ _)).frame X.out.2.1 hH
    exact s4.frame (S := [pb]) (Frame.setCell w4 ⟨pb, 0, none⟩ _ (by simp)) (by simp; intro x hx e; subst e; exact A.out.2.2.2.2.1 hx)
  · simpa using hpb
  · intro x hx
    simp at hx; subst hx
    rcases X.out.2.2.1 with h | h
    · exact A.out.2.2.2.2.2 _ h
    · intro hh
      have := (A.out.2.2.1.frame0 F3.out).lt _ hh
      simp at h; omega
  · intro x hx
    simp at hx ⊢
    rcases hx with h | h | h
    · exact .inl (.inl h)
    · subst h
      rcases X.out.2.2.1 with h | h
      · exact .inl (.inr (.inl h))
      · right; simp at h; omega
    · exact .inl (.inr (.inr h))

theorem addNode_end (h : GSt w pb F ns es given) (hu : Up (ns.map (·.id))) (hn : ns.length < 12) (t : Int) (h1 : 1 ≤ t) (h2 : t ≤ 1000) (hm : t ∉ ns.map (·.id)) (hr : rank (ns.map (·.id)) t = ns.length) :
    Calls Try.prog 28 #[.pointer (some ⟨pb, 0, none⟩), .int .i64 t] w fun e w' => e = .returned (.int .i64 0) ∧ GEnd w pb F (ns ++ [⟨t, none, 0, 0, none, 0, 0⟩]) es given w' := by
  have := addNode_new h hu hn t h1 h2 hm
  rw [hr, List.take_of_length_le (Nat.le_refl _), List.drop_of_length_le (Nat.le_refl _)] at this
  exact this

theorem addNode_arg (h : GSt w pb F ns es given) (hu : Up (ns.map (·.id))) (hn : ns.length ≤ 1000000) (t : Int) (h1 : t < 1 ∨ 1000 < t) :
    Calls Try.prog 28 #[.pointer (some ⟨pb, 0, none⟩), .int .i64 t] w fun e w' => e = .returned (.int .i64 1) ∧ Frame [] w w' := by
  have hc := gfind_any h hu hn t
  generalize rank (ns.map (·.id)) t = r at *
  generalize decide (t ∈ ns.map (·.id)) = d at *
  have HC := Lib.hid hc
  clear hc h hu
  rcases (by omega : t < 1 ∨ (¬ t < 1 ∧ t > 1000)) with h3 | ⟨h3, h4⟩
  · go_enter Try.func28, Try.ntmps28
    go_wp2_with fail
    refine HC.out.mono ?_
    rintro e w3 ⟨rfl, f3⟩
    have F3 := Lib.hid f3
    clear f3
    go_wp2_with fail
    go_ret
    exact ⟨rfl, F3.out⟩
  · go_enter Try.func28, Try.ntmps28
    go_wp2_with fail
    refine HC.out.mono ?_
    rintro e w3 ⟨rfl, f3⟩
    have F3 := Lib.hid f3
    clear f3
    go_wp2_with fail
    go_ret
    exact ⟨rfl, F3.out⟩

theorem addNode_full (h : GSt w pb F ns es given) (hu : Up (ns.map (·.id))) (hn : 12 ≤ ns.length) (hl : ns.length ≤ 1000000) (t : Int) (h1 : 1 ≤ t) (h2 : t ≤ 1000) (hm : t ∉ ns.map (·.id)) :
    Calls Try.prog 28 #[.pointer (some ⟨pb, 0, none⟩), .int .i64 t] w fun e w' => e = .returned (.int .i64 5) ∧ Frame [] w w' := by
  have hc := gfind_any h hu hl t
  rw [decide_eq_false hm] at hc
  generalize rank (ns.map (·.id)) t = r at *
  obtain ⟨an, nc, ae, ec, G, H, hb, sn, se, n1, n2, n3, rfl⟩ := h
  have HC := Lib.hid hc
  have A := Lib.hid hb
  clear hc hu hm hb sn se n1 n2 n3
  have h3 : ¬ t < 1 := by omega
  have h4 : ¬ t > 1000 := by omega
  go_enter Try.func28, Try.ntmps28
  go_wp2_with fail
  refine HC.out.mono ?_
  rintro e w3 ⟨rfl, f3⟩
  have c0 := (A.out.frame f3 (by simp)).at 0 rfl
  have F3 := Lib.hid f3
  clear f3
  go_wp2_with fail
  go_ret
  exact ⟨rfl, F3.out⟩
end
end Go.Proofs.Ytolkmapdbilolaa
