/- A graph's calls: DropNode. -/
import Derived.Test.YtolkmapdbilolaaGdrop
import Derived.Test.YtolkmapdbilolaaIdxEd
namespace Go.Proofs.Ytolkmapdbilolaa
open Go.RowKit
set_option linter.unusedSimpArgs false
set_option linter.unusedVariables false
theorem entered_dn : Entered 73 := by intro args w; simp [go_sem]
section
variable {w : World} {pb : Nat} {F : List Nat} {ns : List Nd} {es : List Ed} {given : Int}

theorem dropNode_none (h : GSt w pb F ns es given) (hu : Up (ns.map (·.id))) (hn : ns.length ≤ 1000000) (t : Int) (hm : t ∉ ns.map (·.id)) :
    Calls Try.prog 33 #[.pointer (some ⟨pb, 0, none⟩), .int .i64 t] w fun e w' => e = .returned (.int .i64 7) ∧ Frame [] w w' := by
  have hc := fun w' (f : Frame [] w w') => gfind_any (h.frame0 f) hu hn t
  rw [decide_eq_false hm] at hc
  generalize rank (ns.map (·.id)) t = r at *
  have HC := Lib.hid hc
  clear hc h hu hm
  go_enter Try.func33, Try.ntmps33
  go_wp2_with fail
  refine (HC.out _ (by (repeat first | assumption | exact Frame.refl _ _ | refine Frame.trans1 ?_ (Frame.alloc _ _ _) | refine Frame.trans1 ?_ (Frame.drew _ _) | refine Frame.trans1 ?_ (Frame.drewN _ _ _)))).mono ?_
  rintro e w3 ⟨rfl, f3⟩
  have F3 := Lib.hid ((show Frame [] w _ from by (repeat first | assumption | exact Frame.refl _ _ | refine Frame.trans1 ?_ (Frame.alloc _ _ _) | refine Frame.trans1 ?_ (Frame.drew _ _) | refine Frame.trans1 ?_ (Frame.drewN _ _ _))).trans1 f3)
  clear f3
  go_wp2_with fail
  go_ret
  exact ⟨rfl, F3.out⟩

theorem dropNode_edge (h : GSt w pb F ns es given) (hu : Up (ns.map (·.id))) (hn : ns.length ≤ 1000000) (he : es.length ≤ 1000000) (t : Int) (hm : t ∈ ns.map (·.id)) (hh : es.any (meets t) = true) :
    Calls Try.prog 33 #[.pointer (some ⟨pb, 0, none⟩), .int .i64 t] w fun e w' => e = .returned (.int .i64 8) ∧ Frame [] w w' := by
  have hc := fun w' (f : Frame [] w w') => gfind_any (h.frame0 f) hu hn t
  rw [decide_eq_true hm] at hc
  generalize rank (ns.map (·.id)) t = r at *
  have HC := Lib.hid hc
  obtain ⟨an, nc, ae, ec, G, H, hb, sn, se, n1, n2, n3, rfl⟩ := h
  have A := Lib.hid (And.intro hb se)
  have HH := Lib.hid hh
  clear hc hu hm hb sn se n1 n2 n3 hh
  go_enter Try.func33, Try.ntmps33
  go_wp2_with fail
  have bt := Blk.new w 3 #[.int .i64 t]
  refine (HC.out _ (by (repeat first | assumption | exact Frame.refl _ _ | refine Frame.trans1 ?_ (Frame.alloc _ _ _) | refine Frame.trans1 ?_ (Frame.drew _ _) | refine Frame.trans1 ?_ (Frame.drewN _ _ _)))).mono ?_
  rintro e w3 ⟨rfl, f3⟩
  have F3 := Lib.hid ((show Frame [] w _ from by (repeat first | assumption | exact Frame.refl _ _ | refine Frame.trans1 ?_ (Frame.alloc _ _ _) | refine Frame.trans1 ?_ (Frame.drew _ _) | refine Frame.trans1 ?_ (Frame.drewN _ _ _))).trans1 f3)
  have c1 := (A.out.1.frame F3.out (by simp)).at 1 rfl
  have bt3 := bt.frame f3 (by simp)
  have ct := bt3.at 0 rfl
  have BT := Lib.hid bt3
  clear bt3 bt f3
  go_wp2_with fail
  refine (containsFunc_edge ae ec es H 73 #[.pointer (some ⟨w.heap.size, 0, none⟩)] (meets t) _ (A.out.2.frame0 F3.out) (by omega) ⟨entered_dn, fun w' f e => meets_fn t e _ w' ((BT.out.frame f (by simp)).at 0 rfl)⟩).mono ?_
  rintro e w4 ⟨rfl, f4⟩
  rw [HH.out]
  have F4 := Lib.hid f4
  clear f4 ct
  go_wp2_with fail
  go_ret
  exact ⟨rfl, F3.out.trans1 F4.out⟩

theorem dropNode_ok (h : GSt w pb F ns es given) (hu : Up (ns.map (·.id))) (hn : ns.length ≤ 1000000) (he : es.length ≤ 1000000) (t : Int) (hm : t ∈ ns.map (·.id)) (hh : es.any (meets t) = false) :
    Calls Try.prog 33 #[.pointer (some ⟨pb, 0, none⟩), .int .i64 t] w fun e w' => e = .returned (.int .i64 0) ∧ GEnd w pb F (ns.eraseIdx (rank (ns.map (·.id)) t)) es given w' := by
  have hc := fun w' (f : Frame [] w w') => gfind_any (h.frame0 f) hu hn t
  rw [decide_eq_true hm] at hc
  have hr := (rank_lt hu hm).1
  rw [List.length_map] at hr
  generalize rank (ns.map (·.id)) t = r at *
  have HC := Lib.hid hc
  obtain ⟨an, nc, ae, ec, G, H, hb, sn, se, n1, n2, n3, rfl⟩ := h
  obtain ⟨k, hk⟩ : ∃ k, ns.length = k + 1 := ⟨ns.length - 1, by omega⟩
  rcases id sn with ⟨_, rfl, _⟩ | ⟨b, cap', hv, hG, hrow⟩
  · simp at hr
  injection hv with hv1 _ hv2
  subst hv1 hv2 hG
  have A := Lib.hid (And.intro hb (And.intro hrow (And.intro se (And.intro n1 (And.intro n2 n3)))))
  have HH := Lib.hid hh
  have HK := Lib.hid hk
  have HL : Hid ((ns.eraseIdx r).length = k) := Lib.hid (by rw [List.length_eraseIdx_of_lt hr, hk]; rfl)
  rw [hk] at hr
  have hb' := hb
  rw [hk] at hb'
  have HB := Lib.hid hb'
  clear hc hu hm hb hb' sn se n1 n2 n3 hh hrow
  go_enter Try.func33, Try.ntmps33
  go_wp2_with fail
  have bt := Blk.new w 3 #[.int .i64 t]
  refine (HC.out _ (by (repeat first | assumption | exact Frame.refl _ _ | refine Frame.trans1 ?_ (Frame.alloc _ _ _) | refine Frame.trans1 ?_ (Frame.drew _ _) | refine Frame.trans1 ?_ (Frame.drewN _ _ _)))).mono ?_
  rintro e w3 ⟨rfl, f3⟩
  have F3 := Lib.hid ((show Frame [] w _ from by (repeat first | assumption | exact Frame.refl _ _ | refine Frame.trans1 ?_ (Frame.alloc _ _ _) | refine Frame.trans1 ?_ (Frame.drew _ _) | refine Frame.trans1 ?_ (Frame.drewN _ _ _))).trans1 f3)
  have hb3 := HB.out.frame F3.out (by simp)
  have c1 := hb3.at 1 rfl
  have bt3 := bt.frame f3 (by simp)
  have ct := bt3.at 0 rfl
  have BT := Lib.hid bt3
  clear bt3 bt f3 hb3
  go_wp2_with fail
  refine (containsFunc_edge ae ec es H 73 #[.pointer (some ⟨w.heap.size, 0, none⟩)] (meets t) _ (A.out.2.2.1.frame0 F3.out) (by omega) ⟨entered_dn, fun w' f e => meets_fn t e _ w' ((BT.out.frame f (by simp)).at 0 rfl)⟩).mono ?_
  rintro e w4 ⟨rfl, f4⟩
  rw [HH.out]
  have F4 := Lib.hid (F3.out.trans1 f4)
  have hb4 := HB.out.frame F4.out (by simp)
  have c0 := hb4.at 0 rfl
  have HB4 := Lib.hid hb4
  clear f4 ct c1 hb4
  go_wp2_with fail
  refine (del_node b nc k r ns w4 (by have := A.out.2.1.frame F4.out (by simp); rw [HK.out] at this; exact this) HK.out (by omega)).mono ?_
  rintro e w5 ⟨rfl, hr5, f5⟩
  have hpb : pb ≠ b := by have := A.out.2.2.2.1; simpa using this
  have hb5 := HB4.out.frame f5 (by simpa using hpb)
  have z0 := hb5.frozen 0
  have q0 := hb5.at 0 rfl
  have X := Lib.hid (And.intro hb5 (And.intro hr5 f5))
  clear hb5 hr5 f5 c0
  go_wp2_with fail
  go_ret
  have fw : Frame (pb :: ([b] ++ H)) w w5 := (F4.out.mono (S' := pb :: ([b] ++ H)) (by simp)).trans1 (X.out.2.2.mono (by simp))
  refine ⟨rfl, pb :: ([b] ++ H), ⟨some ⟨b, 0, none⟩, nc, ae, ec, [b], H, ?_, ?_, ?_, A.out.2.2.2.1, A.out.2.2.2.2.1, A.out.2.2.2.2.2, rfl⟩, fw.trans1 (Frame.setCell (S := pb :: ([b] ++ H)) w5 _ _ (by simp)), fun x hx => .inl hx⟩
  · rw [HL.out]
    have := X.out.1.set 0 (.slice (some ⟨b, 0, none⟩) k nc)
    simpa using this
  · rw [HL.out]
    refine .inr ⟨b, nc, by rw [HL.out], rfl, ?_⟩
    rw [HL.out]
    exact RowAt.set_ne X.out.2.1 _ (fun e => hpb e.symm)
  · have s4 := (A.out.2.2.1.frame0 F4.out).frame X.out.2.2 (fun x hx hm => by simp at hm; subst hm; exact A.out.2.2.2.2.2 x (by simp) hx)
    exact s4.frame (S := [pb]) (Frame.setCell w5 ⟨pb, 0, none⟩ _ (by simp)) (by simp; intro x hx e; subst e; exact A.out.2.2.2.2.1 hx)
end
end Go.Proofs.Ytolkmapdbilolaa
