/- graph.Of: anything that looks like a graph is one. -/
import Derived.Test.YtolkmapdbilolaaAgain
import Derived.Test.YtolkmapdbilolaaGsame
import Derived.Test.YtolkmapdbilolaaAll
namespace Go.Proofs.Ytolkmapdbilolaa
open Go.RowKit
set_option linter.unusedSimpArgs false
set_option linter.unusedVariables false

/-- What All ends in. -/
def AllEnd (x : Gx) (w : World) (e : Ending) (w' : World) : Prop := ∃ v, e = .returned v ∧ RG (fun b => w.heap.size ≤ b) w' v x ∧ Frame [] w w'
theorem own_all {w wr : World} {pb : Nat} {ns : List Nv} {es : List Ed} {given : Int} (h : VOwn w pb ns es given wr) (g : GOk ns es given) :
    Calls Try.prog 32 #[.pointer (some ⟨pb, 0, none⟩)] wr (AllEnd ⟨ns, es, given + 1⟩ wr) := by
  obtain ⟨F, ⟨rs, ⟨FG, h1, h2, h3, rfl⟩, rfl⟩, _, _⟩ := h
  have hl := g.v.len
  rw [List.length_map] at hl
  refine (gall_any rs h1 h2 (by omega) (by have := g.e.len; omega) ⟨g.e.given0, g.e.given1⟩).mono ?_
  rintro e w' ⟨rs', an, nc, ae, ec, G, H, rfl, ht, hok, sn, se, f, -, hn⟩
  have hlen : rs'.length = rs.length := by have := congrArg List.length ht; simpa using this
  refine ⟨_, rfl, ⟨an, nc, ae, ec, ?_, ?_, ?_⟩, f⟩
  · simp only; rw [← ht, List.length_map]
  · simp only
    rw [← ht]
    exact rn_of_sl sn hok (fun x hx => hn x (by simp [hx])) (fun r hr x hx => hn x (List.mem_append.2 (.inr (List.mem_flatMap.2 ⟨r, hr, hx⟩))))
  · exact se.rf ed_len (fun x hx => hn x (by simp [hx]))
theorem GOk.short {ns : List Nv} {es : List Ed} {given : Int} (g : GOk ns es given) (n : Int) : (⟨ns, es, n⟩ : Gx).Short :=
  ⟨by have := g.v.len; simp only; omega, by have := g.e.len; simp only; omega, fun n hn => by have := (g.v.ls n hn).2; omega, fun n hn => by have := (g.v.ps n hn).2; omega⟩

/-- What Of ends in. -/
def OfEnd (x : Gx) (w : World) (e : Ending) (w' : World) : Prop :=
  (¬ MayX x ∧ e = .returned (.tuple #[.pointer none, .int .i64 1]) ∧ Frame [] w w') ∨ (MayX x ∧ ∃ pb, e = .returned (.tuple #[.pointer (some ⟨pb, 0, none⟩), .int .i64 0]) ∧ VOwn w pb x.ns x.es (x.next - 1) w')

theorem VOwn.before {w wa wr : World} {pb : Nat} {ns : List Nv} {es : List Ed} {given : Int} (f : Frame [] w wa) (h : VOwn wa pb ns es given wr) : VOwn w pb ns es given wr := by
  obtain ⟨F, a, b, c⟩ := h
  exact ⟨F, a, f.trans1 b, fun x hx => Nat.le_trans f.size (c x hx)⟩
theorem VOwn.frame {w wr : World} {pb : Nat} {ns : List Nv} {es : List Ed} {given : Int} (h : VOwn w pb ns es given wr) : Frame [] w wr := by obtain ⟨F, a, b, c⟩ := h; exact b

set_option maxHeartbeats 4000000 in
set_option maxRecDepth 100000 in
theorem of_any (U : Nat → Prop) (v : Value) (x : Gx) (w : World) (h : RG U w v x) (hs : x.Short) (hst : StrX x) :
    Calls Try.prog 39 #[v] w (OfEnd x w) := by
  have HA := Lib.hid (fun w' (f : Frame [] w w') => again_any U v x w' (h.frame0 f) hs hst)
  have HR := Lib.hid h
  have HSH := Lib.hid hs
  obtain ⟨an, nc, ae, ec, rfl, h1, h2⟩ := h
  clear h1 h2 hst hs
  go_enter Try.func39, Try.ntmps39
  go_wp2_with fail
  have fr : Frame [] w (w.alloc (.cells #[.slice an x.ns.length nc, .slice ae x.es.length ec, .int .i64 x.next] 55)) := Frame.alloc _ _ _
  have b0 := Blk.new w 55 #[.slice an x.ns.length nc, .slice ae x.es.length ec, .int .i64 x.next]
  generalize w.alloc (.cells #[.slice an x.ns.length nc, .slice ae x.es.length ec, .int .i64 x.next] 55) = wa at *
  refine (HA.out wa fr).mono ?_
  rintro e w1 (⟨rfl, hmay, f1⟩ | ⟨pb, ns, es, g, rfl, hown, hg, hmay⟩)
  · have HM := Lib.hid hmay
    have F1 := Lib.hid (fr.trans1 f1)
    clear hmay f1 fr b0
    go_wp2_with fail
    go_quiet (fail)
    go_wp2_with fail
    go_ret2
    exact .inl ⟨HM.out, rfl, F1.out.trans1 (Frame.drewN _ _ _)⟩
  · have hb1 := b0.frame (VOwn.frame hown) (by simp)
    have HO := Lib.hid (VOwn.before fr hown)
    have HG := Lib.hid hg
    have HM := Lib.hid hmay
    have f1 := fr.trans1 (VOwn.frame hown)
    have HALL := Lib.hid (fun w' (f : Frame [] w1 w') => own_all (hown.quiet f) hg)
    have HS := Lib.hid (fun w' (f : Frame [] w1 w') wb u (hr : RG (fun b => wb ≤ b) w' u ⟨ns, es, g + 1⟩) => gsame_any (fun b => wb ≤ b) U u (.agg #[.slice an x.ns.length nc, .slice ae x.es.length ec, .int .i64 x.next]) ⟨ns, es, g + 1⟩ x w' hr (HR.out.frame0 (f1.trans1 f)) (hg.short _) HSH.out)
    have B1 := Lib.hid hb1
    have c0 := hb1.at 0 rfl
    have c1 := hb1.at 1 rfl
    have c2 := hb1.at 2 rfl
    clear hmay hg hown hb1 fr b0 f1
    by_cases heq : (⟨ns, es, g + 1⟩ : Gx) = x
    · have HY := Lib.hid (fun w' f wb u hr => Ans.yes (HS.out w' f wb u hr) heq)
      have HEQ := Lib.hid heq
      clear heq
      go_wp2_with fail
      go_region_with (first
        | (go_at_call 32; refine (HALL.out _ (by (repeat first | assumption | exact Frame.refl _ _ | refine Frame.trans1 ?_ (Frame.alloc _ _ _) | refine Frame.trans1 ?_ (Frame.drew _ _) | refine Frame.trans1 ?_ (Frame.drewN _ _ _)))).mono ?_; rintro e w6 ⟨u, rfl, rg, f6⟩; have F6 : Frame [] w1 w6 := (show Frame [] w1 _ from by (repeat first | assumption | exact Frame.refl _ _ | refine Frame.trans1 ?_ (Frame.alloc _ _ _) | refine Frame.trans1 ?_ (Frame.drew _ _) | refine Frame.trans1 ?_ (Frame.drewN _ _ _))).trans1 f6; have RGU := Lib.hid rg; have bb := B1.out.frame F6 (by simp); have d0 := bb.at 0 rfl; have d1 := bb.at 1 rfl; have d2 := bb.at 2 rfl; clear rg f6 bb)
        | (go_at_call 41; refine (HY.out _ (show Frame [] w1 _ from by (repeat first | assumption | exact Frame.refl _ _ | refine Frame.trans1 ?_ (Frame.alloc _ _ _) | refine Frame.trans1 ?_ (Frame.drew _ _) | refine Frame.trans1 ?_ (Frame.drewN _ _ _))) _ _ (RGU.out.frame0 (by (repeat first | assumption | exact Frame.refl _ _ | refine Frame.trans1 ?_ (Frame.alloc _ _ _) | refine Frame.trans1 ?_ (Frame.drew _ _) | refine Frame.trans1 ?_ (Frame.drewN _ _ _))))).mono ?_; rintro e w7 ⟨rfl, f7⟩; have F7 : Frame [] w1 w7 := (show Frame [] w1 _ from by (repeat first | assumption | exact Frame.refl _ _ | refine Frame.trans1 ?_ (Frame.alloc _ _ _) | refine Frame.trans1 ?_ (Frame.drew _ _) | refine Frame.trans1 ?_ (Frame.drewN _ _ _))).trans1 f7; clear f7))
      all_goals
        go_wp2_with fail
        go_ret2
        have e1 := HEQ.out
        subst e1
        refine .inr ⟨GOk.may (x := ⟨ns, es, g + 1⟩) (by show GOk ns es (g + 1 - 1); rw [Int.add_sub_cancel]; exact HG.out), pb, rfl, ?_⟩
        show VOwn w pb ns es (g + 1 - 1) _
        rw [Int.add_sub_cancel]
        exact HO.out.quiet (F7.trans1 (by (repeat first | assumption | exact Frame.refl _ _ | refine Frame.trans1 ?_ (Frame.alloc _ _ _) | refine Frame.trans1 ?_ (Frame.drew _ _) | refine Frame.trans1 ?_ (Frame.drewN _ _ _))))
    · have HY := Lib.hid (fun w' f wb u hr => Ans.no (HS.out w' f wb u hr) heq)
      have HEQ := Lib.hid heq
      clear heq
      go_wp2_with fail
      go_region_with (first
        | (go_at_call 32; refine (HALL.out _ (by (repeat first | assumption | exact Frame.refl _ _ | refine Frame.trans1 ?_ (Frame.alloc _ _ _) | refine Frame.trans1 ?_ (Frame.drew _ _) | refine Frame.trans1 ?_ (Frame.drewN _ _ _)))).mono ?_; rintro e w6 ⟨u, rfl, rg, f6⟩; have F6 : Frame [] w1 w6 := (show Frame [] w1 _ from by (repeat first | assumption | exact Frame.refl _ _ | refine Frame.trans1 ?_ (Frame.alloc _ _ _) | refine Frame.trans1 ?_ (Frame.drew _ _) | refine Frame.trans1 ?_ (Frame.drewN _ _ _))).trans1 f6; have RGU := Lib.hid rg; have bb := B1.out.frame F6 (by simp); have d0 := bb.at 0 rfl; have d1 := bb.at 1 rfl; have d2 := bb.at 2 rfl; clear rg f6 bb)
        | (go_at_call 41; refine (HY.out _ (show Frame [] w1 _ from by (repeat first | assumption | exact Frame.refl _ _ | refine Frame.trans1 ?_ (Frame.alloc _ _ _) | refine Frame.trans1 ?_ (Frame.drew _ _) | refine Frame.trans1 ?_ (Frame.drewN _ _ _))) _ _ (RGU.out.frame0 (by (repeat first | assumption | exact Frame.refl _ _ | refine Frame.trans1 ?_ (Frame.alloc _ _ _) | refine Frame.trans1 ?_ (Frame.drew _ _) | refine Frame.trans1 ?_ (Frame.drewN _ _ _))))).mono ?_; rintro e w7 ⟨rfl, f7⟩; have F7 : Frame [] w1 w7 := (show Frame [] w1 _ from by (repeat first | assumption | exact Frame.refl _ _ | refine Frame.trans1 ?_ (Frame.alloc _ _ _) | refine Frame.trans1 ?_ (Frame.drew _ _) | refine Frame.trans1 ?_ (Frame.drewN _ _ _))).trans1 f7; clear f7))
      all_goals
        go_wp2_with fail
        go_ret2
        exact .inl ⟨fun h => HEQ.out (by have h1 := HM.out h; exact Gx.ext h1.1 h1.2.1 (by show g + 1 = x.next; omega)), rfl, ((VOwn.frame HO.out).trans1 (F7.trans1 (by (repeat first | assumption | exact Frame.refl _ _ | refine Frame.trans1 ?_ (Frame.alloc _ _ _) | refine Frame.trans1 ?_ (Frame.drew _ _) | refine Frame.trans1 ?_ (Frame.drewN _ _ _)))))⟩
end Go.Proofs.Ytolkmapdbilolaa
