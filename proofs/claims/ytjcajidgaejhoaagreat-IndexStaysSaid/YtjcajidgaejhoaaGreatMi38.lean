/- graph's Without: its closure. slices.EqualFunc at nodes by sameNode; graph.Same. graph.Of: anything that looks like a graph is one. graph's Without. -/
import Derived.Test.YtjcajidgaejhoaaGreatMi28
import Derived.Test.YtjcajidgaejhoaaGreatMi35
import Derived.Test.YtjcajidgaejhoaaGreatMi34
import Derived.Test.YtjcajidgaejhoaaGreatMi36
import Derived.Test.YtjcajidgaejhoaaGreatMi37
import Derived.Test.YtjcajidgaejhoaaGreatMi30
namespace Go.Proofs.YtjcajidgaejhoaaGreat
open Go.RowKit
set_option linter.unusedSimpArgs false
set_option linter.unusedVariables false

set_option maxHeartbeats 2000000 in
theorem without_fn (e : Ed) (tb : Nat) (ta : Option Addr) (tc : Nat) (ts : List Int) (w : World) (hc : w.cell? ⟨tb, 0, none⟩ = some (.slice ta ts.length tc)) (ht : RF (fun _ => True) w 1 encI ta ts) (hl : ts.length ≤ 1000000) :
    Calls Tryz.prog 68 #[.agg #[.int .i64 e.tok, .int .i64 e.src, .string e.lab, .int .i64 e.dst], .pointer (some ⟨tb, 0, none⟩)] w fun x w' => x = .returned (.bool (decide (e.tok ∈ ts))) ∧ Frame [] w w' := by
  have HC := Lib.hid (fun w' (f : Frame [] w w') => con_int (fun _ => True) ta tc ts e.tok w' (ht.frame0 f) hl (decide (e.tok ∈ ts)) (by simp))
  have CA : ∀ o, (w.alloc o).cell? ⟨tb, 0, none⟩ = some (.slice ta ts.length tc) := fun o => (Frame.alloc [] w o).cell hc (by simp)
  clear ht
  generalize decide (e.tok ∈ ts) = b at *
  go_enter Tryz.func68, Tryz.ntmps68
  go_wp2_with fail
  refine (HC.out _ (by (repeat first | assumption | exact Frame.refl _ _ | refine Frame.trans1 ?_ (Frame.alloc _ _ _) | refine Frame.trans1 ?_ (Frame.drew _ _) | refine Frame.trans1 ?_ (Frame.drewN _ _ _)))).mono ?_
  rintro e w3 ⟨rfl, f3⟩
  have F3 := Lib.hid f3
  clear f3
  go_wp2_with fail
  go_ret
  exact ⟨rfl, (Frame.alloc [] w _).trans1 F3.out⟩
end Go.Proofs.YtjcajidgaejhoaaGreat

namespace Go.Proofs.YtjcajidgaejhoaaGreat
open Go.RowKit
set_option linter.unusedSimpArgs false
set_option linter.unusedVariables false

theorem entered_sameNode : Entered 64 := by intro args w; simp [go_sem]

set_option maxHeartbeats 4000000 in
set_option maxRecDepth 100000 in
theorem equalFunc_node (U1 U2 : Nat → Prop) (a1 a2 : Option Addr) (c1 c2 : Nat) (ns ms : List Nv) (w : World) (h1 : RN U1 w a1 ns) (h2 : RN U2 w a2 ms) (s1 : (⟨ns, [], 0⟩ : Gx).Short) (s2 : (⟨ms, [], 0⟩ : Gx).Short) :
    Calls Tryz.prog 63 #[.slice a1 ns.length c1, .slice a2 ms.length c2, .func (.func 64) #[] #[]] w (Ans (ns = ms) w) := by
  have H1 := Lib.hid h1
  have H2 := Lib.hid h2
  obtain ⟨la1, -, lc1, ld1⟩ := s1
  obtain ⟨la2, -, lc2, ld2⟩ := s2
  simp only at la1 lc1 ld1 la2 lc2 ld2
  have HC := Lib.hid (And.intro lc1 (And.intro ld1 (And.intro lc2 ld2)))
  clear h1 h2 lc1 ld1 lc2 ld2
  by_cases hlen : ns.length = ms.length
  case neg =>
    have hn := nat_bne_true hlen
    have HL := Lib.hid hlen
    clear hlen
    go_enter Tryz.func63, Tryz.ntmps63
    go_wp2_with fail
    go_ret
    exact Ans.mkF (fun e => HL.out (by rw [e])) (Frame.refl _ _)
  have HL := Lib.hid hlen
  have hle : ms.length ≤ ns.length := by omega
  have hge : ns.length ≤ ms.length := by omega
  have hn := nat_bne_false hlen
  clear hlen
  go_enter Tryz.func63, Tryz.ntmps63
  go_wp2_with fail
  go_loopw [17] (fun i wr => ∃ k : Nat, k ≤ ns.length ∧ i = .int .i64 k ∧ Hid (Frame [] w wr ∧ ∀ j, j < k → ns[j]? = ms[j]?)) (fun i _ => ns.length - (intOf i).toNat)
  case atStart => exact ⟨0, Nat.zero_le _, rfl, Frame.refl _ _, fun j h => by omega⟩
  case round =>
    obtain ⟨k, hk, rfl, hR⟩ := hrel
    by_cases hlt : k < ns.length
    · have g1 : ns[k]? = some ns[k] := by simp [hlt]
      have hlt2 : k < ms.length := by omega
      have g2 : ms[k]? = some ms[k] := by simp [hlt2]
      have hc1 := HC.out.1 _ (List.getElem_mem hlt)
      have hc2 := HC.out.2.1 _ (List.getElem_mem hlt)
      have hc3 := HC.out.2.2.1 _ (List.getElem_mem hlt2)
      have hc4 := HC.out.2.2.2 _ (List.getElem_mem hlt2)
      obtain ⟨p1, o1, la, lc, pa, pc, rfl, -, x0, x1, x2, rl1, rp1⟩ := (H1.out.frame0 hR.out.1) k _ g1
      obtain ⟨p2, o2, lb, ld, pb, pd, rfl, -, t0, t1, t2, rl2, rp2⟩ := (H2.out.frame0 hR.out.1) k _ g2
      generalize ns[k] = n at *
      generalize ms[k] = m at *
      have G1 := Lib.hid g1
      have G2 := Lib.hid g2
      have x9 := World.block_lt_of_cell? wr _ x0
      have t9 := World.block_lt_of_cell? wr _ t0
      simp only at x9 t9
      have HS := Lib.hid (fun w' (f : Frame [] wr w') => sameNode_any U1 U2 n m la pa lb pb lc pc ld pd w' (rl1.frame0 f) (rp1.frame0 f) (rl2.frame0 f) (rp2.frame0 f) hc1 hc2 hc3 hc4)
      clear g1 g2 rl1 rp1 rl2 rp2 hc1 hc2 hc3 hc4
      have hcall := entered_sameNode #[.agg #[.int .i64 n.1, .slice la n.2.1.length lc, .slice pa n.2.2.length pc], .agg #[.int .i64 m.1, .slice lb m.2.1.length ld, .slice pb m.2.2.length pd]]
      by_cases hnm : n = m
      case pos =>
        have HY := Lib.hid (fun w' (f : Frame [] wr w') => Ans.yes (HS.out w' f) hnm)
        have HX := Lib.hid hnm
        clear hnm HS
        go_wp2_with fail
        refine (HY.out _ ((Frame.alloc _ _ _).trans1 (Frame.alloc _ _ _))).mono ?_
        rintro e w6 ⟨rfl, f6⟩
        have F6 := Lib.hid (((Frame.alloc [] wr _).trans1 (Frame.alloc [] _ _)).trans1 f6)
        clear f6
        go_wp2_with fail
        go_roundw
        case rel => exact ⟨k + 1, by omega, by first | rfl | go_num, Lib.hid ⟨hR.out.1.trans1 F6.out, get_step hR.out.2 G1.out (by rw [HX.out]; exact G2.out)⟩⟩
        case measure => first | (simp [intOf]; done) | (simp [intOf]; omega)
      case neg =>
        have HY := Lib.hid (fun w' (f : Frame [] wr w') => Ans.no (HS.out w' f) hnm)
        have HX := Lib.hid hnm
        clear hnm HS
        go_wp2_with fail
        refine (HY.out _ ((Frame.alloc _ _ _).trans1 (Frame.alloc _ _ _))).mono ?_
        rintro e w6 ⟨rfl, f6⟩
        have F6 := Lib.hid (((Frame.alloc [] wr _).trans1 (Frame.alloc [] _ _)).trans1 f6)
        clear f6
        go_wp2_with fail
        go_ret
        refine Ans.mkF (fun e => ?_) (hR.out.1.trans1 F6.out)
        subst e
        have := G1.out.symm.trans G2.out
        simp at this
        exact HX.out this
    · obtain rfl : k = ns.length := by omega
      go_wp2_with fail
      go_ret
      exact Ans.mkT (list_eq_of_get HL.out hR.out.2) (hR.out.1.trans1 (by (repeat first | assumption | exact Frame.refl _ _ | refine Frame.trans1 ?_ (Frame.alloc _ _ _) | refine Frame.trans1 ?_ (Frame.drew _ _) | refine Frame.trans1 ?_ (Frame.drewN _ _ _))))

set_option maxHeartbeats 4000000 in
set_option maxRecDepth 100000 in
theorem gsame_any (U1 U2 : Nat → Prop) (v1 v2 : Value) (x y : Gx) (w : World) (h1 : RG U1 w v1 x) (h2 : RG U2 w v2 y) (s1 : x.Short) (s2 : y.Short) :
    Calls Tryz.prog 35 #[v1, v2] w (Ans (x = y) w) := by
  obtain ⟨an, nc, ae, ec, rfl, n1, e1⟩ := h1
  obtain ⟨bn, mc, be, dc, rfl, n2, e2⟩ := h2
  obtain ⟨ns, es, nx⟩ := x
  obtain ⟨ms, fs, ny⟩ := y
  obtain ⟨la1, lb1, lc1, ld1⟩ := s1
  obtain ⟨la2, lb2, lc2, ld2⟩ := s2
  simp only at *
  have HE := Lib.hid (fun w' (f : Frame [] w w') => equal_edge U1 U2 ae be ec dc es fs w' (e1.frame0 f) (e2.frame0 f) lb1 lb2)
  have HN := Lib.hid (fun w' (f : Frame [] w w') => equalFunc_node U1 U2 an bn nc mc ns ms w' (n1.frame0 f) (n2.frame0 f) ⟨la1, by simp, lc1, ld1⟩ ⟨la2, by simp, lc2, ld2⟩)
  clear n1 n2 e1 e2 lc1 ld1 lc2 ld2
  by_cases hi : nx = ny
  case neg =>
    have hb : (nx == ny) = false := by simp [hi]
    have HI := Lib.hid hi
    clear hi
    go_enter Tryz.func35, Tryz.ntmps35
    go_wp2_with fail
    go_ret
    exact Ans.mkF (fun e => HI.out (by injection e)) (by (repeat first | assumption | exact Frame.refl _ _ | refine Frame.trans1 ?_ (Frame.alloc _ _ _) | refine Frame.trans1 ?_ (Frame.drew _ _) | refine Frame.trans1 ?_ (Frame.drewN _ _ _)))
  have hb : (nx == ny) = true := by simp [hi]
  have HI := Lib.hid hi
  clear hi
  by_cases hl : es = fs
  case neg =>
    have HM := Lib.hid (fun w' f => Ans.no (HE.out w' f) hl)
    have HX := Lib.hid hl
    clear hl
    go_enter Tryz.func35, Tryz.ntmps35
    go_wp2_with fail
    refine (HM.out _ (by (repeat first | assumption | exact Frame.refl _ _ | refine Frame.trans1 ?_ (Frame.alloc _ _ _) | refine Frame.trans1 ?_ (Frame.drew _ _) | refine Frame.trans1 ?_ (Frame.drewN _ _ _)))).mono ?_
    rintro e w6 ⟨rfl, f6⟩
    have F6 := Lib.hid ((show Frame [] w _ from by (repeat first | assumption | exact Frame.refl _ _ | refine Frame.trans1 ?_ (Frame.alloc _ _ _) | refine Frame.trans1 ?_ (Frame.drew _ _) | refine Frame.trans1 ?_ (Frame.drewN _ _ _))).trans1 f6)
    clear f6
    go_wp2_with fail
    go_ret
    exact Ans.mkF (fun e => HX.out (by simp at e; exact e.2.1)) F6.out
  have HM := Lib.hid (fun w' f => Ans.yes (HE.out w' f) hl)
  have HX := Lib.hid hl
  clear hl HE
  have key : ∀ (b : Bool) (hq : ∀ w', Frame [] w w' → Calls Tryz.prog 63 #[.slice an ns.length nc, .slice bn ms.length mc, .func (.func 64) #[] #[]] w' fun e w'' => e = .returned (.bool b) ∧ Frame [] w' w''),
      Calls Tryz.prog 35 #[.agg #[.slice an ns.length nc, .slice ae es.length ec, .int .i64 nx], .agg #[.slice bn ms.length mc, .slice be fs.length dc, .int .i64 ny]] w fun e w' => e = .returned (.bool b) ∧ Frame [] w w' := by
    intro b hq
    have HQ := Lib.hid hq
    clear hq HN
    go_enter Tryz.func35, Tryz.ntmps35
    go_wp2_with fail
    have fz : Frame [] w ((w.alloc (.cells #[.slice an ns.length nc, .slice ae es.length ec, .int .i64 nx] 25)).alloc (.cells #[.slice bn ms.length mc, .slice be fs.length dc, .int .i64 ny] 25)) := (Frame.alloc _ _ _).trans1 (Frame.alloc _ _ _)
    have bm := (Blk.new w 25 #[.slice an ns.length nc, .slice ae es.length ec, .int .i64 nx]).alloc (.cells #[.slice bn ms.length mc, .slice be fs.length dc, .int .i64 ny] 25)
    have bz := Blk.new (w.alloc (.cells #[.slice an ns.length nc, .slice ae es.length ec, .int .i64 nx] 25)) 25 #[.slice bn ms.length mc, .slice be fs.length dc, .int .i64 ny]
    simp only [World.size_alloc] at bz
    generalize (w.alloc (.cells #[.slice an ns.length nc, .slice ae es.length ec, .int .i64 nx] 25)).alloc (.cells #[.slice bn ms.length mc, .slice be fs.length dc, .int .i64 ny] 25) = wz at *
    refine (HM.out _ fz).mono ?_
    rintro e w6 ⟨rfl, f6⟩
    have F6 := Lib.hid (fz.trans1 f6)
    have x2 := (bm.frame f6 (by simp)).at 0 rfl
    have y2 := (bz.frame f6 (by simp)).at 0 rfl
    clear f6 fz bm bz
    go_wp2_with fail
    refine (HQ.out _ F6.out).mono ?_
    rintro e w7 ⟨rfl, f7⟩
    have F7 := Lib.hid (F6.out.trans1 f7)
    clear f7
    go_wp2_with fail
    go_ret
    exact ⟨rfl, F7.out⟩
  by_cases hp : ns = ms
  case pos => exact (key true (fun w' f => Ans.yes (HN.out w' f) hp)).mono fun e w' ⟨he, f⟩ => by subst he; exact Ans.mkT (by rw [HI.out, HX.out, hp]) f
  case neg => exact (key false (fun w' f => Ans.no (HN.out w' f) hp)).mono fun e w' ⟨he, f⟩ => by subst he; exact Ans.mkF (fun e => hp (by simp at e; exact e.1)) f
end Go.Proofs.YtjcajidgaejhoaaGreat

namespace Go.Proofs.YtjcajidgaejhoaaGreat
open Go.RowKit
set_option linter.unusedSimpArgs false
set_option linter.unusedVariables false

/-- What All ends in. -/
def AllEnd (x : Gx) (w : World) (e : Ending) (w' : World) : Prop := ∃ v, e = .returned v ∧ RG (fun b => w.heap.size ≤ b) w' v x ∧ Frame [] w w'
theorem own_all {w wr : World} {pb : Nat} {ns : List Nv} {es : List Ed} {given : Int} (h : VOwn w pb ns es given wr) (g : GOk ns es given) :
    Calls Tryz.prog 36 #[.pointer (some ⟨pb, 0, none⟩)] wr (AllEnd ⟨ns, es, given + 1⟩ wr) := by
  obtain ⟨F, ⟨rs, ⟨FG, h1, h2, h3, rfl⟩, rfl⟩, _, _⟩ := h
  have hl := g.v.len
  rw [List.length_map] at hl
  refine (gall_any rs h1 h2 (by omega) (by have := g.e.len; omega) ⟨g.e.given0, g.e.given1⟩).mono ?_
  rintro e w' ⟨rs', an, nc, ae, ec, G, H, rfl, ht, hok, sn, se, f, -, hn⟩
  have hlen : rs'.length = rs.length := by have := congrArg List.length ht; simpa using this
  refine ⟨_, rfl, ⟨an, nc, ae, ec, ?_, ?_, ?_⟩, f⟩
  · simp only; rw [← ht, List.length_map]
  · simp only
    rw [← ht]
    exact rn_of_sl sn hok (fun x hx => hn x (by simp [hx])) (fun r hr x hx => hn x (List.mem_append.2 (.inr (List.mem_flatMap.2 ⟨r, hr, hx⟩))))
  · exact se.rf ed_len (fun x hx => hn x (by simp [hx]))
theorem GOk.short {ns : List Nv} {es : List Ed} {given : Int} (g : GOk ns es given) (n : Int) : (⟨ns, es, n⟩ : Gx).Short :=
  ⟨by have := g.v.len; simp only; omega, by have := g.e.len; simp only; omega, fun n hn => by have := (g.v.ls n hn).2; omega, fun n hn => by have := (g.v.ps n hn).2; omega⟩

/-- What Of ends in. -/
def OfEnd (x : Gx) (w : World) (e : Ending) (w' : World) : Prop :=
  (¬ MayX x ∧ e = .returned (.tuple #[.pointer none, .int .i64 1]) ∧ Frame [] w w') ∨ (MayX x ∧ ∃ pb, e = .returned (.tuple #[.pointer (some ⟨pb, 0, none⟩), .int .i64 0]) ∧ VOwn w pb x.ns x.es (x.next - 1) w')

theorem VOwn.before {w wa wr : World} {pb : Nat} {ns : List Nv} {es : List Ed} {given : Int} (f : Frame [] w wa) (h : VOwn wa pb ns es given wr) : VOwn w pb ns es given wr := by
  obtain ⟨F, a, b, c⟩ := h
  exact ⟨F, a, f.trans1 b, fun x hx => Nat.le_trans f.size (c x hx)⟩
theorem VOwn.frame {w wr : World} {pb : Nat} {ns : List Nv} {es : List Ed} {given : Int} (h : VOwn w pb ns es given wr) : Frame [] w wr := by obtain ⟨F, a, b, c⟩ := h; exact b

set_option maxHeartbeats 4000000 in
set_option maxRecDepth 100000 in
theorem of_any (U : Nat → Prop) (v : Value) (x : Gx) (w : World) (h : RG U w v x) (hs : x.Short) (hst : StrX x) :
    Calls Tryz.prog 9 #[v] w (OfEnd x w) := by
  have HA := Lib.hid (fun w' (f : Frame [] w w') => again_any U v x w' (h.frame0 f) hs hst)
  have HR := Lib.hid h
  have HSH := Lib.hid hs
  obtain ⟨an, nc, ae, ec, rfl, h1, h2⟩ := h
  clear h1 h2 hst hs
  go_enter Tryz.func9, Tryz.ntmps9
  go_wp2_with fail
  have fr : Frame [] w (w.alloc (.cells #[.slice an x.ns.length nc, .slice ae x.es.length ec, .int .i64 x.next] 25)) := Frame.alloc _ _ _
  have b0 := Blk.new w 25 #[.slice an x.ns.length nc, .slice ae x.es.length ec, .int .i64 x.next]
  generalize w.alloc (.cells #[.slice an x.ns.length nc, .slice ae x.es.length ec, .int .i64 x.next] 25) = wa at *
  refine (HA.out wa fr).mono ?_
  rintro e w1 (⟨rfl, hmay, f1⟩ | ⟨pb, ns, es, g, rfl, hown, hg, hmay⟩)
  · have HM := Lib.hid hmay
    have F1 := Lib.hid (fr.trans1 f1)
    clear hmay f1 fr b0
    go_wp2_with fail
    go_quiet (fail)
    go_wp2_with fail
    go_ret2
    exact .inl ⟨HM.out, rfl, F1.out.trans1 (Frame.drewN _ _ _)⟩
  · have hb1 := b0.frame (VOwn.frame hown) (by simp)
    have HO := Lib.hid (VOwn.before fr hown)
    have HG := Lib.hid hg
    have HM := Lib.hid hmay
    have f1 := fr.trans1 (VOwn.frame hown)
    have HALL := Lib.hid (fun w' (f : Frame [] w1 w') => own_all (hown.quiet f) hg)
    have HS := Lib.hid (fun w' (f : Frame [] w1 w') wb u (hr : RG (fun b => wb ≤ b) w' u ⟨ns, es, g + 1⟩) => gsame_any (fun b => wb ≤ b) U u (.agg #[.slice an x.ns.length nc, .slice ae x.es.length ec, .int .i64 x.next]) ⟨ns, es, g + 1⟩ x w' hr (HR.out.frame0 (f1.trans1 f)) (hg.short _) HSH.out)
    have B1 := Lib.hid hb1
    have c0 := hb1.at 0 rfl
    have c1 := hb1.at 1 rfl
    have c2 := hb1.at 2 rfl
    clear hmay hg hown hb1 fr b0 f1
    by_cases heq : (⟨ns, es, g + 1⟩ : Gx) = x
    · have HY := Lib.hid (fun w' f wb u hr => Ans.yes (HS.out w' f wb u hr) heq)
      have HEQ := Lib.hid heq
      clear heq
      go_wp2_with fail
      go_region_with (first
        | (go_at_call 36; refine (HALL.out _ (by (repeat first | assumption | exact Frame.refl _ _ | refine Frame.trans1 ?_ (Frame.alloc _ _ _) | refine Frame.trans1 ?_ (Frame.drew _ _) | refine Frame.trans1 ?_ (Frame.drewN _ _ _)))).mono ?_; rintro e w6 ⟨u, rfl, rg, f6⟩; have F6 : Frame [] w1 w6 := (show Frame [] w1 _ from by (repeat first | assumption | exact Frame.refl _ _ | refine Frame.trans1 ?_ (Frame.alloc _ _ _) | refine Frame.trans1 ?_ (Frame.drew _ _) | refine Frame.trans1 ?_ (Frame.drewN _ _ _))).trans1 f6; have RGU := Lib.hid rg; have bb := B1.out.frame F6 (by simp); have d0 := bb.at 0 rfl; have d1 := bb.at 1 rfl; have d2 := bb.at 2 rfl; clear rg f6 bb)
        | (go_at_call 35; refine (HY.out _ (show Frame [] w1 _ from by (repeat first | assumption | exact Frame.refl _ _ | refine Frame.trans1 ?_ (Frame.alloc _ _ _) | refine Frame.trans1 ?_ (Frame.drew _ _) | refine Frame.trans1 ?_ (Frame.drewN _ _ _))) _ _ (RGU.out.frame0 (by (repeat first | assumption | exact Frame.refl _ _ | refine Frame.trans1 ?_ (Frame.alloc _ _ _) | refine Frame.trans1 ?_ (Frame.drew _ _) | refine Frame.trans1 ?_ (Frame.drewN _ _ _))))).mono ?_; rintro e w7 ⟨rfl, f7⟩; have F7 : Frame [] w1 w7 := (show Frame [] w1 _ from by (repeat first | assumption | exact Frame.refl _ _ | refine Frame.trans1 ?_ (Frame.alloc _ _ _) | refine Frame.trans1 ?_ (Frame.drew _ _) | refine Frame.trans1 ?_ (Frame.drewN _ _ _))).trans1 f7; clear f7))
      all_goals
        go_wp2_with fail
        go_ret2
        have e1 := HEQ.out
        subst e1
        refine .inr ⟨GOk.may (x := ⟨ns, es, g + 1⟩) (by show GOk ns es (g + 1 - 1); rw [Int.add_sub_cancel]; exact HG.out), pb, rfl, ?_⟩
        show VOwn w pb ns es (g + 1 - 1) _
        rw [Int.add_sub_cancel]
        exact HO.out.quiet (F7.trans1 (by (repeat first | assumption | exact Frame.refl _ _ | refine Frame.trans1 ?_ (Frame.alloc _ _ _) | refine Frame.trans1 ?_ (Frame.drew _ _) | refine Frame.trans1 ?_ (Frame.drewN _ _ _))))
    · have HY := Lib.hid (fun w' f wb u hr => Ans.no (HS.out w' f wb u hr) heq)
      have HEQ := Lib.hid heq
      clear heq
      go_wp2_with fail
      go_region_with (first
        | (go_at_call 36; refine (HALL.out _ (by (repeat first | assumption | exact Frame.refl _ _ | refine Frame.trans1 ?_ (Frame.alloc _ _ _) | refine Frame.trans1 ?_ (Frame.drew _ _) | refine Frame.trans1 ?_ (Frame.drewN _ _ _)))).mono ?_; rintro e w6 ⟨u, rfl, rg, f6⟩; have F6 : Frame [] w1 w6 := (show Frame [] w1 _ from by (repeat first | assumption | exact Frame.refl _ _ | refine Frame.trans1 ?_ (Frame.alloc _ _ _) | refine Frame.trans1 ?_ (Frame.drew _ _) | refine Frame.trans1 ?_ (Frame.drewN _ _ _))).trans1 f6; have RGU := Lib.hid rg; have bb := B1.out.frame F6 (by simp); have d0 := bb.at 0 rfl; have d1 := bb.at 1 rfl; have d2 := bb.at 2 rfl; clear rg f6 bb)
        | (go_at_call 35; refine (HY.out _ (show Frame [] w1 _ from by (repeat first | assumption | exact Frame.refl _ _ | refine Frame.trans1 ?_ (Frame.alloc _ _ _) | refine Frame.trans1 ?_ (Frame.drew _ _) | refine Frame.trans1 ?_ (Frame.drewN _ _ _))) _ _ (RGU.out.frame0 (by (repeat first | assumption | exact Frame.refl _ _ | refine Frame.trans1 ?_ (Frame.alloc _ _ _) | refine Frame.trans1 ?_ (Frame.drew _ _) | refine Frame.trans1 ?_ (Frame.drewN _ _ _))))).mono ?_; rintro e w7 ⟨rfl, f7⟩; have F7 : Frame [] w1 w7 := (show Frame [] w1 _ from by (repeat first | assumption | exact Frame.refl _ _ | refine Frame.trans1 ?_ (Frame.alloc _ _ _) | refine Frame.trans1 ?_ (Frame.drew _ _) | refine Frame.trans1 ?_ (Frame.drewN _ _ _))).trans1 f7; clear f7))
      all_goals
        go_wp2_with fail
        go_ret2
        exact .inl ⟨fun h => HEQ.out (by have h1 := HM.out h; exact Gx.ext h1.1 h1.2.1 (by show g + 1 = x.next; omega)), rfl, ((VOwn.frame HO.out).trans1 (F7.trans1 (by (repeat first | assumption | exact Frame.refl _ _ | refine Frame.trans1 ?_ (Frame.alloc _ _ _) | refine Frame.trans1 ?_ (Frame.drew _ _) | refine Frame.trans1 ?_ (Frame.drewN _ _ _)))))⟩
end Go.Proofs.YtjcajidgaejhoaaGreat

namespace Go.Proofs.YtjcajidgaejhoaaGreat
open Go.RowKit
set_option linter.unusedSimpArgs false
set_option linter.unusedVariables false

theorem entered_wo : Entered 68 := by intro args w; simp [go_sem]
theorem keepE_wo (es : List Ed) (ts : List Int) : keepE (fun e => decide (e.tok ∈ ts)) es = esWo es ts := rfl
set_option maxHeartbeats 8000000 in
set_option maxRecDepth 100000 in
theorem gwithout_any {w wr : World} {pb : Nat} {ns : List Nv} {es : List Ed} {given : Int} (h : VOwn w pb ns es given wr) (g : GOk ns es given) (ta : Option Addr) (tc : Nat) (ts : List Int) (ht : RF (fun b => b < wr.heap.size) wr 1 encI ta ts) (hl : ts.length ≤ 1000000) :
    Calls Tryz.prog 37 #[.pointer (some ⟨pb, 0, none⟩), .slice ta ts.length tc] wr fun e w' => ∃ qb, e = .returned (.pointer (some ⟨qb, 0, none⟩)) ∧ VOwn wr qb ns (esWo es ts) given w' := by
  obtain ⟨F, ⟨rs, ⟨FG, h1, h2, h3, rfl⟩, rfl⟩, _, _⟩ := h
  have hn := g.v.len
  rw [List.length_map] at hn
  have he := g.e.len
  have hg0 := g.e.given0
  have hg1 := g.e.given1
  have HA := Lib.hid (fun w' (f : Frame [] wr w') => gall_any rs (h1.frame f (by simp)) (fun r hr => Rn.ok_frame (h2 r hr) f (by simp)) (by omega) (by omega) ⟨hg0, hg1⟩)
  have HT := Lib.hid ht
  have hpg : ∀ w', Frame [] wr w' → w'.cell? ⟨pb, 2, none⟩ = some (.int .i64 given) := fun w' f => by
    obtain ⟨an, nc, ae, ec, G, H, hb, -⟩ := h1
    exact (hb.frame f (by simp)).at 2 rfl
  have HPG := Lib.hid hpg
  clear h1 h2 h3 ht hpg
  go_enter Tryz.func37, Tryz.ntmps37
  go_wp2_with fail
  refine (HA.out _ (Frame.alloc _ _ _)).mono ?_
  rintro e w3 ⟨rs', an, nc, ae, ec, G, H, rfl, ert, hok, sn, se, f3, hnd, hnew⟩
  have htb := (Blk.new wr 37 #[.slice ta ts.length tc]).frame f3 (by simp)
  have hT3 := (HT.out.frame0 (Frame.alloc [] wr (.cells #[.slice ta ts.length tc] 37))).frame0 f3
  have hs3 := f3.size
  simp only [World.size_alloc] at hs3
  have b4 := Blk.new w3 25 #[.slice an rs'.length nc, .slice ae es.length ec, .int .i64 (given + 1)]
  have f4 := Frame.alloc [] w3 (.cells #[.slice an rs'.length nc, .slice ae es.length ec, .int .i64 (given + 1)] 25)
  have hH : ∀ x ∈ H, wr.heap.size + 1 ≤ x := fun x hx => by have := hnew x (by simp [hx]); simpa using this
  have hHl := se.lt
  have HDF : Hid (Calls Tryz.prog 67 #[.slice ae es.length ec, .func (.func 68) #[] #[.pointer (some ⟨wr.heap.size, 0, none⟩)]] (w3.alloc (.cells #[.slice an rs'.length nc, .slice ae es.length ec, .int .i64 (given + 1)] 25)) fun e w' => e = .returned (.slice ae (esWo es ts).length ec) ∧ Sl w' 44 4 Ed.cs (.slice ae (esWo es ts).length ec) (esWo es ts) H ∧ Frame H (w3.alloc (.cells #[.slice an rs'.length nc, .slice ae es.length ec, .int .i64 (given + 1)] 25)) w') := by
    show Calls _ _ _ _ _
    refine delFunc_sl ae es.length ec es H 68 _ (fun e => decide (e.tok ∈ ts)) _ (se.frame0 f4) (by omega) entered_wo (fun w' f e => ?_)
    have fe : Frame H w3 w' := (f4.mono (by simp)).trans1 f
    refine without_fn e wr.heap.size ta tc ts w' ?_ ?_ hl
    · exact (htb.frame fe (fun hm => by have := hH _ hm; omega)).at 0 rfl
    · exact (hT3.frame fe (fun b hb hm => by have := hH b hm; omega)).mono (fun _ _ => trivial)
  have B4 := Lib.hid b4
  have F3 := Lib.hid (((Frame.alloc [] wr (.cells #[.slice ta ts.length tc] 37)).trans1 f3).trans1 f4)
  go_wp2_with fail
  refine HDF.out.mono ?_
  rintro e w5 ⟨rfl, s5, f5⟩
  have fw5 : Frame [] wr w5 := F3.out.trans f5 (fun x hx => .inr (by have := hH x hx; omega))
  have b5 := B4.out.frame f5 (fun hm => by have := hHl _ hm; omega)
  have z0 := b5.at 0 rfl
  have z1 := b5.at 1 rfl
  have z9 := b5.frozen 1
  have b6 := b5.set 1 (.slice ae (esWo es ts).length ec)
  have y0 := b6.at 0 rfl
  have y1 := b6.at 1 rfl
  have pz := HPG.out w5 fw5
  have fs : Frame [w3.heap.size] w5 (w5.setCell ⟨w3.heap.size, 1, none⟩ (.slice ae (esWo es ts).length ec)) := Frame.setCell _ _ _ (by simp)
  have fw6 : Frame [] wr (w5.setCell ⟨w3.heap.size, 1, none⟩ (.slice ae (esWo es ts).length ec)) := fw5.trans fs (fun x hx => by simp at hx; subst hx; right; omega)
  have pz6 := HPG.out _ fw6
  have FW6 := Lib.hid fw6
  have S5 := Lib.hid (And.intro s5 (And.intro f5 fs))
  clear s5 f5 fs fw5 fw6 b5 b6
  go_wp2_with fail
  refine wp_region_tail 9 (by kernel_rfl) (by kernel_rfl) ?_
  simp only [List.take_succ_cons, List.take_zero, List.drop_succ_cons, List.drop_zero]
  repeat (go_big_quiet_step (fail))
  refine wpQuiet_nil ?_
  go_wp2_with fail
  go_ret
  refine ⟨_, rfl, ?_⟩
  obtain ⟨s5, f5, fs⟩ := S5.out
  obtain ⟨n1, n2, n3⟩ := List.nodup_append.1 hnd
  obtain ⟨n4, n5, n6⟩ := List.nodup_append.1 n1
  have hGl := sn.lt
  have fq : Frame [] (w5.setCell ⟨w3.heap.size, 1, none⟩ (.slice ae (esWo es ts).length ec)) ((w5.setCell ⟨w3.heap.size, 1, none⟩ (.slice ae (esWo es ts).length ec)).alloc (.cells #[.slice an rs'.length nc, .slice ae (esWo es ts).length ec, .int .i64 given] 89)).drew := (Frame.alloc _ _ _).trans1 (Frame.drew _ _)
  have f56 : Frame [w3.heap.size] w5 ((w5.setCell ⟨w3.heap.size, 1, none⟩ (.slice ae (esWo es ts).length ec)).alloc (.cells #[.slice an rs'.length nc, .slice ae (esWo es ts).length ec, .int .i64 given] 89)).drew := fs.trans1 (fq.mono (by simp))
  have f36 : Frame (w3.heap.size :: H) w3 ((w5.setCell ⟨w3.heap.size, 1, none⟩ (.slice ae (esWo es ts).length ec)).alloc (.cells #[.slice an rs'.length nc, .slice ae (esWo es ts).length ec, .int .i64 given] 89)).drew := ((f4.mono (by simp)).trans1 (f5.mono (fun x hx => .inl (List.mem_cons_of_mem _ hx)))).trans1 (f56.mono (by simp))
  have hz5 := f5.size
  simp only [World.size_alloc] at hz5
  have hq : w3.heap.size < w5.heap.size := by omega
  have hrl : ∀ r ∈ rs', ∀ x ∈ r.bl, x < w3.heap.size := fun r hr x hx => Rn.ok_lt (hok r hr) x hx
  have hlt : ∀ x ∈ G ++ H ++ rs'.flatMap Rn.bl, x < w3.heap.size := fun x hx => by
    simp only [List.mem_append, List.mem_flatMap] at hx
    rcases hx with (h | h) | ⟨r, hr, h⟩
    · exact hGl x h
    · exact hHl x h
    · exact hrl r hr x h
  have hqn := (Blk.new (w5.setCell ⟨w3.heap.size, 1, none⟩ (.slice ae (esWo es ts).length ec)) 89 #[.slice an rs'.length nc, .slice ae (esWo es ts).length ec, .int .i64 given]).drew
  have hsz : (w5.setCell ⟨w3.heap.size, 1, none⟩ (.slice ae (esWo es ts).length ec)).heap.size = w5.heap.size := by simp [World.setCell]
  rw [hsz] at hqn
  have snf := sn.frame f36 (fun x hx hm => by
    rcases List.mem_cons.1 hm with rfl | hm
    · have := hGl _ hx; omega
    · exact n6 x hx x hm rfl)
  refine ⟨(w5.heap.size :: (G ++ H)) ++ rs'.flatMap Rn.bl, ⟨rs', ⟨w5.heap.size :: (G ++ H), ⟨an, nc, ae, ec, G, H, by simpa using hqn, by simpa using snf, s5.frame f56 (fun x hx hm => ?_), fun hm => ?_, fun hm => ?_, fun x hx hm => n6 x hx x hm rfl, rfl⟩, fun r hr => Rn.ok_frame (hok r hr) f36 (fun x hx hm => ?_), ?_, rfl⟩, ert⟩, FW6.out.trans1 fq, fun x hx => ?_⟩
  · simp at hm; subst hm; have := hHl _ hx; omega
  · have := hGl _ hm; omega
  · have := hHl _ hm; omega
  · rcases List.mem_cons.1 hm with rfl | hm
    · have := hrl r hr _ hx; omega
    · exact n3 x (by simp [hm]) x (List.mem_flatMap.2 ⟨r, hr, hx⟩) rfl
  · show (w5.heap.size :: (G ++ H ++ rs'.flatMap Rn.bl)).Nodup
    exact List.nodup_cons.2 ⟨fun hm => by have := hlt _ hm; omega, hnd⟩
  · rcases List.mem_cons.1 (show x ∈ w5.heap.size :: (G ++ H ++ rs'.flatMap Rn.bl) from hx) with rfl | hx
    · omega
    · have := hnew x hx; simp at this; omega
end Go.Proofs.YtjcajidgaejhoaaGreat

