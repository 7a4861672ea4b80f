/- slices.EqualFunc at nodes by sameNode; graph.Same. -/
import Derived.Test.YtjcajidgaejhoaaMi39
namespace Go.Proofs.Ytjcajidgaejhoaa
open Go.RowKit
set_option linter.unusedSimpArgs false
set_option linter.unusedVariables false

theorem entered_sameNode : Entered 40 := by intro args w; simp [go_sem]

set_option maxHeartbeats 4000000 in
set_option maxRecDepth 100000 in
theorem equalFunc_node (U1 U2 : Nat → Prop) (a1 a2 : Option Addr) (c1 c2 : Nat) (ns ms : List Nv) (w : World) (h1 : RN U1 w a1 ns) (h2 : RN U2 w a2 ms) (s1 : (⟨ns, [], 0⟩ : Gx).Short) (s2 : (⟨ms, [], 0⟩ : Gx).Short) :
    Calls Try.prog 39 #[.slice a1 ns.length c1, .slice a2 ms.length c2, .func (.func 40) #[] #[]] w (Ans (ns = ms) w) := by
  have H1 := Lib.hid h1
  have H2 := Lib.hid h2
  obtain ⟨la1, -, lc1, ld1⟩ := s1
  obtain ⟨la2, -, lc2, ld2⟩ := s2
  simp only at la1 lc1 ld1 la2 lc2 ld2
  have HC := Lib.hid (And.intro lc1 (And.intro ld1 (And.intro lc2 ld2)))
  clear h1 h2 lc1 ld1 lc2 ld2
  by_cases hlen : ns.length = ms.length
  case neg =>
    have hn := nat_bne_true hlen
    have HL := Lib.hid hlen
    clear hlen
    go_enter Try.func39, Try.ntmps39
    go_wp2_with fail
    go_ret
    exact Ans.mkF (fun e => HL.out (by rw [e])) (Frame.refl _ _)
  have HL := Lib.hid hlen
  have hle : ms.length ≤ ns.length := by omega
  have hge : ns.length ≤ ms.length := by omega
  have hn := nat_bne_false hlen
  clear hlen
  go_enter Try.func39, Try.ntmps39
  go_wp2_with fail
  go_loopw [17] (fun i wr => ∃ k : Nat, k ≤ ns.length ∧ i = .int .i64 k ∧ Hid (Frame [] w wr ∧ ∀ j, j < k → ns[j]? = ms[j]?)) (fun i _ => ns.length - (intOf i).toNat)
  case atStart => exact ⟨0, Nat.zero_le _, rfl, Frame.refl _ _, fun j h => by omega⟩
  case round =>
    obtain ⟨k, hk, rfl, hR⟩ := hrel
    by_cases hlt : k < ns.length
    · have g1 : ns[k]? = some ns[k] := by simp [hlt]
      have hlt2 : k < ms.length := by omega
      have g2 : ms[k]? = some ms[k] := by simp [hlt2]
      have hc1 := HC.out.1 _ (List.getElem_mem hlt)
      have hc2 := HC.out.2.1 _ (List.getElem_mem hlt)
      have hc3 := HC.out.2.2.1 _ (List.getElem_mem hlt2)
      have hc4 := HC.out.2.2.2 _ (List.getElem_mem hlt2)
      obtain ⟨p1, o1, la, lc, pa, pc, rfl, -, x0, x1, x2, rl1, rp1⟩ := (H1.out.frame0 hR.out.1) k _ g1
      obtain ⟨p2, o2, lb, ld, pb, pd, rfl, -, t0, t1, t2, rl2, rp2⟩ := (H2.out.frame0 hR.out.1) k _ g2
      generalize ns[k] = n at *
      generalize ms[k] = m at *
      have G1 := Lib.hid g1
      have G2 := Lib.hid g2
      have x9 := World.block_lt_of_cell? wr _ x0
      have t9 := World.block_lt_of_cell? wr _ t0
      simp only at x9 t9
      have HS := Lib.hid (fun w' (f : Frame [] wr w') => sameNode_any U1 U2 n m la pa lb pb lc pc ld pd w' (rl1.frame0 f) (rp1.frame0 f) (rl2.frame0 f) (rp2.frame0 f) hc1 hc2 hc3 hc4)
      clear g1 g2 rl1 rp1 rl2 rp2 hc1 hc2 hc3 hc4
      have hcall := entered_sameNode #[.agg #[.int .i64 n.1, .slice la n.2.1.length lc, .slice pa n.2.2.length pc], .agg #[.int .i64 m.1, .slice lb m.2.1.length ld, .slice pb m.2.2.length pd]]
      by_cases hnm : n = m
      case pos =>
        have HY := Lib.hid (fun w' (f : Frame [] wr w') => Ans.yes (HS.out w' f) hnm)
        have HX := Lib.hid hnm
        clear hnm HS
        go_wp2_with fail
        refine (HY.out _ ((Frame.alloc _ _ _).trans1 (Frame.alloc _ _ _))).mono ?_
        rintro e w6 ⟨rfl, f6⟩
        have F6 := Lib.hid (((Frame.alloc [] wr _).trans1 (Frame.alloc [] _ _)).trans1 f6)
        clear f6
        go_wp2_with fail
        go_roundw
        case rel => exact ⟨k + 1, by omega, by first | rfl | go_num, Lib.hid ⟨hR.out.1.trans1 F6.out, get_step hR.out.2 G1.out (by rw [HX.out]; exact G2.out)⟩⟩
        case measure => first | (simp [intOf]; done) | (simp [intOf]; omega)
      case neg =>
        have HY := Lib.hid (fun w' (f : Frame [] wr w') => Ans.no (HS.out w' f) hnm)
        have HX := Lib.hid hnm
        clear hnm HS
        go_wp2_with fail
        refine (HY.out _ ((Frame.alloc _ _ _).trans1 (Frame.alloc _ _ _))).mono ?_
        rintro e w6 ⟨rfl, f6⟩
        have F6 := Lib.hid (((Frame.alloc [] wr _).trans1 (Frame.alloc [] _ _)).trans1 f6)
        clear f6
        go_wp2_with fail
        go_ret
        refine Ans.mkF (fun e => ?_) (hR.out.1.trans1 F6.out)
        subst e
        have := G1.out.symm.trans G2.out
        simp at this
        exact HX.out this
    · obtain rfl : k = ns.length := by omega
      go_wp2_with fail
      go_ret
      exact Ans.mkT (list_eq_of_get HL.out hR.out.2) (hR.out.1.trans1 (by (repeat first | assumption | exact Frame.refl _ _ | refine Frame.trans1 ?_ (Frame.alloc _ _ _) | refine Frame.trans1 ?_ (Frame.drew _ _) | refine Frame.trans1 ?_ (Frame.drewN _ _ _))))

set_option maxHeartbeats 4000000 in
set_option maxRecDepth 100000 in
theorem gsame_any (U1 U2 : Nat → Prop) (v1 v2 : Value) (x y : Gx) (w : World) (h1 : RG U1 w v1 x) (h2 : RG U2 w v2 y) (s1 : x.Short) (s2 : y.Short) :
    Calls Try.prog 20 #[v1, v2] w (Ans (x = y) w) := by
  obtain ⟨an, nc, ae, ec, rfl, n1, e1⟩ := h1
  obtain ⟨bn, mc, be, dc, rfl, n2, e2⟩ := h2
  obtain ⟨ns, es, nx⟩ := x
  obtain ⟨ms, fs, ny⟩ := y
  obtain ⟨la1, lb1, lc1, ld1⟩ := s1
  obtain ⟨la2, lb2, lc2, ld2⟩ := s2
  simp only at *
  have HE := Lib.hid (fun w' (f : Frame [] w w') => equal_edge U1 U2 ae be ec dc es fs w' (e1.frame0 f) (e2.frame0 f) lb1 lb2)
  have HN := Lib.hid (fun w' (f : Frame [] w w') => equalFunc_node U1 U2 an bn nc mc ns ms w' (n1.frame0 f) (n2.frame0 f) ⟨la1, by simp, lc1, ld1⟩ ⟨la2, by simp, lc2, ld2⟩)
  clear n1 n2 e1 e2 lc1 ld1 lc2 ld2
  by_cases hi : nx = ny
  case neg =>
    have hb : (nx == ny) = false := by simp [hi]
    have HI := Lib.hid hi
    clear hi
    go_enter Try.func20, Try.ntmps20
    go_wp2_with fail
    go_ret
    exact Ans.mkF (fun e => HI.out (by injection e)) (by (repeat first | assumption | exact Frame.refl _ _ | refine Frame.trans1 ?_ (Frame.alloc _ _ _) | refine Frame.trans1 ?_ (Frame.drew _ _) | refine Frame.trans1 ?_ (Frame.drewN _ _ _)))
  have hb : (nx == ny) = true := by simp [hi]
  have HI := Lib.hid hi
  clear hi
  by_cases hl : es = fs
  case neg =>
    have HM := Lib.hid (fun w' f => Ans.no (HE.out w' f) hl)
    have HX := Lib.hid hl
    clear hl
    go_enter Try.func20, Try.ntmps20
    go_wp2_with fail
    refine (HM.out _ (by (repeat first | assumption | exact Frame.refl _ _ | refine Frame.trans1 ?_ (Frame.alloc _ _ _) | refine Frame.trans1 ?_ (Frame.drew _ _) | refine Frame.trans1 ?_ (Frame.drewN _ _ _)))).mono ?_
    rintro e w6 ⟨rfl, f6⟩
    have F6 := Lib.hid ((show Frame [] w _ from by (repeat first | assumption | exact Frame.refl _ _ | refine Frame.trans1 ?_ (Frame.alloc _ _ _) | refine Frame.trans1 ?_ (Frame.drew _ _) | refine Frame.trans1 ?_ (Frame.drewN _ _ _))).trans1 f6)
    clear f6
    go_wp2_with fail
    go_ret
    exact Ans.mkF (fun e => HX.out (by simp at e; exact e.2.1)) F6.out
  have HM := Lib.hid (fun w' f => Ans.yes (HE.out w' f) hl)
  have HX := Lib.hid hl
  clear hl HE
  have key : ∀ (b : Bool) (hq : ∀ w', Frame [] w w' → Calls Try.prog 39 #[.slice an ns.length nc, .slice bn ms.length mc, .func (.func 40) #[] #[]] w' fun e w'' => e = .returned (.bool b) ∧ Frame [] w' w''),
      Calls Try.prog 20 #[.agg #[.slice an ns.length nc, .slice ae es.length ec, .int .i64 nx], .agg #[.slice bn ms.length mc, .slice be fs.length dc, .int .i64 ny]] w fun e w' => e = .returned (.bool b) ∧ Frame [] w w' := by
    intro b hq
    have HQ := Lib.hid hq
    clear hq HN
    go_enter Try.func20, Try.ntmps20
    go_wp2_with fail
    have fz : Frame [] w ((w.alloc (.cells #[.slice an ns.length nc, .slice ae es.length ec, .int .i64 nx] 25)).alloc (.cells #[.slice bn ms.length mc, .slice be fs.length dc, .int .i64 ny] 25)) := (Frame.alloc _ _ _).trans1 (Frame.alloc _ _ _)
    have bm := (Blk.new w 25 #[.slice an ns.length nc, .slice ae es.length ec, .int .i64 nx]).alloc (.cells #[.slice bn ms.length mc, .slice be fs.length dc, .int .i64 ny] 25)
    have bz := Blk.new (w.alloc (.cells #[.slice an ns.length nc, .slice ae es.length ec, .int .i64 nx] 25)) 25 #[.slice bn ms.length mc, .slice be fs.length dc, .int .i64 ny]
    simp only [World.size_alloc] at bz
    generalize (w.alloc (.cells #[.slice an ns.length nc, .slice ae es.length ec, .int .i64 nx] 25)).alloc (.cells #[.slice bn ms.length mc, .slice be fs.length dc, .int .i64 ny] 25) = wz at *
    refine (HM.out _ fz).mono ?_
    rintro e w6 ⟨rfl, f6⟩
    have F6 := Lib.hid (fz.trans1 f6)
    have x2 := (bm.frame f6 (by simp)).at 0 rfl
    have y2 := (bz.frame f6 (by simp)).at 0 rfl
    clear f6 fz bm bz
    go_wp2_with fail
    refine (HQ.out _ F6.out).mono ?_
    rintro e w7 ⟨rfl, f7⟩
    have F7 := Lib.hid (F6.out.trans1 f7)
    clear f7
    go_wp2_with fail
    go_ret
    exact ⟨rfl, F7.out⟩
  by_cases hp : ns = ms
  case pos => exact (key true (fun w' f => Ans.yes (HN.out w' f) hp)).mono fun e w' ⟨he, f⟩ => by subst he; exact Ans.mkT (by rw [HI.out, HX.out, hp]) f
  case neg => exact (key false (fun w' f => Ans.no (HN.out w' f) hp)).mono fun e w' ⟨he, f⟩ => by subst he; exact Ans.mkF (fun e => hp (by simp at e; exact e.1)) f
end Go.Proofs.Ytjcajidgaejhoaa

