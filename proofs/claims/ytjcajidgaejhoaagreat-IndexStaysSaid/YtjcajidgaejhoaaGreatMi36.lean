/- A graph that a call makes for itself, beside blocks that it keeps. graph.again: a graph made of what is told of one. -/
import Derived.Test.YtjcajidgaejhoaaGreatMi26
namespace Go.Proofs.YtjcajidgaejhoaaGreat
open Go.RowKit
set_option linter.unusedSimpArgs false
set_option linter.unusedVariables false

/-- The blocks of K are as they were. -/
def KeptB (K : List Nat) (w w' : World) : Prop := ∀ b ∈ K, w'.heap[b]? = w.heap[b]?
theorem KeptB.refl (K : List Nat) (w : World) : KeptB K w w := fun _ _ => rfl
theorem KeptB.trans {K : List Nat} {a b c : World} (h : KeptB K a b) (k : KeptB K b c) : KeptB K a c := fun x hx => (k x hx).trans (h x hx)
theorem Blk.kept {K : List Nat} {w w' : World} {b T : Nat} {cs : Array Value} (h : Blk w b T cs) (k : KeptB K w w') (hb : b ∈ K) : Blk w' b T cs := (k b hb).trans h

theorem GSt.given {w : World} {pb : Nat} {F : List Nat} {ns : List Nd} {es : List Ed} {given : Int} (h : GSt w pb F ns es given) : w.cell? ⟨pb, 2, none⟩ = some (.int .i64 given) ∧ w.frozen? ⟨pb, 2, none⟩ = false := by
  obtain ⟨an, nc, ae, ec, G, H, hb, _⟩ := h
  exact ⟨hb.at 2 rfl, hb.frozen 2⟩
theorem GV.given {w : World} {pb : Nat} {F : List Nat} {ns : List Nv} {es : List Ed} {given : Int} (h : GV w pb F ns es given) : w.cell? ⟨pb, 2, none⟩ = some (.int .i64 given) ∧ w.frozen? ⟨pb, 2, none⟩ = false := by
  obtain ⟨rs, ⟨FG, h1, _⟩, _⟩ := h
  exact h1.given
theorem GV.setGiven {w : World} {pb : Nat} {F : List Nat} {ns : List Nv} {es : List Ed} {given : Int} (h : GV w pb F ns es given) (g' : Int) : GV (w.setCell ⟨pb, 2, none⟩ (.int .i64 g')) pb F ns es g' := by
  obtain ⟨rs, ⟨FG, h1, h2, h3, rfl⟩, rfl⟩ := h
  have fr : Frame [pb] w (w.setCell ⟨pb, 2, none⟩ (.int .i64 g')) := Frame.setCell _ _ _ (by simp)
  obtain ⟨an, nc, ae, ec, G, H, hb, sn, se, n1, n2, n3, rfl⟩ := h1
  obtain ⟨m1, m2, m3⟩ := List.nodup_append.1 h3
  refine ⟨rs, ⟨pb :: (G ++ H), ⟨an, nc, ae, ec, G, H, ?_, sn.frame fr (fun x hx hm => ?_), se.frame fr (fun x hx hm => ?_), n1, n2, n3, rfl⟩, fun r hr => Rn.ok_frame (h2 r hr) fr (fun x hx hm => ?_), h3, rfl⟩, rfl⟩
  · have := hb.set 2 (.int .i64 g')
    simpa using this
  · simp at hm; subst hm; exact n1 hx
  · simp at hm; subst hm; exact n2 hx
  · simp at hm
    exact m3 pb (by simp) x (List.mem_flatMap.2 ⟨r, hr, hx⟩) hm.symm

/-- A graph made behind w, apart from the blocks of K. -/
def VO (w : World) (K : List Nat) (pb : Nat) (ns : List Nv) (es : List Ed) (given : Int) (wr : World) : Prop :=
  ∃ F, GV wr pb F ns es given ∧ Frame [] w wr ∧ (∀ x ∈ F, w.heap.size ≤ x) ∧ ∀ x ∈ K, x < wr.heap.size ∧ x ∉ F
section
variable {w wr w' : World} {K : List Nat} {pb : Nat} {ns : List Nv} {es : List Ed} {given : Int}
theorem VO.frame (h : VO w K pb ns es given wr) : Frame [] w wr := by obtain ⟨_, _, f, _⟩ := h; exact f
theorem VO.own (h : VO w K pb ns es given wr) : VOwn w pb ns es given wr := by obtain ⟨F, a, b, c, _⟩ := h; exact ⟨F, a, b, c⟩
theorem VO.less (h : VO w K pb ns es given wr) {K' : List Nat} (hK : ∀ x ∈ K', x ∈ K) : VO w K' pb ns es given wr := by
  obtain ⟨F, a, b, c, d⟩ := h; exact ⟨F, a, b, c, fun x hx => d x (hK x hx)⟩
theorem VO.quiet (h : VO w K pb ns es given wr) (f : Frame [] wr w') : VO w K pb ns es given w' := by
  obtain ⟨F, a, b, c, d⟩ := h
  exact ⟨F, a.frame0 f, b.trans1 f, c, fun x hx => ⟨Nat.lt_of_lt_of_le (d x hx).1 f.size, (d x hx).2⟩⟩
theorem VO.alloc (h : VO w K pb ns es given wr) (o : Obj) : VO w (wr.heap.size :: K) pb ns es given (wr.alloc o) := by
  obtain ⟨F, a, b, c, d⟩ := h
  have f : Frame [] wr (wr.alloc o) := Frame.alloc _ _ _
  refine ⟨F, a.frame0 f, b.trans1 f, c, fun x hx => ?_⟩
  rcases List.mem_cons.1 hx with rfl | hx
  · exact ⟨by simp, fun hm => by have := a.lt _ hm; omega⟩
  · exact ⟨Nat.lt_of_lt_of_le (d x hx).1 f.size, (d x hx).2⟩
theorem VO.cell2 (h : VO w K pb ns es given wr) : wr.cell? ⟨pb, 2, none⟩ = some (.int .i64 given) ∧ wr.frozen? ⟨pb, 2, none⟩ = false := by obtain ⟨F, a, _⟩ := h; exact a.given
theorem VO.setGiven (h : VO w K pb ns es given wr) (g' : Int) : VO w K pb ns es g' (wr.setCell ⟨pb, 2, none⟩ (.int .i64 g')) ∧ KeptB K wr (wr.setCell ⟨pb, 2, none⟩ (.int .i64 g')) := by
  obtain ⟨F, a, b, c, d⟩ := h
  have hp := a.pb_mem
  have f : Frame [pb] wr (wr.setCell ⟨pb, 2, none⟩ (.int .i64 g')) := Frame.setCell _ _ _ (by simp)
  refine ⟨⟨F, a.setGiven g', b.trans f (fun x hx => ?_), c, fun x hx => ⟨Nat.lt_of_lt_of_le (d x hx).1 f.size, (d x hx).2⟩⟩, fun x hx => f.block x (d x hx).1 (fun hm => ?_)⟩
  · simp at hx; subst hx; exact .inr (c _ hp)
  · simp at hm; subst hm; exact (d _ hx).2 hp
theorem VO.next {F : List Nat} {ns' : List Nv} {es' : List Ed} {given' : Int} (b : Frame [] w wr) (c : ∀ x ∈ F, w.heap.size ≤ x) (d : ∀ x ∈ K, x < wr.heap.size ∧ x ∉ F) (h : GVEnd wr pb F ns' es' given' w') : VO w K pb ns' es' given' w' ∧ KeptB K wr w' := by
  obtain ⟨F', p, q, r⟩ := h
  refine ⟨⟨F', p, b.trans q (fun x hx => .inr (c x hx)), fun x hx => ?_, fun x hx => ⟨Nat.lt_of_lt_of_le (d x hx).1 q.size, fun hm => ?_⟩⟩, fun x hx => q.block x (d x hx).1 (d x hx).2⟩
  · rcases r x hx with h | h
    · exact c x h
    · have := b.size; omega
  · rcases r x hm with h | h
    · exact (d x hx).2 h
    · have := (d x hx).1; omega
theorem VO.addNode (h : VO w K pb ns es given wr) (g : GOk ns es given) (t : Int) :
    Calls Tryz.prog 60 #[.pointer (some ⟨pb, 0, none⟩), .int .i64 t] wr fun e w' => e = .returned (.int .i64 (vAddNode ns t).1) ∧ VO w K pb (vAddNode ns t).2 es given w' ∧ KeptB K wr w' := by
  obtain ⟨F, a, b, c, d⟩ := h
  exact (gv_addNode a g.v.up (by have := g.v.len; omega) t).mono fun e w' ⟨h1, h2⟩ => ⟨h1, VO.next b c d h2⟩
theorem VO.label (h : VO w K pb ns es given wr) (g : GOk ns es given) (t : Int) (s : ByteArray) (hs : s.size ≤ 9223372036854775807) :
    Calls Tryz.prog 27 #[.pointer (some ⟨pb, 0, none⟩), .int .i64 t, .string s] wr fun e w' => e = .returned (.int .i64 (vLabel ns t s).1) ∧ VO w K pb (vLabel ns t s).2 es given w' ∧ KeptB K wr w' := by
  obtain ⟨F, a, b, c, d⟩ := h
  exact (gv_label a g.v t s hs).mono fun e w' ⟨h1, h2⟩ => ⟨h1, VO.next b c d h2⟩
theorem VO.set (h : VO w K pb ns es given wr) (g : GOk ns es given) (t : Int) (s v : ByteArray) (hs : s.size ≤ 9223372036854775807) (hv : v.size ≤ 9223372036854775807) :
    Calls Tryz.prog 61 #[.pointer (some ⟨pb, 0, none⟩), .int .i64 t, .string s, .string v] wr fun e w' => e = .returned (.int .i64 (vSet ns t s v).1) ∧ VO w K pb (vSet ns t s v).2 es given w' ∧ KeptB K wr w' := by
  obtain ⟨F, a, b, c, d⟩ := h
  exact (gv_set a g.v t s v hs hv).mono fun e w' ⟨h1, h2⟩ => ⟨h1, VO.next b c d h2⟩
theorem VO.add (h : VO w K pb ns es given wr) (g : GOk ns es given) (x : Int) (s : ByteArray) (y : Int) (hs : s.size ≤ 9223372036854775807) :
    Calls Tryz.prog 25 #[.pointer (some ⟨pb, 0, none⟩), .int .i64 x, .string s, .int .i64 y] wr fun e w' => e = .returned (.tuple #[.int .i64 (vAdd ns es given x s y).1.1, .int .i64 (vAdd ns es given x s y).1.2]) ∧ VO w K pb ns (vAdd ns es given x s y).2.1 (vAdd ns es given x s y).2.2 w' ∧ KeptB K wr w' := by
  obtain ⟨F, a, b, c, d⟩ := h
  exact (gv_add a g.v g.e x s y hs).mono fun e w' ⟨h1, h2⟩ => ⟨h1, VO.next b c d h2⟩
end
end Go.Proofs.YtjcajidgaejhoaaGreat

namespace Go.Proofs.YtjcajidgaejhoaaGreat
open Go.RowKit
set_option linter.unusedSimpArgs false
set_option linter.unusedVariables false

/-- What again ends in. -/
def AgEnd (x : Gx) (w : World) (e : Ending) (w' : World) : Prop :=
  (e = .returned (.pointer none) ∧ ¬ MayX x ∧ Frame [] w w') ∨ ∃ pb ns es g, e = .returned (.pointer (some ⟨pb, 0, none⟩)) ∧ VOwn w pb ns es g w' ∧ GOk ns es g ∧ (MayX x → ns = x.ns ∧ es = x.es ∧ g = x.next - 1)

/-- Behind the label loop's rounds, and the others': what is the same all along. -/
def AgN (w : World) (x : Gx) (K : List Nat) (pb : Nat) (ns' : MayX x → List Nv) (wr : World) : Prop := ∃ ns, VO w K pb ns [] 0 wr ∧ GOk ns [] 0 ∧ ∀ h : MayX x, ns = ns' h

theorem VO.start {w wa w1 : World} {pb b T : Nat} {cs : Array Value} (hb : Blk wa b T cs) (f : Frame [] w wa) (h : VOwn wa pb [] [] 0 w1) : VO w [b] pb [] [] 0 w1 ∧ KeptB [b] wa w1 := by
  obtain ⟨F, a, c, d⟩ := h
  have hl := hb.lt
  refine ⟨⟨F, a, f.trans1 c, fun x hx => by have := d x hx; have := f.size; omega, fun x hx => ?_⟩, fun x hx => ?_⟩
  · simp at hx; subst hx
    exact ⟨Nat.lt_of_lt_of_le hl c.size, fun hm => by have := d _ hm; omega⟩
  · simp at hx; subst hx
    exact c.block _ hl (by simp)

set_option maxHeartbeats 16000000 in
set_option maxRecDepth 100000 in
theorem again_any (U : Nat → Prop) (v : Value) (x : Gx) (w : World) (h : RG U w v x) (hs : x.Short) (hst : StrX x) :
    Calls Tryz.prog 34 #[v] w (AgEnd x w) := by
  obtain ⟨an, nc, ae, ec, rfl, h1, h2⟩ := h
  obtain ⟨l1, l2, l3, l4⟩ := hs
  have H1 := Lib.hid h1
  have H2 := Lib.hid h2
  have HC := Lib.hid (And.intro l3 (And.intro l4 hst))
  clear h1 h2 l3 l4 hst
  go_enter Tryz.func34, Tryz.ntmps34
  go_wp2_with fail
  have fr : Frame [] w (w.alloc (.cells #[.slice an x.ns.length nc, .slice ae x.es.length ec, .int .i64 x.next] 25)) := Frame.alloc _ _ _
  have b0 := Blk.new w 25 #[.slice an x.ns.length nc, .slice ae x.es.length ec, .int .i64 x.next]
  generalize w.alloc (.cells #[.slice an x.ns.length nc, .slice ae x.es.length ec, .int .i64 x.next] 25) = wa at *
  refine (gv_new wa).mono ?_
  rintro e w1 ⟨pb, rfl, g1, f1, n1⟩
  obtain ⟨v1, k1⟩ := VO.start b0 fr ⟨[pb], g1, f1, fun x hx => by simp at hx; omega⟩
  have B1 := Lib.hid (b0.kept k1 (by simp))
  have V1 := Lib.hid v1
  have z0 := B1.out.at 0 rfl
  clear fr b0 g1 f1 n1 v1 k1
  go_wp2_with fail
  go_loopw [18] (fun i wr => ∃ (k : Nat) (ns : List Nv), k ≤ x.ns.length ∧ i = .int .i64 k ∧ Hid (VO w [w.heap.size] pb ns [] 0 wr ∧ GOk ns [] 0 ∧ (MayX x → ns = x.ns.take k) ∧ Blk wr w.heap.size 25 #[.slice an x.ns.length nc, .slice ae x.es.length ec, .int .i64 x.next])) (fun i _ => x.ns.length - (intOf i).toNat)
  case atStart => exact ⟨0, [], Nat.zero_le _, rfl, V1.out, GOk.nil, fun _ => rfl, B1.out⟩
  case round =>
    obtain ⟨k, ns, hk, rfl, hR⟩ := hrel
    clear z0 B1 V1
    by_cases hlt : k < x.ns.length
    · have g1 : x.ns[k]? = some x.ns[k] := by simp [hlt]
      have hst := HC.out.2.2.1 _ (List.getElem_mem hlt)
      have hc1 := HC.out.1 _ (List.getElem_mem hlt)
      have hc2 := HC.out.2.1 _ (List.getElem_mem hlt)
      obtain ⟨p1, o1, la, lc, pa, pc, rfl, -, x0, x1, x2, rl, rp⟩ := H1.out k _ g1
      have x0 := hR.out.1.frame.cell x0 (by simp)
      have x1 := hR.out.1.frame.cell x1 (by simp)
      have x2 := hR.out.1.frame.cell x2 (by simp)
      generalize x.ns[k] = n at *
      obtain ⟨i, ls, ps⟩ := n
      simp only at x0 x1 x2 rl rp hc1 hc2
      have G1 := Lib.hid g1
      have RL := Lib.hid rl
      have RP := Lib.hid rp
      have HST := Lib.hid hst
      clear g1 rl rp hst
      have hop := fun w' (hv : VO w [wr.heap.size, w.heap.size] pb ns [] 0 w') => hv.addNode hR.out.2.1 i
      have hok := hR.out.2.1.addNode i
      have hmay : ∀ h : MayX x, vAddNode ns i = (0, x.ns.take k ++ [(i, [], [])]) := fun h => by rw [hR.out.2.2.1 h]; exact again_node h G1.out
      generalize vAddNode ns i = q at *
      obtain ⟨r, ns1⟩ := q
      simp only at hop hok
      have HOP := Lib.hid hop
      have HOK := Lib.hid hok
      have HM := Lib.hid hmay
      clear hop hok hmay
      go_wp2_with fail
      have va := hR.out.1.alloc (.cells #[.int .i64 i, .slice la ls.length lc, .slice pa ps.length pc] 41)
      have bn := Blk.new wr 41 #[.int .i64 i, .slice la ls.length lc, .slice pa ps.length pc]
      have bg := hR.out.2.2.2.alloc (.cells #[.int .i64 i, .slice la ls.length lc, .slice pa ps.length pc] 41)
      have fal : Frame [] wr (wr.alloc (.cells #[.int .i64 i, .slice la ls.length lc, .slice pa ps.length pc] 41)) := Frame.alloc _ _ _
      generalize wr.alloc (.cells #[.int .i64 i, .slice la ls.length lc, .slice pa ps.length pc] 41) = wz at *
      refine (HOP.out _ va).mono ?_
      rintro e w2 ⟨rfl, v2, k2⟩
      have V2 := Lib.hid v2
      have BN := Lib.hid (bn.kept k2 (by simp))
      have BG := Lib.hid (bg.kept k2 (by simp))
      clear va bn bg v2 k2
      by_cases hr : r = 0
      case neg =>
        have hb : (r != 0) = true := by simp [hr]
        have HN := Lib.hid hr
        clear hr
        go_wp2_with fail
        go_ret
        exact .inl ⟨rfl, fun h => HN.out (by have := HM.out h; simp at this; exact this.1), V2.out.frame⟩
      subst hr
      have x1 := BN.out.at 1 rfl
      go_wp2_with fail
      clear x1 fal
      have HUP : Hid (∀ h : MayX x, Up (((x.ns.take k ++ [(i, [], [])] : List Nv)).map (fun n => n.1)) ∧ SoundN (i, ls, ps)) := by
        show ∀ h : MayX x, _
        intro h
        have := HM.out h
        simp at this
        exact ⟨by have := HOK.out.v.up; rw [‹ns1 = _›] at this; exact this, (h.2.2.2.2.1 k _ G1.out).1⟩
      have START : Hid (VO w [wr.heap.size, w.heap.size] pb ns1 [] 0 w2 ∧ GOk ns1 [] 0 ∧ (MayX x → ns1 = x.ns.take k ++ [(i, [], [])])) := by
        show _ ∧ _ ∧ _
        exact ⟨V2.out, HOK.out, fun h => by have := HM.out h; simp at this; exact this⟩
      clear HOK HM V2 HOP
      generalize wr.heap.size = nb at *
      go_loopw [30] (fun u wq => ∃ (a : Nat) (ns : List Nv), a ≤ ls.length ∧ u = .int .i64 a ∧ Hid (VO w [nb, w.heap.size] pb ns [] 0 wq ∧ GOk ns [] 0 ∧ (MayX x → ns = x.ns.take k ++ [(i, ls.take a, [])]) ∧ Blk wq nb 41 #[.int .i64 i, .slice la ls.length lc, .slice pa ps.length pc] ∧ Blk wq w.heap.size 25 #[.slice (some ⟨p1, o1, none⟩) x.ns.length nc, .slice ae x.es.length ec, .int .i64 x.next])) (fun u _ => ls.length - (intOf u).toNat)
      case atStart => exact ⟨0, ns1, Nat.zero_le _, rfl, START.out.1, START.out.2.1, START.out.2.2, BN.out, BG.out⟩
      case round =>
        obtain ⟨a, ns2, ha, rfl, hQ⟩ := hrel
        rename World => wq
        clear START BN BG
        have y0 := hQ.out.2.2.2.1.at 0 rfl
        by_cases hlt2 : a < ls.length
        · have g2 : ls[a]? = some ls[a] := by simp [hlt2]
          have hsz := HST.out.1 _ (List.getElem_mem hlt2)
          obtain ⟨p2, o2, rfl, -, q2⟩ := (RL.out.frame0 (VO.frame hQ.out.1)) a _ g2
          have t0 := q2 0 _ rfl
          simp only [Nat.add_zero, Nat.mul_one] at t0
          generalize ls[a] = s at *
          have G2 := Lib.hid g2
          have hop := hQ.out.1.label hQ.out.2.1 i s hsz
          have hok := hQ.out.2.1.label i s
          have hmay : ∀ h : MayX x, vLabel ns2 i s = (0, x.ns.take k ++ [(i, ls.take (a + 1), [])]) := fun h => by
            have hu := HUP.out h
            rw [hQ.out.2.2.1 h]
            exact again_label hu.1 hu.2.upS hu.2.2.1 G2.out (hu.2.ok.2.1 s (List.mem_of_getElem? G2.out))
          generalize vLabel ns2 i s = q at *
          obtain ⟨r, ns3⟩ := q
          simp only at hop hok
          have HOP := Lib.hid hop
          have HOK := Lib.hid hok
          have HM := Lib.hid hmay
          clear hop hok hmay q2 g2
          go_wp2_with fail
          refine HOP.out.mono ?_
          rintro e w3 ⟨rfl, v3, k3⟩
          have V3 := Lib.hid v3
          have BN := Lib.hid (hQ.out.2.2.2.1.kept k3 (by simp))
          have BG := Lib.hid (hQ.out.2.2.2.2.kept k3 (by simp))
          clear v3 k3
          by_cases hr : r = 0
          case neg =>
            have hb : (r != 0) = true := by simp [hr]
            have HN := Lib.hid hr
            clear hr
            go_wp2_with fail
            go_ret
            exact .inl ⟨rfl, fun h => HN.out (by have := HM.out h; simp at this; exact this.1), V3.out.frame⟩
          subst hr
          go_wp2_with fail
          go_roundw
          case rel => exact ⟨a + 1, ns3, by omega, by first | rfl | go_num, Lib.hid ⟨V3.out, HOK.out, fun h => by have := HM.out h; simp at this; exact this, BN.out, BG.out⟩⟩
          case measure => first | (simp [intOf]; done) | (simp [intOf]; omega)
        · obtain rfl : a = ls.length := by omega
          have y2 := hQ.out.2.2.2.1.at 2 rfl
          go_wp2_with fail
          clear y0 y2
          have BN := Lib.hid hQ.out.2.2.2.1
          have BG := Lib.hid hQ.out.2.2.2.2
          have START : Hid (VO w [nb, w.heap.size] pb ns2 [] 0 wq ∧ GOk ns2 [] 0 ∧ (MayX x → ns2 = x.ns.take k ++ [(i, ls, [])])) := by
            show _ ∧ _ ∧ _
            exact ⟨hQ.out.1, hQ.out.2.1, fun h => by have := hQ.out.2.2.1 h; rw [List.take_length] at this; exact this⟩
          clear hQ
          go_loopw [44] (fun u wt => ∃ (a : Nat) (ns : List Nv), a ≤ ps.length ∧ u = .int .i64 a ∧ Hid (VO w [nb, w.heap.size] pb ns [] 0 wt ∧ GOk ns [] 0 ∧ (MayX x → ns = x.ns.take k ++ [(i, ls, ps.take a)]) ∧ Blk wt nb 41 #[.int .i64 i, .slice la ls.length lc, .slice pa ps.length pc] ∧ Blk wt w.heap.size 25 #[.slice (some ⟨p1, o1, none⟩) x.ns.length nc, .slice ae x.es.length ec, .int .i64 x.next])) (fun u _ => ps.length - (intOf u).toNat)
          case atStart => exact ⟨0, ns2, Nat.zero_le _, rfl, START.out.1, START.out.2.1, START.out.2.2, BN.out, BG.out⟩
          case round =>
            obtain ⟨c, ns5, hc, rfl, hT⟩ := hrel
            rename World => wt
            clear START BN BG
            by_cases hlt3 : c < ps.length
            · have g3 : ps[c]? = some ps[c] := by simp [hlt3]
              have hsz := HST.out.2 _ (List.getElem_mem hlt3)
              obtain ⟨p3, o3, rfl, -, q3⟩ := (RP.out.frame0 (VO.frame hT.out.1)) c _ g3
              have t0 := q3 0 _ rfl
              have t1 := q3 1 _ rfl
              simp only [Nat.add_zero] at t0
              generalize ps[c] = p at *
              have G3 := Lib.hid g3
              have hop := fun w' (hv : VO w [wt.heap.size, nb, w.heap.size] pb ns5 [] 0 w') => hv.set hT.out.2.1 i p.name p.val hsz.1 hsz.2
              have hok := hT.out.2.1.set i p.name p.val
              have hmay : ∀ h : MayX x, vSet ns5 i p.name p.val = (0, x.ns.take k ++ [(i, ls, ps.take (c + 1))]) := fun h => by
                have hu := HUP.out h
                have hn := hu.2.ok.2.2 p (List.mem_of_getElem? G3.out)
                rw [hT.out.2.2.1 h]
                exact again_set hu.1 hu.2.upP hu.2.2.2.1 G3.out hn.1 hn.2
              generalize vSet ns5 i p.name p.val = q at *
              obtain ⟨r, ns6⟩ := q
              simp only at hop hok
              have HOP := Lib.hid hop
              have HOK := Lib.hid hok
              have HM := Lib.hid hmay
              have y0 : ∀ o, (wt.alloc o).cell? ⟨nb, 0, none⟩ = some (.int .i64 i) := fun o => (hT.out.2.2.2.1.alloc o).at 0 rfl
              clear hop hok hmay q3 g3
              go_wp2_with fail
              have va := hT.out.1.alloc (.cells #[.string p.name, .string p.val] 67)
              have bn := hT.out.2.2.2.1.alloc (.cells #[.string p.name, .string p.val] 67)
              have bg := hT.out.2.2.2.2.alloc (.cells #[.string p.name, .string p.val] 67)
              refine (HOP.out _ va).mono ?_
              rintro e w3 ⟨rfl, v3, k3⟩
              have V3 := Lib.hid (v3.less (K' := [nb, w.heap.size]) (by simp))
              have BN := Lib.hid (bn.kept k3 (by simp))
              have BG := Lib.hid (bg.kept k3 (by simp))
              clear v3 k3 va bn bg y0
              by_cases hr : r = 0
              case neg =>
                have hb : (r != 0) = true := by simp [hr]
                have HN := Lib.hid hr
                clear hr
                go_wp2_with fail
                go_ret
                exact .inl ⟨rfl, fun h => HN.out (by have := HM.out h; simp at this; exact this.1), V3.out.frame⟩
              subst hr
              go_wp2_with fail
              go_roundw
              case rel => exact ⟨c + 1, ns6, by omega, by first | rfl | go_num, Lib.hid ⟨V3.out, HOK.out, fun h => by have := HM.out h; simp at this; exact this, BN.out, BG.out⟩⟩
              case measure => first | (simp [intOf]; done) | (simp [intOf]; omega)
            · obtain rfl : c = ps.length := by omega
              go_wp2_with fail
              go_roundw
              case rel => exact ⟨k + 1, ns5, by omega, by first | rfl | go_num, Lib.hid ⟨hT.out.1.less (by simp), hT.out.2.1, fun h => by
                have := hT.out.2.2.1 h
                rw [List.take_length] at this
                rw [this, take_one' G1.out], hT.out.2.2.2.2⟩⟩
              case measure => first | (simp [intOf]; done) | (simp [intOf]; omega)
    · obtain rfl : k = x.ns.length := by omega
      have y1 := hR.out.2.2.2.at 1 rfl
      have START : Hid (VO w [w.heap.size] pb ns [] 0 wr ∧ GOk ns [] 0 ∧ (MayX x → ns = x.ns) ∧ Blk wr w.heap.size 25 #[.slice an x.ns.length nc, .slice ae x.es.length ec, .int .i64 x.next]) := by
        show _ ∧ _ ∧ _ ∧ _
        exact ⟨hR.out.1, hR.out.2.1, fun h => by have := hR.out.2.2.1 h; rw [List.take_length] at this; exact this, hR.out.2.2.2⟩
      clear hR
      rename World => w5
      go_wp2_with fail
      clear y1
      go_loopw [62] (fun u wr => ∃ (k : Nat) (es : List Ed) (g : Int), k ≤ x.es.length ∧ u = .int .i64 k ∧ Hid (VO w [w.heap.size] pb ns es g wr ∧ GOk ns es g ∧ (MayX x → ns = x.ns ∧ es = x.es.take k ∧ g < x.next ∧ ∀ e, x.es[k]? = some e → g < e.tok) ∧ Blk wr w.heap.size 25 #[.slice an x.ns.length nc, .slice ae x.es.length ec, .int .i64 x.next])) (fun u _ => x.es.length - (intOf u).toNat)
      case atStart => exact ⟨0, [], 0, Nat.zero_le _, rfl, START.out.1, START.out.2.1, fun h => ⟨START.out.2.2.1 h, rfl, by have := h.2.2.1; omega, fun e he => by have := h.gok.e.le e (List.mem_of_getElem? he); omega⟩, START.out.2.2.2⟩
      case round =>
        obtain ⟨k, es, g, hk, rfl, hR⟩ := hrel
        clear START
        by_cases hlt : k < x.es.length
        · have g1 : x.es[k]? = some x.es[k] := by simp [hlt]
          have hsz := HC.out.2.2.2 _ (List.getElem_mem hlt)
          obtain ⟨p1, o1, rfl, -, q1⟩ := (H2.out.frame0 (VO.frame hR.out.1)) k _ g1
          have x0 := q1 0 _ rfl
          have x1 := q1 1 _ rfl
          have x2 := q1 2 _ rfl
          have x3 := q1 3 _ rfl
          simp only [Nat.add_zero] at x0
          generalize x.es[k] = ed at *
          obtain ⟨tk, sr, lb, ds⟩ := ed
          simp only at x0 x1 x2 x3 hsz
          have G1 := Lib.hid g1
          have hg0 := hR.out.2.1.e.given0
          have hg1 := hR.out.2.1.e.given1
          clear g1 q1
          go_wp2_with fail
          have va := hR.out.1.alloc (.cells #[.int .i64 tk, .int .i64 sr, .string lb, .int .i64 ds] 44)
          have be := Blk.new wr 44 #[.int .i64 tk, .int .i64 sr, .string lb, .int .i64 ds]
          have bg := hR.out.2.2.2.alloc (.cells #[.int .i64 tk, .int .i64 sr, .string lb, .int .i64 ds] 44)
          generalize wr.alloc (.cells #[.int .i64 tk, .int .i64 sr, .string lb, .int .i64 ds] 44) = wz at *
          have VA := Lib.hid va
          have e0 := be.at 0 rfl
          have c2 := va.cell2.1
          have BE := Lib.hid be
          have BG := Lib.hid bg
          clear va be bg x0 x1 x2 x3
          by_cases ha : tk ≤ g
          case pos =>
            have hb : decide (tk ≤ g) = true := by simpa using ha
            have HA := Lib.hid ha
            clear ha
            go_quiet (fail)
            go_wp2_with fail
            go_ret
            exact .inl ⟨rfl, fun h => by have := (hR.out.2.2.1 h).2.2.2 _ G1.out; simp only at this; have := HA.out; omega, (VA.out.quiet (Frame.drewN _ _ _)).frame⟩
          have hb : decide (tk ≤ g) = false := by simpa using ha
          by_cases ha2 : 1099511627776 < tk
          case pos =>
            have hb2 : decide (1099511627776 < tk) = true := by simpa using ha2
            have HA := Lib.hid ha2
            clear ha2
            go_quiet (fail)
            go_wp2_with fail
            go_ret
            exact .inl ⟨rfl, fun h => by have h1 := h.gok.e.le _ (List.mem_of_getElem? G1.out); have h2 := h.gok.e.given1; simp only at h1; have := HA.out; omega, (VA.out.quiet (Frame.drewN _ _ _)).frame⟩
          have hb2 : decide (1099511627776 < tk) = false := by simpa using ha2
          go_quiet (fail)
          have V0 := Lib.hid (VA.out.quiet (Frame.drewN [] wz nq))
          have BE1 := Lib.hid (BE.out.drewN nq)
          have BG1 := Lib.hid (BG.out.drewN nq)
          generalize wz.drewN nq = wy at *
          clear e0 c2 VA BE BG hb hb2
          have e0 := BE1.out.at 0 rfl
          have c3 := V0.out.cell2.2
          have c2 := V0.out.cell2.1
          have hsg := V0.out.setGiven (tk - 1)
          have BE2 := Lib.hid (BE1.out.kept hsg.2 (by simp))
          have BG2 := Lib.hid (BG1.out.kept hsg.2 (by simp))
          have V2 := Lib.hid hsg.1
          have hgm := hR.out.2.1.more (given' := tk - 1) (by omega) (by omega)
          have hop := hsg.1.add hgm sr lb ds hsz
          have hok := hgm.add sr lb ds
          have hmay : ∀ h : MayX x, vAdd ns es (tk - 1) sr lb ds = ((tk, 0), x.es.take (k + 1), tk) := fun h => by
            have h1 := hR.out.2.2.1 h
            rw [h1.1, h1.2.1]
            exact again_edge h G1.out
          generalize vAdd ns es (tk - 1) sr lb ds = q at *
          obtain ⟨⟨r1, r2⟩, es2, g2⟩ := q
          simp only at hop hok
          have HOP := Lib.hid hop
          have HOK := Lib.hid hok
          have HM := Lib.hid hmay
          clear hop hok hmay hsg hgm
          have m1 := BE2.out.at 1 rfl
          have m2 := BE2.out.at 2 rfl
          have m3 := BE2.out.at 3 rfl
          go_wp2_with fail
          refine HOP.out.mono ?_
          rintro e w3 ⟨rfl, v3, k3⟩
          have V3 := Lib.hid (v3.less (K' := [w.heap.size]) (by simp))
          have BG3 := Lib.hid (BG2.out.kept k3 (by simp))
          clear v3 k3 m1 m2 m3 e0 c2 c3
          by_cases hr : r2 = 0
          case neg =>
            have hb : (r2 != 0) = true := by simp [hr]
            have HN := Lib.hid hr
            clear hr
            go_wp2_with fail
            go_ret
            exact .inl ⟨rfl, fun h => HN.out (by have := HM.out h; simp at this; exact this.1.2), V3.out.frame⟩
          subst hr
          go_wp2_with fail
          go_roundw
          case rel => exact ⟨k + 1, es2, g2, by omega, by first | rfl | go_num, Lib.hid ⟨V3.out, HOK.out, fun h => by
            have h1 := HM.out h
            simp at h1
            have h2 := hR.out.2.2.1 h
            refine ⟨h2.1, h1.2.1, ?_, fun e he => ?_⟩
            · rw [h1.2.2]
              have := h.gok.e.le _ (List.mem_of_getElem? G1.out)
              simp only at this; omega
            · rw [h1.2.2]
              exact steps_of_pairwise h.gok.e.up (j := k + 1) (a := tk) (b := e.tok) (by omega) (by rw [Nat.add_sub_cancel, List.getElem?_map, G1.out]; rfl) (by rw [List.getElem?_map, he]; rfl), BG3.out⟩⟩
          case measure => first | (simp [intOf]; done) | (simp [intOf]; omega)
        · obtain rfl : k = x.es.length := by omega
          have y2 := hR.out.2.2.2.at 2 rfl
          have c2 := hR.out.1.cell2.1
          have hg0 := hR.out.2.1.e.given0
          have hg1 := hR.out.2.1.e.given1
          have HM : Hid (MayX x → ns = x.ns ∧ es = x.es ∧ g < x.next) := by
            show MayX x → _
            intro h
            have := hR.out.2.2.1 h
            rw [List.take_length] at this
            exact ⟨this.1, this.2.1, this.2.2.1⟩
          by_cases ha : x.next ≤ g
          case pos =>
            have hb : decide (x.next ≤ g) = true := by simpa using ha
            have HA := Lib.hid ha
            clear ha
            go_wp2_with fail
            go_quiet (fail)
            go_wp2_with fail
            go_ret
            exact .inl ⟨rfl, fun h => by have := (HM.out h).2.2; have := HA.out; omega, (VO.frame hR.out.1).trans1 (Frame.drewN _ _ _)⟩
          have hb : decide (x.next ≤ g) = false := by simpa using ha
          by_cases ha2 : 1099511627777 < x.next
          case pos =>
            have hb2 : decide (1099511627777 < x.next) = true := by simpa using ha2
            have HA := Lib.hid ha2
            clear ha2
            go_wp2_with fail
            go_quiet (fail)
            go_wp2_with fail
            go_ret
            exact .inl ⟨rfl, fun h => by have := h.2.2.2.1; have := HA.out; omega, (VO.frame hR.out.1).trans1 (Frame.drewN _ _ _)⟩
          have hb2 : decide (1099511627777 < x.next) = false := by simpa using ha2
          go_wp2_with fail
          go_quiet (fail)
          have V0 := Lib.hid (hR.out.1.quiet (Frame.drewN [] wr nq))
          have BG1 := Lib.hid (hR.out.2.2.2.drewN nq)
          generalize wr.drewN nq = wy at *
          clear y2 c2 hb hb2
          have y2 := BG1.out.at 2 rfl
          have c3 := V0.out.cell2.2
          have c2 := V0.out.cell2.1
          have hsg := (V0.out.setGiven (x.next - 1)).1
          have V2 := Lib.hid hsg
          have hgm := Lib.hid (hR.out.2.1.more (given' := x.next - 1) (by omega) (by omega))
          clear hsg
          have hnn : (1 : Int) ≤ x.next := by omega
          have hnm : x.next ≤ 1099511627777 := by omega
          go_wp2_with fail
          go_ret
          exact .inr ⟨pb, ns, es, x.next - 1, rfl, V2.out.own, hgm.out, fun h => ⟨(HM.out h).1, (HM.out h).2.1, rfl⟩⟩
end Go.Proofs.YtjcajidgaejhoaaGreat

