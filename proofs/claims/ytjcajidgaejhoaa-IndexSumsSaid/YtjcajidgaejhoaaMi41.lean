/- A graph that a call makes for itself, beside blocks that it keeps. -/
import Derived.Test.YtjcajidgaejhoaaMi26
namespace Go.Proofs.Ytjcajidgaejhoaa
open Go.RowKit
set_option linter.unusedSimpArgs false
set_option linter.unusedVariables false

/-- The blocks of K are as they were. -/
def KeptB (K : List Nat) (w w' : World) : Prop := ∀ b ∈ K, w'.heap[b]? = w.heap[b]?
theorem KeptB.refl (K : List Nat) (w : World) : KeptB K w w := fun _ _ => rfl
theorem KeptB.trans {K : List Nat} {a b c : World} (h : KeptB K a b) (k : KeptB K b c) : KeptB K a c := fun x hx => (k x hx).trans (h x hx)
theorem Blk.kept {K : List Nat} {w w' : World} {b T : Nat} {cs : Array Value} (h : Blk w b T cs) (k : KeptB K w w') (hb : b ∈ K) : Blk w' b T cs := (k b hb).trans h

theorem GSt.given {w : World} {pb : Nat} {F : List Nat} {ns : List Nd} {es : List Ed} {given : Int} (h : GSt w pb F ns es given) : w.cell? ⟨pb, 2, none⟩ = some (.int .i64 given) ∧ w.frozen? ⟨pb, 2, none⟩ = false := by
  obtain ⟨an, nc, ae, ec, G, H, hb, _⟩ := h
  exact ⟨hb.at 2 rfl, hb.frozen 2⟩
theorem GV.given {w : World} {pb : Nat} {F : List Nat} {ns : List Nv} {es : List Ed} {given : Int} (h : GV w pb F ns es given) : w.cell? ⟨pb, 2, none⟩ = some (.int .i64 given) ∧ w.frozen? ⟨pb, 2, none⟩ = false := by
  obtain ⟨rs, ⟨FG, h1, _⟩, _⟩ := h
  exact h1.given
theorem GV.setGiven {w : World} {pb : Nat} {F : List Nat} {ns : List Nv} {es : List Ed} {given : Int} (h : GV w pb F ns es given) (g' : Int) : GV (w.setCell ⟨pb, 2, none⟩ (.int .i64 g')) pb F ns es g' := by
  obtain ⟨rs, ⟨FG, h1, h2, h3, rfl⟩, rfl⟩ := h
  have fr : Frame [pb] w (w.setCell ⟨pb, 2, none⟩ (.int .i64 g')) := Frame.setCell _ _ _ (by simp)
  obtain ⟨an, nc, ae, ec, G, H, hb, sn, se, n1, n2, n3, rfl⟩ := h1
  obtain ⟨m1, m2, m3⟩ := List.nodup_append.1 h3
  refine ⟨rs, ⟨pb :: (G ++ H), ⟨an, nc, ae, ec, G, H, ?_, sn.frame fr (fun x hx hm => ?_), se.frame fr (fun x hx hm => ?_), n1, n2, n3, rfl⟩, fun r hr => Rn.ok_frame (h2 r hr) fr (fun x hx hm => ?_), h3, rfl⟩, rfl⟩
  · have := hb.set 2 (.int .i64 g')
    simpa using this
  · simp at hm; subst hm; exact n1 hx
  · simp at hm; subst hm; exact n2 hx
  · simp at hm
    exact m3 pb (by simp) x (List.mem_flatMap.2 ⟨r, hr, hx⟩) hm.symm

/-- A graph made behind w, apart from the blocks of K. -/
def VO (w : World) (K : List Nat) (pb : Nat) (ns : List Nv) (es : List Ed) (given : Int) (wr : World) : Prop :=
  ∃ F, GV wr pb F ns es given ∧ Frame [] w wr ∧ (∀ x ∈ F, w.heap.size ≤ x) ∧ ∀ x ∈ K, x < wr.heap.size ∧ x ∉ F
section
variable {w wr w' : World} {K : List Nat} {pb : Nat} {ns : List Nv} {es : List Ed} {given : Int}
theorem VO.frame (h : VO w K pb ns es given wr) : Frame [] w wr := by obtain ⟨_, _, f, _⟩ := h; exact f
theorem VO.own (h : VO w K pb ns es given wr) : VOwn w pb ns es given wr := by obtain ⟨F, a, b, c, _⟩ := h; exact ⟨F, a, b, c⟩
theorem VO.less (h : VO w K pb ns es given wr) {K' : List Nat} (hK : ∀ x ∈ K', x ∈ K) : VO w K' pb ns es given wr := by
  obtain ⟨F, a, b, c, d⟩ := h; exact ⟨F, a, b, c, fun x hx => d x (hK x hx)⟩
theorem VO.quiet (h : VO w K pb ns es given wr) (f : Frame [] wr w') : VO w K pb ns es given w' := by
  obtain ⟨F, a, b, c, d⟩ := h
  exact ⟨F, a.frame0 f, b.trans1 f, c, fun x hx => ⟨Nat.lt_of_lt_of_le (d x hx).1 f.size, (d x hx).2⟩⟩
theorem VO.alloc (h : VO w K pb ns es given wr) (o : Obj) : VO w (wr.heap.size :: K) pb ns es given (wr.alloc o) := by
  obtain ⟨F, a, b, c, d⟩ := h
  have f : Frame [] wr (wr.alloc o) := Frame.alloc _ _ _
  refine ⟨F, a.frame0 f, b.trans1 f, c, fun x hx => ?_⟩
  rcases List.mem_cons.1 hx with rfl | hx
  · exact ⟨by simp, fun hm => by have := a.lt _ hm; omega⟩
  · exact ⟨Nat.lt_of_lt_of_le (d x hx).1 f.size, (d x hx).2⟩
theorem VO.cell2 (h : VO w K pb ns es given wr) : wr.cell? ⟨pb, 2, none⟩ = some (.int .i64 given) ∧ wr.frozen? ⟨pb, 2, none⟩ = false := by obtain ⟨F, a, _⟩ := h; exact a.given
theorem VO.setGiven (h : VO w K pb ns es given wr) (g' : Int) : VO w K pb ns es g' (wr.setCell ⟨pb, 2, none⟩ (.int .i64 g')) ∧ KeptB K wr (wr.setCell ⟨pb, 2, none⟩ (.int .i64 g')) := by
  obtain ⟨F, a, b, c, d⟩ := h
  have hp := a.pb_mem
  have f : Frame [pb] wr (wr.setCell ⟨pb, 2, none⟩ (.int .i64 g')) := Frame.setCell _ _ _ (by simp)
  refine ⟨⟨F, a.setGiven g', b.trans f (fun x hx => ?_), c, fun x hx => ⟨Nat.lt_of_lt_of_le (d x hx).1 f.size, (d x hx).2⟩⟩, fun x hx => f.block x (d x hx).1 (fun hm => ?_)⟩
  · simp at hx; subst hx; exact .inr (c _ hp)
  · simp at hm; subst hm; exact (d _ hx).2 hp
theorem VO.next {F : List Nat} {ns' : List Nv} {es' : List Ed} {given' : Int} (b : Frame [] w wr) (c : ∀ x ∈ F, w.heap.size ≤ x) (d : ∀ x ∈ K, x < wr.heap.size ∧ x ∉ F) (h : GVEnd wr pb F ns' es' given' w') : VO w K pb ns' es' given' w' ∧ KeptB K wr w' := by
  obtain ⟨F', p, q, r⟩ := h
  refine ⟨⟨F', p, b.trans q (fun x hx => .inr (c x hx)), fun x hx => ?_, fun x hx => ⟨Nat.lt_of_lt_of_le (d x hx).1 q.size, fun hm => ?_⟩⟩, fun x hx => q.block x (d x hx).1 (d x hx).2⟩
  · rcases r x hx with h | h
    · exact c x h
    · have := b.size; omega
  · rcases r x hm with h | h
    · exact (d x hx).2 h
    · have := (d x hx).1; omega
theorem VO.addNode (h : VO w K pb ns es given wr) (g : GOk ns es given) (t : Int) :
    Calls Try.prog 34 #[.pointer (some ⟨pb, 0, none⟩), .int .i64 t] wr fun e w' => e = .returned (.int .i64 (vAddNode ns t).1) ∧ VO w K pb (vAddNode ns t).2 es given w' ∧ KeptB K wr w' := by
  obtain ⟨F, a, b, c, d⟩ := h
  exact (gv_addNode a g.v.up (by have := g.v.len; omega) t).mono fun e w' ⟨h1, h2⟩ => ⟨h1, VO.next b c d h2⟩
theorem VO.label (h : VO w K pb ns es given wr) (g : GOk ns es given) (t : Int) (s : ByteArray) (hs : s.size ≤ 9223372036854775807) :
    Calls Try.prog 35 #[.pointer (some ⟨pb, 0, none⟩), .int .i64 t, .string s] wr fun e w' => e = .returned (.int .i64 (vLabel ns t s).1) ∧ VO w K pb (vLabel ns t s).2 es given w' ∧ KeptB K wr w' := by
  obtain ⟨F, a, b, c, d⟩ := h
  exact (gv_label a g.v t s hs).mono fun e w' ⟨h1, h2⟩ => ⟨h1, VO.next b c d h2⟩
theorem VO.set (h : VO w K pb ns es given wr) (g : GOk ns es given) (t : Int) (s v : ByteArray) (hs : s.size ≤ 9223372036854775807) (hv : v.size ≤ 9223372036854775807) :
    Calls Try.prog 36 #[.pointer (some ⟨pb, 0, none⟩), .int .i64 t, .string s, .string v] wr fun e w' => e = .returned (.int .i64 (vSet ns t s v).1) ∧ VO w K pb (vSet ns t s v).2 es given w' ∧ KeptB K wr w' := by
  obtain ⟨F, a, b, c, d⟩ := h
  exact (gv_set a g.v t s v hs hv).mono fun e w' ⟨h1, h2⟩ => ⟨h1, VO.next b c d h2⟩
theorem VO.add (h : VO w K pb ns es given wr) (g : GOk ns es given) (x : Int) (s : ByteArray) (y : Int) (hs : s.size ≤ 9223372036854775807) :
    Calls Try.prog 37 #[.pointer (some ⟨pb, 0, none⟩), .int .i64 x, .string s, .int .i64 y] wr fun e w' => e = .returned (.tuple #[.int .i64 (vAdd ns es given x s y).1.1, .int .i64 (vAdd ns es given x s y).1.2]) ∧ VO w K pb ns (vAdd ns es given x s y).2.1 (vAdd ns es given x s y).2.2 w' ∧ KeptB K wr w' := by
  obtain ⟨F, a, b, c, d⟩ := h
  exact (gv_add a g.v g.e x s y hs).mono fun e w' ⟨h1, h2⟩ => ⟨h1, VO.next b c d h2⟩
end
end Go.Proofs.Ytjcajidgaejhoaa

