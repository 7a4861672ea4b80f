/- The graph and the reference's side by side. tansylaw10: steps, and small. -/
import Derived.Test.YtolkmapdbilolaaMg27
import Derived.Test.YtolkmapdbilolaaMg33
import Derived.Test.YtolkmapdbilolaaMg24
import Derived.Test.YtolkmapdbilolaaMg22
import Derived.Test.YtolkmapdbilolaaMg23
namespace Go.Proofs.Ytolkmapdbilolaa
open Go.RowKit
set_option linter.unusedSimpArgs false
set_option linter.unusedVariables false

/-- graph's object at pb, the reference's at rb, both made behind w; the blocks K are left alone. -/
def BG (w : World) (K : List Nat) (pb rb : Nat) (ns1 : List Nv) (es1 : List Ed) (g1 : Int) (ns2 : List Nv) (es2 : List Ed) (x2 : Int) (wr : World) : Prop :=
  ∃ F D, GV wr pb F ns1 es1 g1 ∧ RGv wr rb D ns2 es2 x2 ∧ Frame [] w wr ∧ (∀ x ∈ F, w.heap.size ≤ x) ∧ w.heap.size ≤ rb ∧ (∀ x ∈ F, x ≠ rb ∧ x ∉ D) ∧ ∀ x ∈ K, x < wr.heap.size ∧ x ∉ F ∧ x ≠ rb
theorem RGv.lts {w : World} {rb : Nat} {D : List Nat} {ns : List Nv} {es : List Ed} {x : Int} (h : RGv w rb D ns es x) : rb < w.heap.size ∧ ∀ y ∈ D, y < w.heap.size := by
  obtain ⟨zs, ⟨-, h2, -, an, nc, ae, ec, h4, -⟩, -⟩ := h
  exact ⟨h4.lt, h2⟩
theorem GV.lts {w : World} {pb : Nat} {F : List Nat} {ns : List Nv} {es : List Ed} {g : Int} (h : GV w pb F ns es g) : ∀ y ∈ F, y < w.heap.size := by
  obtain ⟨rs, ⟨FG, h1, h2, h3, rfl⟩, -⟩ := h
  intro y hy
  rcases List.mem_append.1 hy with hy | hy
  · exact h1.lt y hy
  · obtain ⟨r, hr, hy⟩ := List.mem_flatMap.1 hy
    exact Rn.ok_lt (h2 r hr) y hy
section
variable {w wr w' : World} {K : List Nat} {pb rb : Nat} {ns1 ns2 ns' : List Nv} {es1 es2 es' : List Ed} {g1 x2 g' x' : Int} {F D : List Nat}
theorem BG.frame (h : BG w K pb rb ns1 es1 g1 ns2 es2 x2 wr) : Frame [] w wr := by obtain ⟨_, _, _, _, f, _⟩ := h; exact f
theorem BG.less (h : BG w K pb rb ns1 es1 g1 ns2 es2 x2 wr) {K' : List Nat} (hK : ∀ x ∈ K', x ∈ K) : BG w K' pb rb ns1 es1 g1 ns2 es2 x2 wr := by
  obtain ⟨F, D, a, b, c, d, e, f, k⟩ := h
  exact ⟨F, D, a, b, c, d, e, f, fun x hx => k x (hK x hx)⟩
theorem BG.quiet (h : BG w K pb rb ns1 es1 g1 ns2 es2 x2 wr) (q : Frame [] wr w') : BG w K pb rb ns1 es1 g1 ns2 es2 x2 w' := by
  obtain ⟨F, D, a, b, c, d, e, f, k⟩ := h
  exact ⟨F, D, a.frame0 q, b.frame0 q, c.trans1 q, d, e, f, fun x hx => ⟨Nat.lt_of_lt_of_le (k x hx).1 q.size, (k x hx).2⟩⟩
theorem BG.alloc (h : BG w K pb rb ns1 es1 g1 ns2 es2 x2 wr) (o : Obj) : BG w (wr.heap.size :: K) pb rb ns1 es1 g1 ns2 es2 x2 (wr.alloc o) := by
  obtain ⟨F, D, a, b, c, d, e, f, k⟩ := h
  have q : Frame [] wr (wr.alloc o) := Frame.alloc _ _ _
  refine ⟨F, D, a.frame0 q, b.frame0 q, c.trans1 q, d, e, f, fun x hx => ?_⟩
  rcases List.mem_cons.1 hx with rfl | hx
  · exact ⟨by simp, fun hm => absurd (a.lts _ hm) (by omega), fun hm => by have := b.lts.1; omega⟩
  · exact ⟨Nat.lt_of_lt_of_le (k x hx).1 q.size, (k x hx).2⟩
theorem BG.fst (a : GV wr pb F ns1 es1 g1) (b : RGv wr rb D ns2 es2 x2) (c : Frame [] w wr) (d : ∀ x ∈ F, w.heap.size ≤ x) (e : w.heap.size ≤ rb) (f : ∀ x ∈ F, x ≠ rb ∧ x ∉ D) (k : ∀ x ∈ K, x < wr.heap.size ∧ x ∉ F ∧ x ≠ rb) (h : GVEnd wr pb F ns' es' g' w') : BG w K pb rb ns' es' g' ns2 es2 x2 w' ∧ KeptB K wr w' := by
  obtain ⟨F', p, q, r⟩ := h
  have hz := c.size
  refine ⟨⟨F', D, p, b.frame q (fun x hx hm => ?_), c.trans q (fun x hx => .inr (d x hx)), fun x hx => ?_, e, fun x hx => ?_, fun x hx => ⟨Nat.lt_of_lt_of_le (k x hx).1 q.size, fun hm => ?_, (k x hx).2.2⟩⟩, fun x hx => q.block x (k x hx).1 (k x hx).2.1⟩
  · rcases List.mem_cons.1 hx with rfl | hx
    · exact (f _ hm).1 rfl
    · exact (f x hm).2 hx
  · rcases r x hx with h | h
    · exact d x h
    · omega
  · rcases r x hx with h | h
    · exact f x h
    · exact ⟨fun hm => by have := b.lts.1; omega, fun hm => by have := b.lts.2 x hm; omega⟩
  · rcases r x hm with h | h
    · exact (k x hx).2.1 h
    · have := (k x hx).1; omega
theorem BG.snd (a : GV wr pb F ns1 es1 g1) (b : RGv wr rb D ns2 es2 x2) (c : Frame [] w wr) (d : ∀ x ∈ F, w.heap.size ≤ x) (e : w.heap.size ≤ rb) (f : ∀ x ∈ F, x ≠ rb ∧ x ∉ D) (k : ∀ x ∈ K, x < wr.heap.size ∧ x ∉ F ∧ x ≠ rb) (h : RGEnd wr rb D ns' es' x' w') : BG w K pb rb ns1 es1 g1 ns' es' x' w' ∧ KeptB K wr w' := by
  obtain ⟨D', p, q, r⟩ := h
  refine ⟨⟨F, D', a.frame q (fun x hx hm => ?_), p, c.trans q (fun x hx => ?_), d, e, fun x hx => ⟨(f x hx).1, fun hm => ?_⟩, fun x hx => ⟨Nat.lt_of_lt_of_le (k x hx).1 q.size, (k x hx).2⟩⟩, fun x hx => q.block x (k x hx).1 (fun hm => ?_)⟩
  · simp at hm; exact (f x hx).1 hm
  · simp at hx; subst hx; exact .inr e
  · rcases r x hm with h | h
    · exact (f x hx).2 h
    · have := a.lts x hx; omega
  · simp at hm; exact (k x hx).2.2 hm
theorem BG.addNode (h : BG w K pb rb ns1 es1 g1 ns2 es2 x2 wr) (hv : VOk ns1) (t : Int) :
    Calls Try.prog 28 #[.pointer (some ⟨pb, 0, none⟩), .int .i64 t] wr fun e w' => e = .returned (.int .i64 (vAddNode ns1 t).1) ∧ BG w K pb rb (vAddNode ns1 t).2 es1 g1 ns2 es2 x2 w' ∧ KeptB K wr w' := by
  obtain ⟨F, D, a, b, c, d, e, f, k⟩ := h
  exact (gv_addNode a hv.up (by have := hv.len; omega) t).mono fun _ w' ⟨h1, h2⟩ => ⟨h1, BG.fst a b c d e f k h2⟩
theorem BG.raddNode (h : BG w K pb rb ns1 es1 g1 ns2 es2 x2 wr) (hv : VOk ns2) (t : Int) :
    Calls Try.prog 91 #[.pointer (some ⟨rb, 0, none⟩), .int .i64 t] wr fun e w' => e = .returned (.int .i64 (vAddNode ns2 t).1) ∧ BG w K pb rb ns1 es1 g1 (vAddNode ns2 t).2 es2 x2 w' ∧ KeptB K wr w' := by
  obtain ⟨F, D, a, b, c, d, e, f, k⟩ := h
  exact (rg_addNode b hv t).mono fun _ w' ⟨h1, h2⟩ => ⟨h1, BG.snd a b c d e f k h2⟩
theorem BG.dropNode (h : BG w K pb rb ns1 es1 g1 ns2 es2 x2 wr) (hv : VOk ns1) (he : EOk es1 g1) (t : Int) :
    Calls Try.prog 33 #[.pointer (some ⟨pb, 0, none⟩), .int .i64 t] wr fun e w' => e = .returned (.int .i64 (vDropNode ns1 es1 t).1) ∧ BG w K pb rb (vDropNode ns1 es1 t).2 es1 g1 ns2 es2 x2 w' ∧ KeptB K wr w' := by
  obtain ⟨F, D, a, b, c, d, e, f, k⟩ := h
  exact (gv_dropNode a hv.up (by have := hv.len; omega) (by have := he.len; omega) t).mono fun _ w' ⟨h1, h2⟩ => ⟨h1, BG.fst a b c d e f k h2⟩
theorem BG.rdropNode (h : BG w K pb rb ns1 es1 g1 ns2 es2 x2 wr) (hv : VOk ns2) (he : EOk es2 g') (t : Int) :
    Calls Try.prog 92 #[.pointer (some ⟨rb, 0, none⟩), .int .i64 t] wr fun e w' => e = .returned (.int .i64 (vDropNode ns2 es2 t).1) ∧ BG w K pb rb ns1 es1 g1 (vDropNode ns2 es2 t).2 es2 x2 w' ∧ KeptB K wr w' := by
  obtain ⟨F, D, a, b, c, d, e, f, k⟩ := h
  exact (rg_dropNode b hv.up (by have := hv.len; omega) (by have := he.len; omega) t).mono fun _ w' ⟨h1, h2⟩ => ⟨h1, BG.snd a b c d e f k h2⟩
theorem BG.label (h : BG w K pb rb ns1 es1 g1 ns2 es2 x2 wr) (hv : VOk ns1) (t : Int) (s : ByteArray) (hs : s.size ≤ 9223372036854775807) :
    Calls Try.prog 36 #[.pointer (some ⟨pb, 0, none⟩), .int .i64 t, .string s] wr fun e w' => e = .returned (.int .i64 (vLabel ns1 t s).1) ∧ BG w K pb rb (vLabel ns1 t s).2 es1 g1 ns2 es2 x2 w' ∧ KeptB K wr w' := by
  obtain ⟨F, D, a, b, c, d, e, f, k⟩ := h
  exact (gv_label a hv t s hs).mono fun _ w' ⟨h1, h2⟩ => ⟨h1, BG.fst a b c d e f k h2⟩
theorem BG.rlabel (h : BG w K pb rb ns1 es1 g1 ns2 es2 x2 wr) (hv : VOk ns2) (t : Int) (s : ByteArray) (hs : s.size ≤ 9223372036854775807) :
    Calls Try.prog 93 #[.pointer (some ⟨rb, 0, none⟩), .int .i64 t, .string s] wr fun e w' => e = .returned (.int .i64 (vLabel ns2 t s).1) ∧ BG w K pb rb ns1 es1 g1 (vLabel ns2 t s).2 es2 x2 w' ∧ KeptB K wr w' := by
  obtain ⟨F, D, a, b, c, d, e, f, k⟩ := h
  exact (rg_label b hv.up (by have := hv.len; omega) (fun n hn => ⟨(hv.ls n hn).1, by have := (hv.ls n hn).2; omega⟩) t s hs).mono fun _ w' ⟨h1, h2⟩ => ⟨h1, BG.snd a b c d e f k h2⟩
theorem BG.set (h : BG w K pb rb ns1 es1 g1 ns2 es2 x2 wr) (hv : VOk ns1) (t : Int) (s v : ByteArray) (hs : s.size ≤ 9223372036854775807) (hsv : v.size ≤ 9223372036854775807) :
    Calls Try.prog 37 #[.pointer (some ⟨pb, 0, none⟩), .int .i64 t, .string s, .string v] wr fun e w' => e = .returned (.int .i64 (vSet ns1 t s v).1) ∧ BG w K pb rb (vSet ns1 t s v).2 es1 g1 ns2 es2 x2 w' ∧ KeptB K wr w' := by
  obtain ⟨F, D, a, b, c, d, e, f, k⟩ := h
  exact (gv_set a hv t s v hs hsv).mono fun _ w' ⟨h1, h2⟩ => ⟨h1, BG.fst a b c d e f k h2⟩
theorem BG.rset (h : BG w K pb rb ns1 es1 g1 ns2 es2 x2 wr) (hv : VOk ns2) (t : Int) (s v : ByteArray) (hs : s.size ≤ 9223372036854775807) (hsv : v.size ≤ 9223372036854775807) :
    Calls Try.prog 94 #[.pointer (some ⟨rb, 0, none⟩), .int .i64 t, .string s, .string v] wr fun e w' => e = .returned (.int .i64 (vSet ns2 t s v).1) ∧ BG w K pb rb ns1 es1 g1 (vSet ns2 t s v).2 es2 x2 w' ∧ KeptB K wr w' := by
  obtain ⟨F, D, a, b, c, d, e, f, k⟩ := h
  exact (rg_set b hv.up (by have := hv.len; omega) (fun n hn => hv.ps n hn) t s v hs hsv).mono fun _ w' ⟨h1, h2⟩ => ⟨h1, BG.snd a b c d e f k h2⟩
theorem BG.drop (h : BG w K pb rb ns1 es1 g1 ns2 es2 x2 wr) (he : EOk es1 g1) (t : Int) :
    Calls Try.prog 31 #[.pointer (some ⟨pb, 0, none⟩), .int .i64 t] wr fun e w' => e = .returned (.int .i64 (vDrop es1 t).1) ∧ BG w K pb rb ns1 (vDrop es1 t).2 g1 ns2 es2 x2 w' ∧ KeptB K wr w' := by
  obtain ⟨F, D, a, b, c, d, e, f, k⟩ := h
  exact (gv_drop a he t).mono fun _ w' ⟨h1, h2⟩ => ⟨h1, BG.fst a b c d e f k h2⟩
theorem BG.rdrop (h : BG w K pb rb ns1 es1 g1 ns2 es2 x2 wr) (he : EOk es2 g') (t : Int) :
    Calls Try.prog 96 #[.pointer (some ⟨rb, 0, none⟩), .int .i64 t] wr fun e w' => e = .returned (.int .i64 (vDrop es2 t).1) ∧ BG w K pb rb ns1 es1 g1 ns2 (vDrop es2 t).2 x2 w' ∧ KeptB K wr w' := by
  obtain ⟨F, D, a, b, c, d, e, f, k⟩ := h
  exact (rg_drop b he.up (by have := he.len; omega) t).mono fun _ w' ⟨h1, h2⟩ => ⟨h1, BG.snd a b c d e f k h2⟩
theorem BG.add (h : BG w K pb rb ns1 es1 g1 ns2 es2 x2 wr) (hv : VOk ns1) (he : EOk es1 g1) (x : Int) (s : ByteArray) (y : Int) (hs : s.size ≤ 9223372036854775807) :
    Calls Try.prog 29 #[.pointer (some ⟨pb, 0, none⟩), .int .i64 x, .string s, .int .i64 y] wr fun e w' => e = .returned (.tuple #[.int .i64 (vAdd ns1 es1 g1 x s y).1.1, .int .i64 (vAdd ns1 es1 g1 x s y).1.2]) ∧ BG w K pb rb ns1 (vAdd ns1 es1 g1 x s y).2.1 (vAdd ns1 es1 g1 x s y).2.2 ns2 es2 x2 w' ∧ KeptB K wr w' := by
  obtain ⟨F, D, a, b, c, d, e, f, k⟩ := h
  exact (gv_add a hv he x s y hs).mono fun _ w' ⟨h1, h2⟩ => ⟨h1, BG.fst a b c d e f k h2⟩
theorem BG.radd (h : BG w K pb rb ns1 es1 g1 ns2 es2 (g' + 1) wr) (hv : VOk ns2) (he : EOk es2 g') (x : Int) (s : ByteArray) (y : Int) (hs : s.size ≤ 9223372036854775807) :
    Calls Try.prog 95 #[.pointer (some ⟨rb, 0, none⟩), .int .i64 x, .string s, .int .i64 y] wr fun e w' => e = .returned (.tuple #[.int .i64 (vAdd ns2 es2 g' x s y).1.1, .int .i64 (vAdd ns2 es2 g' x s y).1.2]) ∧ BG w K pb rb ns1 es1 g1 ns2 (vAdd ns2 es2 g' x s y).2.1 ((vAdd ns2 es2 g' x s y).2.2 + 1) w' ∧ KeptB K wr w' := by
  obtain ⟨F, D, a, b, c, d, e, f, k⟩ := h
  exact (rg_add b (by have := hv.len; omega) (by have := he.len; omega) he.given0 he.given1 x s y hs).mono fun _ w' ⟨h1, h2⟩ => ⟨h1, BG.snd a b c d e f k h2⟩
end
end Go.Proofs.Ytolkmapdbilolaa

namespace Go.Proofs.Ytolkmapdbilolaa
open Go.RowKit
set_option linter.unusedSimpArgs false
set_option linter.unusedVariables false

/-- A step of tansylaw10, as it lies in memory. -/
structure St10 where
  kind : Int
  id : Int
  tgt : Int
  name : ByteArray
  val : ByteArray
def St10.enc (s : St10) : List Value := [.int .i64 s.kind, .int .i64 s.id, .int .i64 s.tgt, .string s.name, .string s.val]
def St10.ok (w : World) (s : St10) : Prop := s.name.size ≤ 9223372036854775807 ∧ s.val.size ≤ 9223372036854775807
theorem St10.ok_frame {w w' : World} (f : Frame [] w w') (s : St10) (h : s.ok w) : s.ok w' := h
theorem sat3 (m : Int) (a b : Nat) (h0 : 0 ≤ m) (h1 : m ≤ 1099511627776) (ha : a ≤ 9223372036854775807) (hb : b ≤ 9223372036854775807) : ∃ q : Int, 0 ≤ q ∧ q ≤ 1099511627776 ∧
    ∀ (w : World) (bk : Nat), Blk w bk 3 #[.int .i64 a, .int .i64 b, .int .i64 1] → Calls Try.prog 62 #[.int .i64 m, .slice (some ⟨bk, 0, none⟩) 3 3] w fun e w' => e = .returned (.int .i64 q) ∧ w' = w := by
  have h := satTo_le [(a : Int), (b : Int), 1] m h0 h1 (by simp)
  exact ⟨_, by have := h.1; omega, h.2.1, fun w bk hbk => sat_any m (some ⟨bk, 0, none⟩) 3 [(a : Int), (b : Int), 1] _ h0 h1 (.inr ⟨bk, 0, rfl, hbk.lt, fun k hk => by
    match k, hk with
    | 0, _ => exact hbk.at 0 rfl
    | 1, _ => exact hbk.at 1 rfl
    | 2, _ => exact hbk.at 2 rfl⟩) (by simp) (by simp; omega)⟩
/-- What small ends in. -/
def SmEnd (xs : List St10) (w : World) (e : Ending) (w' : World) : Prop := ∃ r : Bool, e = .returned (.bool r) ∧ (r = true → xs.length ≤ 250) ∧ Frame [] w w'

set_option maxHeartbeats 4000000 in
theorem small10_any (a : Option Addr) (cap : Nat) (xs : List St10) (w : World) (hx : RdS w 5 St10.enc St10.ok a xs) (hl : xs.length ≤ 9223372036854775807) :
    Calls Try.prog 43 #[.slice a xs.length cap] w (SmEnd xs w) := by
  have HX := Lib.hid hx
  clear hx
  go_enter Try.func43, Try.ntmps43
  go_wp2_with fail
  go_loopw [3, 4] (fun v i wr => ∃ (k : Nat) (m : Int), k ≤ xs.length ∧ i = .int .i64 k ∧ v = .int .i64 m ∧ 0 ≤ m ∧ m ≤ 5000 ∧ Frame [] w wr) (fun _ i _ => xs.length - (intOf i).toNat)
  case atStart => exact ⟨0, 0, Nat.zero_le _, rfl, rfl, by omega, by omega, Frame.refl _ _⟩
  case round =>
    obtain ⟨k, m, hk, rfl, rfl, m0, m1, hf⟩ := hrel
    rename World => wo
    have HF := Lib.hid hf
    by_cases hlt : k < xs.length
    · obtain ⟨b, off, rfl, hc, hok⟩ := (HX.out.frame hf (fun x => St10.ok_frame hf x)).at hlt
      have c3 := hc 3 _ rfl
      have c4 := hc 4 _ rfl
      generalize xs[k] = s at *
      obtain ⟨q, q1, q2, q3⟩ := sat3 m s.name.size s.val.size m0 (by omega) hok.1 hok.2
      have HQ := Lib.hid q3
      have hn1 := hok.1
      have hn2 := hok.2
      clear hf hc hok q3
      go_wp2_with fail
      go_region_held3 (fun w' => w'.cell? ⟨b, off + k * 5 + 3, none⟩ = some (.string s.name) ∧ w'.cell? ⟨b, off + k * 5 + 4, none⟩ = some (.string s.val)) (go_keep)
        ((go_at_call 62; refine (HQ.out _ _ ?_).mono ?_; (focus (exact (Blk.new _ _ _).drew)); rintro e w5 ⟨rfl, rfl⟩))
      have FA : Hid (Frame [] wo (wo.alloc (.cells #[.int .i64 s.name.size, .int .i64 s.val.size, .int .i64 1] 3)).drew) := (Frame.alloc _ _ _).trans1 (Frame.drew _ _)
      generalize (wo.alloc (.cells #[.int .i64 s.name.size, .int .i64 s.val.size, .int .i64 1] 3)).drew = wb at *
      clear HQ c3 c4 hn1 hn2
      by_cases hq : 5000 < q
      · have hd : decide (5000 < q) = true := by simpa using hq
        clear hq
        go_wp2_with fail
        go_ret
        exact ⟨false, rfl, by simp, HF.out.trans1 FA.out⟩
      · have hd : decide (5000 < q) = false := by simpa using hq
        go_wp2_with fail
        go_roundw
        case rel => exact ⟨k + 1, q, by omega, by first | rfl | go_num, rfl, by omega, by omega, HF.out.trans1 FA.out⟩
        case measure => first | (simp [intOf]; done) | (simp [intOf]; omega)
    · obtain rfl : k = xs.length := by omega
      go_wp2_with fail
      go_ret
      exact ⟨decide (xs.length ≤ 250), by simp; omega, by simp, HF.out⟩
end Go.Proofs.Ytolkmapdbilolaa

