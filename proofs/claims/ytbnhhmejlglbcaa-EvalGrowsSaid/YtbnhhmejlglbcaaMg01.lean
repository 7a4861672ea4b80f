/- Small laws on worlds: what a call may change (Frame), blocks known whole. Slices of the call's own, by lists. A quiet region's comparison, by its run. A region that draws its order, whose operations read and whose callees write nothing that was there: walked once. -/
import Derived.Test.YtbnhhmejlglbcaaRows
import Derived.WalkKit
import Derived.WalkSpells
import Derived.WalkLawsBesides
import Derived.Deep.DeepCutAuto
import Derived.StillTailTactics
import Derived.Deep.RegionLaw
import Derived.Deep.AppendLies
import Derived.Deep.RegionHeld3
import Derived.Deep.QuietTactic
import Derived.BigQuiet
import Derived.Lib.Hide
import Derived.Defers
import Derived.Recover
import Derived.StillTail
namespace Go.Proofs.Ytbnhhmejlglbcaa
open Go.RowKit
set_option linter.unusedSimpArgs false
set_option linter.unusedVariables false

/-- All blocks but those of S, and new ones, are as they were. -/
structure Frame (S : List Nat) (w w' : World) : Prop where
  os : w'.os = w.os
  tape : w'.tape = w.tape
  output : w'.output = w.output
  size : w.heap.size ≤ w'.heap.size
  block : ∀ k, k < w.heap.size → k ∉ S → w'.heap[k]? = w.heap[k]?

/-- The new footprint: of the old one, or new blocks. -/
def Grow (F F' : List Nat) (w : World) : Prop := ∀ x ∈ F', x ∈ F ∨ w.heap.size ≤ x

theorem Frame.refl (S : List Nat) (w : World) : Frame S w w := ⟨rfl, rfl, rfl, Nat.le_refl _, fun _ _ _ => rfl⟩
theorem Frame.trans {S S' : List Nat} {a b c : World} (h : Frame S a b) (k : Frame S' b c) (hs : ∀ x ∈ S', x ∈ S ∨ a.heap.size ≤ x) : Frame S a c :=
  ⟨k.os.trans h.os, k.tape.trans h.tape, k.output.trans h.output, Nat.le_trans h.size k.size,
   fun i hi hS => (k.block i (Nat.lt_of_lt_of_le hi h.size) (fun hm => by rcases hs i hm with h1 | h1; exact hS h1; omega)).trans (h.block i hi hS)⟩
theorem Frame.trans0 {S : List Nat} {a b c : World} (h : Frame S a b) (k : Frame [] b c) : Frame S a c := h.trans k (by simp)
theorem Frame.trans1 {S : List Nat} {a b c : World} (h : Frame S a b) (k : Frame S b c) : Frame S a c := h.trans k (fun _ h => .inl h)
theorem Frame.mono {S S' : List Nat} {a b : World} (h : Frame S a b) (hs : ∀ x ∈ S, x ∈ S' ∨ a.heap.size ≤ x) : Frame S' a b :=
  ⟨h.os, h.tape, h.output, h.size, fun k hk hS => h.block k hk (fun hm => by rcases hs k hm with h1 | h1; exact hS h1; omega)⟩
theorem Frame.drew (S : List Nat) (w : World) : Frame S w w.drew := ⟨rfl, rfl, rfl, Nat.le_refl _, fun _ _ _ => rfl⟩
theorem Frame.drewN (S : List Nat) (w : World) (n : Nat) : Frame S w (w.drewN n) := ⟨rfl, rfl, rfl, Nat.le_refl _, fun _ _ _ => rfl⟩
theorem Frame.alloc (S : List Nat) (w : World) (o : Obj) : Frame S w (w.alloc o) :=
  ⟨rfl, rfl, rfl, by simp, fun k hk _ => Below.heap_alloc _ _ _ hk⟩
theorem Frame.setCell {S : List Nat} (w : World) (a : Addr) (v : Value) (h : a.block ∈ S) : Frame S w (w.setCell a v) :=
  ⟨rfl, rfl, rfl, by simp [World.setCell], fun k _ hS => Below.heap_setCell _ _ _ _ (fun e => hS (e ▸ h))⟩
theorem Frame.of_grown {w w' : World} {row : Option Nat} {S : List Nat} (h : w.grownBy w' row) (hs : ∀ k, row = some k → k ∈ S) : Frame S w w' :=
  ⟨h.os, h.tape, h.output, h.size, fun k hk hS => h.block k hk (fun e => hS (hs k e.symm))⟩
theorem Frame.below {w w' : World} (h : Frame [] w w') : Below w.heap.size w w' := ⟨h.os, h.tape, h.output, h.size, fun k hk => h.block k hk (by simp)⟩
theorem Frame.cell {S : List Nat} {w w' : World} (h : Frame S w w') {p : Addr} {v : Value} (hc : w.cell? p = some v) (hS : p.block ∉ S) : w'.cell? p = some v :=
  (World.cell?_of_block (h.block _ (World.block_lt_of_cell? w p hc) hS)).trans hc

/-- A row of cells, known whole, that no string shares. -/
def Blk (w : World) (b : Nat) (T : TypeId) (cs : Array Value) : Prop := w.heap[b]? = some (.cells cs T (0, 0))
/-- A map's block, known whole. -/
def MBlk (w : World) (b : Nat) (es : Array MapEntry) (clock : Nat) : Prop := w.heap[b]? = some (.map es clock)

section
variable {w w' : World} {b T : Nat} {cs : Array Value} {es : Array MapEntry} {clock : Nat} {S : List Nat}
theorem Blk.lt (h : Blk w b T cs) : b < w.heap.size := by
  rcases Nat.lt_or_ge b w.heap.size with h1 | h1
  · exact h1
  · unfold Blk at h; rw [Array.getElem?_eq_none h1] at h; cases h
theorem MBlk.lt (h : MBlk w b es clock) : b < w.heap.size := by
  rcases Nat.lt_or_ge b w.heap.size with h1 | h1
  · exact h1
  · unfold MBlk at h; rw [Array.getElem?_eq_none h1] at h; cases h
theorem Blk.cell (h : Blk w b T cs) (i : Nat) : w.cell? ⟨b, i, none⟩ = cs[i]? := by
  unfold Blk at h; simp [World.cell?, h]
theorem Blk.at (h : Blk w b T cs) (i : Nat) {v : Value} (hv : cs[i]? = some v) : w.cell? ⟨b, i, none⟩ = some v := (h.cell i).trans hv
theorem Blk.frozen (h : Blk w b T cs) (i : Nat) : w.frozen? ⟨b, i, none⟩ = false := by
  unfold Blk at h; simp [World.frozen?, h]
theorem Blk.frame (h : Blk w b T cs) (f : Frame S w w') (hb : b ∉ S) : Blk w' b T cs := (f.block b h.lt hb).trans h
theorem MBlk.frame (h : MBlk w b es clock) (f : Frame S w w') (hb : b ∉ S) : MBlk w' b es clock := (f.block b h.lt hb).trans h
theorem Blk.alloc (h : Blk w b T cs) (o : Obj) : Blk (w.alloc o) b T cs := (Below.heap_alloc _ _ _ h.lt).trans h
theorem MBlk.alloc (h : MBlk w b es clock) (o : Obj) : MBlk (w.alloc o) b es clock := (Below.heap_alloc _ _ _ h.lt).trans h
theorem Blk.drew (h : Blk w b T cs) : Blk w.drew b T cs := h
theorem MBlk.drew (h : MBlk w b es clock) : MBlk w.drew b es clock := h
theorem Blk.drewN (h : Blk w b T cs) (n : Nat) : Blk (w.drewN n) b T cs := h
theorem MBlk.drewN (h : MBlk w b es clock) (n : Nat) : MBlk (w.drewN n) b es clock := h
theorem Blk.new (w : World) (T : TypeId) (cs : Array Value) : Blk (w.alloc (.cells cs T)) w.heap.size T cs := by
  show (w.heap.push _)[w.heap.size]? = _
  simp
theorem MBlk.new (w : World) (es : Array MapEntry) (c : Nat) : MBlk (w.alloc (.map es c)) w.heap.size es c := by
  show (w.heap.push _)[w.heap.size]? = _
  simp
theorem Blk.set_ne (h : Blk w b T cs) {a : Addr} (v : Value) (hb : b ≠ a.block) : Blk (w.setCell a v) b T cs := (Below.heap_setCell _ _ _ _ hb).trans h
theorem MBlk.set_ne (h : MBlk w b es clock) {a : Addr} (v : Value) (hb : b ≠ a.block) : MBlk (w.setCell a v) b es clock := (Below.heap_setCell _ _ _ _ hb).trans h
theorem Blk.set (h : Blk w b T cs) (i : Nat) (v : Value) : Blk (w.setCell ⟨b, i, none⟩ v) b T (cs.setIfInBounds i v) := by
  unfold Blk at *
  simp [World.setCell, Array.getElem?_modify, h]
theorem Blk.ne_m {b' : Nat} (h : Blk w b T cs) (h' : MBlk w b' es clock) : b ≠ b' := by
  rintro rfl; unfold Blk MBlk at *; rw [h] at h'; cases h'
end

/-- A map's block is written. -/
def setMap (w : World) (b : Nat) (es : Array MapEntry) (clock : Nat) : World := { w with heap := w.heap.setIfInBounds b (.map es clock) }
theorem Frame.setMap {S : List Nat} (w : World) (b : Nat) (es : Array MapEntry) (clock : Nat) (h : b ∈ S) : Frame S w (setMap w b es clock) :=
  ⟨rfl, rfl, rfl, by simp [Ytbnhhmejlglbcaa.setMap], fun k _ hS => by
    have : b ≠ k := fun e => hS (e ▸ h)
    simp [Ytbnhhmejlglbcaa.setMap, Array.getElem?_setIfInBounds, this]⟩
theorem MBlk.set {w : World} {b : Nat} {es0 : Array MapEntry} {c0 : Nat} (h : MBlk w b es0 c0) (es : Array MapEntry) (clock : Nat) : MBlk (setMap w b es clock) b es clock := by
  have := h.lt
  simp [MBlk, setMap, this]

/-- A slice of the call's own, in its block. -/
def RowAt (w : World) (b : Nat) (e size n cap : Nat) (xs : List Value) : Prop := w.ownsRow 0 e size (.slice (some ⟨b, 0, none⟩) n cap) n xs
section
variable {w w' : World} {b e size n cap : Nat} {xs : List Value} {S : List Nat}
theorem RowAt.blk (h : RowAt w b e size n cap xs) : ∃ cs, Blk w b e cs ∧ n ≤ cap ∧ cap ≤ maxLen ∧ cs.size = cap * size ∧ cs.toList.take (n * size) = xs := by
  rcases h.2 with ⟨h1, _⟩ | ⟨g, c, cur, h1, _, h2, h3, h4, h5, h6⟩
  · cases h1
  · cases h1; exact ⟨cur, h2, h3, h4, h5, h6⟩
theorem RowAt.lt (h : RowAt w b e size n cap xs) : b < w.heap.size := let ⟨_, h, _⟩ := h.blk; h.lt
theorem RowAt.of_blk {cs : Array Value} (h : Blk w b e cs) (hn : n ≤ cap) (hc : cap ≤ maxLen) (hs : cs.size = cap * size) (hx : cs.toList.take (n * size) = xs) : RowAt w b e size n cap xs :=
  ⟨by rw [← hx]; simp only [List.length_take, Array.length_toList, hs]; exact Nat.min_eq_left (Nat.mul_le_mul_right _ hn), .inr ⟨b, cap, cs, rfl, Nat.zero_le _, h, hn, hc, hs, hx⟩⟩
theorem RowAt.frame (h : RowAt w b e size n cap xs) (f : Frame S w w') (hb : b ∉ S) : RowAt w' b e size n cap xs :=
  let ⟨_, h1, h2, h3, h4, h5⟩ := h.blk; RowAt.of_blk (h1.frame f hb) h2 h3 h4 h5
theorem RowAt.alloc (h : RowAt w b e size n cap xs) (o : Obj) : RowAt (w.alloc o) b e size n cap xs := h.frame (Frame.alloc [] _ _) (by simp)
theorem RowAt.drew (h : RowAt w b e size n cap xs) : RowAt w.drew b e size n cap xs := h
theorem RowAt.drewN (h : RowAt w b e size n cap xs) (k : Nat) : RowAt (w.drewN k) b e size n cap xs := h
theorem RowAt.set_ne (h : RowAt w b e size n cap xs) {a : Addr} (v : Value) (hb : b ≠ a.block) : RowAt (w.setCell a v) b e size n cap xs := h.frame (Frame.setCell (S := [a.block]) _ _ _ (by simp)) (by simpa using hb)
theorem RowAt.cell (h : RowAt w b e size n cap xs) {i : Nat} {v : Value} (hv : xs[i]? = some v) : w.cell? ⟨b, i, none⟩ = some v := by
  obtain ⟨cs, h1, h2, h3, h4, h5⟩ := h.blk
  rw [h1.cell]
  rw [← h5] at hv
  have := List.getElem?_eq_some_iff.1 hv
  obtain ⟨hl, hv⟩ := this
  simp at hl hv
  rw [← hv]
  simp
theorem RowAt.frozen (h : RowAt w b e size n cap xs) (i : Nat) : w.frozen? ⟨b, i, none⟩ = false := let ⟨_, h, _⟩ := h.blk; h.frozen i
end

end Go.Proofs.Ytbnhhmejlglbcaa

namespace Go.Proofs.Ytbnhhmejlglbcaa
open Go.RowKit
set_option linter.unusedSimpArgs false
set_option linter.unusedVariables false

/-- v is a slice of the elements xs, each laid out by enc; nil, or in a block of its own. G: its blocks. -/
def Sl {α : Type} (w : World) (e sz : Nat) (enc : α → List Value) (v : Value) (xs : List α) (G : List Nat) : Prop :=
  (v = .slice none 0 0 ∧ xs = [] ∧ G = []) ∨ ∃ b cap, v = .slice (some ⟨b, 0, none⟩) xs.length cap ∧ G = [b] ∧ RowAt w b e sz xs.length cap (xs.flatMap enc)

section
variable {α : Type} {w w' : World} {e sz : Nat} {enc : α → List Value} {v : Value} {xs : List α} {G S : List Nat}
theorem Sl.nil (w : World) (e sz : Nat) (enc : α → List Value) : Sl w e sz enc (.slice none 0 0) [] [] := .inl ⟨rfl, rfl, rfl⟩
theorem Sl.lt (h : Sl w e sz enc v xs G) : ∀ x ∈ G, x < w.heap.size := by
  rcases h with ⟨_, _, rfl⟩ | ⟨b, cap, _, rfl, h⟩
  · simp
  · simp; exact h.lt
theorem Sl.frame (h : Sl w e sz enc v xs G) (f : Frame S w w') (hS : ∀ x ∈ G, x ∉ S) : Sl w' e sz enc v xs G := by
  rcases h with h | ⟨b, cap, h1, rfl, h2⟩
  · exact .inl h
  · exact .inr ⟨b, cap, h1, rfl, h2.frame f (hS b (by simp))⟩
theorem Sl.frame0 (h : Sl w e sz enc v xs G) (f : Frame [] w w') : Sl w' e sz enc v xs G := h.frame f (by simp)
theorem Sl.form (h : Sl w e sz enc v xs G) : ∃ a cap, v = .slice a xs.length cap := by
  rcases h with ⟨h1, h2, _⟩ | ⟨b, cap, h1, _⟩
  · subst h2; exact ⟨none, 0, h1⟩
  · exact ⟨_, _, h1⟩
theorem Sl.owns (h : Sl w e sz enc v xs G) : w.ownsRow 0 e sz v xs.length (xs.flatMap enc) := by
  rcases h with ⟨rfl, rfl, _⟩ | ⟨b, cap, rfl, _, h⟩
  · exact World.ownsRow_nil _ _ _ _
  · exact h
theorem Sl.own_block (h : Sl w e sz enc v xs G) : ∀ k, v.ownBlock = some k → G = [k] := by
  rcases h with ⟨rfl, rfl, _⟩ | ⟨b, cap, rfl, h1, h⟩
  · intro k hk; cases hk
  · intro k hk; simp [Value.ownBlock] at hk; subst hk; exact h1
theorem flat_len {sz : Nat} {enc : α → List Value} (h : ∀ x, (enc x).length = sz) (xs : List α) : (xs.flatMap enc).length = xs.length * sz := by
  induction xs with
  | nil => simp
  | cons x t ih => simp [List.flatMap_cons, h, ih, Nat.succ_mul]; omega
theorem flat_get {sz : Nat} {enc : α → List Value} (h : ∀ x, (enc x).length = sz) {xs : List α} {k : Nat} {x : α} (hx : xs[k]? = some x) {j : Nat} {u : Value} (hu : (enc x)[j]? = some u) : (xs.flatMap enc)[k * sz + j]? = some u := by
  induction xs generalizing k with
  | nil => simp at hx
  | cons y t ih =>
    have hj : j < sz := by have := (List.getElem?_eq_some_iff.1 hu).1; rw [h] at this; exact this
    cases k with
    | zero =>
      simp at hx; subst hx
      rw [List.flatMap_cons, Nat.zero_mul, Nat.zero_add, List.getElem?_append_left (by rw [h]; exact hj)]
      exact hu
    | succ k =>
      rw [List.flatMap_cons, List.getElem?_append_right (by rw [h, Nat.succ_mul]; omega)]
      have := ih (k := k) (by simpa using hx)
      rw [← this]
      congr 1
      rw [h, Nat.succ_mul]; omega
/-- A cell of element k. -/
theorem Sl.cell (h : Sl w e sz enc v xs G) (hsz : ∀ x, (enc x).length = sz) {k : Nat} {x : α} (hx : xs[k]? = some x) : ∃ b cap, v = .slice (some ⟨b, 0, none⟩) xs.length cap ∧ G = [b] ∧ b < w.heap.size ∧ ∀ j u, (enc x)[j]? = some u → w.cell? ⟨b, k * sz + j, none⟩ = some u := by
  rcases h with ⟨_, rfl, _⟩ | ⟨b, cap, h1, h2, h3⟩
  · simp at hx
  · exact ⟨b, cap, h1, h2, h3.lt, fun j u hu => h3.cell (flat_get hsz hx hu)⟩
/-- A new row. -/
theorem Sl.of_blk {b cap : Nat} {cs : Array Value} (h : Blk w b e cs) (hn : xs.length ≤ cap) (hc : cap ≤ maxLen) (hs : cs.size = cap * sz) (hx : cs.toList.take (xs.length * sz) = xs.flatMap enc) : Sl w e sz enc (.slice (some ⟨b, 0, none⟩) xs.length cap) xs [b] :=
  .inr ⟨b, cap, rfl, rfl, RowAt.of_blk h hn hc hs hx⟩
end

/-- 'append', by lists. -/
theorem wpList_append_sl {α : Type} {P : Program} (w : World) {ops : Array Oper} {rest : List Oper} {o : Oper} {a : Act} {Q : Exit → Act → World → Prop}
    (hg : o.guard = none) (s x : Operand) (t : TypeId) (hop : o.op = Op.call { callee := Callee.builtin Builtin.append, args := #[s, x], argTypes := #[t, t] })
    (e sz bytes : Nat) (z : Value) (enc : α → List Value) (h1 : P.underlying t = some (.slice e)) (hi : (P.info? e).map (fun i => (i.zero, i.size, i.bytes)) = some (some z, sz, bytes)) (h6 : z.cells.size = sz) (h7 : 0 < sz)
    (v : Value) (xs : List α) (G : List Nat) (hs : a.eval s = v) (hown : Sl w e sz enc v xs G)
    (hb m c : Nat) (ys : List α) (cs : Array Value) (hx : a.eval x = .slice (some ⟨hb, 0, none⟩) m c) (hblk : Blk w hb e cs) (hcs : cs.toList = ys.flatMap enc) (hm : ys.length = m) (hsz : ∀ x, (enc x).length = sz) (h1c : ∀ x, ∀ u ∈ enc x, u.oneCell' = true)
    (hm0 : 0 < m) (b1 : xs.length + m ≤ 1073741824) (b2 : bytes ≤ 1024)
    (hK : ∀ b' cap' w', Sl w' e sz enc (.slice (some ⟨b', 0, none⟩) (xs.length + m) cap') (xs ++ ys) [b'] → Frame G w w' → (b' ∈ G ∨ b' = w.heap.size) → wpList P ops Q rest (a.put o.dst (.slice (some ⟨b', 0, none⟩) (xs.length + m) cap')) w') :
    wpList P ops Q (o :: rest) a w := by
  obtain ⟨i0, h2, h3, h4, h5⟩ := info_parts hi
  refine wpList_plain hg fun K hK' => ?_
  refine wp_append_lies w s x t hop 0 e i0 z sz bytes h1 h2 h3 h4 h5 h6 h7 v xs.length (xs.flatMap enc) hs hown.owns ⟨hb, 0, none⟩ m c (ys.flatMap enc) hx (by rw [flat_len hsz, hm]) ?_ ?_ hm0 (by unfold maxLen; omega) ?_ (Nat.zero_le _) _ rfl ?_
  · rw [← hcs]; exact World.news_of_block hblk
  · intro u hu
    obtain ⟨y, _, hy⟩ := List.mem_flatMap.1 hu
    exact h1c y u hy
  · calc (xs.length + m) * bytes ≤ 1073741824 * 1024 := Nat.mul_le_mul b1 b2
      _ ≤ 140737488355328 := by omega
  · intro g cap' w' q1 q2 q3 q4
    refine hK' _ _ (hK g cap' w' (.inr ⟨g, cap', by simp [hm], rfl, ?_⟩) (Frame.of_grown q2 (fun k hk => by rw [hown.own_block k hk]; simp)) ?_)
    · have : RowAt w' g e sz (xs.length + m) cap' (xs.flatMap enc ++ ys.flatMap enc) := q1
      simpa [hm] using this
    · rcases q3 with h | h
      · left; rw [hown.own_block g h]; simp
      · exact .inr h

/-- 'append' at a step of a region that draws its order, by lists. -/
theorem step_append_sl {α : Type} {P : Program} (w : World) {ops : Array Oper} {o : Oper} {a : Act} {K : Act → World → Prop} {Q : Exit → Act → World → Prop} {E : Prop}
    (hg : o.guard = none) (s x : Operand) (t : TypeId) (hop : o.op = Op.call { callee := Callee.builtin Builtin.append, args := #[s, x], argTypes := #[t, t] })
    (e sz bytes : Nat) (z : Value) (enc : α → List Value) (h1 : P.underlying t = some (.slice e)) (hi : (P.info? e).map (fun i => (i.zero, i.size, i.bytes)) = some (some z, sz, bytes)) (h6 : z.cells.size = sz) (h7 : 0 < sz)
    (v : Value) (xs : List α) (n : Nat) (hln : xs.length = n) (G : List Nat) (hs : a.eval s = v) (hown : Sl w e sz enc v xs G)
    (hb m c : Nat) (ys : List α) (cs : Array Value) (hx : a.eval x = .slice (some ⟨hb, 0, none⟩) m c) (hblk : Blk w hb e cs) (hcs : cs.toList = ys.flatMap enc) (hm : ys.length = m) (hsz : ∀ x, (enc x).length = sz) (h1c : ∀ x, ∀ u ∈ enc x, u.oneCell' = true)
    (hm0 : 0 < m) (b1 : n + m ≤ 1073741824) (b2 : bytes ≤ 1024)
    (hK : ∀ b' cap' w', Sl w' e sz enc (.slice (some ⟨b', 0, none⟩) (n + m) cap') (xs ++ ys) [b'] → Frame G w w' → (b' ∈ G ∨ b' = w.heap.size) → K (a.put o.dst (.slice (some ⟨b', 0, none⟩) (n + m) cap')) w') :
    if Region.wanted o (yielded ops a.tmps) = true then Oper.wp P o a w K Q else E := by
  subst hln
  obtain ⟨i0, h2, h3, h4, h5⟩ := info_parts hi
  refine step_append_lies w hg s x t hop 0 e i0 z sz bytes h1 h2 h3 h4 h5 h6 h7 v xs.length (xs.flatMap enc) hs hown.owns ⟨hb, 0, none⟩ m c (ys.flatMap enc) hx (by rw [flat_len hsz, hm]) ?_ ?_ hm0 (by unfold maxLen; omega) ?_ (Nat.zero_le _) _ rfl ?_
  · rw [← hcs]; exact World.news_of_block hblk
  · intro u hu
    obtain ⟨y, _, hy⟩ := List.mem_flatMap.1 hu
    exact h1c y u hy
  · calc (xs.length + m) * bytes ≤ 1073741824 * 1024 := Nat.mul_le_mul b1 b2
      _ ≤ 140737488355328 := by omega
  · intro g cap' w' q1 q2 q3 q4
    refine hK g cap' w' (.inr ⟨g, cap', by simp [hm], rfl, ?_⟩) (Frame.of_grown q2 (fun k hk => by rw [hown.own_block k hk]; simp)) ?_
    · have : RowAt w' g e sz (xs.length + m) cap' (xs.flatMap enc ++ ys.flatMap enc) := q1
      simpa [hm] using this
    · rcases q3 with h | h
      · left; rw [hown.own_block g h]; simp
      · exact .inr h

/-- An int's cell. -/
def encI (n : Int) : List Value := [.int .i64 n]
theorem encI_len (n : Int) : (encI n).length = 1 := rfl
theorem encI_one (n : Int) : ∀ u ∈ encI n, u.oneCell' = true := by simp [encI, Value.oneCell']
theorem infoInt : (Try.prog.info? 3).map (fun i => (i.zero, i.size, i.bytes)) = some (some (.int .i64 0), 1, 8) := by kernel_rfl

end Go.Proofs.Ytbnhhmejlglbcaa

namespace Go.Proofs.Ytbnhhmejlglbcaa
open Go.RowKit
theorem quiet_bin {P : Program} {C : World → Prop} {a : Act} {o : Oper} {K : Act → Prop} (b : BinOp) (t rt : TypeId) (x y : Operand) (u v z : Value) (h : o.op = .binOp b t x y rt) (hx : a.eval x = u) (hy : a.eval y = v)
    (hg : ∀ w, (eqGuard b t x y u v).run P w = .ok () w) (hr : ∀ w, C w → (binOp b t u v).run P w = .ok z w) (hk : K (a.put o.dst z)) : o.quiet P a C K :=
  ⟨_, fun w hw => by unfold Oper.quietAt; rw [show (execOp a.eval o).run P w = .ok (.value z) w from by simp [execOp, h, hx, hy, Sem.run_bind, Result.andThen, hg w, hr w hw]]; exact ⟨rfl, rfl⟩, hk⟩
end Go.Proofs.Ytbnhhmejlglbcaa
namespace Go.Proofs.Ytbnhhmejlglbcaa
open Go.RowKit
theorem noGuard : Try.prog.eqGuardType Try.prog.depth 64 = false := by kernel_rfl
theorem eqGuard_gate (x y : Operand) (u v : Array Value) (w : World) : (eqGuard .eql 64 x y (.agg u) (.agg v)).run Try.prog w = .ok () w := by
  have h := noGuard
  simp [eqGuard, Sem.run_bind, Result.andThen, go_sem, h]
end Go.Proofs.Ytbnhhmejlglbcaa

namespace Go.Proofs.Ytbnhhmejlglbcaa
open Go.RowKit
set_option linter.unusedSimpArgs false
set_option linter.unusedVariables false

/-- A world that came of w0, nothing of w0's changed. -/
structure FramedBy (w0 : World) where
  w : World
  h : Frame [] w0 w
instance (w0 : World) : Nonempty (FramedBy w0) := ⟨⟨w0, Frame.refl _ _⟩⟩
theorem wp_region_framed {P : Program} {id : Nat} {Q : Exit → Act → World → Prop} {a : Act} {w : World} {l : List Oper} (hm : P.follows .mixedOrders = true) (hB : Region.lexB .any l.toArray = true)
    (h : wpQuiet P l.toArray (fun w' => ∃ p : FramedBy w, w' = p.w) (fun a' => ∀ w', (∃ p : FramedBy w, w' = p.w) → Q .normal a' w') l a) : (Code.region id l.toArray true).wp P Q a w :=
  wp_region_quiet (C := fun w' => ∃ p : FramedBy w, w' = p.w) hm hB ⟨⟨_, Frame.drew [] w⟩, rfl⟩ (by simpa using h)
theorem framed_of {P : Program} {f : FuncId} {args : Array Value} {w0 : World} {p : FramedBy w0} {v : Value} (h : Calls P f args p.w fun e w' => e = .returned v ∧ Frame [] p.w w') : Calls P f args p.w fun e w' => e = .returned v ∧ ∃ q : FramedBy w0, w' = q.w :=
  h.mono fun _ w' ⟨he, f⟩ => ⟨he, ⟨w', p.h.trans1 f⟩, rfl⟩
theorem framed_same {P : Program} {f : FuncId} {args : Array Value} {w0 : World} {p : FramedBy w0} {v : Value} (h : Calls P f args p.w fun e w' => e = .returned v ∧ w' = p.w) : Calls P f args p.w fun e w' => e = .returned v ∧ ∃ q : FramedBy w0, w' = q.w :=
  h.mono fun _ w' ⟨he, f⟩ => ⟨he, p, f⟩
theorem framed_out {w0 w' : World} (h : ∃ p : FramedBy w0, w' = p.w) : Frame [] w0 w' := by
  obtain ⟨p, rfl⟩ := h; exact p.h
theorem framed_cell {w0 : World} {a : Addr} {v : Value} (h : w0.cell? a = some v) (p : FramedBy w0) : p.w.cell? a = some v := p.h.cell h (by simp)
/-! ### .. whose last operations stand in one forced order, and may write -/
theorem still_of_quiet {P : Program} {ops : Array Oper} {w : World} {Q : Act → Prop} : ∀ (l : List Oper) (a : Act), wpQuiet P ops (fun w' => w' = w) Q l a → wpStill P ops w Q l a := by
  intro l
  induction l with
  | nil => intro a h; exact h
  | cons o rest ih =>
    intro a h
    unfold wpQuiet at h
    unfold wpStill
    split
    · rename_i hw
      rw [if_pos hw] at h
      obtain ⟨v, h1, h2⟩ := h
      have h3 := h1 w rfl
      unfold Oper.quietAt at h3
      unfold Oper.still
      generalize (execOp a.eval o).run P w = r at *
      cases r with
      | ok n w' =>
        cases n <;> simp only [Oper.quietUpon] at h3 <;> simp only [Oper.stillUpon]
        case value u =>
          obtain ⟨e1, e2⟩ := h3
          subst e2
          exact ⟨e1, ih _ h2⟩
        case skip =>
          obtain ⟨e1, e2⟩ := h3
          subst e2
          exact ⟨e1, ih _ h2⟩
        case enter f args =>
          obtain ⟨e1, hc⟩ := h3
          exact ⟨e1, v, hc, ih _ h2⟩
      | halt x w' => simp only [Oper.quietUpon] at h3
    · rename_i hw
      rw [if_neg hw] at h
      exact ih _ h
theorem wp_region_tail {P : Program} {id : Nat} {Q : Exit → Act → World → Prop} {a : Act} {w : World} {l : List Oper} (n : Nat) (hm : P.follows .mixedOrders = true) (hB : Region.lexTailB .any l.toArray n = true)
    (h : wpQuiet P l.toArray (fun w' => w' = w.drew) (fun a' => wpList P l.toArray Q (l.drop n) a' w.drew) (l.take n) a) : (Code.region id l.toArray true).wp P Q a w :=
  wp_region_still_tail n hm hB (still_of_quiet _ _ h)
end Go.Proofs.Ytbnhhmejlglbcaa

