/- Small laws on worlds: what a call may change (Frame), blocks known whole. -/
import Derived.Test.YtbnhhmejlglbcaaGreatRows
import Derived.WalkKit
import Derived.WalkSpells
import Derived.WalkLawsBesides
import Derived.Deep.DeepCutAuto
import Derived.StillTailTactics
import Derived.Deep.RegionLaw
import Derived.Deep.AppendLies
import Derived.Deep.RegionHeld3
import Derived.Deep.QuietTactic
import Derived.BigQuiet
import Derived.Lib.Hide
import Derived.Defers
import Derived.Recover
namespace Go.Proofs.YtbnhhmejlglbcaaGreat
open Go.RowKit
set_option linter.unusedSimpArgs false
set_option linter.unusedVariables false

/-- All blocks but those of S, and new ones, are as they were. -/
structure Frame (S : List Nat) (w w' : World) : Prop where
  os : w'.os = w.os
  tape : w'.tape = w.tape
  output : w'.output = w.output
  size : w.heap.size ≤ w'.heap.size
  block : ∀ k, k < w.heap.size → k ∉ S → w'.heap[k]? = w.heap[k]?

/-- The new footprint: of the old one, or new blocks. -/
def Grow (F F' : List Nat) (w : World) : Prop := ∀ x ∈ F', x ∈ F ∨ w.heap.size ≤ x

theorem Frame.refl (S : List Nat) (w : World) : Frame S w w := ⟨rfl, rfl, rfl, Nat.le_refl _, fun _ _ _ => rfl⟩
theorem Frame.trans {S S' : List Nat} {a b c : World} (h : Frame S a b) (k : Frame S' b c) (hs : ∀ x ∈ S', x ∈ S ∨ a.heap.size ≤ x) : Frame S a c :=
  ⟨k.os.trans h.os, k.tape.trans h.tape, k.output.trans h.output, Nat.le_trans h.size k.size,
   fun i hi hS => (k.block i (Nat.lt_of_lt_of_le hi h.size) (fun hm => by rcases hs i hm with h1 | h1; exact hS h1; omega)).trans (h.block i hi hS)⟩
theorem Frame.trans0 {S : List Nat} {a b c : World} (h : Frame S a b) (k : Frame [] b c) : Frame S a c := h.trans k (by simp)
theorem Frame.trans1 {S : List Nat} {a b c : World} (h : Frame S a b) (k : Frame S b c) : Frame S a c := h.trans k (fun _ h => .inl h)
theorem Frame.mono {S S' : List Nat} {a b : World} (h : Frame S a b) (hs : ∀ x ∈ S, x ∈ S' ∨ a.heap.size ≤ x) : Frame S' a b :=
  ⟨h.os, h.tape, h.output, h.size, fun k hk hS => h.block k hk (fun hm => by rcases hs k hm with h1 | h1; exact hS h1; omega)⟩
theorem Frame.drew (S : List Nat) (w : World) : Frame S w w.drew := ⟨rfl, rfl, rfl, Nat.le_refl _, fun _ _ _ => rfl⟩
theorem Frame.drewN (S : List Nat) (w : World) (n : Nat) : Frame S w (w.drewN n) := ⟨rfl, rfl, rfl, Nat.le_refl _, fun _ _ _ => rfl⟩
theorem Frame.alloc (S : List Nat) (w : World) (o : Obj) : Frame S w (w.alloc o) :=
  ⟨rfl, rfl, rfl, by simp, fun k hk _ => Below.heap_alloc _ _ _ hk⟩
theorem Frame.setCell {S : List Nat} (w : World) (a : Addr) (v : Value) (h : a.block ∈ S) : Frame S w (w.setCell a v) :=
  ⟨rfl, rfl, rfl, by simp [World.setCell], fun k _ hS => Below.heap_setCell _ _ _ _ (fun e => hS (e ▸ h))⟩
theorem Frame.of_grown {w w' : World} {row : Option Nat} {S : List Nat} (h : w.grownBy w' row) (hs : ∀ k, row = some k → k ∈ S) : Frame S w w' :=
  ⟨h.os, h.tape, h.output, h.size, fun k hk hS => h.block k hk (fun e => hS (hs k e.symm))⟩
theorem Frame.below {w w' : World} (h : Frame [] w w') : Below w.heap.size w w' := ⟨h.os, h.tape, h.output, h.size, fun k hk => h.block k hk (by simp)⟩
theorem Frame.cell {S : List Nat} {w w' : World} (h : Frame S w w') {p : Addr} {v : Value} (hc : w.cell? p = some v) (hS : p.block ∉ S) : w'.cell? p = some v :=
  (World.cell?_of_block (h.block _ (World.block_lt_of_cell? w p hc) hS)).trans hc

/-- A row of cells, known whole, that no string shares. -/
def Blk (w : World) (b : Nat) (T : TypeId) (cs : Array Value) : Prop := w.heap[b]? = some (.cells cs T (0, 0))
/-- A map's block, known whole. -/
def MBlk (w : World) (b : Nat) (es : Array MapEntry) (clock : Nat) : Prop := w.heap[b]? = some (.map es clock)

section
variable {w w' : World} {b T : Nat} {cs : Array Value} {es : Array MapEntry} {clock : Nat} {S : List Nat}
theorem Blk.lt (h : Blk w b T cs) : b < w.heap.size := by
  rcases Nat.lt_or_ge b w.heap.size with h1 | h1
  · exact h1
  · unfold Blk at h; rw [Array.getElem?_eq_none h1] at h; cases h
theorem MBlk.lt (h : MBlk w b es clock) : b < w.heap.size := by
  rcases Nat.lt_or_ge b w.heap.size with h1 | h1
  · exact h1
  · unfold MBlk at h; rw [Array.getElem?_eq_none h1] at h; cases h
theorem Blk.cell (h : Blk w b T cs) (i : Nat) : w.cell? ⟨b, i, none⟩ = cs[i]? := by
  unfold Blk at h; simp [World.cell?, h]
theorem Blk.at (h : Blk w b T cs) (i : Nat) {v : Value} (hv : cs[i]? = some v) : w.cell? ⟨b, i, none⟩ = some v := (h.cell i).trans hv
theorem Blk.frozen (h : Blk w b T cs) (i : Nat) : w.frozen? ⟨b, i, none⟩ = false := by
  unfold Blk at h; simp [World.frozen?, h]
theorem Blk.frame (h : Blk w b T cs) (f : Frame S w w') (hb : b ∉ S) : Blk w' b T cs := (f.block b h.lt hb).trans h
theorem MBlk.frame (h : MBlk w b es clock) (f : Frame S w w') (hb : b ∉ S) : MBlk w' b es clock := (f.block b h.lt hb).trans h
theorem Blk.alloc (h : Blk w b T cs) (o : Obj) : Blk (w.alloc o) b T cs := (Below.heap_alloc _ _ _ h.lt).trans h
theorem MBlk.alloc (h : MBlk w b es clock) (o : Obj) : MBlk (w.alloc o) b es clock := (Below.heap_alloc _ _ _ h.lt).trans h
theorem Blk.drew (h : Blk w b T cs) : Blk w.drew b T cs := h
theorem MBlk.drew (h : MBlk w b es clock) : MBlk w.drew b es clock := h
theorem Blk.drewN (h : Blk w b T cs) (n : Nat) : Blk (w.drewN n) b T cs := h
theorem MBlk.drewN (h : MBlk w b es clock) (n : Nat) : MBlk (w.drewN n) b es clock := h
theorem Blk.new (w : World) (T : TypeId) (cs : Array Value) : Blk (w.alloc (.cells cs T)) w.heap.size T cs := by
  show (w.heap.push _)[w.heap.size]? = _
  simp
theorem MBlk.new (w : World) (es : Array MapEntry) (c : Nat) : MBlk (w.alloc (.map es c)) w.heap.size es c := by
  show (w.heap.push _)[w.heap.size]? = _
  simp
theorem Blk.set_ne (h : Blk w b T cs) {a : Addr} (v : Value) (hb : b ≠ a.block) : Blk (w.setCell a v) b T cs := (Below.heap_setCell _ _ _ _ hb).trans h
theorem MBlk.set_ne (h : MBlk w b es clock) {a : Addr} (v : Value) (hb : b ≠ a.block) : MBlk (w.setCell a v) b es clock := (Below.heap_setCell _ _ _ _ hb).trans h
theorem Blk.set (h : Blk w b T cs) (i : Nat) (v : Value) : Blk (w.setCell ⟨b, i, none⟩ v) b T (cs.setIfInBounds i v) := by
  unfold Blk at *
  simp [World.setCell, Array.getElem?_modify, h]
theorem Blk.ne_m {b' : Nat} (h : Blk w b T cs) (h' : MBlk w b' es clock) : b ≠ b' := by
  rintro rfl; unfold Blk MBlk at *; rw [h] at h'; cases h'
end

/-- A map's block is written. -/
def setMap (w : World) (b : Nat) (es : Array MapEntry) (clock : Nat) : World := { w with heap := w.heap.setIfInBounds b (.map es clock) }
theorem Frame.setMap {S : List Nat} (w : World) (b : Nat) (es : Array MapEntry) (clock : Nat) (h : b ∈ S) : Frame S w (setMap w b es clock) :=
  ⟨rfl, rfl, rfl, by simp [YtbnhhmejlglbcaaGreat.setMap], fun k _ hS => by
    have : b ≠ k := fun e => hS (e ▸ h)
    simp [YtbnhhmejlglbcaaGreat.setMap, Array.getElem?_setIfInBounds, this]⟩
theorem MBlk.set {w : World} {b : Nat} {es0 : Array MapEntry} {c0 : Nat} (h : MBlk w b es0 c0) (es : Array MapEntry) (clock : Nat) : MBlk (setMap w b es clock) b es clock := by
  have := h.lt
  simp [MBlk, setMap, this]

/-- A slice of the call's own, in its block. -/
def RowAt (w : World) (b : Nat) (e size n cap : Nat) (xs : List Value) : Prop := w.ownsRow 0 e size (.slice (some ⟨b, 0, none⟩) n cap) n xs
section
variable {w w' : World} {b e size n cap : Nat} {xs : List Value} {S : List Nat}
theorem RowAt.blk (h : RowAt w b e size n cap xs) : ∃ cs, Blk w b e cs ∧ n ≤ cap ∧ cap ≤ maxLen ∧ cs.size = cap * size ∧ cs.toList.take (n * size) = xs := by
  rcases h.2 with ⟨h1, _⟩ | ⟨g, c, cur, h1, _, h2, h3, h4, h5, h6⟩
  · cases h1
  · cases h1; exact ⟨cur, h2, h3, h4, h5, h6⟩
theorem RowAt.lt (h : RowAt w b e size n cap xs) : b < w.heap.size := let ⟨_, h, _⟩ := h.blk; h.lt
theorem RowAt.of_blk {cs : Array Value} (h : Blk w b e cs) (hn : n ≤ cap) (hc : cap ≤ maxLen) (hs : cs.size = cap * size) (hx : cs.toList.take (n * size) = xs) : RowAt w b e size n cap xs :=
  ⟨by rw [← hx]; simp only [List.length_take, Array.length_toList, hs]; exact Nat.min_eq_left (Nat.mul_le_mul_right _ hn), .inr ⟨b, cap, cs, rfl, Nat.zero_le _, h, hn, hc, hs, hx⟩⟩
theorem RowAt.frame (h : RowAt w b e size n cap xs) (f : Frame S w w') (hb : b ∉ S) : RowAt w' b e size n cap xs :=
  let ⟨_, h1, h2, h3, h4, h5⟩ := h.blk; RowAt.of_blk (h1.frame f hb) h2 h3 h4 h5
theorem RowAt.alloc (h : RowAt w b e size n cap xs) (o : Obj) : RowAt (w.alloc o) b e size n cap xs := h.frame (Frame.alloc [] _ _) (by simp)
theorem RowAt.drew (h : RowAt w b e size n cap xs) : RowAt w.drew b e size n cap xs := h
theorem RowAt.drewN (h : RowAt w b e size n cap xs) (k : Nat) : RowAt (w.drewN k) b e size n cap xs := h
theorem RowAt.set_ne (h : RowAt w b e size n cap xs) {a : Addr} (v : Value) (hb : b ≠ a.block) : RowAt (w.setCell a v) b e size n cap xs := h.frame (Frame.setCell (S := [a.block]) _ _ _ (by simp)) (by simpa using hb)
theorem RowAt.cell (h : RowAt w b e size n cap xs) {i : Nat} {v : Value} (hv : xs[i]? = some v) : w.cell? ⟨b, i, none⟩ = some v := by
  obtain ⟨cs, h1, h2, h3, h4, h5⟩ := h.blk
  rw [h1.cell]
  rw [← h5] at hv
  have := List.getElem?_eq_some_iff.1 hv
  obtain ⟨hl, hv⟩ := this
  simp at hl hv
  rw [← hv]
  simp
theorem RowAt.frozen (h : RowAt w b e size n cap xs) (i : Nat) : w.frozen? ⟨b, i, none⟩ = false := let ⟨_, h, _⟩ := h.blk; h.frozen i
end

end Go.Proofs.YtbnhhmejlglbcaaGreat

