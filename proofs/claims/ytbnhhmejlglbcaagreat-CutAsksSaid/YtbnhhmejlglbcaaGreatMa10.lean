/- slices.Reverse, slices.Sort on a row of one's own. -/
import Derived.Test.YtbnhhmejlglbcaaGreatMa09
import Derived.Test.YtbnhhmejlglbcaaGreatShelf
namespace Go.Proofs.YtbnhhmejlglbcaaGreat
open Go.RowKit Go.Sort
set_option linter.unusedSimpArgs false
set_option linter.unusedVariables false

theorem putCells_take (d : Array Int) (cs : Array Value) (h : d.size ≤ cs.size) : (putCells (Value.int .i64) 0 d cs).toList.take d.size = d.toList.flatMap Go.Proofs.YtbnhhmejlglbcaaGreat.encI := by
  have e : d.toList.flatMap Go.Proofs.YtbnhhmejlglbcaaGreat.encI = d.toList.map (Value.int .i64) := by
    generalize d.toList = dl
    induction dl with
    | nil => rfl
    | cons a t ih => rw [List.flatMap_cons, ih]; rfl
  rw [e]
  apply List.ext_getElem
  · simp [putCells]; omega
  · intro i h1 h2
    have hi : i < d.size := by simpa using h2
    simp [putCells, hi]
theorem put_blk {w : World} {b T n : Nat} {cs : Array Value} {d : Array Int} {os : Array Obj} (h : Blk w b T cs) : Blk (grow (putRow (Value.int .i64) (Sort.ahead w n) b 0 d) os) b T (putCells (Value.int .i64) 0 d cs) := by
  have hlt := h.lt
  unfold Blk at *
  show ((putRow (Value.int .i64) (Sort.ahead w n) b 0 d).heap ++ os)[b]? = _
  rw [Array.getElem?_append_left (by simpa [Sort.ahead] using hlt)]
  simp [putRow, mapBlock, Sort.ahead, h, Array.getElem?_modify, onCells]
theorem put_frame {w : World} {b n : Nat} {d : Array Int} {os : Array Obj} : Frame [b] w (grow (putRow (Value.int .i64) (Sort.ahead w n) b 0 d) os) := by
  refine ⟨rfl, rfl, rfl, ?_, fun k hk hS => ?_⟩
  · show w.heap.size ≤ ((putRow (Value.int .i64) (Sort.ahead w n) b 0 d).heap ++ os).size
    rw [Array.size_append, size_putRow]
    exact Nat.le_add_right _ _
  · have hb : ¬ b = k := fun e => hS (by simp [e])
    show ((putRow (Value.int .i64) (Sort.ahead w n) b 0 d).heap ++ os)[k]? = _
    rw [Array.getElem?_append_left (by simpa [Sort.ahead] using hk)]
    simp [putRow, mapBlock, Sort.ahead, Array.getElem?_modify, hb]
theorem put_sl {w : World} {b cap n : Nat} {xs ys : List Int} {os : Array Obj} (h : RowAt w b 3 1 xs.length cap (xs.flatMap Go.Proofs.YtbnhhmejlglbcaaGreat.encI)) (hl : ys.length = xs.length) :
    Sl (grow (putRow (Value.int .i64) (Sort.ahead w n) b 0 ys.toArray) os) 3 1 Go.Proofs.YtbnhhmejlglbcaaGreat.encI (.slice (some ⟨b, 0, none⟩) xs.length cap) ys [b] := by
  obtain ⟨cs, h1, h2, h3, h4, h5⟩ := h.blk
  refine .inr ⟨b, cap, by rw [hl], rfl, RowAt.of_blk (put_blk h1) (by omega) h3 (by simpa [putCells] using h4) ?_⟩
  have := putCells_take ys.toArray cs (by simp; omega)
  simpa using this
theorem holds_sl {w : World} {b cap : Nat} {xs : List Int} (h : RowAt w b 3 1 xs.length cap (xs.flatMap Go.Proofs.YtbnhhmejlglbcaaGreat.encI)) : Holds (Value.int .i64) w b 0 xs.toArray := by
  intro j hj
  have hj' : j < xs.length := by simpa using hj
  refine ⟨?_, h.frozen _⟩
  rw [Nat.zero_add]
  refine h.cell ?_
  have := flat_get (sz := 1) Go.Proofs.YtbnhhmejlglbcaaGreat.encI_len (xs := xs) (k := j) (x := xs[j]) (by simp [hj']) (j := 0) (u := .int .i64 xs[j]) rfl
  rw [Nat.mul_one, Nat.add_zero] at this
  rw [this]
  simp [hj']
theorem reverse_sl (v : Value) (xs : List Int) (G : List Nat) (w : World) (h : Sl w 3 1 Go.Proofs.YtbnhhmejlglbcaaGreat.encI v xs G) (hl : xs.length ≤ 1000000) :
    Calls Tryz.prog 112 #[v] w fun e w' => e = .returned (.tuple #[]) ∧ Sl w' 3 1 Go.Proofs.YtbnhhmejlglbcaaGreat.encI v xs.reverse G ∧ Frame G w w' := by
  rcases id h with ⟨rfl, rfl, rfl⟩ | ⟨b, cap, rfl, rfl, hr⟩
  · refine (Tryz.slices_Reverse_int_empty none 0 w).mono ?_
    rintro e w' ⟨he, rfl⟩
    exact ⟨he, Sl.nil _ _ _ _, Frame.refl _ _⟩
  · refine (Tryz.slices_Reverse_int b 0 cap xs w (holds_sl hr) (by omega)).mono ?_
    rintro e w' ⟨he, n, rfl⟩
    have := put_sl (n := n) (os := #[]) (ys := xs.reverse) hr (by simp)
    rw [grow_empty] at this
    have f := put_frame (w := w) (b := b) (n := n) (d := xs.reverse.toArray) (os := #[])
    rw [grow_empty] at f
    exact ⟨he, this, f⟩
theorem sort_sl (v : Value) (xs : List Int) (G : List Nat) (w : World) (h : Sl w 3 1 Go.Proofs.YtbnhhmejlglbcaaGreat.encI v xs G) (hl : xs.length ≤ 1000000) :
    Calls Tryz.prog 85 #[v] w fun e w' => e = .returned (.tuple #[]) ∧ Sl w' 3 1 Go.Proofs.YtbnhhmejlglbcaaGreat.encI v (xs.mergeSort fun x y => decide (x ≤ y)) G ∧ Frame G w w' := by
  rcases id h with ⟨rfl, rfl, rfl⟩ | ⟨b, cap, rfl, rfl, hr⟩
  · refine (Tryz.slices_Sort_int_none none 0 w).mono ?_
    rintro e w' ⟨he, rfl⟩
    exact ⟨he, by simpa using Sl.nil _ _ _ _, Frame.refl _ _⟩
  · refine (Tryz.slices_Sort_int b 0 cap xs w (holds_sl hr) hr.lt (by omega)).mono ?_
    rintro e w' ⟨he, n, os, rfl⟩
    exact ⟨he, put_sl hr (by simp), put_frame⟩
end Go.Proofs.YtbnhhmejlglbcaaGreat

