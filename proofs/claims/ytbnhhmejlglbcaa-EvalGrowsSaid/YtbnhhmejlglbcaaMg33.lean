/- A row of ints of one's own. -/
import Derived.Test.YtbnhhmejlglbcaaMg08
import Derived.Test.YtbnhhmejlglbcaaMg01
namespace Go.Proofs.Ytbnhhmejlglbcaa
open Go.RowKit
set_option linter.unusedSimpArgs false
set_option linter.unusedVariables false

def IRow (w : World) (b n : Nat) (m : Nat → Int) : Prop := RowAt w b 3 1 n n ((List.range n).map fun j => Value.int .i64 (m j))
theorem made_ints (n : Nat) : madeCells #[Value.int .i64 0] n = (List.replicate n (Value.int .i64 0)).toArray := by
  apply Array.ext
  · simp [madeCells]
  · intro i h1 h2
    simp [madeCells, Nat.mod_one]
set_option maxRecDepth 100000 in
theorem run_make_ints (n : Nat) (w : World) (hn : n ≤ 1000000) : (Instr.makeSlice 23 (.int .i64 n) (.int .i64 n)).run Try.prog w = .ok (.slice (some ⟨w.heap.size, 0, none⟩) n n) (w.alloc (.cells (List.replicate n (Value.int .i64 0)).toArray 3)) := by
  obtain ⟨i0, h2, h3, h4, h5⟩ := info_parts infoInt
  have hm := run_make (P := Try.prog) w 23 3 i0 _ Try.underlying23 h2 h3 .i64 .i64 n n (by omega) (Int.le_refl _) (by rw [h5]; omega) (by omega)
  rw [h4, Nat.mul_one, show ((n : Int)).toNat = n from Int.toNat_natCast n] at hm
  rw [← made_ints]
  exact hm
theorem IRow.frame {w w' : World} {b n : Nat} {m : Nat → Int} {S : List Nat} (h : IRow w b n m) (f : Frame S w w') (hb : b ∉ S) : IRow w' b n m := RowAt.frame h f hb
theorem IRow.lt {w : World} {b n : Nat} {m : Nat → Int} (h : IRow w b n m) : b < w.heap.size := RowAt.lt h
theorem IRow.at {w : World} {b n : Nat} {m : Nat → Int} (h : IRow w b n m) {j : Nat} (hj : j < n) : w.cell? ⟨b, j, none⟩ = some (.int .i64 (m j)) := RowAt.cell h (by simp [hj])
theorem IRow.frozen {w : World} {b n : Nat} {m : Nat → Int} (h : IRow w b n m) (j : Nat) : w.frozen? ⟨b, j, none⟩ = false := RowAt.frozen h j
theorem IRow.put {w : World} {b n : Nat} {m : Nat → Int} (h : IRow w b n m) {x : Nat} (hx : x < n) (v : Int) : IRow (w.setCell ⟨b, x, none⟩ (.int .i64 v)) b n (fun j => if j = x then v else m j) := by
  obtain ⟨cs, h1, h2, h3, h4, h5⟩ := RowAt.blk h
  refine RowAt.of_blk (h1.set _ _) h2 h3 (by simpa using h4) ?_
  rw [Array.toList_setIfInBounds, List.take_set, h5]
  apply List.ext_getElem
  · simp
  · intro i g1 g2
    simp only [List.getElem_set, List.getElem_map, List.getElem_range]
    by_cases e : x = i
    · subst e; simp
    · rw [if_neg e, if_neg (fun h => e h.symm)]
theorem IRow.new (w : World) (n : Nat) (hn : n ≤ 1000000) : IRow (w.alloc (.cells (Array.replicate n (Value.int .i64 0)) 3)) w.heap.size n (fun _ => 0) := by
  have : IRow (w.alloc (.cells (List.replicate n (Value.int .i64 0)).toArray 3)) w.heap.size n (fun _ => 0) := by
    refine RowAt.of_blk (Blk.new _ _ _) (Nat.le_refl _) (by unfold maxLen; omega) (by simp) ?_
    rw [List.take_of_length_le (by simp)]
    apply List.ext_getElem <;> simp
  simpa using this
end Go.Proofs.Ytbnhhmejlglbcaa

