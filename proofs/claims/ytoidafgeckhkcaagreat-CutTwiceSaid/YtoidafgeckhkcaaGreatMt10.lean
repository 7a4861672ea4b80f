/- What a gate is made of: the law on lists; rows of marks. -/
import Derived.Test.YtoidafgeckhkcaaGreatMt09
import Derived.Test.YtoidafgeckhkcaaGreatMt07
import Derived.Laws.MakeOwn
namespace Go.Proofs.YtoidafgeckhkcaaGreat
open Go.RowKit
set_option linter.unusedSimpArgs false
set_option linter.unusedVariables false

theorem infoBool : (Tryz.prog.info? 4).map (fun i => (i.zero, i.size, i.bytes)) = some (some (.bool false), 1, 1) := by kernel_rfl
theorem made_bools (n : Nat) : madeCells #[Value.bool false] n = (List.replicate n (Value.bool false)).toArray := by
  apply Array.ext
  · simp [madeCells]
  · intro i h1 h2
    simp [madeCells, Nat.mod_one]
set_option maxRecDepth 100000 in
theorem run_make_bools (n : Nat) (w : World) (hn : n ≤ 1000000) : (Instr.makeSlice 104 (.int .i64 n) (.int .i64 n)).run Tryz.prog w = .ok (.slice (some ⟨w.heap.size, 0, none⟩) n n) (w.alloc (.cells (List.replicate n (Value.bool false)).toArray 4)) := by
  obtain ⟨i0, h2, h3, h4, h5⟩ := info_parts infoBool
  have hm := run_make (P := Tryz.prog) w 104 4 i0 _ Tryz.underlying104 h2 h3 .i64 .i64 n n (by omega) (Int.le_refl _) (by rw [h5]; omega) (by omega)
  rw [h4, Nat.mul_one, show ((n : Int)).toNat = n from Int.toNat_natCast n] at hm
  rw [← made_bools]
  exact hm

/-- A row of marks. -/
def MRow (w : World) (b n : Nat) (m : Nat → Bool) : Prop := RowAt w b 4 1 n n ((List.range n).map fun j => Value.bool (m j))
def upd (m : Nat → Bool) (x : Nat) : Nat → Bool := fun j => if j = x then true else m j
theorem MRow.frame {w w' : World} {b n : Nat} {m : Nat → Bool} {S : List Nat} (h : MRow w b n m) (f : Frame S w w') (hb : b ∉ S) : MRow w' b n m := RowAt.frame h f hb
theorem MRow.lt {w : World} {b n : Nat} {m : Nat → Bool} (h : MRow w b n m) : b < w.heap.size := RowAt.lt h
theorem MRow.at {w : World} {b n : Nat} {m : Nat → Bool} (h : MRow w b n m) {j : Nat} (hj : j < n) : w.cell? ⟨b, j, none⟩ = some (.bool (m j)) := RowAt.cell h (by simp [hj])
theorem MRow.frozen {w : World} {b n : Nat} {m : Nat → Bool} (h : MRow w b n m) (j : Nat) : w.frozen? ⟨b, j, none⟩ = false := RowAt.frozen h j
theorem MRow.set {w : World} {b n : Nat} {m : Nat → Bool} (h : MRow w b n m) {x : Nat} (hx : x < n) : MRow (w.setCell ⟨b, x, none⟩ (.bool true)) b n (upd m x) := by
  obtain ⟨cs, h1, h2, h3, h4, h5⟩ := RowAt.blk h
  refine RowAt.of_blk (h1.set _ _) h2 h3 (by simpa using h4) ?_
  rw [Array.toList_setIfInBounds, List.take_set, h5]
  apply List.ext_getElem
  · simp
  · intro i g1 g2
    simp only [List.getElem_set, List.getElem_map, List.getElem_range, upd]
    by_cases e : x = i
    · subst e; simp
    · rw [if_neg e, if_neg (fun h => e h.symm)]
theorem MRow.new (w : World) (n : Nat) (hn : n ≤ 1000000) : MRow (w.alloc (.cells (List.replicate n (Value.bool false)).toArray 4)) w.heap.size n (fun _ => false) := by
  refine RowAt.of_blk (Blk.new _ _ _) (Nat.le_refl _) (by unfold maxLen; omega) (by simp) ?_
  rw [List.take_of_length_le (by simp)]
  apply List.ext_getElem <;> simp

/-- One gate's marks; those of all below k. -/
def marks (l : List Gt) (k : Nat) (m : Nat → Bool) : Nat → Bool :=
  match l[k]? with
  | none => m
  | some g => if m k = true then (if g.k = 4 ∨ g.k = 5 then upd (upd m g.b.toNat) g.a.toNat else if g.k = 6 then upd m g.a.toNat else m) else m
def down (l : List Gt) : Nat → (Nat → Bool) → (Nat → Bool)
  | 0, m => m
  | k + 1, m => down l k (marks l k m)
/-- The gates' kinds. -/
def Knd (l : List Gt) : Prop := ∀ g ∈ l, 1 ≤ g.k ∧ g.k ≤ 6
theorem wf_nat {l : List Gt} (hI : Inv l) {k : Nat} {g : Gt} (hg : l[k]? = some g) (h4 : 4 ≤ g.k) : ∃ a : Nat, g.a = a ∧ a < k ∧ 1 ≤ a := by
  have := (hI.wf k g hg).1 h4
  exact ⟨g.a.toNat, by omega, by omega, by omega⟩
theorem wf_nat2 {l : List Gt} (hI : Inv l) {k : Nat} {g : Gt} (hg : l[k]? = some g) (h4 : g.k = 4 ∨ g.k = 5) : ∃ b : Nat, g.b = b ∧ b < k ∧ 1 ≤ b := by
  have := (hI.wf k g hg).1 (by omega)
  have := (hI.wf k g hg).2 h4
  exact ⟨g.b.toNat, by omega, by omega, by omega⟩
theorem marks_ge {l : List Gt} (hI : Inv l) {k j : Nat} (m : Nat → Bool) (h : k ≤ j) : marks l k m j = m j := by
  cases hg : l[k]? with
  | none => simp only [marks, hg]
  | some g =>
    simp only [marks, hg]
    by_cases hm : m k = true
    · rw [if_pos hm]
      by_cases h4 : g.k = 4 ∨ g.k = 5
      · obtain ⟨a, ha, ha1, _⟩ := wf_nat hI hg (by omega)
        obtain ⟨b, hb, hb1, _⟩ := wf_nat2 hI hg h4
        rw [if_pos h4]
        simp only [upd, ha, hb, Int.toNat_natCast]
        rw [if_neg (by omega), if_neg (by omega)]
      · rw [if_neg h4]
        by_cases h6 : g.k = 6
        · obtain ⟨a, ha, ha1, _⟩ := wf_nat hI hg (by omega)
          rw [if_pos h6]
          simp only [upd, ha, Int.toNat_natCast]
          rw [if_neg (by omega)]
        · rw [if_neg h6]
    · rw [if_neg hm]
theorem down_ge {l : List Gt} (hI : Inv l) : ∀ {k j : Nat} (m : Nat → Bool), k ≤ j + 1 → down l k m j = m j := by
  intro k
  induction k with
  | zero => intro j m _; rfl
  | succ k ih =>
    intro j m h
    unfold down
    rw [ih _ (by omega), marks_ge hI m (by omega)]
/-- The marks of a gate's own. -/
def reachM (l : List Gt) (root : Nat) : Nat → Bool := down l (root + 1) (fun j => decide (j = root))
/-- What a gate is made of, rising. -/
def reach (l : List Gt) (root : Nat) : List Nat := (List.range (root + 1)).filter (reachM l root)
end Go.Proofs.YtoidafgeckhkcaaGreat

