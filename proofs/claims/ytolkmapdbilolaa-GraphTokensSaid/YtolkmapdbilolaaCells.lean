/- Runs of cells written into a block; clear at several cells. -/
import Derived.Test.YtolkmapdbilolaaBase
import Derived.Laws.IdiomCopy
import Derived.Lib.SliceRun
namespace Go.Proofs.Ytolkmapdbilolaa
open Go.RowKit
set_option linter.unusedSimpArgs false
set_option linter.unusedVariables false

theorem Frame.setCells (w : World) (b : Nat) : ∀ (vs : List Value) (o : Nat), Frame [b] w (w.setCells b o vs) := by
  intro vs
  induction vs generalizing w with
  | nil => intro o; exact Frame.refl _ _
  | cons v r ih => intro o; exact (Frame.setCell (S := [b]) w ⟨b, o, none⟩ v (by simp)).trans1 (ih _ (o + 1))
theorem size_setCells (w : World) (b : Nat) : ∀ (vs : List Value) (o : Nat), (w.setCells b o vs).heap.size = w.heap.size := by
  intro vs
  induction vs generalizing w with
  | nil => intro o; rfl
  | cons v r ih => intro o; rw [World.setCells, ih]; simp

/-- What a block holds behind a run of writes. -/
def over (cs : List Value) (o : Nat) (vs : List Value) : List Value := cs.take o ++ vs ++ cs.drop (o + vs.length)
theorem over_len {cs vs : List Value} {o : Nat} (h : o + vs.length ≤ cs.length) : (over cs o vs).length = cs.length := by simp [over]; omega
theorem set_toList (cs : Array Value) (o : Nat) (v : Value) (h : o < cs.size) : (cs.setIfInBounds o v).toList = over cs.toList o [v] := by
  rw [Array.toList_setIfInBounds]
  simp only [over, List.length_singleton]
  rw [List.set_eq_take_append_cons_drop, if_pos (by simpa using h)]
  simp
theorem over_cons (cs : List Value) (o : Nat) (v : Value) (r : List Value) (h : o + (r.length + 1) ≤ cs.length) : over (over cs o [v]) (o + 1) r = over cs o (v :: r) := by
  simp only [over, List.length_cons, List.length_nil, Nat.zero_add]
  have h1 : (cs.take o ++ [v] ++ cs.drop (o + 1)).take (o + 1) = cs.take o ++ [v] := by
    rw [List.take_append_of_le_length (by simp; omega)]
    rw [List.take_of_length_le (by simp; omega)]
  have h2 : (cs.take o ++ [v] ++ cs.drop (o + 1)).drop (o + 1 + r.length) = cs.drop (o + (r.length + 1)) := by
    rw [List.drop_append, List.drop_of_length_le (by simp; omega), List.drop_drop]
    simp
    congr 1
    omega
  rw [h1, h2]; simp
theorem Blk.setCells {b T : Nat} : ∀ {vs : List Value} {o : Nat} {cs : Array Value} {w : World}, Blk w b T cs → o + vs.length ≤ cs.size → Blk (w.setCells b o vs) b T (over cs.toList o vs).toArray := by
  intro vs
  induction vs with
  | nil => intro o cs w h _; simpa [over, World.setCells] using h
  | cons v r ih =>
    intro o cs w h hb
    simp only [List.length_cons] at hb
    have h1 := ih (o := o + 1) (h.set o v) (by simp; omega)
    rw [set_toList _ _ _ (by omega), over_cons _ _ _ _ (by simpa using hb)] at h1
    exact h1

theorem run_clear_k {P : Program} (w : World) (t e ty : TypeId) (z : Value) (zs : List Value) (ht : P.underlying t = some (.slice e)) (hv : ∀ w, (zeroValue e).run P w = .ok z w) (b o n c : Nat) (hn : 0 < n)
    (hz : (Builtin.zeroCells z.cells n).toList = zs) (h1 : ∀ v ∈ zs, v.oneCell' = true) (hc : ∀ j, j < zs.length → (w.cell? ⟨b, o + j, none⟩).isSome = true) (hf : ∀ j, j < zs.length → w.frozen? ⟨b, o + j, none⟩ = false) :
    (Builtin.clear_ #[t] ty #[.slice (some ⟨b, o, none⟩) n c]).run P w = .ok (.tuple #[]) (w.setCells b o zs) := by
  have hst := run_storeCells_cells (P := P) b o zs 0 w (by simpa using hc) (by simpa using hf) h1
  simp only [Nat.add_zero] at hst
  obtain ⟨m, rfl⟩ : ∃ m, n = m + 1 := ⟨n - 1, by omega⟩
  simp [Builtin.clear_, run_underlying ht, hv, hz, hst]
theorem Blk.isSome {w : World} {b T : Nat} {cs : Array Value} (h : Blk w b T cs) {i : Nat} (hi : i < cs.size) : (w.cell? ⟨b, i, none⟩).isSome = true := by rw [h.cell i]; simp [hi]
end Go.Proofs.Ytolkmapdbilolaa
