/- A new slice, at the end of a call. -/
import Derived.Test.YtojfemaamhampaaSl
namespace Go.Proofs.Ytojfemaamhampaa
open Go.RowKit
set_option linter.unusedSimpArgs false
set_option linter.unusedVariables false
theorem Blk.fresh {w : World} {T : TypeId} {cs : Array Value} {b : Nat} (h : b = w.heap.size) : Blk (w.alloc (.cells cs T)) b T cs := by subst h; exact Blk.new _ _ _
/-- A new slice. -/
def FreshEnd {α : Type} (T sz : Nat) (enc : α → List Value) (xs : List α) (w : World) (e : Ending) (w' : World) : Prop := ∃ a c G, e = .returned (.slice a xs.length c) ∧ Sl w' T sz enc (.slice a xs.length c) xs G ∧ Frame [] w w' ∧ ∀ x ∈ G, w.heap.size ≤ x
theorem FreshEnd.behind {α : Type} {T sz : Nat} {enc : α → List Value} {xs : List α} {w w1 w' : World} {e : Ending} (f : Frame [] w w1) (h : FreshEnd T sz enc xs w1 e w') : FreshEnd T sz enc xs w e w' := by
  obtain ⟨a, c, G, h1, h2, h3, h4⟩ := h
  exact ⟨a, c, G, h1, h2, f.trans1 h3, fun x hx => Nat.le_trans f.size (h4 x hx)⟩
theorem Sl.row {α : Type} {w : World} {e sz : Nat} {enc : α → List Value} {v : Value} {A B : List α} {x : α} {G : List Nat} (h : Sl w e sz enc v (A ++ x :: B) G) : ∃ b cap, v = .slice (some ⟨b, 0, none⟩) (A ++ x :: B).length cap ∧ G = [b] ∧ RowAt w b e sz (A ++ x :: B).length cap ((A ++ x :: B).flatMap enc) := by
  rcases h with ⟨_, h, _⟩ | h
  · simp at h
  · exact h
end Go.Proofs.Ytojfemaamhampaa
