/- A region that draws its order, whose operations read and whose callees write nothing that was there: walked once. -/
import Derived.Test.YtoidafgeckhkcaaGreatMt17
import Derived.StillTail
namespace Go.Proofs.YtoidafgeckhkcaaGreat
open Go.RowKit
set_option linter.unusedSimpArgs false
set_option linter.unusedVariables false

/-- A world that came of w0, nothing of w0's changed. -/
structure FramedBy (w0 : World) where
  w : World
  h : Frame [] w0 w
instance (w0 : World) : Nonempty (FramedBy w0) := ⟨⟨w0, Frame.refl _ _⟩⟩
theorem wp_region_framed {P : Program} {id : Nat} {Q : Exit → Act → World → Prop} {a : Act} {w : World} {l : List Oper} (hm : P.follows .mixedOrders = true) (hB : Region.lexB .any l.toArray = true)
    (h : wpQuiet P l.toArray (fun w' => ∃ p : FramedBy w, w' = p.w) (fun a' => ∀ w', (∃ p : FramedBy w, w' = p.w) → Q .normal a' w') l a) : (Code.region id l.toArray true).wp P Q a w :=
  wp_region_quiet (C := fun w' => ∃ p : FramedBy w, w' = p.w) hm hB ⟨⟨_, Frame.drew [] w⟩, rfl⟩ (by simpa using h)
theorem framed_of {P : Program} {f : FuncId} {args : Array Value} {w0 : World} {p : FramedBy w0} {v : Value} (h : Calls P f args p.w fun e w' => e = .returned v ∧ Frame [] p.w w') : Calls P f args p.w fun e w' => e = .returned v ∧ ∃ q : FramedBy w0, w' = q.w :=
  h.mono fun _ w' ⟨he, f⟩ => ⟨he, ⟨w', p.h.trans1 f⟩, rfl⟩
theorem framed_same {P : Program} {f : FuncId} {args : Array Value} {w0 : World} {p : FramedBy w0} {v : Value} (h : Calls P f args p.w fun e w' => e = .returned v ∧ w' = p.w) : Calls P f args p.w fun e w' => e = .returned v ∧ ∃ q : FramedBy w0, w' = q.w :=
  h.mono fun _ w' ⟨he, f⟩ => ⟨he, p, f⟩
theorem framed_out {w0 w' : World} (h : ∃ p : FramedBy w0, w' = p.w) : Frame [] w0 w' := by
  obtain ⟨p, rfl⟩ := h; exact p.h
theorem framed_cell {w0 : World} {a : Addr} {v : Value} (h : w0.cell? a = some v) (p : FramedBy w0) : p.w.cell? a = some v := p.h.cell h (by simp)
/-! ### .. whose last operations stand in one forced order, and may write -/
theorem still_of_quiet {P : Program} {ops : Array Oper} {w : World} {Q : Act → Prop} : ∀ (l : List Oper) (a : Act), wpQuiet P ops (fun w' => w' = w) Q l a → wpStill P ops w Q l a := by
  intro l
  induction l with
  | nil => intro a h; exact h
  | cons o rest ih =>
    intro a h
    unfold wpQuiet at h
    unfold wpStill
    split
    · rename_i hw
      rw [if_pos hw] at h
      obtain ⟨v, h1, h2⟩ := h
      have h3 := h1 w rfl
      unfold Oper.quietAt at h3
      unfold Oper.still
      generalize (execOp a.eval o).run P w = r at *
      cases r with
      | ok n w' =>
        cases n <;> simp only [Oper.quietUpon] at h3 <;> simp only [Oper.stillUpon]
        case value u =>
          obtain ⟨e1, e2⟩ := h3
          subst e2
          exact ⟨e1, ih _ h2⟩
        case skip =>
          obtain ⟨e1, e2⟩ := h3
          subst e2
          exact ⟨e1, ih _ h2⟩
        case enter f args =>
          obtain ⟨e1, hc⟩ := h3
          exact ⟨e1, v, hc, ih _ h2⟩
      | halt x w' => simp only [Oper.quietUpon] at h3
    · rename_i hw
      rw [if_neg hw] at h
      exact ih _ h
theorem wp_region_tail {P : Program} {id : Nat} {Q : Exit → Act → World → Prop} {a : Act} {w : World} {l : List Oper} (n : Nat) (hm : P.follows .mixedOrders = true) (hB : Region.lexTailB .any l.toArray n = true)
    (h : wpQuiet P l.toArray (fun w' => w' = w.drew) (fun a' => wpList P l.toArray Q (l.drop n) a' w.drew) (l.take n) a) : (Code.region id l.toArray true).wp P Q a w :=
  wp_region_still_tail n hm hB (still_of_quiet _ _ h)
end Go.Proofs.YtoidafgeckhkcaaGreat

