/- Families: the laws of a semiring; small at three rows. -/
import Derived.Test.YtojfemaamhampaaRules5
namespace Go.Proofs.Ytojfemaamhampaa
open Go.RowKit
set_option linter.unusedSimpArgs false
set_option linter.unusedVariables false

theorem cl_ext {X Y : List (List Int)} (hX : leastR X = X) (hY : leastR Y = Y) (h : ∀ S, hasL X S = hasL Y S) : X = Y := by
  rw [← hX, ← hY]; exact leastR_ext h
theorem cl_plus (f g : List (List Int)) : leastR (plusL f g) = plusL f g := leastR_idem _
theorem cl_times (f g : List (List Int)) : leastR (timesL f g) = timesL f g := leastR_idem _
theorem cl_one : leastR [[]] = [[]] := by decide +kernel
theorem cl_nil : leastR [] = [] := rfl
theorem has_one (S : List Int) : hasL [[]] S = true := by simp [hasL, subB]
theorem has_nil (S : List Int) : hasL [] S = false := rfl
section
variable {f g h : List (List Int)}
theorem law_plus_comm : plusL f g = plusL g f := cl_ext (cl_plus _ _) (cl_plus _ _) fun S => by rw [has_plus, has_plus, Bool.or_comm]
theorem law_times_comm : timesL f g = timesL g f := cl_ext (cl_times _ _) (cl_times _ _) fun S => by rw [has_times, has_times, Bool.and_comm]
theorem law_plus_assoc : plusL f (plusL g h) = plusL (plusL f g) h := cl_ext (cl_plus _ _) (cl_plus _ _) fun S => by simp only [has_plus, Bool.or_assoc]
theorem law_times_assoc : timesL f (timesL g h) = timesL (timesL f g) h := cl_ext (cl_times _ _) (cl_times _ _) fun S => by simp only [has_times, Bool.and_assoc]
theorem law_dist : timesL f (plusL g h) = plusL (timesL f g) (timesL f h) := cl_ext (cl_times _ _) (cl_plus _ _) fun S => by simp only [has_times, has_plus, Bool.and_or_distrib_left]
theorem law_plus_self (hf : leastR f = f) : plusL f f = f := cl_ext (cl_plus _ _) hf fun S => by rw [has_plus, Bool.or_self]
theorem law_times_self (hf : leastR f = f) : timesL f f = f := cl_ext (cl_times _ _) hf fun S => by rw [has_times, Bool.and_self]
theorem law_plus_one : plusL f [[]] = [[]] := cl_ext (cl_plus _ _) cl_one fun S => by rw [has_plus, has_one, Bool.or_true]
theorem law_times_one (hf : leastR f = f) : timesL f [[]] = f := cl_ext (cl_times _ _) hf fun S => by rw [has_times, has_one, Bool.and_true]
theorem law_plus_nil (hf : leastR f = f) : plusL f [] = f := cl_ext (cl_plus _ _) hf fun S => by rw [has_plus, has_nil, Bool.or_false]
theorem law_times_nil : timesL f [] = [] := cl_ext (cl_times _ _) cl_nil fun S => by rw [has_times, has_nil, Bool.and_false]
theorem law_swallow (hf : leastR f = f) : plusL f (timesL f g) = f := cl_ext (cl_plus _ _) hf fun S => by rw [has_plus, has_times]; cases hasL f S <;> simp
end
theorem small_three (a b d : Option Addr) (c e k : Nat) (vs us ts : List SV) (w : World) (h1 : Arg5 w a vs) (h2 : Arg5 w b us) (h3 : Arg5 w d ts) :
    Calls Try.prog 13 #[.slice (some ⟨w.heap.size, 0, none⟩) 3 3] (w.alloc (.cells #[.slice a vs.length c, .slice b us.length e, .slice d ts.length k] 26)) fun e' w' => e' = .returned (.bool (decide (SmallW [⟨a, c, vs⟩, ⟨b, e, us⟩, ⟨d, k, ts⟩]))) ∧ Frame [] w w' := by
  refine (small_any _ (some ⟨w.heap.size, 0, none⟩) 3 [⟨a, c, vs⟩, ⟨b, e, us⟩, ⟨d, k, ts⟩] _ (rf_blkW (Blk.new w 26 #[.slice a vs.length c, .slice b us.length e, .slice d ts.length k]) rfl) (fun r hr => ?_) (by simp)).mono ?_
  · simp only [List.mem_cons, List.not_mem_nil, or_false] at hr
    rcases hr with rfl | rfl | rfl
    · exact (h1.frame (Frame.alloc [] _ _)).rf
    · exact (h2.frame (Frame.alloc [] _ _)).rf
    · exact (h3.frame (Frame.alloc [] _ _)).rf
  · rintro e' w' ⟨he, f⟩
    exact ⟨he, (Frame.alloc [] _ _).trans1 f⟩
theorem small_parts3 {a b d : Option Addr} {c e k : Nat} {vs us ts : List SV} (h : SmallW [⟨a, c, vs⟩, ⟨b, e, us⟩, ⟨d, k, ts⟩]) : (vs.length ≤ 12 ∧ ∀ s ∈ vs, s.l.length ≤ 12) ∧ (us.length ≤ 12 ∧ ∀ s ∈ us, s.l.length ≤ 12) ∧ ts.length ≤ 12 ∧ ∀ s ∈ ts, s.l.length ≤ 12 := by
  have h1 := h.1 ⟨a, c, vs⟩ (by simp)
  have h2 := h.1 ⟨b, e, us⟩ (by simp)
  have h3 := h.1 ⟨d, k, ts⟩ (by simp)
  exact ⟨⟨h1.1, h1.2⟩, ⟨h2.1, h2.2⟩, h3.1, h3.2⟩
theorem one_fam {w : World} {v : Value} (h : FV w v [[]]) : ∃ a n c, v = .agg #[.slice a n c] ∧ FamV w a n c [[]] 1 0 := by
  obtain ⟨a, n, c, rfl⟩ := h.parts
  exact ⟨a, n, c, rfl, h, fun s hs => by obtain rfl := List.mem_singleton.1 hs; exact List.Pairwise.nil, by simp, fun s hs => by obtain rfl := List.mem_singleton.1 hs; simp⟩
theorem nil_fam (w : World) : FamV w none 0 0 [] 0 0 := ⟨FV.nil w, fun s hs => by simp at hs, by simp, fun s hs => by simp at hs⟩
theorem fam_cellR {w : World} {b : Nat} {x : Value} (h : Blk w b 30 #[x]) : ∀ w', Frame [] w w' → w'.cell? ⟨b, 0, none⟩ = some x := fun w' f => (h.frame f (by simp)).at 0 rfl
end Go.Proofs.Ytojfemaamhampaa
