/- tansylaw13.awake. -/
import Derived.Test.YtolkmapdbilolaaNew
namespace Go.Proofs.Ytolkmapdbilolaa
open Go.RowKit
set_option linter.unusedSimpArgs false
set_option linter.unusedVariables false

/-- A store that a call has made for itself. -/
def Own (w : World) (pb : Nat) (l : List Gt) (left : Int) (w' : World) : Prop := ∃ F, St w' pb F l left ∧ Frame [] w w' ∧ ∀ x ∈ F, w.heap.size ≤ x
theorem Own.next {w w1 w2 : World} {pb : Nat} {F : List Nat} {l' : List Gt} {left' : Int} (hF : Frame [] w w1) (hn : ∀ x ∈ F, w.heap.size ≤ x) (h : StEnd w1 pb F l' left' w2) : Own w pb l' left' w2 := by
  obtain ⟨F', a, b, c⟩ := h
  exact ⟨F', a, hF.trans b (fun x hx => .inr (hn x hx)), fun x hx => by rcases c x hx with h | h; exact hn x h; have := hF.size; omega⟩
theorem Own.quiet {w w1 w2 : World} {pb : Nat} {l : List Gt} {left : Int} (h : Own w pb l left w1) (f : Frame [] w1 w2) : Own w pb l left w2 := by
  obtain ⟨F, a, b, c⟩ := h
  exact ⟨F, a.frame0 f, b.trans1 f, c⟩

theorem awake13 (w : World) : Calls Try.prog 15 #[] w fun e w' => e = .returned (.bool true) ∧ Frame [] w w' := by
  go_enter Try.func15, Try.ntmps15
  go_wp2_with fail
  refine (new_any 10 _).mono ?_
  rintro e w1 ⟨pb, rfl, F1, s1, f1, n1⟩
  rw [show room 10 = 8 from by decide] at s1
  go_wp2_with fail
  refine (len_any pb F1 _ _ _ s1).mono ?_
  rintro e w1 ⟨rfl, rfl⟩
  go_wp2_with fail
  have hc := var_any pb F1 init 8 1 w1 s1 (by decide)
  rw [show mkVar 1 init 8 = ((2, 0), [⟨1, 0, 0⟩, ⟨2, 0, 0⟩, ⟨3, 1, 0⟩], 7) from by decide] at hc
  refine hc.mono ?_
  clear hc
  rintro e w2 ⟨rfl, he⟩
  obtain ⟨F2, s2, f2, n2⟩ := Own.next f1 n1 he
  clear he
  go_wp2_with fail
  have hc := var_any pb F2 [⟨1, 0, 0⟩, ⟨2, 0, 0⟩, ⟨3, 1, 0⟩] 7 2 w2 s2 (by decide)
  rw [show mkVar 2 [⟨1, 0, 0⟩, ⟨2, 0, 0⟩, ⟨3, 1, 0⟩] 7 = ((3, 0), [⟨1, 0, 0⟩, ⟨2, 0, 0⟩, ⟨3, 1, 0⟩, ⟨3, 2, 0⟩], 6) from by decide] at hc
  refine hc.mono ?_
  clear hc
  rintro e w3 ⟨rfl, he⟩
  obtain ⟨F3, s3, f3, n3⟩ := Own.next f2 n2 he
  clear he
  go_wp2_with fail
  have hc := plus_any pb F3 [⟨1, 0, 0⟩, ⟨2, 0, 0⟩, ⟨3, 1, 0⟩, ⟨3, 2, 0⟩] 6 3 2 w3 s3 (by decide)
  rw [show mkPlus 3 2 [⟨1, 0, 0⟩, ⟨2, 0, 0⟩, ⟨3, 1, 0⟩, ⟨3, 2, 0⟩] 6 = ((4, 0), [⟨1, 0, 0⟩, ⟨2, 0, 0⟩, ⟨3, 1, 0⟩, ⟨3, 2, 0⟩, ⟨4, 2, 3⟩], 5) from by decide] at hc
  refine hc.mono ?_
  clear hc
  rintro e w4 ⟨rfl, he⟩
  obtain ⟨F4, s4, f4, n4⟩ := Own.next f3 n3 he
  clear he
  go_wp2_with fail
  have hc := plus_any pb F4 [⟨1, 0, 0⟩, ⟨2, 0, 0⟩, ⟨3, 1, 0⟩, ⟨3, 2, 0⟩, ⟨4, 2, 3⟩] 5 2 3 w4 s4 (by decide)
  rw [show mkPlus 2 3 [⟨1, 0, 0⟩, ⟨2, 0, 0⟩, ⟨3, 1, 0⟩, ⟨3, 2, 0⟩, ⟨4, 2, 3⟩] 5 = ((4, 0), [⟨1, 0, 0⟩, ⟨2, 0, 0⟩, ⟨3, 1, 0⟩, ⟨3, 2, 0⟩, ⟨4, 2, 3⟩], 5) from by decide] at hc
  refine hc.mono ?_
  clear hc
  rintro e w5 ⟨rfl, he⟩
  obtain ⟨F5, s5, f5, n5⟩ := Own.next f4 n4 he
  clear he
  go_wp2_with fail
  go_ret
  exact ⟨rfl, f5⟩

end Go.Proofs.Ytolkmapdbilolaa
