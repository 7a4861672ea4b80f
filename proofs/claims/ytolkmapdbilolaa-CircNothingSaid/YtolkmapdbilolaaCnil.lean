/- A circuit's calls on nothing. -/
import Derived.Test.YtolkmapdbilolaaAwake13
import Derived.Test.YtolkmapdbilolaaShelf
namespace Go.Proofs.Ytolkmapdbilolaa
open Go.RowKit
set_option linter.unusedSimpArgs false
set_option linter.unusedVariables false

theorem areG_nil (xs : List Int) (h : xs ≠ []) : areG 0 xs = false := by
  cases xs with
  | nil => exact absurd rfl h
  | cons a t => by_cases ha : a < 0 <;> simp [areG, notG, ha] <;> omega
theorem nvar (t : Int) (w : World) : Calls Try.prog 17 #[.pointer none, .int .i64 t] w fun e w' => e = .returned (.tuple #[.int .i64 0, .int .i64 1]) ∧ w' = w := by
  go_enter Try.func17, Try.ntmps17
  go_wp2_with (go_at_call 18; refine (len_nil _).mono ?_; rintro e w' ⟨rfl, rfl⟩)
  go_ret2
  exact ⟨rfl, rfl⟩
theorem nplus (a b : Int) (w : World) : Calls Try.prog 21 #[.pointer none, .int .i64 a, .int .i64 b] w fun e w' => e = .returned (.tuple #[.int .i64 0, .int .i64 1]) ∧ Frame [] w w' := by
  go_enter Try.func21, Try.ntmps21
  go_wp2_with fail
  have fr : Frame [] w (w.alloc (.cells #[.int .i64 a, .int .i64 b] 3)) := Frame.alloc _ _ _
  have hc := is_any none 0 _ 2 [a, b] (w.alloc (.cells #[.int .i64 a, .int .i64 b] 3)) (RdI.two _ _ _ _) (by simp) (lens_nil _)
  rw [areG_nil [a, b] (by simp)] at hc
  refine hc.mono ?_
  rintro e w1 ⟨rfl, f1⟩
  have f2 := Lib.hid (fr.trans1 f1)
  clear f1 fr hc
  go_wp2_with fail
  go_ret2
  exact ⟨rfl, f2.out⟩
theorem ngate (a : Int) (w : World) : Calls Try.prog 24 #[.pointer none, .int .i64 a] w fun e w' => e = .returned (.tuple #[.agg #[.int .i64 0, .int .i64 0, .int .i64 0], .bool false]) ∧ Frame [] w w' :=
  gate_get_none none 0 a w (lens_nil _) (by by_cases ha : a < 0 <;> simp [notG, ha] <;> omega)
theorem nreach (a : Int) (w : World) : Calls Try.prog 52 #[.pointer none, .int .i64 a] w fun e w' => e = .returned (.slice none 0 0) ∧ Frame [] w w' := by
  go_enter Try.func52, Try.ntmps52
  go_wp2_with fail
  have fr : Frame [] w (w.alloc (.cells #[.int .i64 a] 3)) := Frame.alloc _ _ _
  have hc := is_any none 0 _ 1 [a] (w.alloc (.cells #[.int .i64 a] 3)) (.inr ⟨w.heap.size, 0, rfl, by simp, fun k hk => by
    obtain rfl : k = 0 := by simp at hk; omega
    exact (Blk.new w 3 #[.int .i64 a]).at 0 rfl⟩) (by simp) (lens_nil _)
  rw [areG_nil [a] (by simp)] at hc
  refine hc.mono ?_
  rintro e w1 ⟨rfl, f1⟩
  have f2 := Lib.hid (fr.trans1 f1)
  clear f1 fr hc
  go_wp2_with fail
  go_ret
  exact ⟨rfl, f2.out⟩
theorem ntokens (a : Int) (w : World) : Calls Try.prog 53 #[.pointer none, .int .i64 a] w fun e w' => e = .returned (.slice none 0 0) ∧ Frame [] w w' := by
  go_enter Try.func53, Try.ntmps53
  go_wp2_with fail
  refine (nreach a _).mono ?_
  rintro e w1 ⟨rfl, f1⟩
  have f2 := Lib.hid f1
  clear f1
  go_wp2_with fail
  refine wp_loop_rounds 1 ?_
  rw [rounds_succ]
  go_wp2_with fail
  refine (Try.slices_Sort_int_none none 0 _).mono ?_
  rintro e w' ⟨rfl, rfl⟩
  go_wp2_with fail
  go_ret
  exact ⟨rfl, f2.out⟩
set_option maxRecDepth 100000 in
theorem circNothing_any (a b : Int) (w : World) : Calls Try.prog 13 #[.int .i64 a, .int .i64 b] w fun e w' => e = .returned (.bool true) ∧ Frame [] w w' := by
  go_enter Try.func13, Try.ntmps13
  go_wp2_with fail
  refine (nplus a b _).mono ?_
  rintro e w1 ⟨rfl, f1⟩
  have F1 := Lib.hid f1
  clear f1
  go_wp2_with fail
  refine (nvar 1 _).mono ?_
  rintro e w' ⟨rfl, rfl⟩
  go_wp2_with fail
  refine (ngate a _).mono ?_
  rintro e w2 ⟨rfl, f2⟩
  have F2 := Lib.hid (F1.out.trans1 f2)
  clear f2 F1
  go_wp2_with fail
  refine (len_nil _).mono ?_
  rintro e w' ⟨rfl, hw'⟩
  have F3 : Frame [] w w' := by rw [hw']; exact F2.out.trans1 (by (repeat first | assumption | exact Frame.refl _ _ | refine Frame.trans1 ?_ (Frame.alloc _ _ _) | refine Frame.trans1 ?_ (Frame.drew _ _) | refine Frame.trans1 ?_ (Frame.drewN _ _ _)))
  clear hw' F2
  have G3 := Lib.hid F3
  clear F3
  go_wp2_with fail
  refine (nreach a _).mono ?_
  rintro e w4 ⟨rfl, f4⟩
  have F4 := Lib.hid (G3.out.trans1 f4)
  clear f4 G3
  go_wp2_with fail
  refine (ntokens a _).mono ?_
  rintro e w5 ⟨rfl, f5⟩
  have F5 := Lib.hid (F4.out.trans1 f5)
  clear f5 F4
  go_wp2_with (go_at_call 15; refine (awake13 _).mono ?_; rintro e w' ⟨rfl, f⟩)
  go_ret
  exact ⟨rfl, F5.out.trans1 f⟩
end Go.Proofs.Ytolkmapdbilolaa
