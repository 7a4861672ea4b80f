/- A graph's calls on nothing. -/
import Derived.Test.YtolkmapdbilolaaGst
namespace Go.Proofs.Ytolkmapdbilolaa
open Go.RowKit
set_option linter.unusedSimpArgs false
set_option linter.unusedVariables false

theorem nfind (t : Int) (w : World) : Calls Try.prog 64 #[.pointer none, .int .i64 t] w fun e w' => e = .returned (.tuple #[.int .i64 0, .bool false]) ∧ w' = w := by
  go_enter Try.func64, Try.ntmps64
  go_wp2_with fail
  go_ret2
  exact ⟨rfl, rfl⟩
theorem nplace (t : Int) (w : World) : Calls Try.prog 68 #[.pointer none, .int .i64 t] w fun e w' => e = .returned (.tuple #[.int .i64 0, .bool false]) ∧ w' = w := by
  go_enter Try.func68, Try.ntmps68
  go_wp2_with fail
  go_ret2
  exact ⟨rfl, rfl⟩
theorem nhas (t : Int) (w : World) : Calls Try.prog 67 #[.pointer none, .int .i64 t] w fun e w' => e = .returned (.bool false) ∧ w' = w := by
  go_enter Try.func67, Try.ntmps67
  go_wp2_with fail
  refine (nfind _ _).mono ?_
  rintro e w' ⟨rfl, rfl⟩
  go_wp2_with fail
  go_ret
  exact ⟨rfl, rfl⟩
theorem nadd_name (x y : Int) (s : ByteArray) (hs : namedB s = false) (hl : s.size ≤ 9223372036854775807) (w : World) : Calls Try.prog 29 #[.pointer none, .int .i64 x, .string s, .int .i64 y] w fun e w' => e = .returned (.tuple #[.int .i64 0, .int .i64 2]) ∧ w' = w := by
  have HN := Lib.hid (named_any s w hl)
  have HS := Lib.hid hs
  clear hs
  go_enter Try.func29, Try.ntmps29
  go_wp2_with fail
  refine HN.out.mono ?_
  rintro e w' ⟨rfl, rfl⟩
  rw [HS.out]
  go_wp2_with fail
  go_ret2
  exact ⟨rfl, rfl⟩
theorem nadd_node (x y : Int) (s : ByteArray) (hs : namedB s = true) (hl : s.size ≤ 9223372036854775807) (w : World) : Calls Try.prog 29 #[.pointer none, .int .i64 x, .string s, .int .i64 y] w fun e w' => e = .returned (.tuple #[.int .i64 0, .int .i64 7]) ∧ w' = w := by
  have HN := Lib.hid (named_any s w hl)
  have HS := Lib.hid hs
  clear hs
  go_enter Try.func29, Try.ntmps29
  go_wp2_with fail
  refine HN.out.mono ?_
  rintro e w' ⟨rfl, rfl⟩
  rw [HS.out]
  go_wp2_with (go_at_call 67; refine (nhas _ _).mono ?_; rintro e w' ⟨rfl, rfl⟩)
  go_ret2
  exact ⟨rfl, rfl⟩
theorem naddNode_arg (t : Int) (h : t < 1 ∨ 1000 < t) (w : World) : Calls Try.prog 28 #[.pointer none, .int .i64 t] w fun e w' => e = .returned (.int .i64 1) ∧ w' = w := by
  rcases (by omega : t < 1 ∨ (¬ t < 1 ∧ t > 1000)) with h3 | ⟨h3, h4⟩
  · clear h
    go_enter Try.func28, Try.ntmps28
    go_wp2_with (go_at_call 64; refine (nfind _ _).mono ?_; rintro e w' ⟨rfl, rfl⟩)
    go_ret
    exact ⟨rfl, rfl⟩
  · clear h
    go_enter Try.func28, Try.ntmps28
    go_wp2_with (go_at_call 64; refine (nfind _ _).mono ?_; rintro e w' ⟨rfl, rfl⟩)
    go_ret
    exact ⟨rfl, rfl⟩
theorem naddNode_big (t : Int) (h1 : 1 ≤ t) (h2 : t ≤ 1000) (w : World) : Calls Try.prog 28 #[.pointer none, .int .i64 t] w fun e w' => e = .returned (.int .i64 5) ∧ w' = w := by
  have h3 : ¬ t < 1 := by omega
  have h4 : ¬ t > 1000 := by omega
  go_enter Try.func28, Try.ntmps28
  go_wp2_with (go_at_call 64; refine (nfind _ _).mono ?_; rintro e w' ⟨rfl, rfl⟩)
  go_ret
  exact ⟨rfl, rfl⟩
theorem ndrop (t : Int) (w : World) : Calls Try.prog 31 #[.pointer none, .int .i64 t] w fun e w' => e = .returned (.int .i64 8) ∧ w' = w := by
  go_enter Try.func31, Try.ntmps31
  go_wp2_with (go_at_call 68; refine (nplace _ _).mono ?_; rintro e w' ⟨rfl, rfl⟩)
  go_ret
  exact ⟨rfl, rfl⟩
theorem ndropNode (t : Int) (w : World) : Calls Try.prog 33 #[.pointer none, .int .i64 t] w fun e w' => e = .returned (.int .i64 7) ∧ Frame [] w w' := by
  go_enter Try.func33, Try.ntmps33
  go_wp2_with (go_at_call 64; refine (nfind _ _).mono ?_; rintro e w' ⟨rfl, rfl⟩)
  go_ret
  exact ⟨rfl, Frame.alloc _ _ _⟩
theorem nwithout (w : World) : Calls Try.prog 34 #[.pointer none, .slice none 0 0] w fun e w' => e = .returned (.pointer none) ∧ Frame [] w w' := by
  go_enter Try.func34, Try.ntmps34
  go_wp2_with fail
  go_ret
  exact ⟨rfl, Frame.alloc _ _ _⟩
set_option maxRecDepth 100000 in
theorem nall (w : World) : Calls Try.prog 32 #[.pointer none] w fun e w' => e = .returned (.agg #[.slice none 0 0, .slice none 0 0, .int .i64 1]) ∧ Frame [] w w' := by
  go_enter Try.func32, Try.ntmps32
  go_wp2_with fail
  exact bodyPost_ret (v := .agg #[.slice none 0 0, .slice none 0 0, .int .i64 1]) (by simp [results, Try.results32, go_sem]) rfl ⟨rfl, Frame.alloc _ _ _⟩
end Go.Proofs.Ytolkmapdbilolaa
