/- Package bail: what its functions do. -/
import Derived.Test.YtoidafgeckhkcaaGreatMt01
namespace Go.Proofs.YtoidafgeckhkcaaGreat
open Go.RowKit
set_option linter.unusedSimpArgs false
set_option linter.unusedVariables false

theorem left_any (b : Nat) (n : Int) (w : World) (hb : Blk w b 130 #[.int .i64 n]) :
    Calls Tryz.prog 137 #[.pointer (some ⟨b, 0, none⟩)] w fun e w' => e = .returned (.int .i64 n) ∧ w' = w := by
  have hc := hb.at 0 rfl
  go_enter Tryz.func137, Tryz.ntmps137
  go_wp2
  go_ret
  exact ⟨rfl, rfl⟩

theorem use_any (b : Nat) (n : Int) (w : World) (hb : Blk w b 130 #[.int .i64 n]) (h0 : 1 ≤ n) (h1 : n ≤ 1073741824) :
    Calls Tryz.prog 120 #[.pointer (some ⟨b, 0, none⟩), .int .i64 1] w fun e w' => e = .returned (.tuple #[]) ∧ Frame [b] w w' ∧ Blk w' b 130 #[.int .i64 (n - 1)] := by
  have hc := hb.at 0 rfl
  have hf := hb.frozen 0
  go_enter Tryz.func120, Tryz.ntmps120
  go_wp2_with (go_at_call 137; refine (left_any _ _ _ hb).mono ?_; rintro e w' ⟨rfl, rfl⟩)
  go_end0
  exact ⟨rfl, Frame.setCell _ _ _ (by simp), hb.set 0 _⟩

theorem newMeter_any (n : Int) (w : World) (h0 : 0 ≤ n) :
    Calls Tryz.prog 60 #[.int .i64 n] w fun e w' => e = .returned (.pointer (some ⟨w.heap.size, 0, none⟩)) ∧ w' = w.alloc (.cells #[.int .i64 n] 130) := by
  have hmx : max n 0 = n := by omega
  go_enter Tryz.func60, Tryz.ntmps60
  go_wp2
  go_ret
  exact ⟨rfl, rfl⟩

/-- What one leaves with. -/
def bailing (w : World) (code at_ : Int) (chain : List PanicEntry) (w' : World) : Prop :=
  ∃ nb, chain = [{ v := .iface 109 (.pointer (some ⟨nb, 0, none⟩)), recovered := false }] ∧ w.heap.size ≤ nb ∧ Blk w' nb 111 #[.int .i64 code, .int .i64 at_]

theorem out_any (code at_ : Int) (w : World) :
    Calls Tryz.prog 89 #[.int .i64 code, .int .i64 at_] w fun e w' => ∃ chain, e = .panicked chain ∧ bailing w code at_ chain w' ∧ Frame [] w w' := by
  go_enter Tryz.func89, Tryz.ntmps89
  go_wp2
  refine ⟨rfl, _, rfl, ⟨w.heap.size, rfl, Nat.le_refl _, Blk.new _ _ _⟩, Frame.alloc _ _ _⟩

/-- The budget is used up. -/
theorem use_none (b : Nat) (w : World) (hb : Blk w b 130 #[.int .i64 0]) :
    Calls Tryz.prog 120 #[.pointer (some ⟨b, 0, none⟩), .int .i64 1] w fun e w' => ∃ chain, e = .panicked chain ∧ bailing w 10 1 chain w' ∧ Frame [] w w' := by
  have hc := hb.at 0 rfl
  go_enter Tryz.func120, Tryz.ntmps120
  go_wp2_with (go_at_call 137; refine (left_any _ _ _ hb).mono ?_; rintro e w' ⟨rfl, rfl⟩)
  go_wp2_with fail
  refine (out_any 10 1 _).mono ?_
  rintro e w' ⟨chain, rfl, h1, h2⟩
  exact ⟨rfl, chain, rfl, h1, h2⟩

end Go.Proofs.YtoidafgeckhkcaaGreat

