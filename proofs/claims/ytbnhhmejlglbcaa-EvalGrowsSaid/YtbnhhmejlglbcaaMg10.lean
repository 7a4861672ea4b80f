/- Count at 0, 1 and infinity: nat's functions. -/
import Derived.Test.YtbnhhmejlglbcaaMg09
import Derived.Test.YtbnhhmejlglbcaaShelf
namespace Go.Proofs.Ytbnhhmejlglbcaa
open Go.RowKit
set_option linter.unusedSimpArgs false
set_option linter.unusedVariables false

def U1 : Array Value := #[.int .u32 1, .int .u32 0]
theorem known_cnt (w : World) : Calls Try.prog 39 #[.int .i64 1] w fun e w' => e = .returned (.bool true) ∧ w' = w := by
  go_enter Try.func39, Try.ntmps39
  go_wp2_with fail
  go_ret
  exact ⟨rfl, rfl⟩
theorem isNat_cnt (w : World) : Calls Try.prog 59 #[.int .i64 1] w fun e w' => e = .returned (.bool true) ∧ w' = w := by
  go_enter Try.func59, Try.ntmps59
  go_wp2_with fail
  go_ret
  exact ⟨rfl, rfl⟩
theorem nwhole_nil (w : World) : Calls Try.prog 83 #[.slice none 0 0] w fun e w' => e = .returned (.slice none 0 0) ∧ w' = w := by
  go_enter Try.func83, Try.ntmps83
  go_wp2_with fail
  go_loopw [0] (fun v wr => v = .slice none 0 0 ∧ wr = w) (fun _ _ => 0)
  case atStart => exact ⟨rfl, rfl⟩
  case round =>
    obtain ⟨rfl, rfl⟩ := hrel
    go_wp2_with fail
    go_ret
    exact ⟨rfl, rfl⟩
theorem nwhole_one (b : Nat) (w : World) (hb : Blk w b 77 #[.int .u32 1, .int .u32 0]) : Calls Try.prog 83 #[.slice (some ⟨b, 0, none⟩) 1 2] w fun e w' => e = .returned (.slice (some ⟨b, 0, none⟩) 1 2) ∧ w' = w := by
  have x0 := hb.at 0 rfl
  go_enter Try.func83, Try.ntmps83
  go_wp2_with fail
  go_loopw [0] (fun v wr => v = .slice (some ⟨b, 0, none⟩) 1 2 ∧ wr = w) (fun _ _ => 0)
  case atStart => exact ⟨rfl, rfl⟩
  case round =>
    obtain ⟨rfl, rfl⟩ := hrel
    go_wp2_with fail
    go_ret
    exact ⟨rfl, rfl⟩
theorem nwhole_two (b : Nat) (w : World) (hb : Blk w b 77 #[.int .u32 1, .int .u32 0]) : Calls Try.prog 83 #[.slice (some ⟨b, 0, none⟩) 2 2] w fun e w' => e = .returned (.slice (some ⟨b, 0, none⟩) 1 2) ∧ w' = w := by
  have x0 := hb.at 0 rfl
  have x1 := hb.at 1 rfl
  go_enter Try.func83, Try.ntmps83
  go_wp2_with fail
  go_loopw [0] (fun v wr => ∃ k : Nat, (k = 1 ∨ k = 2) ∧ v = .slice (some ⟨b, 0, none⟩) k 2 ∧ wr = w) (fun v _ => match v with | .slice _ k _ => k | _ => 0)
  case atStart => exact ⟨2, .inr rfl, rfl, rfl⟩
  case round =>
    obtain ⟨k, hk, rfl, rfl⟩ := hrel
    rcases hk with rfl | rfl
    · go_wp2_with fail
      go_ret
      exact ⟨rfl, rfl⟩
    · go_wp2_with fail
      go_roundw
      case rel => first | exact ⟨1, .inl rfl, rfl, rfl⟩ | exact ⟨1, .inl rfl, rfl⟩ | exact ⟨1, by simp⟩
      case measure => simp
theorem nmay_nil (w : World) : Calls Try.prog 60 #[.agg #[.bool false, .slice none 0 0]] w fun e w' => e = .returned (.bool true) ∧ Frame [] w w' := by
  go_enter Try.func60, Try.ntmps60
  go_wp2_with fail
  have BX := Blk.new w 36 #[.bool false, .slice none 0 0]
  have F1 := Lib.hid (Frame.alloc [] w (.cells #[.bool false, .slice none 0 0] 36))
  generalize w.alloc (.cells #[.bool false, .slice none 0 0] 36) = w1 at *
  have y1 := framed_cell (BX.at 1 rfl)
  clear BX
  refine wp_region_framed (by kernel_rfl) (by kernel_rfl) ?_
  repeat (go_big_quiet_step (exact framed_same (nwhole_nil _)))
  refine wpQuiet_nil ?_
  intro w6 hw
  have f6 := framed_out hw
  clear hw
  go_wp2_with fail
  go_ret
  exact ⟨rfl, F1.out.trans1 f6⟩
theorem nmay_one (b : Nat) (w : World) (hb : Blk w b 77 #[.int .u32 1, .int .u32 0]) : Calls Try.prog 60 #[.agg #[.bool false, .slice (some ⟨b, 0, none⟩) 1 2]] w fun e w' => e = .returned (.bool true) ∧ Frame [] w w' := by
  have HB := Lib.hid hb
  clear hb
  go_enter Try.func60, Try.ntmps60
  go_wp2_with fail
  have BX := Blk.new w 36 #[.bool false, .slice (some ⟨b, 0, none⟩) 1 2]
  have F1 := Lib.hid (Frame.alloc [] w (.cells #[.bool false, .slice (some ⟨b, 0, none⟩) 1 2] 36))
  generalize w.alloc (.cells #[.bool false, .slice (some ⟨b, 0, none⟩) 1 2] 36) = w1 at *
  have y1 := framed_cell (BX.at 1 rfl)
  clear BX
  refine wp_region_framed (by kernel_rfl) (by kernel_rfl) ?_
  repeat (go_big_quiet_step (exact framed_same (nwhole_one b _ (HB.out.frame (F1.out.trans1 (FramedBy.h _)) (by simp)))))
  refine wpQuiet_nil ?_
  intro w6 hw
  have f6 := framed_out hw
  clear hw
  go_wp2_with fail
  go_ret
  exact ⟨rfl, F1.out.trans1 f6⟩
theorem natInf_any (w : World) : Calls Try.prog 57 #[] w fun e w' => e = .returned (.agg #[.bool true, .slice none 0 0]) ∧ Frame [] w w' := by
  go_enter Try.func57, Try.ntmps57
  go_wp2_with fail
  have BX := Blk.new w 36 #[.bool true, .slice none 0 0]
  refine bodyPost_ret (results_cell_row rfl _ _ w.heap.size 36 #[.bool true, .slice none 0 0] (0, 0) _ rfl BX Try.underlying36 rfl (by kernel_rfl)) rfl ?_
  exact ⟨rfl, Frame.alloc _ _ _⟩
/-- 1, as a row of digits. -/
def One1 (w : World) (e : Ending) (w' : World) : Prop := ∃ b, e = .returned (.agg #[.bool false, .slice (some ⟨b, 0, none⟩) 1 2]) ∧ Blk w' b 77 #[.int .u32 1, .int .u32 0] ∧ Frame [] w w'
theorem natOf_one (w : World) : Calls Try.prog 87 #[.int .u64 1] w (One1 w) := by
  go_enter Try.func87, Try.ntmps87
  have B0 := Lib.hid ((Blk.new w 36 #[.bool false, .slice none 0 0]).alloc (.cells #[.int .u32 1, .int .u32 0] 77))
  have B1 := Blk.new (w.alloc (.cells #[.bool false, .slice none 0 0] 36)) 77 #[.int .u32 1, .int .u32 0]
  have F1 : Hid (Frame [] w ((w.alloc (.cells #[.bool false, .slice none 0 0] 36)).alloc (.cells #[.int .u32 1, .int .u32 0] 77))) := by show Frame [] w _; (repeat first | assumption | exact Frame.refl _ _ | refine Frame.trans1 ?_ (Frame.alloc _ _ _) | refine Frame.trans1 ?_ (Frame.drew _ _) | refine Frame.trans1 ?_ (Frame.drewN _ _ _))
  simp only [World.size_alloc] at B1
  go_wp2_with fail
  generalize (w.alloc (.cells #[.bool false, .slice none 0 0] 36)).alloc (.cells #[.int .u32 1, .int .u32 0] 77) = w1 at *
  refine (nwhole_two _ _ B1).mono ?_
  rintro e w2 ⟨rfl, rfl⟩
  have y0 := B0.out.at 0 rfl
  have y1 := B0.out.at 1 rfl
  have z0 := B0.out.frozen
  have B5 := Lib.hid ((B0.out.set 0 (.bool false)).set 1 (.slice (some ⟨w.heap.size + 1, 0, none⟩) 1 2))
  have F5 : Hid (Frame [w.heap.size] w2 ((w2.setCell ⟨w.heap.size, 0, none⟩ (.bool false)).setCell ⟨w.heap.size, 1, none⟩ (.slice (some ⟨w.heap.size + 1, 0, none⟩) 1 2))) := (Frame.setCell _ _ _ (by simp)).trans1 (Frame.setCell _ _ _ (by simp))
  have HB1 := Lib.hid B1
  clear B1
  go_wp2_with fail
  refine bodyPost_ret (results_cell_row rfl _ _ w.heap.size 36 #[.bool false, .slice (some ⟨w.heap.size + 1, 0, none⟩) 1 2] (0, 0) _ rfl B5.out Try.underlying36 rfl (by kernel_rfl)) rfl ?_
  exact ⟨_, rfl, HB1.out.frame F5.out (by simp), F1.out.trans F5.out (fun x hx => by simp at hx; exact .inr (by omega))⟩
/-- 0 and 0. -/
theorem ncmp_zero (w : World) : Calls Try.prog 90 #[.agg #[.bool false, .slice none 0 0], .agg #[.bool false, .slice none 0 0]] w fun e w' => e = .returned (.int .i64 0) ∧ Frame [] w w' := by
  go_enter Try.func90, Try.ntmps90
  have B0 := (Blk.new w 36 #[.bool false, .slice none 0 0]).alloc (.cells #[.bool false, .slice none 0 0] 36)
  have B1 := Blk.new (w.alloc (.cells #[.bool false, .slice none 0 0] 36)) 36 #[.bool false, .slice none 0 0]
  have F1 : Hid (Frame [] w ((w.alloc (.cells #[.bool false, .slice none 0 0] 36)).alloc (.cells #[.bool false, .slice none 0 0] 36))) := by show Frame [] w _; (repeat first | assumption | exact Frame.refl _ _ | refine Frame.trans1 ?_ (Frame.alloc _ _ _) | refine Frame.trans1 ?_ (Frame.drew _ _) | refine Frame.trans1 ?_ (Frame.drewN _ _ _))
  simp only [World.size_alloc] at B1
  go_upto_region 1 with fail
  generalize (w.alloc (.cells #[.bool false, .slice none 0 0] 36)).alloc (.cells #[.bool false, .slice none 0 0] 36) = w1 at *
  have x0 := B0.at 0 rfl
  have x1 := B1.at 0 rfl
  have y0 := framed_cell (B0.at 1 rfl)
  have y1 := framed_cell (B1.at 1 rfl)
  clear B0 B1
  go_wp2_with fail
  refine wp_region_framed (by kernel_rfl) (by kernel_rfl) ?_
  repeat (go_big_quiet_step (exact framed_same (nwhole_nil _)))
  refine wpQuiet_nil ?_
  intro w6 hw
  have f6 := framed_out hw
  clear hw
  go_wp2_with fail
  refine (Try.cmp_Compare_int 0 0 _).mono ?_
  rintro e w7 ⟨rfl, rfl⟩
  go_wp2_with fail
  go_loopw [7, 8] (fun a b wr => a = .int .i64 0 ∧ b = .int .i64 (-1) ∧ wr = w7) (fun _ _ _ => 0)
  case atStart => exact ⟨rfl, rfl, rfl⟩
  case round =>
    obtain ⟨rfl, rfl, rfl⟩ := hrel
    go_wp2_with fail
    go_ret
    exact ⟨rfl, F1.out.trans1 f6⟩
theorem nwhole_either (b : Nat) (w : World) (hb : Blk w b 77 #[.int .u32 1, .int .u32 0]) (a : Option Addr) (n c : Nat) (h : (a = none ∧ n = 0 ∧ c = 0) ∨ (a = some ⟨b, 0, none⟩ ∧ n = 1 ∧ c = 2)) : Calls Try.prog 83 #[.slice a n c] w fun e w' => e = .returned (.slice a n c) ∧ w' = w := by
  rcases h with ⟨rfl, rfl, rfl⟩ | ⟨rfl, rfl, rfl⟩
  · exact nwhole_nil w
  · exact nwhole_one b w hb
set_option maxRecDepth 100000 in
/-- 1 and 0. -/
theorem ncmp_one (b : Nat) (w : World) (hb : Blk w b 77 #[.int .u32 1, .int .u32 0]) : Calls Try.prog 90 #[.agg #[.bool false, .slice (some ⟨b, 0, none⟩) 1 2], .agg #[.bool false, .slice none 0 0]] w fun e w' => e = .returned (.int .i64 1) ∧ Frame [] w w' := by
  have HB := Lib.hid hb
  clear hb
  go_enter Try.func90, Try.ntmps90
  have B0 := (Blk.new w 36 #[.bool false, .slice (some ⟨b, 0, none⟩) 1 2]).alloc (.cells #[.bool false, .slice none 0 0] 36)
  have B1 := Blk.new (w.alloc (.cells #[.bool false, .slice (some ⟨b, 0, none⟩) 1 2] 36)) 36 #[.bool false, .slice none 0 0]
  have F1 : Hid (Frame [] w ((w.alloc (.cells #[.bool false, .slice (some ⟨b, 0, none⟩) 1 2] 36)).alloc (.cells #[.bool false, .slice none 0 0] 36))) := by show Frame [] w _; (repeat first | assumption | exact Frame.refl _ _ | refine Frame.trans1 ?_ (Frame.alloc _ _ _) | refine Frame.trans1 ?_ (Frame.drew _ _) | refine Frame.trans1 ?_ (Frame.drewN _ _ _))
  simp only [World.size_alloc] at B1
  go_upto_region 1 with fail
  generalize (w.alloc (.cells #[.bool false, .slice (some ⟨b, 0, none⟩) 1 2] 36)).alloc (.cells #[.bool false, .slice none 0 0] 36) = w1 at *
  have x0 := B0.at 0 rfl
  have x1 := B1.at 0 rfl
  have y0 := framed_cell (B0.at 1 rfl)
  have y1 := framed_cell (B1.at 1 rfl)
  clear B0 B1
  go_wp2_with fail
  refine wp_region_framed (by kernel_rfl) (by kernel_rfl) ?_
  repeat (go_big_quiet_step (exact framed_same (nwhole_either b _ (HB.out.frame (F1.out.trans1 (FramedBy.h _)) (by simp)) _ _ _ (by simp))))
  refine wpQuiet_nil ?_
  intro w6 hw
  have f6 := framed_out hw
  clear hw
  go_wp2_with fail
  refine (Try.cmp_Compare_int 1 0 _).mono ?_
  rintro e w7 ⟨rfl, rfl⟩
  go_wp2_with fail
  go_loopw [7, 8] (fun a b wr => a = .int .i64 1 ∧ b = .int .i64 0 ∧ wr = w7) (fun _ _ _ => 0)
  case atStart => exact ⟨rfl, rfl, rfl⟩
  case round =>
    obtain ⟨rfl, rfl, rfl⟩ := hrel
    go_wp2_with fail
    go_ret
    exact ⟨rfl, F1.out.trans1 f6⟩
end Go.Proofs.Ytbnhhmejlglbcaa

