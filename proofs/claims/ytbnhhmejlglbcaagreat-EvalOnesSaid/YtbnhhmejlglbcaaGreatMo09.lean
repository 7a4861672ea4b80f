/- circ: New. -/
import Derived.Test.YtbnhhmejlglbcaaGreatMo08
namespace Go.Proofs.YtbnhhmejlglbcaaGreat
open Go.RowKit
set_option linter.unusedSimpArgs false
set_option linter.unusedVariables false

def init : List Gt := [⟨1, 0, 0⟩, ⟨2, 0, 0⟩]
def room (b : Int) : Int := min (max b 2) 1073741824 - 2

theorem run_update0 (w : World) (mb : Nat) (l : List Gt) (x y z : Int) (n : Int) (hn : n = l.length) (h : MBlk w mb (ents l).toArray l.length) (hf : find ⟨x, y, z⟩ l 0 = none) :
    (Instr.mapUpdate 136 (.map (some mb)) (.agg #[.int .i64 x, .int .i64 y, .int .i64 z]) (.int .i64 n)).run Tryz.prog w = .ok () (setMap w mb (ents (l ++ [⟨x, y, z⟩])).toArray (l.length + 1)) := by
  subst hn
  exact update_gate w mb l ⟨x, y, z⟩ h hf

set_option maxHeartbeats 400000 in
theorem new_any (b : Int) (w : World) :
    Calls Tryz.prog 50 #[.int .i64 b] w fun e w' => ∃ pb, e = .returned (.pointer (some ⟨pb, 0, none⟩)) ∧ ∃ F, St w' pb F init (room b) ∧ Frame [] w w' ∧ ∀ x ∈ F, w.heap.size ≤ x := by
  have hmm := @run_makeMap Tryz.prog
  have hroom : Hid (0 ≤ room b ∧ room b ≤ 1073741822) := by show 0 ≤ room b ∧ room b ≤ 1073741822; unfold room; omega
  go_enter Tryz.func50, Tryz.ntmps50
  go_wp2_with fail
  go_loopw [13] (fun i wr => ∃ k : Nat, k ≤ 2 ∧ i = .int .i64 k ∧ Frame [] w wr ∧ Blk wr w.heap.size 112 #[.int .i64 1, .int .i64 0, .int .i64 0, .int .i64 2, .int .i64 0, .int .i64 0] ∧ MBlk wr (w.heap.size + 1) (ents (init.take k)).toArray (init.take k).length ∧ w.heap.size + 2 ≤ wr.heap.size) (fun i _ => 2 - (intOf i).toNat)
  case atStart =>
    refine ⟨0, by omega, rfl, (Frame.alloc _ _ _).trans1 (Frame.alloc _ _ _), (Blk.new _ _ _).alloc _, ?_, by simp⟩
    have := MBlk.new (w.alloc (.cells #[.int .i64 1, .int .i64 0, .int .i64 0, .int .i64 2, .int .i64 0, .int .i64 0] 112)) #[] 0
    simpa [ents] using this
  case round =>
    obtain ⟨k, hk, rfl, f1, b1, m1, z1⟩ := hrel
    rcases (by omega : k = 0 ∨ k = 1 ∨ k = 2) with rfl | rfl | rfl
    · have u := run_update0 (wr.alloc (.cells #[.int .i64 1, .int .i64 0, .int .i64 0] 112)) (w.heap.size + 1) (init.take 0) 1 0 0 0 rfl (m1.alloc _) (by decide)
      have v := (Blk.new wr 112 #[.int .i64 1, .int .i64 0, .int .i64 0])
      have c0 := b1.at 0 rfl
      have c1 := b1.at 1 rfl
      have c2 := b1.at 2 rfl
      go_wp2_with fail
      go_roundw
      case rel =>
        have fs := Frame.setMap (S := [w.heap.size + 1]) (wr.alloc (.cells #[.int .i64 1, .int .i64 0, .int .i64 0] 112)) (w.heap.size + 1) (ents (init.take 0 ++ [⟨1, 0, 0⟩])).toArray ((init.take 0).length + 1) (by simp)
        refine ⟨1, by omega, rfl, ?_, (b1.alloc _).frame fs (by simp), MBlk.set (m1.alloc _) _ _, ?_⟩
        · exact (f1.trans1 (Frame.alloc _ _ _)).trans fs (by simp)
        · have := fs.size; simp at this ⊢; omega
      case measure => simp [intOf]
    · have u := run_update0 (wr.alloc (.cells #[.int .i64 2, .int .i64 0, .int .i64 0] 112)) (w.heap.size + 1) (init.take 1) 2 0 0 1 rfl (m1.alloc _) (by decide)
      have v := (Blk.new wr 112 #[.int .i64 2, .int .i64 0, .int .i64 0])
      have c0 := b1.at 3 rfl
      have c1 := b1.at 4 rfl
      have c2 := b1.at 5 rfl
      go_wp2_with fail
      go_roundw
      case rel =>
        have fs := Frame.setMap (S := [w.heap.size + 1]) (wr.alloc (.cells #[.int .i64 2, .int .i64 0, .int .i64 0] 112)) (w.heap.size + 1) (ents (init.take 1 ++ [⟨2, 0, 0⟩])).toArray ((init.take 1).length + 1) (by simp)
        refine ⟨2, by omega, rfl, ?_, (b1.alloc _).frame fs (by simp), MBlk.set (m1.alloc _) _ _, ?_⟩
        · exact (f1.trans1 (Frame.alloc _ _ _)).trans fs (by simp)
        · have := fs.size; simp at this ⊢; omega
      case measure => simp [intOf]
    · have hb3 : (b < 2 ∧ room b = 0) ∨ (2 ≤ b ∧ b ≤ 1073741824 ∧ room b = b - 2) ∨ (1073741824 < b ∧ room b = 1073741822) := by unfold room; omega
      rcases hb3 with ⟨h1, h2⟩ | ⟨h1, h1', h2⟩ | ⟨h1, h2⟩
      · have HR := Lib.hid h2
        clear h2
        go_wp2_with fail
        refine (newMeter_any _ _ (by omega)).mono ?_
        rintro e w2 ⟨rfl, rfl⟩
        go_wp2_with fail
        go_ret
        rw [HR.out]
        refine ⟨wr.heap.size + 1, rfl, [wr.heap.size + 1, w.heap.size, w.heap.size + 1, wr.heap.size], ⟨w.heap.size, 2, w.heap.size + 1, wr.heap.size, rfl, ?_, ?_, ?_, ?_, by omega, by omega, by omega, by omega, by simp only [init, List.length_cons, List.length_nil]; omega⟩, ?_, ?_⟩
        · have := Blk.new (wr.alloc (.cells #[.int .i64 0] 182)) 139 #[.slice (some ⟨w.heap.size, 0, none⟩) 2 2, .map (some (w.heap.size + 1)), .pointer (some ⟨wr.heap.size, 0, none⟩)]
          simpa [init] using this
        · exact RowAt.of_blk ((b1.alloc _).alloc _) (by simp [init]) (by unfold maxLen; omega) rfl (by simp [init, Gt.cs])
        · exact (m1.alloc _).alloc _
        · exact (Blk.new _ _ _).alloc _
        · exact (f1.trans1 (Frame.alloc _ _ _)).trans1 (Frame.alloc _ _ _)
        · simp; omega
      · have HR := Lib.hid h2
        clear h2
        go_wp2_with fail
        refine (newMeter_any _ _ (by omega)).mono ?_
        rintro e w2 ⟨rfl, rfl⟩
        go_wp2_with fail
        go_ret
        rw [HR.out]
        refine ⟨wr.heap.size + 1, rfl, [wr.heap.size + 1, w.heap.size, w.heap.size + 1, wr.heap.size], ⟨w.heap.size, 2, w.heap.size + 1, wr.heap.size, rfl, ?_, ?_, ?_, ?_, by omega, by omega, by omega, by omega, by simp only [init, List.length_cons, List.length_nil]; omega⟩, ?_, ?_⟩
        · have := Blk.new (wr.alloc (.cells #[.int .i64 (b - 2)] 182)) 139 #[.slice (some ⟨w.heap.size, 0, none⟩) 2 2, .map (some (w.heap.size + 1)), .pointer (some ⟨wr.heap.size, 0, none⟩)]
          simpa [init] using this
        · exact RowAt.of_blk ((b1.alloc _).alloc _) (by simp [init]) (by unfold maxLen; omega) rfl (by simp [init, Gt.cs])
        · exact (m1.alloc _).alloc _
        · exact (Blk.new _ _ _).alloc _
        · exact (f1.trans1 (Frame.alloc _ _ _)).trans1 (Frame.alloc _ _ _)
        · simp; omega
      · have HR := Lib.hid h2
        clear h2
        go_wp2_with fail
        refine (newMeter_any _ _ (by omega)).mono ?_
        rintro e w2 ⟨rfl, rfl⟩
        go_wp2_with fail
        go_ret
        rw [HR.out]
        refine ⟨wr.heap.size + 1, rfl, [wr.heap.size + 1, w.heap.size, w.heap.size + 1, wr.heap.size], ⟨w.heap.size, 2, w.heap.size + 1, wr.heap.size, rfl, ?_, ?_, ?_, ?_, by omega, by omega, by omega, by omega, by simp only [init, List.length_cons, List.length_nil]; omega⟩, ?_, ?_⟩
        · have := Blk.new (wr.alloc (.cells #[.int .i64 1073741822] 182)) 139 #[.slice (some ⟨w.heap.size, 0, none⟩) 2 2, .map (some (w.heap.size + 1)), .pointer (some ⟨wr.heap.size, 0, none⟩)]
          simpa [init] using this
        · exact RowAt.of_blk ((b1.alloc _).alloc _) (by simp [init]) (by unfold maxLen; omega) rfl (by simp [init, Gt.cs])
        · exact (m1.alloc _).alloc _
        · exact (Blk.new _ _ _).alloc _
        · exact (f1.trans1 (Frame.alloc _ _ _)).trans1 (Frame.alloc _ _ _)
        · simp; omega

end Go.Proofs.YtbnhhmejlglbcaaGreat

