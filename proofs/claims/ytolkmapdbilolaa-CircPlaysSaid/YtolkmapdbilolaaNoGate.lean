/- Reach and Tokens of what is no gate, both sides. -/
import Derived.Test.YtolkmapdbilolaaRTok
namespace Go.Proofs.Ytolkmapdbilolaa
open Go.RowKit
set_option linter.unusedSimpArgs false
set_option linter.unusedVariables false

set_option maxHeartbeats 4000000 in
set_option maxRecDepth 100000 in
theorem reach_none (pb : Nat) (F : List Nat) (l : List Gt) (left : Int) (k : Int) (w : World) (h : St w pb F l left) (hk : notG l.length k = true) :
    Calls Try.prog 52 #[.pointer (some ⟨pb, 0, none⟩), .int .i64 k] w fun e w' => e = .returned (.slice none 0 0) ∧ Frame [] w w' := by
  have HA : Hid (areG l.length [k] = false) := by show areG l.length [k] = false; simp [areG, hk]
  have H := Lib.hid h
  clear h hk
  go_enter Try.func52, Try.ntmps52
  go_wp2_with fail
  have fr : Frame [] w (w.alloc (.cells #[.int .i64 k] 3)) := Frame.alloc _ _ _
  refine (is_any (some ⟨pb, 0, none⟩) l.length _ 1 [k] _ (RdI.one w k 3) (by simp) (H.out.frame0 fr).lens).mono ?_
  rw [HA.out]
  rintro e w1 ⟨rfl, f1⟩
  have F1 := Lib.hid (fr.trans1 f1)
  clear fr f1
  go_wp2_with fail
  go_ret
  exact ⟨rfl, F1.out⟩
set_option maxHeartbeats 4000000 in
set_option maxRecDepth 100000 in
theorem rreach_none (pb : Nat) (F : List Nat) (l : List Gt) (bud : Int) (k : Int) (w : World) (h : RSt w pb F l bud) (hk : notG l.length k = true) :
    Calls Try.prog 58 #[.pointer (some ⟨pb, 0, none⟩), .int .i64 k] w fun e w' => e = .returned (.slice none 0 0) ∧ Frame [] w w' := by
  have hri := ris_any h k
  rw [hk] at hri
  have RI := Lib.hid hri
  clear h hk hri
  go_enter Try.func58, Try.ntmps58
  go_wp2_with fail
  refine RI.out.mono ?_
  rintro e w ⟨rfl, rfl⟩
  go_wp2_with fail
  go_ret
  exact ⟨rfl, Frame.refl _ _⟩
set_option maxHeartbeats 4000000 in
set_option maxRecDepth 100000 in
theorem tokens_none (pb : Nat) (F : List Nat) (l : List Gt) (left : Int) (k : Int) (w : World) (h : St w pb F l left) (hk : notG l.length k = true) :
    Calls Try.prog 53 #[.pointer (some ⟨pb, 0, none⟩), .int .i64 k] w fun e w' => e = .returned (.slice none 0 0) ∧ Frame [] w w' := by
  have RE := Lib.hid (reach_none pb F l left k w h hk)
  clear h hk
  go_enter Try.func53, Try.ntmps53
  go_wp2_with fail
  refine RE.out.mono ?_
  rintro e w1 ⟨rfl, f1⟩
  have F1 := Lib.hid f1
  clear f1
  go_wp2_with fail
  go_loopw [4, 6, 11] (fun v k i wr => v = .slice none 0 0 ∧ i = .int .i64 0 ∧ wr = w1) (fun _ _ _ _ => 0)
  case atStart => exact ⟨rfl, rfl, rfl⟩
  case round =>
    obtain ⟨rfl, rfl, rfl⟩ := hrel
    go_wp2_with fail
    refine (sort_sl _ _ [] _ (Sl.nil _ _ _ _) (by simp)).mono ?_
    rintro e w5 ⟨rfl, s5, f5⟩
    have S5 := Lib.hid f5
    clear s5 f5
    go_wp2_with fail
    go_ret
    exact ⟨rfl, F1.out.trans1 S5.out⟩
set_option maxHeartbeats 4000000 in
set_option maxRecDepth 100000 in
theorem rtokens_none (pb : Nat) (F : List Nat) (l : List Gt) (bud : Int) (k : Int) (w : World) (h : RSt w pb F l bud) (hk : notG l.length k = true) :
    Calls Try.prog 59 #[.pointer (some ⟨pb, 0, none⟩), .int .i64 k] w fun e w' => ∃ v G, e = .returned v ∧ Sl w' 3 1 encI v [] G ∧ Frame [] w w' := by
  have RE := Lib.hid (rreach_none pb F l bud k w h hk)
  clear h hk
  go_enter Try.func59, Try.ntmps59
  go_wp2_with fail
  refine RE.out.mono ?_
  rintro e w1 ⟨rfl, f1⟩
  have F1 := Lib.hid f1
  clear f1
  go_wp2_with fail
  go_loopw [5, 7] (fun v i wr => v = .slice none 0 0 ∧ i = .int .i64 0 ∧ wr = w1) (fun _ _ _ => 0)
  case atStart => exact ⟨rfl, rfl, rfl⟩
  case round =>
    obtain ⟨rfl, rfl, rfl⟩ := hrel
    go_wp2_with fail
    refine (rsorted_any _ _ _ [] (Sl.nil _ _ _ _) (by simp) (by simp)).mono ?_
    rintro e w5 ⟨v5, G5, rfl, s5, f5⟩
    have S5 := Lib.hid (And.intro s5 f5)
    clear s5 f5
    go_wp2_with fail
    go_ret
    exact ⟨_, G5, rfl, by simpa using S5.out.1, F1.out.trans1 S5.out.2⟩
end Go.Proofs.Ytolkmapdbilolaa
