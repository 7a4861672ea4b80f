/- tansylaw15.alike: both stores hold the same gates. -/
import Derived.Test.YtbnhhmejlglbcaaGreatMa34
import Derived.Test.YtbnhhmejlglbcaaGreatMa38
namespace Go.Proofs.YtbnhhmejlglbcaaGreat
open Go.RowKit
set_option linter.unusedSimpArgs false
set_option linter.unusedVariables false

set_option maxHeartbeats 4000000 in
set_option maxRecDepth 100000 in
theorem alike15_any (pb rb : Nat) (F F2 : List Nat) (l : List Gt) (left bud : Int) (w : World) (s : St w pb F l left) (r : RSt w rb F2 l bud) (hlen : l.length ≤ 100000) :
    Calls Tryz.prog 36 #[.pointer (some ⟨pb, 0, none⟩), .pointer (some ⟨rb, 0, none⟩)] w fun e w' => e = .returned (.bool true) ∧ Frame [] w w' := by
  have LN := Lib.hid s.lens
  have LEN := Lib.hid (fun w' (f : Frame [] w w') => LN.out w' f)
  obtain ⟨ra, rc, rG, rb1, -, -, -⟩ := id r
  have y0 := framed_cell (rb1.at 0 rfl)
  have GT := Lib.hid (fun (k : Nat) (g : Gt) w' (f : Frame [] w w') (hg : l[k]? = some g) => gate_get_any pb F l left k g w' (s.frame0 f) hg)
  have R := Lib.hid r
  clear rb1 s r
  go_enter Tryz.func36, Tryz.ntmps36
  go_wp2_with fail
  refine wp_region_framed (by kernel_rfl) (by kernel_rfl) ?_
  repeat (go_big_quiet_step (exact framed_same (LEN.out _ (FramedBy.h _))))
  refine wpQuiet_nil ?_
  intro w6 hw
  have f6 := framed_out hw
  clear hw
  clear y0 LN LEN
  go_wp2_with fail
  go_loopw [5] (fun i wr => ∃ k : Nat, k ≤ l.length ∧ i = .int .i64 k ∧ Hid (Frame [] w wr)) (fun i _ => (l.length - intOf i).toNat)
  case atStart => exact ⟨0, Nat.zero_le _, rfl, f6⟩
  case round =>
    rename World => wr
    obtain ⟨k, hk, rfl, hF⟩ := hrel
    by_cases hlt : k < l.length
    · have hltI : decide ((k : Int) < l.length) = true := decide_eq_true (by omega)
      have hg : l[k]? = some (l[k]'hlt) := List.getElem?_eq_getElem hlt
      generalize l[k]'hlt = g at hg
      obtain ⟨b9, c9, c0, e0, e1, e2⟩ := (R.out.frame0 hF.out).cells hg
      have G := Lib.hid (GT.out k g wr hF.out hg)
      obtain ⟨gk, ga, gb⟩ := g
      simp only at e0 e1 e2
      have HG := Lib.hid hg
      clear hg
      go_wp2_with fail
      refine G.out.mono ?_
      rintro e w5 ⟨rfl, f5⟩
      have F5 := Lib.hid (hF.out.trans1 f5)
      obtain ⟨b8, c8, q0, q1, q2, q3⟩ := (R.out.frame0 F5.out).cells HG.out
      simp only at q1 q2 q3
      have fal : ∀ o, Frame [] w5 (w5.alloc o) := fun o => Frame.alloc _ _ _
      have d0a : ∀ o, (w5.alloc o).cell? ⟨b8, k * 3, none⟩ = some (.int .i64 gk) := fun o => (fal o).cell q1 (by simp)
      have d1a : ∀ o, (w5.alloc o).cell? ⟨b8, k * 3 + 1, none⟩ = some (.int .i64 ga) := fun o => (fal o).cell q2 (by simp)
      have d2a : ∀ o, (w5.alloc o).cell? ⟨b8, k * 3 + 2, none⟩ = some (.int .i64 gb) := fun o => (fal o).cell q3 (by simp)
      have y0a : ∀ o, (w5.alloc o).cell? ⟨rb, 0, none⟩ = some (.slice (some ⟨b8, 0, none⟩) l.length c8) := fun o => (fal o).cell q0 (by simp)
      clear fal q1 q2 q3 f5 G c0 e0 e1 e2
      go_wp2_with fail
      go_quiet (fail)
      go_wp2_with fail
      go_roundw
      case rel => exact ⟨k + 1, by omega, by first | rfl | go_num, Lib.hid (F5.out.trans1 (by (repeat first | assumption | exact Frame.refl _ _ | refine Frame.trans1 ?_ (Frame.alloc _ _ _) | refine Frame.trans1 ?_ (Frame.drew _ _) | refine Frame.trans1 ?_ (Frame.drewN _ _ _))))⟩
      case measure => first | (simp [intOf]; done) | (simp [intOf]; omega)
    · have hltI : decide ((k : Int) < l.length) = false := decide_eq_false (by omega)
      obtain rfl : k = l.length := by omega
      obtain ⟨ra, rc, rG, rb1, -, -, -⟩ := (R.out.frame0 hF.out)
      have y0 := rb1.at 0 rfl
      clear rb1
      go_wp2_with fail
      go_ret
      exact ⟨rfl, hF.out⟩
end Go.Proofs.YtbnhhmejlglbcaaGreat

