/- tansyref5.Subset: is each number of one list in another one? -/
import Derived.Test.YtbnhhmejlglbcaaGreatMo28
import Derived.Test.YtbnhhmejlglbcaaGreatMo06
import Derived.IntWalk
import Derived.BigQuiet
namespace Go.Proofs.YtbnhhmejlglbcaaGreat
open Go.RowKit
set_option linter.unusedSimpArgs false
set_option linter.unusedVariables false

set_option maxHeartbeats 4000000 in
theorem subset_any (a1 a2 : Option Addr) (c1 c2 : Nat) (xs ys : List Int) (w : World) (h1 : RdI w a1 xs) (h2 : RdI w a2 ys) (l1 : xs.length ≤ 1000000) (l2 : ys.length ≤ 1000000) :
    Calls Tryz.prog 34 #[.slice a1 xs.length c1, .slice a2 ys.length c2] w (Ans (∀ x ∈ xs, x ∈ ys) w) := by
  have H1 := Lib.hid h1
  have H2 := Lib.hid h2
  clear h1 h2
  go_enter Tryz.func34, Tryz.ntmps34
  go_wp2_with fail
  go_loopw [5] (fun i wr => ∃ k : Nat, k ≤ xs.length ∧ i = .int .i64 k ∧ Hid (Frame [] w wr ∧ ∀ j x, j < k → xs[j]? = some x → x ∈ ys)) (fun i _ => xs.length - (intOf i).toNat)
  case atStart => exact ⟨0, Nat.zero_le _, rfl, Frame.refl _ _, fun j _ h => by omega⟩
  case round =>
    obtain ⟨k, hk, rfl, hR⟩ := hrel
    by_cases hlt : k < xs.length
    · have g1 : xs[k]? = some xs[k] := by simp [hlt]
      obtain ⟨b, off, rfl, hc⟩ := (H1.out.frame hR.out.1).at hlt
      generalize xs[k] = x at *
      have G1 := Lib.hid g1
      have HC := Lib.hid hc
      clear g1 hc
      go_wp2_with fail
      go_loopw [6, 7] (fun u v wq => ∃ (c : Nat) (met : Bool), c ≤ ys.length ∧ v = .int .i64 c ∧ u = .bool met ∧ Hid (Frame [] wr wq ∧ MetB met (x ∈ ys.take c))) (fun _ v _ => ys.length - (intOf v).toNat)
      case atStart => exact ⟨0, false, Nat.zero_le _, rfl, rfl, Frame.refl _ _, MetB.mkF (by simp)⟩
      case round =>
        obtain ⟨c, met, hcl, rfl, rfl, hQ⟩ := hrel
        rename World => wq
        by_cases hlt2 : c < ys.length
        · have g2 : ys[c]? = some ys[c] := by simp [hlt2]
          obtain ⟨b2, off2, rfl, hc2⟩ := (H2.out.frame (hR.out.1.trans1 hQ.out.1)).at hlt2
          have hc := hQ.out.1.cell HC.out (by simp)
          generalize ys[c] = y at *
          have G2 := Lib.hid g2
          clear g2
          cases met with
          | true =>
            go_wp2_with fail
            go_quiet (fail)
            go_wp2_with fail
            go_roundw
            case rel => exact ⟨c + 1, true, by omega, by first | rfl | go_num, rfl, Lib.hid ⟨hQ.out.1.trans1 (Frame.drewN _ _ _), MetB.mkT ((mem_take_snoc G2.out).2 (.inl hQ.out.2.t))⟩⟩
            case measure => first | (simp [intOf]; done) | (simp [intOf]; omega)
          | false =>
            by_cases hxy : x = y
            · have hb : (x == y) = true := by simp [hxy]
              have HX := Lib.hid hxy
              clear hxy
              go_wp2_with fail
              go_quiet (fail)
              go_wp2_with fail
              go_roundw
              case rel => exact ⟨c + 1, true, by omega, by first | rfl | go_num, rfl, Lib.hid ⟨hQ.out.1.trans1 (Frame.drewN _ _ _), MetB.mkT ((mem_take_snoc G2.out).2 (.inr HX.out))⟩⟩
              case measure => first | (simp [intOf]; done) | (simp [intOf]; omega)
            · have hb : (x == y) = false := by simp [hxy]
              have HX := Lib.hid hxy
              clear hxy
              go_wp2_with fail
              go_quiet (fail)
              go_wp2_with fail
              go_roundw
              case rel => exact ⟨c + 1, false, by omega, by first | rfl | go_num, rfl, Lib.hid ⟨hQ.out.1.trans1 (Frame.drewN _ _ _), MetB.mkF (fun h => ((mem_take_snoc G2.out).1 h).elim hQ.out.2.f HX.out)⟩⟩
              case measure => first | (simp [intOf]; done) | (simp [intOf]; omega)
        · obtain rfl : c = ys.length := by omega
          have hmem : Hid (MetB met (x ∈ ys)) := by
            show MetB met (x ∈ ys)
            have := hQ.out.2; rw [List.take_length] at this; exact this
          cases met with
          | true =>
            go_wp2_with fail
            go_roundw
            case rel => exact ⟨k + 1, by omega, by first | rfl | go_num, Lib.hid ⟨hR.out.1.trans1 (hQ.out.1.trans1 (by (repeat first | assumption | exact Frame.refl _ _ | refine Frame.trans1 ?_ (Frame.alloc _ _ _) | refine Frame.trans1 ?_ (Frame.drew _ _) | refine Frame.trans1 ?_ (Frame.drewN _ _ _)))), fun j z hj hz => by
              rcases Nat.lt_or_ge j k with h | h
              · exact hR.out.2 j z h hz
              · obtain rfl : j = k := by omega
                have := G1.out.symm.trans hz
                simp at this
                subst this
                exact hmem.out.t⟩⟩
            case measure => first | (simp [intOf]; done) | (simp [intOf]; omega)
          | false =>
            go_wp2_with fail
            go_ret
            exact Ans.mkF (fun h => hmem.out.f (h x (List.mem_of_getElem? G1.out))) (hR.out.1.trans1 (hQ.out.1.trans1 (by (repeat first | assumption | exact Frame.refl _ _ | refine Frame.trans1 ?_ (Frame.alloc _ _ _) | refine Frame.trans1 ?_ (Frame.drew _ _) | refine Frame.trans1 ?_ (Frame.drewN _ _ _)))))
    · obtain rfl : k = xs.length := by omega
      go_wp2_with fail
      go_ret
      exact Ans.mkT (fun x hx => by
        obtain ⟨j, hj, rfl⟩ := List.getElem_of_mem hx
        exact hR.out.2 j xs[j] hj (by simp)) (hR.out.1.trans1 (by (repeat first | assumption | exact Frame.refl _ _ | refine Frame.trans1 ?_ (Frame.alloc _ _ _) | refine Frame.trans1 ?_ (Frame.drew _ _) | refine Frame.trans1 ?_ (Frame.drewN _ _ _))))
end Go.Proofs.YtbnhhmejlglbcaaGreat

