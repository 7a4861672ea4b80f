/- For every input the law GraphNothing returns true and leaves its arguments as they were. No condition. -/
import Derived.Test.YtolkmapdbilolaaGraphNothingWalk
import Derived.Test.YtolkmapdbilolaaOpen
import Derived.ProofKit
import Derived.OpenShut
import Derived.Carry
namespace Go.Proofs.Ytolkmapdbilolaa.graphNothing
open Go.ChangeShapes Go.WideShapes Go.ChangeAt Go.RowKit
set_option linter.unusedVariables false
set_option linter.unusedSimpArgs false

theorem own : ownKnob Try.prog.godebug = none := by kernel_rfl
theorem laidOut : laidOutB Try.prog = true := by kernel_rfl

theorem walk (a : Int) (s : ByteArray) (w : World) (hl : s.size ≤ maxLen) :
    Calls Try.prog 8 #[.int .i64 a, .string s] w fun e w' => e = .returned (.bool true) ∧ Frame [] w w' := by
  have hl' : s.size ≤ 9223372036854775807 := by unfold maxLen at hl; omega
  by_cases h : 100 < s.size
  · exact graphNothing_out a s w h hl'
  · by_cases h0 : s.size = 0
    · have hs : s = ⟨#[]⟩ := by
        cases s with
        | mk d => congr 1; exact Array.eq_empty_of_size_eq_zero h0
      by_cases h1 : a < 1
      · exact graphNothing_empty_low a s w hs h1
      · by_cases h2 : 1000 < a
        · exact graphNothing_empty_high a s w hs h2
        · exact graphNothing_empty_good a s w hs (by omega) (by omega)
    · by_cases h3 : 20 < s.size
      · by_cases h1 : a < 1
        · exact graphNothing_long_low a s w h3 (by omega) h1
        · by_cases h2 : 1000 < a
          · exact graphNothing_long_high a s w h3 (by omega) h2
          · exact graphNothing_long_good a s w h3 (by omega) (by omega) (by omega)
      · by_cases h1 : a < 1
        · exact graphNothing_good_low a s w (by omega) (by omega) h1
        · by_cases h2 : 1000 < a
          · exact graphNothing_good_high a s w (by omega) (by omega) h2
          · exact graphNothing_good_good a s w (by omega) (by omega) (by omega) (by omega)

set_option maxRecDepth 100000 in
theorem lifted (os : Os) (started : os.Started) (H : Type) (enc : TypeId × Value → H) :
    ReturnsInHanded {} Try.checked os 8 .any (Rows.graphNothingSpec.pre6 enc Try.prog Try.f8 Rows.graphNothingRow.domain false) (Rows.graphNothingSpec.post enc Try.prog Try.f8 false true false false) := by
  refine returnsInHanded_of_change (C := Try.checked) own started (by kernel_rfl) Try.func8
    (ChangeSpec.witness6 (enc := enc) (C := Try.checked) false ⟨#[], #[.int .i64 0, .string ByteArray.empty], []⟩ 8 (by kernel_rfl) (by kernel_rfl) (by kernel_rfl) (by kernel_rfl)) ?_
  intro W base args ds gs before hval0 hW hcnd _
  have hval : ∀ (j : Nat) t v, Try.f8.params[j]? = some t → args[j]? = some v → Value.okWide Try.prog W .any base t v := hval0
  have hW' := hW
  obtain ⟨p, q, hA0, hV, rfl, hfz, hnd⟩ := hW
  have hA : DataW.TrodAll enc Try.prog W 0 (fun _ => true) true Try.f8.params.toList args.toList ds p := hA0
  rw [Try.params8] at hA hval
  obtain ⟨v0, vs0, d0, ds0, p0, q0, hargs, rfl, rfl, h0, r0⟩ := trodAll_cons hA
  obtain ⟨v1, vs1, d1, ds1, p1, q1, rfl, rfl, rfl, h1, r1⟩ := trodAll_cons r0
  obtain ⟨rfl, rfl, rfl⟩ := trodAll_nil r1
  obtain rfl : args = #[v0, v1] := by cases args; simp_all
  obtain ⟨rfl, rfl⟩ := trodVars_none hV
  obtain ⟨a0, rfl, rfl, rfl, w0⟩ := open_int Try.underlying3 (hval 0 3 v0 rfl rfl) h0
  obtain ⟨a1, rfl, rfl, rfl, w1⟩ := Go.ChangeMaps.open_string Try.underlying9 (hval 1 9 v1 rfl rfl) h1
  clear hA0 hval0
  simp only [List.append_nil] at hW'
  refine (walk a0 a1 W w1).mono fun e W' ⟨he, hg⟩ => ?_
  subst he
  have bel := hg.below
  exact ⟨_, rfl, _, _, _, [], [] ++ ([] ++ []), [], hW', trodAll_cons_mk (shut_bool Try.underlying4 _) trodAll_mk0, (trodAll_cons_mk (shut_int Try.underlying3 w0) (trodAll_cons_mk (Go.ChangeMaps.shut_string Try.underlying9 w1) trodAll_mk0)), rfl, bel.frame _, fun h => by cases h⟩

theorem over : Rows.graphNothingRow.holds Try.pinned (OpenSpec.ofChange Rows.graphNothingSpec) :=
  OpenClaim.holds_of_wide 8 Try.f8 rfl rfl rfl rfl rfl rfl rfl ⟨rfl, rfl, rfl, rfl, rfl⟩ rfl rfl rfl rfl rfl (by kernel_rfl) Try.func8 (by kernel_rfl)
    (of_decide_eq_true (by kernel_rfl)) (by unfold Func.isWrapper; first | (rw [if_pos (by decide +kernel)]; kernel_rfl) | (rw [if_neg (by decide +kernel)]; exact ⟨rfl, rfl⟩))
    (fun os started H enc _ => lifted os started H enc)

theorem proved : Rows.GraphNothingSaid := over
#print axioms proved
end Go.Proofs.Ytolkmapdbilolaa.graphNothing
