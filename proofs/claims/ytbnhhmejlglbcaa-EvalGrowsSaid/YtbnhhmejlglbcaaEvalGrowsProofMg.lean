/- For every input the law EvalGrows returns true and leaves its arguments as they were. No condition. -/
import Derived.Test.YtbnhhmejlglbcaaEvalGrowsWalkMg
import Derived.Test.YtbnhhmejlglbcaaMg28
import Derived.Test.YtbnhhmejlglbcaaMg16
import Derived.ProofKit
import Derived.OpenShut
import Derived.Carry
namespace Go.Proofs.Ytbnhhmejlglbcaa.evalGrows
open Go.ChangeShapes Go.WideShapes Go.ChangeAt Go.RowKit
set_option linter.unusedVariables false
set_option linter.unusedSimpArgs false

theorem own : ownKnob Try.prog.godebug = none := by kernel_rfl
theorem laidOut : laidOutB Try.prog = true := by kernel_rfl

theorem walk (a b : Option Addr) (c d : Nat) (xs : List St3) (r sm : Int) (ts : List Int) (w : World) (hx : RdS w 3 St3.enc St3.ok a xs) (hl : xs.length ≤ 9223372036854775807) (hr : (Lit.int .i64 r).wf = true) (hs : (Lit.int .i64 sm).wf = true) (ht : RdS w 1 (fun z : Int => [.int .i64 z]) okI b ts) (htl : ts.length ≤ 9223372036854775807) :
    Calls Try.prog 3 #[.slice a xs.length c, .int .i64 r, .int .i64 sm, .slice b ts.length d] w fun e w' => e = .returned (.bool true) ∧ Frame [] w w' := by
  by_cases h : 14 < xs.length ∨ 20 < ts.length
  · exact evalGrows_out a xs.length c r sm b ts.length d w h hl htl
  · exact evalGrows_in a c xs r sm b d ts w hx (by omega) (wf_okI hr w) (wf_okI hs w) ht.ints (by omega)

set_option maxRecDepth 100000 in
theorem lifted (os : Os) (started : os.Started) (H : Type) (enc : TypeId × Value → H) :
    ReturnsInHanded {} Try.checked os 3 .any (Rows.evalGrowsSpec.pre6 enc Try.prog Try.f3 Rows.evalGrowsRow.domain false) (Rows.evalGrowsSpec.post enc Try.prog Try.f3 false true false false) := by
  refine returnsInHanded_of_change (C := Try.checked) own started (by kernel_rfl) Try.func3
    (ChangeSpec.witness6 (enc := enc) (C := Try.checked) false ⟨#[], #[.slice none 0 0, .int .i64 0, .int .i64 0, .slice none 0 0], []⟩ 8 (by kernel_rfl) (by kernel_rfl) (by kernel_rfl) (by kernel_rfl)) ?_
  intro W base args ds gs before hval0 hW hcnd _
  have hval : ∀ (j : Nat) t v, Try.f3.params[j]? = some t → args[j]? = some v → Value.okWide Try.prog W .any base t v := hval0
  have hW' := hW
  obtain ⟨p, q, hA0, hV, rfl, hfz, hnd⟩ := hW
  have hA : DataW.TrodAll enc Try.prog W 0 (fun _ => true) true Try.f3.params.toList args.toList ds p := hA0
  rw [Try.params3] at hA hval
  obtain ⟨v0, vs0, d0, ds0, p0, q0, hargs, rfl, rfl, h0, r0⟩ := trodAll_cons hA
  obtain ⟨v1, vs1, d1, ds1, p1, q1, rfl, rfl, rfl, h1, r1⟩ := trodAll_cons r0
  obtain ⟨v2, vs2, d2, ds2, p2, q2, rfl, rfl, rfl, h2, r2⟩ := trodAll_cons r1
  obtain ⟨v3, vs3, d3, ds3, p3, q3, rfl, rfl, rfl, h3, r3⟩ := trodAll_cons r2
  obtain ⟨rfl, rfl, rfl⟩ := trodAll_nil r3
  obtain rfl : args = #[v0, v1, v2, v3] := by cases args; simp_all
  obtain ⟨rfl, rfl⟩ := trodVars_none hV
  obtain ⟨a0, len0, cap0, rfl⟩ := okWide_slice Try.underlying22 (hval 0 22 v0 rfl rfl)
  obtain ⟨fu0, hf0⟩ := h0
  have h0 : DataW.Trod enc Try.prog W 0 (fun _ => true) true 22 (.slice a0 len0 cap0) d0 p0 := ⟨fu0, hf0⟩
  obtain ⟨xs0, rfl, rd0, le0, mx0⟩ := open_list St3.enc St3.ok Try.underlying22 (sz := 3) (by kernel_rfl) (by omega) (fun n cs y h => elem_st14 h) (by simpa [Value.cells] using hf0)
  obtain ⟨a1, rfl, rfl, rfl, w1⟩ := open_int Try.underlying3 (hval 1 3 v1 rfl rfl) h1
  obtain ⟨a2, rfl, rfl, rfl, w2⟩ := open_int Try.underlying3 (hval 2 3 v2 rfl rfl) h2
  obtain ⟨a3, len3, cap3, rfl⟩ := okWide_slice Try.underlying23 (hval 3 23 v3 rfl rfl)
  obtain ⟨fu3, hf3⟩ := h3
  have h3 : DataW.Trod enc Try.prog W 0 (fun _ => true) true 23 (.slice a3 len3 cap3) d3 p3 := ⟨fu3, hf3⟩
  obtain ⟨xs3, rfl, rd3, le3, mx3⟩ := open_list (fun z : Int => [.int .i64 z]) okI Try.underlying23 (sz := 1) (by kernel_rfl) (by omega) (fun n cs y h => elem_int Try.underlying3 h) (by simpa [Value.cells] using hf3)
  clear hA0 hval0
  simp only [List.append_nil] at hW'
  have hlt0 : ∀ x ∈ p0, x.block < W.heap.size := fun x hx => hW'.lt x (by simp [hx])
  have hlt3 : ∀ x ∈ p3, x.block < W.heap.size := fun x hx => hW'.lt x (by simp [hx])
  refine (walk a0 a3 cap0 cap3 xs0 a1 a2 xs3 W rd0 (by unfold maxLen at mx0; omega) w1 w2 rd3 (by unfold maxLen at mx3; omega)).mono fun e W' ⟨he, hg⟩ => ?_
  subst he
  have bel := hg.below
  exact ⟨_, rfl, _, _, _, [], p0 ++ ([] ++ ([] ++ (p3 ++ []))), [], hW', trodAll_cons_mk (shut_bool Try.underlying4 _) trodAll_mk0, (trodAll_cons_mk (Below.trod laidOut (by kernel_rfl) (of_decide_eq_true (by kernel_rfl)) h0 bel hlt0) (trodAll_cons_mk (shut_int Try.underlying3 w1) (trodAll_cons_mk (shut_int Try.underlying3 w2) (trodAll_cons_mk (Below.trod laidOut (by kernel_rfl) (of_decide_eq_true (by kernel_rfl)) h3 bel hlt3) trodAll_mk0)))), rfl, bel.frame _, fun h => by cases h⟩

theorem over : Rows.evalGrowsRow.holds Try.pinned (OpenSpec.ofChange Rows.evalGrowsSpec) :=
  OpenClaim.holds_of_wide 3 Try.f3 rfl rfl rfl rfl rfl rfl rfl ⟨rfl, rfl, rfl, rfl, rfl⟩ rfl rfl rfl rfl rfl (by kernel_rfl) Try.func3 (by kernel_rfl)
    (of_decide_eq_true (by kernel_rfl)) (by unfold Func.isWrapper; first | (rw [if_pos (by decide +kernel)]; kernel_rfl) | (rw [if_neg (by decide +kernel)]; exact ⟨rfl, rfl⟩))
    (fun os started H enc _ => lifted os started H enc)

theorem proved : Rows.EvalGrowsSaid := over
#print axioms proved
end Go.Proofs.Ytbnhhmejlglbcaa.evalGrows

