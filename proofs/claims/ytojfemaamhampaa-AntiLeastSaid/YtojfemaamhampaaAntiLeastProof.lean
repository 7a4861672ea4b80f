/- For every input the law AntiLeast returns true and leaves its arguments as they were. No condition. -/
import Derived.Test.YtojfemaamhampaaAntiLeastWalk
import Derived.Test.YtojfemaamhampaaElem5
import Derived.ProofKit
import Derived.OpenShut
import Derived.Carry
namespace Go.Proofs.Ytojfemaamhampaa.antiLeast
open Go.ChangeShapes Go.WideShapes Go.ChangeAt Go.RowKit
set_option linter.unusedVariables false
set_option linter.unusedSimpArgs false

theorem own : ownKnob Try.prog.godebug = none := by kernel_rfl
theorem laidOut : laidOutB Try.prog = true := by kernel_rfl

theorem walk (a : Option Addr) (c : Nat) (vs : List SV) (w : World) (h : Arg5 w a vs) :
    Calls Try.prog 4 #[.slice a vs.length c] w fun e w' => e = .returned (.bool true) ∧ Frame [] w w' := by
  by_cases hs : SmallW [⟨a, c, vs⟩]
  · cases hg : goodL (vs.map (·.l)) with
    | true => exact antiLeast_in a c vs w h hs hg
    | false => exact antiLeast_bad a c vs w h hs hg
  · exact antiLeast_out a c vs w h hs

set_option maxRecDepth 100000 in
theorem lifted (os : Os) (started : os.Started) (H : Type) (enc : TypeId × Value → H) :
    ReturnsInHanded {} Try.checked os 4 .any (Rows.antiLeastSpec.pre6 enc Try.prog Try.f4 Rows.antiLeastRow.domain false) (Rows.antiLeastSpec.post enc Try.prog Try.f4 false true false false) := by
  refine returnsInHanded_of_change (C := Try.checked) own started (by kernel_rfl) Try.func4
    (ChangeSpec.witness6 (enc := enc) (C := Try.checked) false ⟨#[], #[.slice none 0 0], []⟩ 8 (by kernel_rfl) (by kernel_rfl) (by kernel_rfl) (by kernel_rfl)) ?_
  intro W base args ds gs before hval0 hW hcnd _
  have hval : ∀ (j : Nat) t v, Try.f4.params[j]? = some t → args[j]? = some v → Value.okWide Try.prog W .any base t v := hval0
  have hW' := hW
  obtain ⟨p, q, hA0, hV, rfl, hfz, hnd⟩ := hW
  have hA : DataW.TrodAll enc Try.prog W 0 (fun _ => true) true Try.f4.params.toList args.toList ds p := hA0
  rw [Try.params4] at hA hval
  obtain ⟨v0, vs0, d0, ds0, p0, q0, hargs, rfl, rfl, h0, r0⟩ := trodAll_cons hA
  obtain ⟨rfl, rfl, rfl⟩ := trodAll_nil r0
  obtain rfl : args = #[v0] := by cases args; simp_all
  obtain ⟨rfl, rfl⟩ := trodVars_none hV
  obtain ⟨a0, len0, cap0, rfl⟩ := okWide_slice Try.underlying26 (hval 0 26 v0 rfl rfl)
  obtain ⟨fu0, hf0⟩ := h0
  have h0 : DataW.Trod enc Try.prog W 0 (fun _ => true) true 26 (.slice a0 len0 cap0) d0 p0 := ⟨fu0, hf0⟩
  obtain ⟨xs0, rfl, rd0, le0, mx0⟩ := open_list encV okSV Try.underlying26 (sz := 1) (by kernel_rfl) (by omega) (fun n cs y h => elem_sv h) (by simpa [Value.cells] using hf0)
  clear hA0 hval0
  simp only [List.append_nil] at hW'
  have hlt0 : ∀ x ∈ p0, x.block < W.heap.size := fun x hx => hW'.lt x (by simp [hx])
  refine (walk a0 cap0 xs0 W rd0.arg5).mono fun e W' ⟨he, hg⟩ => ?_
  subst he
  have bel := hg.below
  exact ⟨_, rfl, _, _, _, [], p0 ++ [], [], hW', trodAll_cons_mk (shut_bool Try.underlying4 _) trodAll_mk0, (trodAll_cons_mk (Below.trod laidOut (by kernel_rfl) (of_decide_eq_true (by kernel_rfl)) h0 bel hlt0) trodAll_mk0), rfl, bel.frame _, fun h => by cases h⟩

theorem over : Rows.antiLeastRow.holds Try.pinned (OpenSpec.ofChange Rows.antiLeastSpec) :=
  OpenClaim.holds_of_wide 4 Try.f4 rfl rfl rfl rfl rfl rfl rfl ⟨rfl, rfl, rfl, rfl, rfl⟩ rfl rfl rfl rfl rfl (by kernel_rfl) Try.func4 (by kernel_rfl)
    (of_decide_eq_true (by kernel_rfl)) (by unfold Func.isWrapper; first | (rw [if_pos (by decide +kernel)]; kernel_rfl) | (rw [if_neg (by decide +kernel)]; exact ⟨rfl, rfl⟩))
    (fun os started H enc _ => lifted os started H enc)

theorem proved : Rows.AntiLeastSaid := over
#print axioms proved
end Go.Proofs.Ytojfemaamhampaa.antiLeast
