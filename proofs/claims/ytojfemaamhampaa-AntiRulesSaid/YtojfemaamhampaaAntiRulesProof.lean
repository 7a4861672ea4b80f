/- For every input the law AntiRules returns true and leaves its arguments as they were. No condition. -/
import Derived.Test.YtojfemaamhampaaAntiRulesWalk
import Derived.Test.YtojfemaamhampaaElem5
import Derived.ProofKit
import Derived.OpenShut
import Derived.Carry
namespace Go.Proofs.Ytojfemaamhampaa.antiRules
open Go.ChangeShapes Go.WideShapes Go.ChangeAt Go.RowKit
set_option linter.unusedVariables false
set_option linter.unusedSimpArgs false

theorem own : ownKnob Try.prog.godebug = none := by kernel_rfl
theorem laidOut : laidOutB Try.prog = true := by kernel_rfl

theorem walk (a b d : Option Addr) (c e k : Nat) (vs us ts : List SV) (w : World) (h1 : Arg5 w a vs) (h2 : Arg5 w b us) (h3 : Arg5 w d ts) :
    Calls Try.prog 5 #[.slice a vs.length c, .slice b us.length e, .slice d ts.length k] w fun e w' => e = .returned (.bool true) ∧ Frame [] w w' := by
  by_cases hs : SmallW [⟨a, c, vs⟩, ⟨b, e, us⟩, ⟨d, k, ts⟩]
  · cases g1 : goodL (vs.map (·.l)) with
    | false => exact antiRules_bad1 a b d c e k vs us ts w h1 h2 h3 hs g1
    | true =>
      cases g2 : goodL (us.map (·.l)) with
      | false => exact antiRules_bad2 a b d c e k vs us ts w h1 h2 h3 hs g1 g2
      | true =>
        cases g3 : goodL (ts.map (·.l)) with
        | false => exact antiRules_bad3 a b d c e k vs us ts w h1 h2 h3 hs g1 g2 g3
        | true =>
          by_cases q1 : 6 < vs.length
          · exact antiRules_long1 a b d c e k vs us ts w h1 h2 h3 hs g1 g2 g3 q1
          · by_cases q2 : 6 < us.length
            · exact antiRules_long2 a b d c e k vs us ts w h1 h2 h3 hs g1 g2 g3 (by omega) q2
            · by_cases q3 : 6 < ts.length
              · exact antiRules_long3 a b d c e k vs us ts w h1 h2 h3 hs g1 g2 g3 (by omega) (by omega) q3
              · exact antiRules_in a b d c e k vs us ts w h1 h2 h3 hs g1 g2 g3 (by omega) (by omega) (by omega)
  · exact antiRules_out a b d c e k vs us ts w h1 h2 h3 hs

set_option maxRecDepth 100000 in
theorem lifted (os : Os) (started : os.Started) (H : Type) (enc : TypeId × Value → H) :
    ReturnsInHanded {} Try.checked os 5 .any (Rows.antiRulesSpec.pre6 enc Try.prog Try.f5 Rows.antiRulesRow.domain false) (Rows.antiRulesSpec.post enc Try.prog Try.f5 false true false false) := by
  refine returnsInHanded_of_change (C := Try.checked) own started (by kernel_rfl) Try.func5
    (ChangeSpec.witness6 (enc := enc) (C := Try.checked) false ⟨#[], #[.slice none 0 0, .slice none 0 0, .slice none 0 0], []⟩ 8 (by kernel_rfl) (by kernel_rfl) (by kernel_rfl) (by kernel_rfl)) ?_
  intro W base args ds gs before hval0 hW hcnd _
  have hval : ∀ (j : Nat) t v, Try.f5.params[j]? = some t → args[j]? = some v → Value.okWide Try.prog W .any base t v := hval0
  have hW' := hW
  obtain ⟨p, q, hA0, hV, rfl, hfz, hnd⟩ := hW
  have hA : DataW.TrodAll enc Try.prog W 0 (fun _ => true) true Try.f5.params.toList args.toList ds p := hA0
  rw [Try.params5] at hA hval
  obtain ⟨v0, vs0, d0, ds0, p0, q0, hargs, rfl, rfl, h0, r0⟩ := trodAll_cons hA
  obtain ⟨v1, vs1, d1, ds1, p1, q1, rfl, rfl, rfl, h1, r1⟩ := trodAll_cons r0
  obtain ⟨v2, vs2, d2, ds2, p2, q2, rfl, rfl, rfl, h2, r2⟩ := trodAll_cons r1
  obtain ⟨rfl, rfl, rfl⟩ := trodAll_nil r2
  obtain rfl : args = #[v0, v1, v2] := by cases args; simp_all
  obtain ⟨rfl, rfl⟩ := trodVars_none hV
  obtain ⟨a0, len0, cap0, rfl⟩ := okWide_slice Try.underlying26 (hval 0 26 v0 rfl rfl)
  obtain ⟨fu0, hf0⟩ := h0
  have h0 : DataW.Trod enc Try.prog W 0 (fun _ => true) true 26 (.slice a0 len0 cap0) d0 p0 := ⟨fu0, hf0⟩
  obtain ⟨xs0, rfl, rd0, le0, mx0⟩ := open_list encV okSV Try.underlying26 (sz := 1) (by kernel_rfl) (by omega) (fun n cs y h => elem_sv h) (by simpa [Value.cells] using hf0)
  obtain ⟨a1, len1, cap1, rfl⟩ := okWide_slice Try.underlying26 (hval 1 26 v1 rfl rfl)
  obtain ⟨fu1, hf1⟩ := h1
  have h1 : DataW.Trod enc Try.prog W 0 (fun _ => true) true 26 (.slice a1 len1 cap1) d1 p1 := ⟨fu1, hf1⟩
  obtain ⟨xs1, rfl, rd1, le1, mx1⟩ := open_list encV okSV Try.underlying26 (sz := 1) (by kernel_rfl) (by omega) (fun n cs y h => elem_sv h) (by simpa [Value.cells] using hf1)
  obtain ⟨a2, len2, cap2, rfl⟩ := okWide_slice Try.underlying26 (hval 2 26 v2 rfl rfl)
  obtain ⟨fu2, hf2⟩ := h2
  have h2 : DataW.Trod enc Try.prog W 0 (fun _ => true) true 26 (.slice a2 len2 cap2) d2 p2 := ⟨fu2, hf2⟩
  obtain ⟨xs2, rfl, rd2, le2, mx2⟩ := open_list encV okSV Try.underlying26 (sz := 1) (by kernel_rfl) (by omega) (fun n cs y h => elem_sv h) (by simpa [Value.cells] using hf2)
  clear hA0 hval0
  simp only [List.append_nil] at hW'
  have hlt0 : ∀ x ∈ p0, x.block < W.heap.size := fun x hx => hW'.lt x (by simp [hx])
  have hlt1 : ∀ x ∈ p1, x.block < W.heap.size := fun x hx => hW'.lt x (by simp [hx])
  have hlt2 : ∀ x ∈ p2, x.block < W.heap.size := fun x hx => hW'.lt x (by simp [hx])
  refine (walk a0 a1 a2 cap0 cap1 cap2 xs0 xs1 xs2 W rd0.arg5 rd1.arg5 rd2.arg5).mono fun e W' ⟨he, hg⟩ => ?_
  subst he
  have bel := hg.below
  exact ⟨_, rfl, _, _, _, [], p0 ++ (p1 ++ (p2 ++ [])), [], hW', trodAll_cons_mk (shut_bool Try.underlying4 _) trodAll_mk0, (trodAll_cons_mk (Below.trod laidOut (by kernel_rfl) (of_decide_eq_true (by kernel_rfl)) h0 bel hlt0) (trodAll_cons_mk (Below.trod laidOut (by kernel_rfl) (of_decide_eq_true (by kernel_rfl)) h1 bel hlt1) (trodAll_cons_mk (Below.trod laidOut (by kernel_rfl) (of_decide_eq_true (by kernel_rfl)) h2 bel hlt2) trodAll_mk0))), rfl, bel.frame _, fun h => by cases h⟩

theorem over : Rows.antiRulesRow.holds Try.pinned (OpenSpec.ofChange Rows.antiRulesSpec) :=
  OpenClaim.holds_of_wide 5 Try.f5 rfl rfl rfl rfl rfl rfl rfl ⟨rfl, rfl, rfl, rfl, rfl⟩ rfl rfl rfl rfl rfl (by kernel_rfl) Try.func5 (by kernel_rfl)
    (of_decide_eq_true (by kernel_rfl)) (by unfold Func.isWrapper; first | (rw [if_pos (by decide +kernel)]; kernel_rfl) | (rw [if_neg (by decide +kernel)]; exact ⟨rfl, rfl⟩))
    (fun os started H enc _ => lifted os started H enc)

theorem proved : Rows.AntiRulesSaid := over
#print axioms proved
end Go.Proofs.Ytojfemaamhampaa.antiRules
