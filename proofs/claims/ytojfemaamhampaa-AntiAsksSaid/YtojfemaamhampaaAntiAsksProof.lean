/- For every input the law AntiAsks returns true and leaves its arguments as they were. No condition. -/
import Derived.Test.YtojfemaamhampaaAntiAsksWalk
import Derived.Test.YtojfemaamhampaaElem5
import Derived.ProofKit
import Derived.OpenShut
import Derived.Carry
namespace Go.Proofs.Ytojfemaamhampaa.antiAsks
open Go.ChangeShapes Go.WideShapes Go.ChangeAt Go.RowKit
set_option linter.unusedVariables false
set_option linter.unusedSimpArgs false

theorem own : ownKnob Try.prog.godebug = none := by kernel_rfl
theorem laidOut : laidOutB Try.prog = true := by kernel_rfl

theorem walk (a b d : Option Addr) (c e k : Nat) (vs us : List SV) (S : List Int) (z : Int) (w : World) (h1 : Arg5 w a vs) (h2 : Arg5 w b us) (h3 : RdI w d S) :
    Calls Try.prog 7 #[.slice a vs.length c, .slice b us.length e, .slice d S.length k, .int .i64 z] w fun e w' => e = .returned (.bool true) ∧ Frame [] w w' := by
  by_cases hs : SmallW [⟨a, c, vs⟩, ⟨b, e, us⟩]
  · by_cases hl : 100 < S.length
    · exact antiAsks_long a b d c e k vs us S z w h1 h2 hs hl
    · have hl : S.length ≤ 100 := by omega
      cases g1 : goodL (vs.map (·.l)) with
      | false =>
        cases g2 : goodL (us.map (·.l)) with
        | false => exact antiAsks_bad11 a b d c e k vs us S z w h1 h2 h3 hs g1 g2 hl
        | true => exact antiAsks_bad10 a b d c e k vs us S z w h1 h2 h3 hs g1 g2 hl
      | true =>
        cases g2 : goodL (us.map (·.l)) with
        | false => exact antiAsks_bad01 a b d c e k vs us S z w h1 h2 h3 hs g1 g2 hl
        | true =>
          by_cases hp : ((plusL (leastR (vs.map (·.l))) (leastR (us.map (·.l)))).length : Int) ≤ z
          · by_cases ht : ((timesL (leastR (vs.map (·.l))) (leastR (us.map (·.l)))).length : Int) ≤ z
            · exact antiAsks_in_ok_ok a b d c e k vs us S z w h1 h2 h3 hs g1 g2 hl hp ht
            · exact antiAsks_in_ok_over a b d c e k vs us S z w h1 h2 h3 hs g1 g2 hl hp (by omega)
          · by_cases ht : ((timesL (leastR (vs.map (·.l))) (leastR (us.map (·.l)))).length : Int) ≤ z
            · exact antiAsks_in_over_ok a b d c e k vs us S z w h1 h2 h3 hs g1 g2 hl (by omega) ht
            · exact antiAsks_in_over_over a b d c e k vs us S z w h1 h2 h3 hs g1 g2 hl (by omega) (by omega)
  · exact antiAsks_out a b d c e k vs us S z w h1 h2 hs

set_option maxRecDepth 100000 in
theorem lifted (os : Os) (started : os.Started) (H : Type) (enc : TypeId × Value → H) :
    ReturnsInHanded {} Try.checked os 7 .any (Rows.antiAsksSpec.pre6 enc Try.prog Try.f7 Rows.antiAsksRow.domain false) (Rows.antiAsksSpec.post enc Try.prog Try.f7 false true false false) := by
  refine returnsInHanded_of_change (C := Try.checked) own started (by kernel_rfl) Try.func7
    (ChangeSpec.witness6 (enc := enc) (C := Try.checked) false ⟨#[], #[.slice none 0 0, .slice none 0 0, .slice none 0 0, .int .i64 0], []⟩ 8 (by kernel_rfl) (by kernel_rfl) (by kernel_rfl) (by kernel_rfl)) ?_
  intro W base args ds gs before hval0 hW hcnd _
  have hval : ∀ (j : Nat) t v, Try.f7.params[j]? = some t → args[j]? = some v → Value.okWide Try.prog W .any base t v := hval0
  have hW' := hW
  obtain ⟨p, q, hA0, hV, rfl, hfz, hnd⟩ := hW
  have hA : DataW.TrodAll enc Try.prog W 0 (fun _ => true) true Try.f7.params.toList args.toList ds p := hA0
  rw [Try.params7] at hA hval
  obtain ⟨v0, vs0, d0, ds0, p0, q0, hargs, rfl, rfl, h0, r0⟩ := trodAll_cons hA
  obtain ⟨v1, vs1, d1, ds1, p1, q1, rfl, rfl, rfl, h1, r1⟩ := trodAll_cons r0
  obtain ⟨v2, vs2, d2, ds2, p2, q2, rfl, rfl, rfl, h2, r2⟩ := trodAll_cons r1
  obtain ⟨v3, vs3, d3, ds3, p3, q3, rfl, rfl, rfl, h3, r3⟩ := trodAll_cons r2
  obtain ⟨rfl, rfl, rfl⟩ := trodAll_nil r3
  obtain rfl : args = #[v0, v1, v2, v3] := by cases args; simp_all
  obtain ⟨rfl, rfl⟩ := trodVars_none hV
  obtain ⟨a0, len0, cap0, rfl⟩ := okWide_slice Try.underlying26 (hval 0 26 v0 rfl rfl)
  obtain ⟨fu0, hf0⟩ := h0
  have h0 : DataW.Trod enc Try.prog W 0 (fun _ => true) true 26 (.slice a0 len0 cap0) d0 p0 := ⟨fu0, hf0⟩
  obtain ⟨xs0, rfl, rd0, le0, mx0⟩ := open_list encV okSV Try.underlying26 (sz := 1) (by kernel_rfl) (by omega) (fun n cs y h => elem_sv h) (by simpa [Value.cells] using hf0)
  obtain ⟨a1, len1, cap1, rfl⟩ := okWide_slice Try.underlying26 (hval 1 26 v1 rfl rfl)
  obtain ⟨fu1, hf1⟩ := h1
  have h1 : DataW.Trod enc Try.prog W 0 (fun _ => true) true 26 (.slice a1 len1 cap1) d1 p1 := ⟨fu1, hf1⟩
  obtain ⟨xs1, rfl, rd1, le1, mx1⟩ := open_list encV okSV Try.underlying26 (sz := 1) (by kernel_rfl) (by omega) (fun n cs y h => elem_sv h) (by simpa [Value.cells] using hf1)
  obtain ⟨a2, len2, cap2, rfl⟩ := okWide_slice Try.underlying22 (hval 2 22 v2 rfl rfl)
  obtain ⟨fu2, hf2⟩ := h2
  have h2 : DataW.Trod enc Try.prog W 0 (fun _ => true) true 22 (.slice a2 len2 cap2) d2 p2 := ⟨fu2, hf2⟩
  obtain ⟨xs2, rfl, rd2, le2, mx2⟩ := open_list (fun z : Int => [.int .i64 z]) okI Try.underlying22 (sz := 1) (by kernel_rfl) (by omega) (fun n cs y h => elem_int Try.underlying3 h) (by simpa [Value.cells] using hf2)
  obtain ⟨a3, rfl, rfl, rfl, w3⟩ := open_int Try.underlying3 (hval 3 3 v3 rfl rfl) h3
  clear hA0 hval0
  simp only [List.append_nil] at hW'
  have hlt0 : ∀ x ∈ p0, x.block < W.heap.size := fun x hx => hW'.lt x (by simp [hx])
  have hlt1 : ∀ x ∈ p1, x.block < W.heap.size := fun x hx => hW'.lt x (by simp [hx])
  have hlt2 : ∀ x ∈ p2, x.block < W.heap.size := fun x hx => hW'.lt x (by simp [hx])
  refine (walk a0 a1 a2 cap0 cap1 cap2 xs0 xs1 xs2 a3 W rd0.arg5 rd1.arg5 rd2.ints).mono fun e W' ⟨he, hg⟩ => ?_
  subst he
  have bel := hg.below
  exact ⟨_, rfl, _, _, _, [], p0 ++ (p1 ++ (p2 ++ ([] ++ []))), [], hW', trodAll_cons_mk (shut_bool Try.underlying4 _) trodAll_mk0, (trodAll_cons_mk (Below.trod laidOut (by kernel_rfl) (of_decide_eq_true (by kernel_rfl)) h0 bel hlt0) (trodAll_cons_mk (Below.trod laidOut (by kernel_rfl) (of_decide_eq_true (by kernel_rfl)) h1 bel hlt1) (trodAll_cons_mk (Below.trod laidOut (by kernel_rfl) (of_decide_eq_true (by kernel_rfl)) h2 bel hlt2) (trodAll_cons_mk (shut_int Try.underlying3 w3) trodAll_mk0)))), rfl, bel.frame _, fun h => by cases h⟩

theorem over : Rows.antiAsksRow.holds Try.pinned (OpenSpec.ofChange Rows.antiAsksSpec) :=
  OpenClaim.holds_of_wide 7 Try.f7 rfl rfl rfl rfl rfl rfl rfl ⟨rfl, rfl, rfl, rfl, rfl⟩ rfl rfl rfl rfl rfl (by kernel_rfl) Try.func7 (by kernel_rfl)
    (of_decide_eq_true (by kernel_rfl)) (by unfold Func.isWrapper; first | (rw [if_pos (by decide +kernel)]; kernel_rfl) | (rw [if_neg (by decide +kernel)]; exact ⟨rfl, rfl⟩))
    (fun os started H enc _ => lifted os started H enc)

theorem proved : Rows.AntiAsksSaid := over
#print axioms proved
end Go.Proofs.Ytojfemaamhampaa.antiAsks
