/- tansyref5.Over, Has, lessSet. -/
import Derived.Test.YtojfemaamhampaaFam5
import Derived.Test.YtojfemaamhampaaSubset
namespace Go.Proofs.Ytojfemaamhampaa
open Go.RowKit
set_option linter.unusedSimpArgs false
set_option linter.unusedVariables false

def overB (n : Nat) (budget : Int) : Bool := decide ((n : Int) > budget) || decide ((n : Int) > 5000)
theorem rover_any (a : Option Addr) (n c : Nat) (budget : Int) (w : World) : Calls Try.prog 31 #[.slice a n c, .int .i64 budget] w fun e w' => e = .returned (.bool (overB n budget)) ∧ Frame [] w w' := by
  unfold overB
  cases h1 : decide ((n : Int) > budget) with
  | true =>
    go_enter Try.func31, Try.ntmps31
    go_wp2_with fail
    go_ret
    exact ⟨rfl, Frame.refl _ _⟩
  | false =>
    go_enter Try.func31, Try.ntmps31
    go_wp2_with fail
    go_ret
    exact ⟨rfl, Frame.refl _ _⟩
set_option maxRecDepth 100000 in
theorem rhas_any (a a2 : Option Addr) (c c2 : Nat) (vs : List SV) (S : List Int) (w : World) (h : RV w a vs) (hl : vs.length ≤ 1000000) (hS : RdI w a2 S) (hSl : S.length ≤ 1000000) :
    Calls Try.prog 29 #[.slice a vs.length c, .slice a2 S.length c2] w fun e w' => e = .returned (.bool (hasL (vs.map (·.l)) S)) ∧ Frame [] w w' := by
  have H := Lib.hid h
  have HS := Lib.hid hS
  clear h hS
  have HR : Hid (∀ r, (r = true ↔ ∃ s ∈ vs, Sub s.l S) → r = hasL (vs.map (·.l)) S) := fun r h => by
    rw [Bool.eq_iff_iff, h, hasL_iff]
    exact ⟨fun ⟨s, h1, h2⟩ => ⟨s.l, List.mem_map_of_mem h1, h2⟩, fun ⟨x, h1, h2⟩ => by
      obtain ⟨s, h3, rfl⟩ := List.mem_map.1 h1
      exact ⟨s, h3, h2⟩⟩
  generalize hasL (vs.map (·.l)) S = r at *
  go_enter Try.func29, Try.ntmps29
  go_wp2_with fail
  go_loopw [5] (fun i wr => ∃ k : Nat, k ≤ vs.length ∧ i = .int .i64 k ∧ Hid (Frame [] w wr ∧ ∀ j (h : j < vs.length), j < k → ¬ Sub vs[j].l S)) (fun i _ => vs.length - (intOf i).toNat)
  case atStart => exact ⟨0, Nat.zero_le _, rfl, Frame.refl _ _, fun j _ h => by omega⟩
  case round =>
    obtain ⟨k, hk, rfl, hQ⟩ := hrel
    rename World => wr
    by_cases hlt : k < vs.length
    · have g1 : vs[k]? = some vs[k] := by simp [hlt]
      have hms : vs[k] ∈ vs := List.getElem_mem _
      have Hw := H.out.frame hQ.out.1
      obtain ⟨b1, o1, rfl, q1⟩ := RF.atV Hw.rf g1
      have OK := Hw.ok _ hms
      have hn : Hid (vs[k].l = vs[k].l) := rfl
      generalize hs : vs[k] = s at q1 OK hms
      have HSs := Lib.hid hs
      clear hn hs g1
      have C := subset_any s.a a2 s.c c2 s.l S wr OK.rd (HS.out.frame hQ.out.1) OK.len hSl
      by_cases hsub : ∀ x ∈ s.l, x ∈ S
      · have C := Lib.hid (Ans.yes C hsub)
        have HB : Hid (Sub s.l S) := hsub
        clear hsub Hw OK
        go_wp2_with fail
        refine C.out.mono ?_
        rintro e w1 ⟨rfl, f1⟩
        go_wp2_with fail
        go_ret
        exact ⟨by rw [← HR.out true ⟨fun _ => ⟨s, hms, HB.out⟩, fun _ => rfl⟩]; rfl, hQ.out.1.trans1 f1⟩
      · have C := Lib.hid (Ans.no C hsub)
        have HB : Hid (¬ Sub s.l S) := hsub
        clear hsub Hw OK
        go_wp2_with fail
        refine C.out.mono ?_
        rintro e w1 ⟨rfl, f1⟩
        go_wp2_with fail
        go_roundw
        case rel => exact ⟨k + 1, by omega, by first | rfl | go_num, hQ.out.1.trans1 f1, fun j hj hjk => by
          rcases Nat.lt_or_ge j k with h | h
          · exact hQ.out.2 j hj h
          · obtain rfl : j = k := by omega
            rw [HSs.out]; exact HB.out⟩
        case measure => first | (simp [intOf]; done) | (simp [intOf]; omega)
    · obtain rfl : k = vs.length := by omega
      go_wp2_with fail
      go_ret
      exact ⟨by
        rw [← HR.out false ⟨(fun e => by cases e), fun ⟨s, hs, hb⟩ => by
          obtain ⟨j, hj, rfl⟩ := List.getElem_of_mem hs
          exact absurd hb (hQ.out.2 j hj hj)⟩]
        rfl, hQ.out.1⟩
end Go.Proofs.Ytojfemaamhampaa
