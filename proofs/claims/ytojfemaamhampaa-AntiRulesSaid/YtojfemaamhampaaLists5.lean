/- tansyref22.Lists: are two rows of sets one? -/
import Derived.Test.YtojfemaamhampaaFam5
import Derived.Test.YtojfemaamhampaaInts2
namespace Go.Proofs.Ytojfemaamhampaa
open Go.RowKit
set_option linter.unusedSimpArgs false
set_option linter.unusedVariables false

theorem RdI.rfT {w : World} {a : Option Addr} {xs : List Int} (h : RdI w a xs) : RF (fun _ => True) w 1 encI a xs := fun k x hx => by
  obtain ⟨hk, rfl⟩ := List.getElem?_eq_some_iff.1 hx
  obtain ⟨b, off, h1, h2⟩ := h.at hk
  refine ⟨b, off, h1, trivial, fun j u hu => ?_⟩
  match j, hu with
  | 0, hu =>
    have : u = .int .i64 xs[k] := by simpa [encI] using hu.symm
    rw [this, Nat.mul_one, Nat.add_zero]
    exact h2
  | j + 1, hu => simp [encI] at hu
set_option maxHeartbeats 4000000 in
set_option maxRecDepth 100000 in
theorem lists_any (a1 a2 : Option Addr) (c1 c2 : Nat) (vs us : List SV) (w : World) (h1 : RV w a1 vs) (h2 : RV w a2 us) (l1 : vs.length ≤ 1000000) (l2 : us.length ≤ 1000000) :
    Calls Try.prog 23 #[.slice a1 vs.length c1, .slice a2 us.length c2] w fun e w' => e = .returned (.bool (decide (vs.map (·.l) = us.map (·.l)))) ∧ Frame [] w w' := by
  have H1 := Lib.hid h1
  have H2 := Lib.hid h2
  clear h1 h2
  have HR : Hid (∀ r, (r = true ↔ vs.map (·.l) = us.map (·.l)) → r = decide (vs.map (·.l) = us.map (·.l))) := fun r h => by
    cases r with
    | true => exact (decide_eq_true (h.1 rfl)).symm
    | false => exact (decide_eq_false fun k => by cases h.2 k).symm
  generalize decide (vs.map (·.l) = us.map (·.l)) = r at *
  by_cases hl : vs.length = us.length
  · go_enter Try.func23, Try.ntmps23
    go_wp2_with fail
    go_loopw [5] (fun i wr => ∃ k : Nat, k ≤ vs.length ∧ i = .int .i64 k ∧ Hid (Frame [] w wr ∧ ∀ j (h : j < vs.length) (h' : j < us.length), j < k → vs[j].l = us[j].l)) (fun i _ => vs.length - (intOf i).toNat)
    case atStart => exact ⟨0, Nat.zero_le _, rfl, Frame.refl _ _, fun j _ _ h => by omega⟩
    case round =>
      obtain ⟨k, hk, rfl, hQ⟩ := hrel
      rename World => wr
      by_cases hlt : k < vs.length
      · have hlt2 : k < us.length := by omega
        have g1 : vs[k]? = some vs[k] := by simp [hlt]
        have g2 : us[k]? = some us[k] := by simp [hlt2]
        have W1 := H1.out.frame hQ.out.1
        have W2 := H2.out.frame hQ.out.1
        have ok1 := W1.ok _ (List.getElem_mem hlt)
        have ok2 := W2.ok _ (List.getElem_mem hlt2)
        obtain ⟨b, o, rfl, q1⟩ := RF.atV W1.rf g1
        obtain ⟨b2, o2, rfl, q2⟩ := RF.atV W2.rf g2
        generalize hs : vs[k] = s at q1 ok1
        generalize ht : us[k] = t at q2 ok2
        have HS := Lib.hid hs
        have HT := Lib.hid ht
        have y1 := framed_cell q1
        have y2 := framed_cell q2
        have C : Hid (∀ w', Frame [] wr w' → Calls Try.prog 12 #[.slice s.a s.l.length s.c, .slice t.a t.l.length t.c] w' (Ans (s.l = t.l) w')) := fun w' f => ints_any _ _ s.a t.a s.c t.c s.l t.l w' (ok1.frame f (by simp)).rd.rfT (ok2.frame f (by simp)).rd.rfT ok1.len ok2.len
        clear hs ht g1 g2 W1 W2 ok1 ok2 q1 q2
        by_cases hst : s.l = t.l
        · have C := Lib.hid (fun w' f => Ans.yes (C.out w' f) hst)
          have HST := Lib.hid hst
          clear hst
          go_wp2_with fail
          refine wp_region_framed (by kernel_rfl) (by kernel_rfl) ?_
          repeat (go_big_quiet_step (exact framed_of (C.out _ (FramedBy.h _))))
          refine wpQuiet_nil ?_
          intro w6 hw
          have f6 := framed_out hw
          clear hw
          go_wp2_with fail
          go_roundw
          case rel => exact ⟨k + 1, by omega, by first | rfl | go_num, hQ.out.1.trans1 f6, fun j hj hj' hjk => by
            rcases Nat.lt_or_ge j k with h | h
            · exact hQ.out.2 j hj hj' h
            · obtain rfl : j = k := by omega
              rw [HS.out, HT.out]; exact HST.out⟩
          case measure => first | (simp [intOf]; done) | (simp [intOf]; omega)
        · have C := Lib.hid (fun w' f => Ans.no (C.out w' f) hst)
          have HST := Lib.hid hst
          clear hst
          go_wp2_with fail
          refine wp_region_framed (by kernel_rfl) (by kernel_rfl) ?_
          repeat (go_big_quiet_step (exact framed_of (C.out _ (FramedBy.h _))))
          refine wpQuiet_nil ?_
          intro w6 hw
          have f6 := framed_out hw
          clear hw
          go_wp2_with fail
          go_ret
          exact ⟨by
            rw [← HR.out false ⟨(fun e => by cases e), fun e => by
              have h3 : (vs.map (·.l))[k]? = (us.map (·.l))[k]? := by rw [e]
              simp [hlt, hlt2] at h3
              rw [HS.out, HT.out] at h3
              exact absurd h3 HST.out⟩]
            rfl, hQ.out.1.trans1 f6⟩
      · obtain rfl : k = vs.length := by omega
        go_wp2_with fail
        go_ret
        exact ⟨by
          rw [← HR.out true ⟨fun _ => List.ext_getElem (by simpa using hl) fun j h h' => by
            simp only [List.getElem_map]
            exact hQ.out.2 j (by simpa using h) (by simpa using h') (by simpa using h), fun _ => rfl⟩]
          rfl, hQ.out.1⟩
  · have hd : ((vs.length : Int) == us.length) = false := by
      have : (vs.length : Int) ≠ us.length := by omega
      simp [this]
    go_enter Try.func23, Try.ntmps23
    go_wp2_with fail
    go_ret
    exact ⟨by
      rw [← HR.out false ⟨(fun e => by cases e), fun e => by
        have := congrArg List.length e
        simp at this
        exact absurd this hl⟩]
      rfl, Frame.refl _ _⟩
end Go.Proofs.Ytojfemaamhampaa
