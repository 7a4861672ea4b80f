/- tansylaw5.small. -/
import Derived.Test.YtojfemaamhampaaGood5
namespace Go.Proofs.Ytojfemaamhampaa
open Go.RowKit
set_option linter.unusedSimpArgs false
set_option linter.unusedVariables false

/-- A row of sets as a cell holds it. -/
structure SW where
  a : Option Addr
  c : Nat
  vs : List SV
def encW (r : SW) : List Value := [.slice r.a r.vs.length r.c]
def totV (vs : List SV) : Nat := (vs.map (·.l.length)).sum
def totW (ws : List SW) : Nat := (ws.map fun r => totV r.vs).sum
def SmallW (ws : List SW) : Prop := (∀ r ∈ ws, r.vs.length ≤ 12 ∧ ∀ s ∈ r.vs, s.l.length ≤ 12) ∧ totW ws ≤ 150
instance (ws : List SW) : Decidable (SmallW ws) := by unfold SmallW; infer_instance
theorem totV_next {vs : List SV} {k : Nat} {s : SV} (h : vs[k]? = some s) : totV (vs.take (k + 1)) = totV (vs.take k) + s.l.length := by
  rw [take_one' h]; simp [totV]
theorem totW_next {ws : List SW} {k : Nat} {r : SW} (h : ws[k]? = some r) : totW (ws.take (k + 1)) = totW (ws.take k) + totV r.vs := by
  rw [take_one' h]; simp [totW]
theorem RF.atW {U : Nat → Prop} {w : World} {a : Option Addr} {ws : List SW} (h : RF U w 1 encW a ws) {k : Nat} {r : SW} (hs : ws[k]? = some r) : ∃ b off, a = some ⟨b, off, none⟩ ∧ w.cell? ⟨b, off + k, none⟩ = some (.slice r.a r.vs.length r.c) := by
  obtain ⟨b, off, h1, _, h3⟩ := h k r hs
  refine ⟨b, off, h1, ?_⟩
  have := h3 0 _ rfl
  rw [Nat.mul_one, Nat.add_zero] at this
  exact this
set_option maxHeartbeats 4000000 in
set_option maxRecDepth 100000 in
theorem small_any (U : Nat → Prop) (a : Option Addr) (c : Nat) (ws : List SW) (w : World) (h : RF U w 1 encW a ws) (hr : ∀ r ∈ ws, RF (fun b => b < w.heap.size) w 1 encV r.a r.vs) (hl : ws.length ≤ 10) :
    Calls Try.prog 13 #[.slice a ws.length c] w fun e w' => e = .returned (.bool (decide (SmallW ws))) ∧ Frame [] w w' := by
  have H := Lib.hid h
  have HV := Lib.hid hr
  clear h hr
  have HR : Hid (∀ r, (r = true ↔ SmallW ws) → r = decide (SmallW ws)) := fun r h => by
    cases r with
    | true => exact (decide_eq_true (h.1 rfl)).symm
    | false => exact (decide_eq_false fun k => by cases h.2 k).symm
  generalize decide (SmallW ws) = r at *
  go_enter Try.func13, Try.ntmps13
  go_wp2_with fail
  go_loopw [3, 4] (fun u i wr => ∃ k n : Nat, k ≤ ws.length ∧ n ≤ 144 * k ∧ i = .int .i64 k ∧ u = .int .i64 n ∧ Hid (Frame [] w wr ∧ totW (ws.take k) = n ∧ ∀ j (h : j < ws.length), j < k → ws[j].vs.length ≤ 12 ∧ ∀ s ∈ ws[j].vs, s.l.length ≤ 12)) (fun _ i _ => ws.length - (intOf i).toNat)
  case atStart => exact ⟨0, 0, Nat.zero_le _, Nat.zero_le _, rfl, rfl, Frame.refl _ _, by simp [totW], fun j _ h => by omega⟩
  case round =>
    obtain ⟨k, n, hk, hn, rfl, rfl, hQ⟩ := hrel
    rename World => wr
    by_cases hlt : k < ws.length
    · have g1 : ws[k]? = some ws[k] := by simp [hlt]
      have hms : ws[k] ∈ ws := List.getElem_mem _
      have hrv := (HV.out _ hms).frame0 hQ.out.1
      obtain ⟨b1, o1, rfl, q1⟩ := RF.atW (H.out.frame0 hQ.out.1) g1
      have NX := Lib.hid (totW_next g1)
      generalize hs : ws[k] = t at *
      have HT := Lib.hid hs
      have RVT := Lib.hid hrv
      have Q1 := Lib.hid q1
      clear hs g1 hrv q1
      have q1 := Q1.out
      by_cases h12 : 12 < t.vs.length
      · have hd : decide ((t.vs.length : Int) > 12) = true := decide_eq_true (by omega)
        have H12 := Lib.hid h12
        clear h12
        go_wp2_with fail
        go_ret
        exact ⟨by
          rw [← HR.out false ⟨(fun e => by cases e), fun hh => by
            have := (hh.1 t hms).1
            have := H12.out
            omega⟩]
          rfl, hQ.out.1⟩
      · have hd : decide ((t.vs.length : Int) > 12) = false := decide_eq_false (by omega)
        go_wp2_with fail
        go_loopw [3, 5] (fun u i wq => ∃ m p : Nat, m ≤ t.vs.length ∧ p ≤ 12 * m ∧ i = .int .i64 m ∧ u = .int .i64 (n + p : Nat) ∧ Hid (Frame [] wr wq ∧ totV (t.vs.take m) = p ∧ ∀ j (h : j < t.vs.length), j < m → t.vs[j].l.length ≤ 12)) (fun _ i _ => t.vs.length - (intOf i).toNat)
        case atStart => exact ⟨0, 0, Nat.zero_le _, Nat.zero_le _, rfl, rfl, Frame.refl _ _, by simp [totV], fun j _ h => by omega⟩
        case round =>
          obtain ⟨m, p, hm, hp, rfl, rfl, hP⟩ := hrel
          rename World => wq
          have q1 := hP.out.1.cell Q1.out (by simp)
          by_cases hlt2 : m < t.vs.length
          · have g2 : t.vs[m]? = some t.vs[m] := by simp [hlt2]
            have hms2 : t.vs[m] ∈ t.vs := List.getElem_mem _
            have W2 := RVT.out.frame0 hP.out.1
            obtain ⟨b2, o2, e2, q2⟩ := RF.atV W2 g2
            rw [e2] at q1
            have NX2 := Lib.hid (totV_next g2)
            generalize hs2 : t.vs[m] = s at *
            have HS2 := Lib.hid hs2
            clear hs2 g2 W2 e2
            by_cases h13 : 12 < s.l.length
            · have hd2 : decide ((s.l.length : Int) > 12) = true := decide_eq_true (by omega)
              have H13 := Lib.hid h13
              clear h13
              go_wp2_with fail
              go_ret
              exact ⟨by
                rw [← HR.out false ⟨(fun e => by cases e), fun hh => by
                  have := (hh.1 t hms).2 s hms2
                  have := H13.out
                  omega⟩]
                rfl, hQ.out.1.trans1 hP.out.1⟩
            · have hd2 : decide ((s.l.length : Int) > 12) = false := decide_eq_false (by omega)
              go_wp2_with fail
              go_roundw
              case rel => exact ⟨m + 1, p + s.l.length, by omega, by omega, by first | rfl | go_num, by first | rfl | go_num, hP.out.1, by rw [NX2.out, hP.out.2.1], fun j hj hjm => by
                rcases Nat.lt_or_ge j m with h | h
                · exact hP.out.2.2 j hj h
                · obtain rfl : j = m := by omega
                  rw [HS2.out]; omega⟩
              case measure => first | (simp [intOf]; done) | (simp [intOf]; omega)
          · obtain rfl : m = t.vs.length := by omega
            go_wp2_with fail
            go_roundw
            case rel => exact ⟨k + 1, n + p, by omega, by omega, by first | rfl | go_num, by first | rfl | go_num, hQ.out.1.trans1 hP.out.1, by
              have := hP.out.2.1
              rw [List.take_length] at this
              rw [NX.out, hQ.out.2.1, this], fun j hj hjk => by
              rcases Nat.lt_or_ge j k with h | h
              · exact hQ.out.2.2 j hj h
              · obtain rfl : j = k := by omega
                rw [HT.out]
                refine ⟨by omega, fun s hs => ?_⟩
                obtain ⟨i, hi, rfl⟩ := List.getElem_of_mem hs
                exact hP.out.2.2 i hi hi⟩
            case measure => first | (simp [intOf]; done) | (simp [intOf]; omega)
    · obtain rfl : k = ws.length := by omega
      have ht := hQ.out.2.1
      rw [List.take_length] at ht
      have HTT := Lib.hid ht
      clear ht
      have hall : Hid (∀ r ∈ ws, r.vs.length ≤ 12 ∧ ∀ s ∈ r.vs, s.l.length ≤ 12) := fun r hr => by
        obtain ⟨j, hj, rfl⟩ := List.getElem_of_mem hr
        exact hQ.out.2.2 j hj hj
      have hd : Hid (decide ((n : Int) ≤ 150) = r) := by
        refine HR.out _ ⟨fun h => ⟨hall.out, ?_⟩, fun h => decide_eq_true ?_⟩
        · have := of_decide_eq_true h
          rw [HTT.out]; omega
        · have := h.2
          rw [HTT.out] at this
          omega
      go_wp2_with fail
      go_ret
      exact ⟨by rw [← hd.out]; rfl, hQ.out.1⟩
end Go.Proofs.Ytojfemaamhampaa
