/- tansylaw13: steps, and small. -/
import Derived.Test.YtolkmapdbilolaaSumSat
import Derived.Test.YtolkmapdbilolaaOpen
namespace Go.Proofs.Ytolkmapdbilolaa
open Go.RowKit
set_option linter.unusedSimpArgs false
set_option linter.unusedVariables false

/-- A step, as it lies in memory. -/
structure Stp where
  kind : Int
  a : Int
  b : Int
  la : Option Addr
  lcap : Nat
  l : List Int
def Stp.enc (s : Stp) : List Value := [.int .i64 s.kind, .int .i64 s.a, .int .i64 s.b, .slice s.la s.l.length s.lcap]
def Stp.ok (w : World) (s : Stp) : Prop := okI w s.kind ∧ okI w s.a ∧ okI w s.b ∧ RdI w s.la s.l ∧ s.l.length ≤ 9223372036854775807
theorem Stp.ok_frame {w w' : World} (f : Frame [] w w') (s : Stp) (h : s.ok w) : s.ok w' := ⟨h.1, h.2.1, h.2.2.1, h.2.2.2.1.frame f, h.2.2.2.2⟩

/-- Are so many steps looked at? -/
def smallB (xs : List Stp) : Bool := decide ((xs.map fun s => (s.l.length : Int) + 1).sum ≤ 1000) && decide (xs.length ≤ 250)

theorem small_any (a : Option Addr) (cap : Nat) (xs : List Stp) (w : World) (hx : RdS w 4 Stp.enc Stp.ok a xs) (hl : xs.length ≤ 9223372036854775807) :
    Calls Try.prog 19 #[.slice a xs.length cap] w fun e w' => e = .returned (.bool (smallB xs)) ∧ Frame [] w w' := by
  have HX := Lib.hid hx
  clear hx
  have hpos : ∀ ys : List Stp, 0 ≤ (ys.map fun s => (s.l.length : Int) + 1).sum := by
    intro ys; induction ys with
    | nil => simp
    | cons y t ih => simp only [List.map_cons, List.sum_cons]; omega
  generalize hr : smallB xs = r
  have HR := Lib.hid hr
  clear hr
  go_enter Try.func19, Try.ntmps19
  go_wp2_with fail
  go_loopw [3, 4] (fun v i wr => ∃ (k : Nat) (m : Int), k ≤ xs.length ∧ i = .int .i64 k ∧ v = .int .i64 m ∧ 0 ≤ m ∧ m ≤ 1000 ∧ Frame [] w wr ∧ Hid (m + ((xs.drop k).map fun s => (s.l.length : Int) + 1).sum = (xs.map fun s => (s.l.length : Int) + 1).sum)) (fun _ i _ => xs.length - (intOf i).toNat)
  case atStart => exact ⟨0, 0, Nat.zero_le _, rfl, rfl, by omega, by omega, Frame.refl _ _, by simp [Hid]⟩
  case round =>
    obtain ⟨k, m, hk, rfl, rfl, m0, m1, hf, hq⟩ := hrel
    by_cases hlt : k < xs.length
    · obtain ⟨b, off, rfl, hc, hok⟩ := (HX.out.frame hf (fun x => Stp.ok_frame hf x)).at hlt
      have hm := hq.out
      rw [List.drop_eq_getElem_cons hlt, List.map_cons, List.sum_cons] at hm
      have hrest := hpos (xs.drop (k + 1))
      have c3 := hc 3 _ rfl
      generalize xs[k] = s at *
      have hlen := hok.2.2.2.2
      have hs := sat_two m s.l.length m0 m1 (by omega)
      have hc2 := sat_any m (some ⟨wr.heap.size, 0, none⟩) 2 [(s.l.length : Int), 1] (wr.alloc (.cells #[.int .i64 s.l.length, .int .i64 1] 3)) m0 (by omega) (RdI.two _ _ _ _) (by simp) (by simp; omega)
      rw [hs] at hc2
      have HM := Lib.hid hm
      have HPO := Lib.hid hpos
      clear hs hm hok hc hpos
      by_cases hov : m + s.l.length + 1 ≤ 1000
      · rw [if_pos (by omega)] at hc2
        have H2 := Lib.hid hc2
        clear hc2
        go_wp2_with fail
        refine H2.out.mono ?_
        rintro e w2 ⟨rfl, rfl⟩
        go_wp2_with fail
        go_roundw
        case rel => exact ⟨k + 1, m + s.l.length + 1, by omega, by go_num, rfl, by omega, by omega, hf.trans1 (Frame.alloc _ _ _), by have := HM.out; simp only [Hid]; omega⟩
        case measure => simp [intOf]; omega
      · have hfalse : Hid (r = false) := by
          show r = false
          rw [← HR.out, smallB]
          have : ¬ (xs.map fun s => (s.l.length : Int) + 1).sum ≤ 1000 := by have := HM.out; omega
          simp only [this, decide_false, Bool.false_and]
        have hov' : ∃ q : Int, 1000 < q ∧ (if m + s.l.length + 1 ≤ 1099511627776 then m + s.l.length + 1 else 1099511627776) = q ∧ q ≤ 1099511627776 := by
          refine ⟨_, ?_, rfl, ?_⟩ <;> split <;> omega
        obtain ⟨q, q1, q2, q3⟩ := hov'
        rw [q2] at hc2
        have H2 := Lib.hid hc2
        clear hc2 q2 hov
        go_wp2_with fail
        refine H2.out.mono ?_
        rintro e w2 ⟨rfl, rfl⟩
        go_wp2_with fail
        go_ret
        exact ⟨by rw [hfalse.out]; rfl, hf.trans1 (Frame.alloc _ _ _)⟩
    · have hkn : k = xs.length := by omega
      subst hkn
      have hm := hq.out
      have hres : Hid (decide (xs.length ≤ 250) = r) := by
        show decide (xs.length ≤ 250) = r
        rw [← HR.out, smallB]
        rw [List.drop_length] at hm
        simp at hm
        have : (xs.map fun s => (s.l.length : Int) + 1).sum ≤ 1000 := by omega
        simp only [this, decide_true, Bool.true_and]
      clear hm
      go_wp2_with fail
      go_ret
      exact ⟨by rw [← hres.out]; simp; omega, hf⟩

end Go.Proofs.Ytolkmapdbilolaa
