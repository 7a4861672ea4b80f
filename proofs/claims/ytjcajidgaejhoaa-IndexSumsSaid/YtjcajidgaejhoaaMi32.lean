/- circ: made, by Catch. circ: Len, is, Var, Plus, Times, Star. tansyalike.Sum: a sum, held at a limit. -/
import Derived.Test.YtjcajidgaejhoaaMi13
import Derived.Test.YtjcajidgaejhoaaMi31
namespace Go.Proofs.Ytjcajidgaejhoaa
open Go.RowKit
set_option linter.unusedSimpArgs false
set_option linter.unusedVariables false

/-- What made comes to: the gate's number and the error; the gates; what is left. -/
def put (g : Gt) (l : List Gt) (left : Int) : (Int × Int) × List Gt × Int :=
  match find g l 0 with
  | some k => ((k, 0), l, left)
  | none => if 1 ≤ left then ((l.length, 0), l ++ [g], left - 1) else ((0, 10), l, left)

end Go.Proofs.Ytjcajidgaejhoaa

namespace Go.Proofs.Ytjcajidgaejhoaa
open Go.RowKit
set_option linter.unusedSimpArgs false
set_option linter.unusedVariables false

/-- A store's ops, on the gates and what is left. -/
def mkVar (t : Int) (l : List Gt) (left : Int) : (Int × Int) × List Gt × Int := if t < 1 then ((0, 1), l, left) else put ⟨3, t, 0⟩ l left

/-- Is it no gate's number? -/
def notG (n : Nat) (k : Int) : Bool := decide (k < 0) || decide ((n : Int) ≤ k)

/-- Are all of these gates' numbers? -/
def areG (n : Nat) (xs : List Int) : Bool := !xs.any (notG n)

def mkPlus (a b : Int) (l : List Gt) (left : Int) : (Int × Int) × List Gt × Int :=
  if areG l.length [a, b] = false then ((0, 1), l, left) else if a = 0 then ((b, 0), l, left) else if b = 0 then ((a, 0), l, left) else put ⟨4, min a b, max a b⟩ l left
def mkTimes (a b : Int) (l : List Gt) (left : Int) : (Int × Int) × List Gt × Int :=
  if areG l.length [a, b] = false then ((0, 1), l, left) else if a = 0 then ((0, 0), l, left) else if b = 0 then ((0, 0), l, left) else if a = 1 then ((b, 0), l, left) else if b = 1 then ((a, 0), l, left) else put ⟨5, min a b, max a b⟩ l left
def mkStar (a : Int) (l : List Gt) (left : Int) : (Int × Int) × List Gt × Int :=
  if areG l.length [a] = false then ((0, 1), l, left) else if a = 0 then ((1, 0), l, left) else put ⟨6, a, 0⟩ l left

/-- A new slice of two ints; of one. -/
theorem RdI.two (w : World) (a b : Int) (T : TypeId) : RdI (w.alloc (.cells #[.int .i64 a, .int .i64 b] T)) (some ⟨w.heap.size, 0, none⟩) [a, b] :=
  .inr ⟨w.heap.size, 0, rfl, by simp, fun k hk => by
    have h := Blk.new w T #[.int .i64 a, .int .i64 b]
    match k, hk with
    | 0, _ => exact h.at 0 rfl
    | 1, _ => exact h.at 1 rfl⟩
theorem RdI.one (w : World) (a : Int) (T : TypeId) : RdI (w.alloc (.cells #[.int .i64 a] T)) (some ⟨w.heap.size, 0, none⟩) [a] :=
  .inr ⟨w.heap.size, 0, rfl, by simp, fun k hk => by
    have h := Blk.new w T #[.int .i64 a]
    match k, hk with
    | 0, _ => exact h.at 0 rfl⟩

end Go.Proofs.Ytjcajidgaejhoaa

namespace Go.Proofs.Ytjcajidgaejhoaa
open Go.RowKit
set_option linter.unusedSimpArgs false
set_option linter.unusedVariables false

/-- A sum of numbers from 0 on, held at 2^40. -/
def satTo : Int → List Int → Int
  | n, [] => n
  | n, x :: xs => if 1099511627776 < n ∨ 1099511627776 - n < x then 1099511627776 else satTo (n + x) xs

set_option maxHeartbeats 400000 in
theorem sat_any (n : Int) (a : Option Addr) (cap : Nat) (xs : List Int) (w : World) (h0 : 0 ≤ n) (h1 : n ≤ 1099511627776) (hx : RdI w a xs) (hl : xs.length ≤ 1073741824) (hp : ∀ x ∈ xs, 0 ≤ x ∧ x ≤ 9223372036854775807) :
    Calls Try.prog 12 #[.int .i64 n, .slice a xs.length cap] w fun e w' => e = .returned (.int .i64 (satTo n xs)) ∧ w' = w := by
  have HX := Lib.hid hx
  have HP := Lib.hid hp
  generalize hr : satTo n xs = r
  have HR := Lib.hid hr
  clear hx hp hr
  go_enter Try.func12, Try.ntmps12
  go_wp2_with fail
  go_loop [0, 5] (fun v i => ∃ (k : Nat) (m : Int), k ≤ xs.length ∧ i = .int .i64 k ∧ v = .int .i64 m ∧ 0 ≤ m ∧ m ≤ 1099511627776 ∧ Hid (satTo m (xs.drop k) = r)) (fun _ i => xs.length - (intOf i).toNat)
  case atStart => exact ⟨0, n, Nat.zero_le _, rfl, rfl, h0, h1, HR.out⟩
  case round =>
    obtain ⟨k, m, hk, rfl, rfl, m0, m1, hq⟩ := hrel
    by_cases hlt : k < xs.length
    · obtain ⟨b, off, rfl, hc⟩ := HX.out.at hlt
      have hm : Hid (satTo m (xs.drop k) = r) := hq.out
      rw [List.drop_eq_getElem_cons hlt, satTo] at hm
      have hb := HP.out xs[k] (List.getElem_mem hlt)
      generalize xs[k] = x at *
      have x0 := hb.1
      have x1 := hb.2
      clear hb
      by_cases hov : 1099511627776 - m < x
      · rw [if_pos (.inr hov)] at hm
        have hm' := hm.out
        subst hm'
        clear hm
        go_wp2_with fail
        go_ret
        exact ⟨rfl, rfl⟩
      · rw [if_neg (by omega)] at hm
        go_wp2_with fail
        go_round
        case rel => exact ⟨k + 1, m + x, by omega, by go_num, rfl, by omega, by omega, hm⟩
        case measure => simp [intOf]; omega
    · have hkn : k = xs.length := by omega
      subst hkn
      have hm := hq.out
      rw [List.drop_length, satTo] at hm
      subst hm
      go_wp2_with fail
      go_ret
      exact ⟨rfl, rfl⟩

theorem sat_two (n x : Int) (h0 : 0 ≤ n) (h1 : n ≤ 1000) (hx : 0 ≤ x) : satTo n [x, 1] = if n + x + 1 ≤ 1099511627776 then n + x + 1 else 1099511627776 := by
  simp only [satTo]
  repeat' split
  all_goals omega

end Go.Proofs.Ytjcajidgaejhoaa

