/- tansyalike.Sum: a sum, held at a limit. Arguments that are slices, as lists. tansylaw13: steps, and small. -/
import Derived.Test.YtbnhhmejlglbcaaMg05
import Derived.Test.YtbnhhmejlglbcaaMg04
import Derived.ProofKit
import Derived.Deep.Slices
namespace Go.Proofs.Ytbnhhmejlglbcaa
open Go.RowKit
set_option linter.unusedSimpArgs false
set_option linter.unusedVariables false

/-- A sum of numbers from 0 on, held at 2^40. -/
def satTo : Int → List Int → Int
  | n, [] => n
  | n, x :: xs => if 1099511627776 < n ∨ 1099511627776 - n < x then 1099511627776 else satTo (n + x) xs

theorem sat_two (n x : Int) (h0 : 0 ≤ n) (h1 : n ≤ 1000) (hx : 0 ≤ x) : satTo n [x, 1] = if n + x + 1 ≤ 1099511627776 then n + x + 1 else 1099511627776 := by
  simp only [satTo]
  repeat' split
  all_goals omega

end Go.Proofs.Ytbnhhmejlglbcaa

namespace Go.Proofs.Ytbnhhmejlglbcaa
open Go.RowKit
set_option linter.unusedSimpArgs false
set_option linter.unusedVariables false

/-- A slice of laid-out elements, as it is read. -/
def RdS {α : Type} (w : World) (sz : Nat) (enc : α → List Value) (ok : World → α → Prop) (a : Option Addr) (xs : List α) : Prop :=
  xs = [] ∨ ∃ b off, a = some ⟨b, off, none⟩ ∧ b < w.heap.size ∧ ∀ k (h : k < xs.length), (∀ j u, (enc xs[k])[j]? = some u → w.cell? ⟨b, off + k * sz + j, none⟩ = some u) ∧ ok w xs[k]

section
variable {α : Type} {w w' : World} {sz : Nat} {enc : α → List Value} {ok : World → α → Prop} {a : Option Addr} {xs : List α}
theorem RdS.frame (h : RdS w sz enc ok a xs) (f : Frame [] w w') (hok : ∀ x, ok w x → ok w' x) : RdS w' sz enc ok a xs := by
  rcases h with h | ⟨b, off, h1, h2, h3⟩
  · exact .inl h
  · exact .inr ⟨b, off, h1, Nat.lt_of_lt_of_le h2 f.size, fun k hk => ⟨fun j u hu => f.cell ((h3 k hk).1 j u hu) (by simp), hok _ (h3 k hk).2⟩⟩
theorem RdS.at (h : RdS w sz enc ok a xs) {k : Nat} (hk : k < xs.length) : ∃ b off, a = some ⟨b, off, none⟩ ∧ (∀ j u, (enc xs[k])[j]? = some u → w.cell? ⟨b, off + k * sz + j, none⟩ = some u) ∧ ok w xs[k] := by
  rcases h with h | ⟨b, off, h1, h2, h3⟩
  · subst h; simp at hk
  · exact ⟨b, off, h1, h3 k hk⟩
theorem RdS.ok_all (h : RdS w sz enc ok a xs) : ∀ x ∈ xs, ok w x := by
  intro x hx
  obtain ⟨k, hk, rfl⟩ := List.getElem_of_mem hx
  obtain ⟨_, _, _, _, h⟩ := h.at hk
  exact h
end

section
variable {H : Type} {encH : TypeId × Value → H} {P : Program} {w : World} {spare : Nat → Bool} {held : Bool}

theorem choose_list {α : Type} {n : Nat} {p : Nat → α → Prop} (h : ∀ k, k < n → ∃ x, p k x) : ∃ xs : List α, xs.length = n ∧ ∀ k (hk : k < xs.length), p k xs[k] := by
  induction n with
  | zero => exact ⟨[], rfl, fun k hk => by simp at hk⟩
  | succ n ih =>
    obtain ⟨xs, h1, h2⟩ := ih (fun k hk => h k (by omega))
    obtain ⟨x, hx⟩ := h n (by omega)
    refine ⟨xs ++ [x], by simp [h1], fun k hk => ?_⟩
    by_cases e : k < xs.length
    · rw [List.getElem_append_left e]; exact h2 k e
    · have : k = n := by simp at hk; omega
      subst this
      rw [List.getElem_append_right (by omega)]
      simpa using hx

/-- A slice that is read as data is a list of elements. -/
theorem open_list {α : Type} {t e sz fuel : Nat} {a0 : Option Addr} {len0 cap0 : Nat} {x : DataW H × List MemPlace} (enc : α → List Value) (ok : World → α → Prop) (ht : P.underlying t = some (.slice e)) (hsz : P.cellsOf e = sz) (h0 : 0 < sz)
    (elem : ∀ n cs y, DataW.trod encH P w 0 spare held n e cs = some y → ∃ z : α, cs = enc z ∧ ok w z) (h : DataW.trod encH P w 0 spare held fuel t [.slice a0 len0 cap0] = some x) :
    ∃ (xs : List α), len0 = xs.length ∧ RdS w sz enc ok a0 xs ∧ xs.length ≤ cap0 ∧ cap0 ≤ maxLen := by
  rcases Deep.open_slice ht h with ⟨hc, _⟩ | ⟨a, len, cap, m, n, D, Pl, hc, _, hl, hm, hmm, _, hx⟩
  · simp at hc
    obtain ⟨rfl, rfl, rfl⟩ := hc
    exact ⟨[], rfl, .inl rfl, by simp, by simp [maxLen]⟩
  · simp at hc
    obtain ⟨rfl, rfl, rfl⟩ := hc
    have hlm : len0 ≤ m := by rw [hmm]; split <;> omega
    rw [hsz] at hx
    obtain ⟨xs, hxl, hxs⟩ := choose_list (α := α) (n := len0) (p := fun k z => (∀ j u, (enc z)[j]? = some u → w.cell? ((a.add (k * sz)).add j) = some u) ∧ (enc z).length = sz ∧ ok w z) (fun k hk => by
      obtain ⟨cs', h1, h2⟩ := hx k (by omega)
      obtain ⟨z, rfl, hz⟩ := elem _ _ _ h2
      obtain ⟨_, hlen, hcell⟩ := World.cells?_some h1
      exact ⟨z, fun j u hu => by rw [hcell j (by have := (List.getElem?_eq_some_iff.1 hu).1; omega), hu], hlen, hz⟩)
    refine ⟨xs, hxl.symm, ?_, by omega, hm⟩
    rcases Nat.eq_zero_or_pos len0 with h1 | h1
    · left; exact List.eq_nil_of_length_eq_zero (by omega)
    · right
      obtain ⟨hc0, hl0, _⟩ := hxs 0 (by omega)
      have hne : (enc (xs[0]'(by omega)))[0]? = some ((enc (xs[0]'(by omega)))[0]'(by omega)) := by simp
      have c0 := hc0 0 _ hne
      have hsp : a.spot = none := by
        rw [Nat.zero_mul] at c0
        simp only [Addr.add, if_true] at c0
        cases hs : a.spot with
        | none => rfl
        | some s =>
          exfalso
          unfold World.cell? at c0
          split at c0
          · simp [hs] at c0
          · cases c0
      obtain ⟨b, off, sp⟩ := a
      simp at hsp; subst hsp
      refine ⟨b, off, rfl, ?_, fun k hk => ?_⟩
      · have := World.block_lt_of_cell? w _ c0
        simpa [Addr.add] using this
      · obtain ⟨q1, _, q3⟩ := hxs k hk
        refine ⟨fun j u hu => ?_, q3⟩
        have := q1 j u hu
        rwa [show ((⟨b, off, none⟩ : Addr).add (k * sz)).add j = ⟨b, off + k * sz + j, none⟩ from by
          unfold Addr.add; split <;> split <;> simp_all] at this

theorem elem_int {n e : Nat} (he : P.underlying e = some (.int .i64)) {cs : List Value} {y : DataW H × List MemPlace} (h : DataW.trod encH P w 0 spare held n e cs = some y) : ∃ z : Int, cs = [.int .i64 z] ∧ (-9223372036854775808 ≤ z ∧ z ≤ 9223372036854775807) := by
  obtain ⟨z, rfl, _, hw⟩ := DataW.trod_int he h
  refine ⟨z, rfl, ?_⟩
  simp [Lit.wf, IntKind.min, IntKind.max, IntKind.signed, IntKind.bits] at hw
  omega

def okI (_ : World) (z : Int) : Prop := -9223372036854775808 ≤ z ∧ z ≤ 9223372036854775807
theorem RdS.ints {a : Option Addr} {xs : List Int} (h : RdS w 1 (fun z => [.int .i64 z]) okI a xs) : RdI w a xs := by
  rcases h with h | ⟨b, off, h1, h2, h3⟩
  · exact .inl h
  · exact .inr ⟨b, off, h1, h2, fun k hk => by have := (h3 k hk).1 0 _ rfl; simpa using this⟩

end
end Go.Proofs.Ytbnhhmejlglbcaa

namespace Go.Proofs.Ytbnhhmejlglbcaa
open Go.RowKit
set_option linter.unusedSimpArgs false
set_option linter.unusedVariables false

/-- A step, as it lies in memory. -/
structure Stp where
  kind : Int
  a : Int
  b : Int
  la : Option Addr
  lcap : Nat
  l : List Int
def Stp.enc (s : Stp) : List Value := [.int .i64 s.kind, .int .i64 s.a, .int .i64 s.b, .slice s.la s.l.length s.lcap]
def Stp.ok (w : World) (s : Stp) : Prop := okI w s.kind ∧ okI w s.a ∧ okI w s.b ∧ RdI w s.la s.l ∧ s.l.length ≤ 9223372036854775807
theorem Stp.ok_frame {w w' : World} (f : Frame [] w w') (s : Stp) (h : s.ok w) : s.ok w' := ⟨h.1, h.2.1, h.2.2.1, h.2.2.2.1.frame f, h.2.2.2.2⟩

/-- Are so many steps looked at? -/
def smallB (xs : List Stp) : Bool := decide ((xs.map fun s => (s.l.length : Int) + 1).sum ≤ 1000) && decide (xs.length ≤ 250)

end Go.Proofs.Ytbnhhmejlglbcaa

