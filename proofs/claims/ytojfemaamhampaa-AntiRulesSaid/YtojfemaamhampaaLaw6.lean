/- What the laws of tansylaw5 share: families in blocks of their own. -/
import Derived.Test.YtojfemaamhampaaLaw5
namespace Go.Proofs.Ytojfemaamhampaa
open Go.RowKit
set_option linter.unusedSimpArgs false
set_option linter.unusedVariables false

theorem FV.old {w : World} {v : Value} {f : List (List Int)} (h : FV w v f) : FVU (fun b => b < w.heap.size) w v f := by
  obtain ⟨a, c, vs, h1, h2, h3⟩ := h
  exact ⟨a, c, vs, h1, h2.rf.mono fun b hb => ⟨hb, hb⟩, fun s hs => (h2.ok s hs).old.mono fun b hb => hb.2, h3⟩
/-- A family whose cells all lie in blocks of U. -/
structure FamQ (U : Nat → Prop) (w : World) (a : Option Addr) (n c : Nat) (f : List (List Int)) (N M : Nat) : Prop where
  v : FVU U w (.agg #[.slice a n c]) f
  up : Ups f
  le : f.length ≤ N
  sh : ∀ s ∈ f, s.length ≤ M
theorem FamQ.frame {U : Nat → Prop} {w w' : World} {a : Option Addr} {n c N M : Nat} {f : List (List Int)} {S : List Nat} (h : FamQ U w a n c f N M) (k : Frame S w w') (hS : ∀ b, U b → b ∉ S) : FamQ U w' a n c f N M := ⟨h.v.frame k hS, h.up, h.le, h.sh⟩
theorem FamQ.fam {U : Nat → Prop} {w : World} {a : Option Addr} {n c N M : Nat} {f : List (List Int)} (h : FamQ U w a n c f N M) : FamV w a n c f N M := ⟨h.v.fv, h.up, h.le, h.sh⟩
theorem FamV.old {w : World} {a : Option Addr} {n c N M : Nat} {f : List (List Int)} (h : FamV w a n c f N M) : FamQ (fun b => b < w.heap.size) w a n c f N M := ⟨h.v.old, h.up, h.le, h.sh⟩
theorem FamQ.len {U : Nat → Prop} {w : World} {a : Option Addr} {n c N M : Nat} {f : List (List Int)} (h : FamQ U w a n c f N M) : n = f.length := by
  obtain ⟨a', c', vs, h1, h2, h3, h4⟩ := h.v
  simp only [Value.agg.injEq, Array.mk.injEq, List.cons.injEq, and_true, Value.slice.injEq] at h1
  rw [h1.2.1, ← h4, List.length_map]
def NewEnd (f : List (List Int)) (N M : Nat) (w : World) (e : Ending) (w' : World) : Prop := ∃ a c, e = .returned (.tuple #[.agg #[.slice a f.length c], .int .i64 0]) ∧ FamQ (fun b => w.heap.size ≤ b) w' a f.length c f N M ∧ Frame [] w w'
def AnyEnd (w : World) (e : Ending) (w' : World) : Prop := ∃ a n c k, e = .returned (.tuple #[.agg #[.slice a n c], .int .i64 k]) ∧ Frame [] w w'
section
variable {a b : Option Addr} {n m c d N M P Q : Nat} {f g : List (List Int)} {w : World}
theorem plus_new (hf : FamV w a n c f N P) (hg : FamV w b m d g M P) (hN : N + M ≤ 5000) (budget : Int) (hb : ((plusL f g).length : Int) ≤ budget) :
    Calls Try.prog 19 #[.agg #[.slice a n c], .agg #[.slice b m d], .int .i64 budget] w (NewEnd (plusL f g) (N + M) P w) := by
  have h1 := plus_len f g
  have h2 := hf.le
  have h3 := hg.le
  refine (aplus_ok _ _ f g budget w hf.v hg.v hf.up hg.up (by omega) (by omega) hb (by omega)).mono ?_
  rintro e w' ⟨v, rfl, hv, fr⟩
  obtain ⟨a', n', c', rfl⟩ := hv.fv.parts
  have q : FamQ (fun b => w.heap.size ≤ b) w' a' n' c' (plusL f g) (N + M) P := ⟨hv, plus_ups f g, by omega, plus_short hf.sh hg.sh⟩
  obtain rfl := q.len
  exact ⟨a', c', rfl, q, fr⟩
theorem times_new (hf : FamV w a n c f N P) (hg : FamV w b m d g M Q) (hN : N * M ≤ 5000) (hN1 : N ≤ 100000) (hM1 : M ≤ 100000) (hP : P ≤ 500) (hQ : Q ≤ 500) (budget : Int) (hb : ((timesL f g).length : Int) ≤ budget) :
    Calls Try.prog 21 #[.agg #[.slice a n c], .agg #[.slice b m d], .int .i64 budget] w (NewEnd (timesL f g) (N * M) (P + Q) w) := by
  have h1 := times_len f g
  have h2 := hf.le
  have h3 := hg.le
  have h4 : f.length * g.length ≤ N * M := Nat.mul_le_mul h2 h3
  refine (atimes_ok _ _ f g budget w hf.v hg.v hf.up hg.up ⟨by omega, by omega, by omega⟩ ⟨fun s hs => Nat.le_trans (hf.sh s hs) hP, fun s hs => Nat.le_trans (hg.sh s hs) hQ⟩ hb (by omega)).mono ?_
  rintro e w' ⟨v, rfl, hv, fr⟩
  obtain ⟨a', n', c', rfl⟩ := hv.fv.parts
  have q : FamQ (fun b => w.heap.size ≤ b) w' a' n' c' (timesL f g) (N * M) (P + Q) := ⟨hv, times_ups f g, by omega, times_short hf.sh hg.sh⟩
  obtain rfl := q.len
  exact ⟨a', c', rfl, q, fr⟩
def BailEnd (w : World) (e : Ending) (w' : World) : Prop := e = .returned (.tuple #[.agg #[.slice none 0 0], .int .i64 10]) ∧ Frame [] w w'
theorem plus_over (hf : FamV w a n c f N P) (hg : FamV w b m d g M P) (hN : N + M ≤ 5000) (budget : Int) (hb : budget < ((plusL f g).length : Int)) :
    Calls Try.prog 19 #[.agg #[.slice a n c], .agg #[.slice b m d], .int .i64 budget] w (BailEnd w) := by
  have h2 := hf.le
  have h3 := hg.le
  exact aplus_bail _ _ f g budget w hf.v hg.v hf.up hg.up (by omega) (by omega) (by omega)
theorem times_over (hf : FamV w a n c f N P) (hg : FamV w b m d g M Q) (hN : N * M ≤ 5000) (hN1 : N ≤ 100000) (hM1 : M ≤ 100000) (hP : P ≤ 500) (hQ : Q ≤ 500) (budget : Int) (hb : budget < ((timesL f g).length : Int)) :
    Calls Try.prog 21 #[.agg #[.slice a n c], .agg #[.slice b m d], .int .i64 budget] w (BailEnd w) := by
  have h2 := hf.le
  have h3 := hg.le
  have h4 : f.length * g.length ≤ N * M := Nat.mul_le_mul h2 h3
  exact atimes_bail _ _ f g budget w hf.v hg.v hf.up hg.up ⟨by omega, by omega, by omega⟩ ⟨fun s hs => Nat.le_trans (hf.sh s hs) hP, fun s hs => Nat.le_trans (hg.sh s hs) hQ⟩ (by omega)
theorem plus_all (hf : FamV w a n c f N P) (hg : FamV w b m d g M P) (hN : N + M ≤ 5000) (budget : Int) :
    Calls Try.prog 19 #[.agg #[.slice a n c], .agg #[.slice b m d], .int .i64 budget] w (AnyEnd w) := by
  by_cases h : ((plusL f g).length : Int) ≤ budget
  · exact (plus_new hf hg hN budget h).mono fun e w' ⟨a, c, he, _, fr⟩ => ⟨a, _, c, _, he, fr⟩
  · exact (plus_over hf hg hN budget (by omega)).mono fun e w' ⟨he, fr⟩ => ⟨_, _, _, _, he, fr⟩
end
end Go.Proofs.Ytojfemaamhampaa
