/- slices.IndexFunc, ContainsFunc over []int. -/
import Derived.Test.YtjcajidgaejhoaaGreatMi02
namespace Go.Proofs.YtjcajidgaejhoaaGreat
open Go.RowKit
set_option linter.unusedSimpArgs false
set_option linter.unusedVariables false

/-- A slice of ints, as it is read: nothing, or cells in a row. -/
def RdI (w : World) (a : Option Addr) (xs : List Int) : Prop :=
  xs = [] ∨ ∃ b off, a = some ⟨b, off, none⟩ ∧ b < w.heap.size ∧ ∀ k (h : k < xs.length), w.cell? ⟨b, off + k, none⟩ = some (.int .i64 xs[k])
theorem RdI.frame {w w' : World} {a : Option Addr} {xs : List Int} (h : RdI w a xs) (f : Frame [] w w') : RdI w' a xs := by
  rcases h with h | ⟨b, off, h1, h2, h3⟩
  · exact .inl h
  · exact .inr ⟨b, off, h1, Nat.lt_of_lt_of_le h2 f.size, fun k h => f.cell (h3 k h) (by simp)⟩
theorem RdI.at {w : World} {a : Option Addr} {xs : List Int} (h : RdI w a xs) {k : Nat} (hk : k < xs.length) : ∃ b off, a = some ⟨b, off, none⟩ ∧ w.cell? ⟨b, off + k, none⟩ = some (.int .i64 xs[k]) := by
  rcases h with h | ⟨b, off, h1, h2, h3⟩
  · subst h; simp at hk
  · exact ⟨b, off, h1, h3 k hk⟩

/-- A function value that tells a Bool of an int, and writes nothing that was there. -/
def TellsI (w : World) (K : Nat) (caps : Array Value) (p : Int → Bool) : Prop :=
  Entered K ∧ ∀ w', Frame [] w w' → ∀ n : Int, Calls Tryz.prog K (#[.int .i64 n] ++ caps) w' fun e w'' => e = .returned (.bool (p n)) ∧ Frame [] w' w''

def idxI (p : Int → Bool) (xs : List Int) : Int := match xs.findIdx? p with | some k => k | none => -1

theorem idxI_at {p : Int → Bool} {xs : List Int} {k : Nat} (hk : k < xs.length) (h : ∀ j (hj : j < k), p xs[j] = false) (hp : p xs[k] = true) : idxI p xs = k := by
  have : xs.findIdx? p = some k := by
    rw [List.findIdx?_eq_some_iff_getElem]
    exact ⟨hk, hp, fun j hj => by simp [h j hj]⟩
  simp [idxI, this]
theorem idxI_none {p : Int → Bool} {xs : List Int} (h : ∀ j (hj : j < xs.length), p xs[j] = false) : idxI p xs = -1 := by
  have : xs.findIdx? p = none := by
    rw [List.findIdx?_eq_none_iff]
    intro x hx
    obtain ⟨j, hj, rfl⟩ := List.getElem_of_mem hx
    exact h j hj
  simp [idxI, this]

end Go.Proofs.YtjcajidgaejhoaaGreat

