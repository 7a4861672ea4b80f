/- A slice wherever it lies, as it is read; calls that answer by a Bool. -/
import Derived.Test.YtbnhhmejlglbcaaGreatMa09
namespace Go.Proofs.YtbnhhmejlglbcaaGreat
open Go.RowKit
set_option linter.unusedSimpArgs false
set_option linter.unusedVariables false

/-- A slice whose elements are laid out by enc, read in blocks of U. -/
def RF {α : Type} (U : Nat → Prop) (w : World) (sz : Nat) (enc : α → List Value) (a : Option Addr) (xs : List α) : Prop :=
  ∀ k x, xs[k]? = some x → ∃ b off, a = some ⟨b, off, none⟩ ∧ U b ∧ ∀ j u, (enc x)[j]? = some u → w.cell? ⟨b, off + k * sz + j, none⟩ = some u
section
variable {α : Type} {U U' : Nat → Prop} {w w' : World} {sz : Nat} {enc : α → List Value} {a : Option Addr} {xs : List α} {S : List Nat}
theorem RF.frame (h : RF U w sz enc a xs) (f : Frame S w w') (hS : ∀ b, U b → b ∉ S) : RF U w' sz enc a xs := fun k x hx => by
  obtain ⟨b, off, h1, h2, h3⟩ := h k x hx
  exact ⟨b, off, h1, h2, fun j u hu => f.cell (h3 j u hu) (hS b h2)⟩
theorem RF.frame0 (h : RF U w sz enc a xs) (f : Frame [] w w') : RF U w' sz enc a xs := h.frame f (by simp)
theorem RF.mono (h : RF U w sz enc a xs) (hU : ∀ b, U b → U' b) : RF U' w sz enc a xs := fun k x hx => by
  obtain ⟨b, off, h1, h2, h3⟩ := h k x hx
  exact ⟨b, off, h1, hU b h2, h3⟩
theorem RF.nil (U : Nat → Prop) (w : World) (sz : Nat) (enc : α → List Value) (a : Option Addr) : RF U w sz enc a [] := fun k x hx => by simp at hx
/-- All that is read lies in one block. -/
theorem RF.one (h : RF U w sz enc a xs) : xs = [] ∨ ∃ b off, a = some ⟨b, off, none⟩ ∧ U b ∧ ∀ k x, xs[k]? = some x → ∀ j u, (enc x)[j]? = some u → w.cell? ⟨b, off + k * sz + j, none⟩ = some u := by
  cases xs with
  | nil => exact .inl rfl
  | cons y t =>
    right
    obtain ⟨b, off, h1, h2, _⟩ := h 0 y rfl
    refine ⟨b, off, h1, h2, fun k x hx => ?_⟩
    obtain ⟨b', off', h1', _, h3⟩ := h k x hx
    rw [h1] at h1'
    simp at h1'
    obtain ⟨rfl, rfl⟩ := h1'
    exact h3
theorem Sl.rf {e cap n : Nat} {G : List Nat} (h : Sl w e sz enc (.slice a n cap) xs G) (hsz : ∀ x, (enc x).length = sz) (hU : ∀ x ∈ G, U x) : RF U w sz enc a xs := fun k x hx => by
  obtain ⟨b, c, h1, h2, _, h4⟩ := h.cell hsz hx
  injection h1 with h1 _ _
  exact ⟨b, 0, h1, hU b (by simp [h2]), fun j u hu => by rw [Nat.zero_add]; exact h4 j u hu⟩
end

/-- A call that answers whether P holds, and writes nothing that was there. -/
def Ans (P : Prop) (w : World) (e : Ending) (w' : World) : Prop := ∃ b, e = .returned (.bool b) ∧ (b = true ↔ P) ∧ Frame [] w w'
theorem Ans.yes {P : Prop} {w : World} {f : Nat} {args : Array Value} (h : Calls Tryz.prog f args w (Ans P w)) (hp : P) : Calls Tryz.prog f args w fun e w' => e = .returned (.bool true) ∧ Frame [] w w' :=
  h.mono fun e w' ⟨b, he, hb, f⟩ => ⟨by rw [he, hb.2 hp], f⟩
theorem Ans.no {P : Prop} {w : World} {f : Nat} {args : Array Value} (h : Calls Tryz.prog f args w (Ans P w)) (hp : ¬ P) : Calls Tryz.prog f args w fun e w' => e = .returned (.bool false) ∧ Frame [] w w' :=
  h.mono fun e w' ⟨b, he, hb, f⟩ => ⟨by
    cases b with
    | true => exact absurd (hb.1 rfl) hp
    | false => exact he, f⟩
theorem Ans.mkT {P : Prop} {w w' : World} (h : P) (f : Frame [] w w') : Ans P w (.returned (.bool true)) w' := ⟨true, rfl, by simp [h], f⟩
theorem Ans.mkF {P : Prop} {w w' : World} (h : ¬ P) (f : Frame [] w w') : Ans P w (.returned (.bool false)) w' := ⟨false, rfl, by simp [h], f⟩
theorem take_one' {α : Type} {js : List α} {i : Nat} {j : α} (hj : js[i]? = some j) : js.take (i + 1) = js.take i ++ [j] := by
  rw [List.take_add_one, hj]; rfl
/-- A Bool tells whether P holds. -/
def MetB (b : Bool) (P : Prop) : Prop := b = true ↔ P
theorem MetB.t {P : Prop} (h : MetB true P) : P := Iff.mp h rfl
theorem MetB.f {P : Prop} (h : MetB false P) : ¬ P := fun p => by have := Iff.mpr h p; cases this
theorem MetB.mkT {P : Prop} (h : P) : MetB true P := ⟨fun _ => h, fun _ => rfl⟩
theorem MetB.mkF {P : Prop} (h : ¬ P) : MetB false P := ⟨(fun e => by cases e), fun p => absurd p h⟩
theorem mem_take_snoc {α : Type} {ys : List α} {c : Nat} {y x : α} (h : ys[c]? = some y) : x ∈ ys.take (c + 1) ↔ x ∈ ys.take c ∨ x = y := by
  rw [take_one' h]; simp
end Go.Proofs.YtbnhhmejlglbcaaGreat

