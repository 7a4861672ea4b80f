/- A graph that is told, as it is read: its slices wherever they lie. -/
import Derived.Test.YtjcajidgaejhoaaGreatMi14
namespace Go.Proofs.YtjcajidgaejhoaaGreat
open Go.RowKit
set_option linter.unusedSimpArgs false
set_option linter.unusedVariables false

/-- A slice whose elements are laid out by enc, read in blocks of U. -/
def RF {α : Type} (U : Nat → Prop) (w : World) (sz : Nat) (enc : α → List Value) (a : Option Addr) (xs : List α) : Prop :=
  ∀ k x, xs[k]? = some x → ∃ b off, a = some ⟨b, off, none⟩ ∧ U b ∧ ∀ j u, (enc x)[j]? = some u → w.cell? ⟨b, off + k * sz + j, none⟩ = some u
section
variable {α : Type} {U U' : Nat → Prop} {w w' : World} {sz : Nat} {enc : α → List Value} {a : Option Addr} {xs : List α} {S : List Nat}
theorem RF.frame (h : RF U w sz enc a xs) (f : Frame S w w') (hS : ∀ b, U b → b ∉ S) : RF U w' sz enc a xs := fun k x hx => by
  obtain ⟨b, off, h1, h2, h3⟩ := h k x hx
  exact ⟨b, off, h1, h2, fun j u hu => f.cell (h3 j u hu) (hS b h2)⟩
theorem RF.frame0 (h : RF U w sz enc a xs) (f : Frame [] w w') : RF U w' sz enc a xs := h.frame f (by simp)
theorem RF.mono (h : RF U w sz enc a xs) (hU : ∀ b, U b → U' b) : RF U' w sz enc a xs := fun k x hx => by
  obtain ⟨b, off, h1, h2, h3⟩ := h k x hx
  exact ⟨b, off, h1, hU b h2, h3⟩
theorem RF.nil (U : Nat → Prop) (w : World) (sz : Nat) (enc : α → List Value) (a : Option Addr) : RF U w sz enc a [] := fun k x hx => by simp at hx
/-- All that is read lies in one block. -/
theorem RF.one (h : RF U w sz enc a xs) : xs = [] ∨ ∃ b off, a = some ⟨b, off, none⟩ ∧ U b ∧ ∀ k x, xs[k]? = some x → ∀ j u, (enc x)[j]? = some u → w.cell? ⟨b, off + k * sz + j, none⟩ = some u := by
  cases xs with
  | nil => exact .inl rfl
  | cons y t =>
    right
    obtain ⟨b, off, h1, h2, _⟩ := h 0 y rfl
    refine ⟨b, off, h1, h2, fun k x hx => ?_⟩
    obtain ⟨b', off', h1', _, h3⟩ := h k x hx
    rw [h1] at h1'
    simp at h1'
    obtain ⟨rfl, rfl⟩ := h1'
    exact h3
theorem Sl.rf {e cap n : Nat} {G : List Nat} (h : Sl w e sz enc (.slice a n cap) xs G) (hsz : ∀ x, (enc x).length = sz) (hU : ∀ x ∈ G, U x) : RF U w sz enc a xs := fun k x hx => by
  obtain ⟨b, c, h1, h2, _, h4⟩ := h.cell hsz hx
  injection h1 with h1 _ _
  exact ⟨b, 0, h1, hU b (by simp [h2]), fun j u hu => by rw [Nat.zero_add]; exact h4 j u hu⟩
end

/-- Nodes by their values, as they are read. -/
def RN (U : Nat → Prop) (w : World) (a : Option Addr) (ns : List Nv) : Prop :=
  ∀ k n, ns[k]? = some n → ∃ b off la lc pa pc, a = some ⟨b, off, none⟩ ∧ U b ∧ w.cell? ⟨b, off + k * 3, none⟩ = some (.int .i64 n.1) ∧ w.cell? ⟨b, off + k * 3 + 1, none⟩ = some (.slice la n.2.1.length lc) ∧ w.cell? ⟨b, off + k * 3 + 2, none⟩ = some (.slice pa n.2.2.length pc) ∧
    RF U w 1 encS la n.2.1 ∧ RF U w 2 Pr.cs pa n.2.2
section
variable {U U' : Nat → Prop} {w w' : World} {a : Option Addr} {ns : List Nv} {S : List Nat}
theorem RN.frame (h : RN U w a ns) (f : Frame S w w') (hS : ∀ b, U b → b ∉ S) : RN U w' a ns := fun k n hn => by
  obtain ⟨b, off, la, lc, pa, pc, h1, h2, h3, h4, h5, h6, h7⟩ := h k n hn
  exact ⟨b, off, la, lc, pa, pc, h1, h2, f.cell h3 (hS b h2), f.cell h4 (hS b h2), f.cell h5 (hS b h2), h6.frame f hS, h7.frame f hS⟩
theorem RN.frame0 (h : RN U w a ns) (f : Frame [] w w') : RN U w' a ns := h.frame f (by simp)
theorem RN.mono (h : RN U w a ns) (hU : ∀ b, U b → U' b) : RN U' w a ns := fun k n hn => by
  obtain ⟨b, off, la, lc, pa, pc, h1, h2, h3, h4, h5, h6, h7⟩ := h k n hn
  exact ⟨b, off, la, lc, pa, pc, h1, hU b h2, h3, h4, h5, h6.mono hU, h7.mono hU⟩
theorem RN.nil (U : Nat → Prop) (w : World) (a : Option Addr) : RN U w a [] := fun k x hx => by simp at hx
theorem rn_of_sl {rs : List Rn} {cap n : Nat} {G : List Nat} (h : Sl w 41 3 Nd.cs (.slice a n cap) (rs.map (·.nd)) G) (hr : ∀ r ∈ rs, r.ok w) (hU : ∀ x ∈ G, U x) (hV : ∀ r ∈ rs, ∀ x ∈ r.bl, U x) : RN U w a (rs.map Rn.tell) := fun k n hn => by
  rw [List.getElem?_map] at hn
  obtain ⟨r, hr1, rfl⟩ := Option.map_eq_some_iff.1 hn
  have hm := List.mem_of_getElem? hr1
  have hx : (rs.map (·.nd))[k]? = some r.nd := by rw [List.getElem?_map, hr1]; rfl
  obtain ⟨b, off, h1, h2, h3⟩ := (h.rf nd_len hU) k _ hx
  have c0 := h3 0 _ rfl
  have c1 := h3 1 _ rfl
  have c2 := h3 2 _ rfl
  obtain ⟨⟨e1, e2, s1, s2, _⟩, _, _⟩ := hr r hm
  rw [e1] at c1
  rw [e2] at c2
  exact ⟨b, off, r.nd.la, r.nd.lc, r.nd.pa, r.nd.pc, h1, h2, by simpa [Rn.tell] using c0, c1, c2, s1.rf encS_len (fun x hx => hV r hm x (by simp [Rn.bl, hx])), s2.rf pr_len (fun x hx => hV r hm x (by simp [Rn.bl, hx]))⟩
end

/-- A graph that is told: nodes, edges, the next token. -/
structure Gx where
  ns : List Nv
  es : List Ed
  next : Int
/-- .. as a value that is handed on. -/
def RG (U : Nat → Prop) (w : World) (v : Value) (x : Gx) : Prop :=
  ∃ an nc ae ec, v = .agg #[.slice an x.ns.length nc, .slice ae x.es.length ec, .int .i64 x.next] ∧ RN U w an x.ns ∧ RF U w 4 Ed.cs ae x.es
section
variable {U U' : Nat → Prop} {w w' : World} {v : Value} {x : Gx} {S : List Nat}
theorem RG.frame (h : RG U w v x) (f : Frame S w w') (hS : ∀ b, U b → b ∉ S) : RG U w' v x := by
  obtain ⟨an, nc, ae, ec, h1, h2, h3⟩ := h
  exact ⟨an, nc, ae, ec, h1, h2.frame f hS, h3.frame f hS⟩
theorem RG.frame0 (h : RG U w v x) (f : Frame [] w w') : RG U w' v x := h.frame f (by simp)
theorem RG.mono (h : RG U w v x) (hU : ∀ b, U b → U' b) : RG U' w v x := by
  obtain ⟨an, nc, ae, ec, h1, h2, h3⟩ := h
  exact ⟨an, nc, ae, ec, h1, h2.mono hU, h3.mono hU⟩
end
/-- No list of a graph is long. -/
structure Gx.Short (x : Gx) : Prop where
  ns : x.ns.length ≤ 1000000
  es : x.es.length ≤ 1000000
  ls : ∀ n ∈ x.ns, n.2.1.length ≤ 1000000
  ps : ∀ n ∈ x.ns, n.2.2.length ≤ 1000000

/-- A call that answers whether P holds, and writes nothing that was there. -/
def Ans (P : Prop) (w : World) (e : Ending) (w' : World) : Prop := ∃ b, e = .returned (.bool b) ∧ (b = true ↔ P) ∧ Frame [] w w'
theorem Ans.yes {P : Prop} {w : World} {f : Nat} {args : Array Value} (h : Calls Tryz.prog f args w (Ans P w)) (hp : P) : Calls Tryz.prog f args w fun e w' => e = .returned (.bool true) ∧ Frame [] w w' :=
  h.mono fun e w' ⟨b, he, hb, f⟩ => ⟨by rw [he, hb.2 hp], f⟩
theorem Ans.no {P : Prop} {w : World} {f : Nat} {args : Array Value} (h : Calls Tryz.prog f args w (Ans P w)) (hp : ¬ P) : Calls Tryz.prog f args w fun e w' => e = .returned (.bool false) ∧ Frame [] w w' :=
  h.mono fun e w' ⟨b, he, hb, f⟩ => ⟨by
    cases b with
    | true => exact absurd (hb.1 rfl) hp
    | false => exact he, f⟩
theorem Ans.mkT {P : Prop} {w w' : World} (h : P) (f : Frame [] w w') : Ans P w (.returned (.bool true)) w' := ⟨true, rfl, by simp [h], f⟩
theorem Ans.mkF {P : Prop} {w w' : World} (h : ¬ P) (f : Frame [] w w') : Ans P w (.returned (.bool false)) w' := ⟨false, rfl, by simp [h], f⟩
end Go.Proofs.YtjcajidgaejhoaaGreat

