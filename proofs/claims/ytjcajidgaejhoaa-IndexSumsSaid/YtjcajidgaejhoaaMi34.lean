/- The reference's Edge, Subset of one, Without. tansyref5.Subset: is each number of one list in another one? The reference's Without. -/
import Derived.Test.YtjcajidgaejhoaaMi30
import Derived.Test.YtjcajidgaejhoaaMi33
namespace Go.Proofs.Ytjcajidgaejhoaa
open Go.RowKit
set_option linter.unusedSimpArgs false
set_option linter.unusedVariables false

/-- The edge with a token. -/
def edOf (es : List Ed) (t : Int) : Option Ed := es.find? fun e => decide (e.tok = t)
def edV : Option Ed → Value
  | some e => .tuple #[.agg #[.int .i64 e.tok, .int .i64 e.src, .string e.lab, .int .i64 e.dst], .bool true]
  | none => .tuple #[.agg #[.int .i64 0, .int .i64 0, .string ⟨#[]⟩, .int .i64 0], .bool false]
theorem edOf_at {es : List Ed} {t : Int} {k : Nat} {e : Ed} (hk : es[k]? = some e) (h : e.tok = t) (hj : ∀ j f, j < k → es[j]? = some f → f.tok ≠ t) : edOf es t = some e := by
  unfold edOf
  rw [List.find?_eq_some_iff_getElem]
  obtain ⟨h1, h2⟩ := List.getElem?_eq_some_iff.1 hk
  exact ⟨by simpa using h, k, h1, h2, fun j hjk => by have := hj j es[j] hjk (by simp); simpa using this⟩
theorem edOf_none {es : List Ed} {t : Int} (hj : ∀ j f, j < es.length → es[j]? = some f → f.tok ≠ t) : edOf es t = none := by
  unfold edOf
  rw [List.find?_eq_none]
  intro f hf
  obtain ⟨j, hjl, rfl⟩ := List.getElem_of_mem hf
  have := hj j es[j] hjl (by simp)
  simpa using this
theorem edOf_edgeOf {es : List Ed} (hu : Up (es.map (·.tok))) (t : Int) : edV (edOf es t) = .tuple #[.agg #[.int .i64 (edgeOf es t).1.tok, .int .i64 (edgeOf es t).1.src, .string (edgeOf es t).1.lab, .int .i64 (edgeOf es t).1.dst], .bool (edgeOf es t).2] := by
  unfold edgeOf
  by_cases ht : t ∈ es.map (·.tok)
  · obtain ⟨h1, h2⟩ := rank_lt hu ht
    rw [List.length_map] at h1
    rw [if_pos ht]
    generalize rank (es.map (·.tok)) t = i at *
    rw [List.getElem?_map, List.getElem?_eq_getElem h1] at h2
    have h3 : es[i].tok = t := by simpa using h2
    have h4 := edOf_at (es := es) (t := t) (k := i) (e := es[i]) (by simp) h3 (fun j f hj hf => by
      obtain ⟨hjl, rfl⟩ := List.getElem?_eq_some_iff.1 hf
      have := List.pairwise_iff_getElem.1 hu j i (by simpa using hjl) (by simpa using h1) hj
      simp at this
      omega)
    rw [h4, List.getElem?_eq_getElem h1]
    rfl
  · rw [if_neg ht]
    have h4 := edOf_none (es := es) (t := t) (fun j f hj hf => fun e => ht (List.mem_map.2 ⟨f, List.mem_of_getElem? hf, e⟩))
    rw [h4]
    rfl
theorem edOf_some {es : List Ed} {t : Int} : (∃ e, edOf es t = some e) ↔ t ∈ es.map (·.tok) := by
  constructor
  · rintro ⟨e, he⟩
    unfold edOf at he
    have h1 := List.find?_some he
    have h2 := List.mem_of_find?_eq_some he
    exact List.mem_map.2 ⟨e, h2, by simpa using h1⟩
  · intro h
    obtain ⟨e, he, ht⟩ := List.mem_map.1 h
    cases hq : edOf es t with
    | some e => exact ⟨e, rfl⟩
    | none =>
      unfold edOf at hq
      rw [List.find?_eq_none] at hq
      have := hq e he
      simp [ht] at this
end Go.Proofs.Ytjcajidgaejhoaa

namespace Go.Proofs.Ytjcajidgaejhoaa
open Go.RowKit
set_option linter.unusedSimpArgs false
set_option linter.unusedVariables false

/-- A Bool tells whether P holds. -/
def MetB (b : Bool) (P : Prop) : Prop := b = true ↔ P
theorem MetB.t {P : Prop} (h : MetB true P) : P := Iff.mp h rfl
theorem MetB.f {P : Prop} (h : MetB false P) : ¬ P := fun p => by have := Iff.mpr h p; cases this
theorem MetB.mkT {P : Prop} (h : P) : MetB true P := ⟨fun _ => h, fun _ => rfl⟩
theorem MetB.mkF {P : Prop} (h : ¬ P) : MetB false P := ⟨(fun e => by cases e), fun p => absurd p h⟩
theorem mem_take_snoc {α : Type} {ys : List α} {c : Nat} {y x : α} (h : ys[c]? = some y) : x ∈ ys.take (c + 1) ↔ x ∈ ys.take c ∨ x = y := by
  rw [take_one' h]; simp
end Go.Proofs.Ytjcajidgaejhoaa

namespace Go.Proofs.Ytjcajidgaejhoaa
open Go.RowKit
set_option linter.unusedSimpArgs false
set_option linter.unusedVariables false

/-- What is read lies in blocks that are there. -/
theorem RF.in_heap {α : Type} {U : Nat → Prop} {w : World} {sz : Nat} {enc : α → List Value} {a : Option Addr} {xs : List α} (h : RF U w sz enc a xs) (h0 : ∀ x, 0 < (enc x).length) : RF (fun b => U b ∧ b < w.heap.size) w sz enc a xs := fun k x hx => by
  obtain ⟨b, off, h1, h2, h3⟩ := h k x hx
  have hc := h3 0 ((enc x)[0]'(h0 x)) (by simp [h0 x])
  exact ⟨b, off, h1, ⟨h2, World.block_lt_of_cell? w _ hc⟩, h3⟩
theorem RN.in_heap {U : Nat → Prop} {w : World} {a : Option Addr} {ns : List Nv} (h : RN U w a ns) : RN (fun b => U b ∧ b < w.heap.size) w a ns := fun k n hn => by
  obtain ⟨b, off, la, lc, pa, pc, h1, h2, h3, h4, h5, h6, h7⟩ := h k n hn
  exact ⟨b, off, la, lc, pa, pc, h1, ⟨h2, World.block_lt_of_cell? w _ h3⟩, h3, h4, h5, h6.in_heap (fun x => by rw [encS_len]; omega), h7.in_heap (fun x => by rw [pr_len]; omega)⟩
/-- The edges without some tokens. -/
def esWo (es : List Ed) (ts : List Int) : List Ed := es.filter fun e => !decide (e.tok ∈ ts)
theorem esWo_in {es : List Ed} {ts : List Int} {k : Nat} {e : Ed} (h : es[k]? = some e) (hm : e.tok ∈ ts) : esWo (es.take (k + 1)) ts = esWo (es.take k) ts := by
  rw [take_one' h]; simp [esWo, List.filter_append, hm]
theorem esWo_out {es : List Ed} {ts : List Int} {k : Nat} {e : Ed} (h : es[k]? = some e) (hm : e.tok ∉ ts) : esWo (es.take (k + 1)) ts = esWo (es.take k) ts ++ [e] := by
  rw [take_one' h]; simp [esWo, List.filter_append, hm]
theorem esWo_len (es : List Ed) (ts : List Int) : (esWo es ts).length ≤ es.length := List.length_filter_le _ _

/-- What Without ends in: old nodes, new edges. -/
def WoEnd (U : Nat → Prop) (an : Option Addr) (nc : Nat) (x : Gx) (w : World) (e : Ending) (w' : World) : Prop := ∃ ae ec, e = .returned (.agg #[.slice an x.ns.length nc, .slice ae x.es.length ec, .int .i64 x.next]) ∧ RG (fun b => U b ∨ (w.heap.size ≤ b ∧ b < w'.heap.size)) w' (.agg #[.slice an x.ns.length nc, .slice ae x.es.length ec, .int .i64 x.next]) x ∧ Frame [] w w'
end Go.Proofs.Ytjcajidgaejhoaa

