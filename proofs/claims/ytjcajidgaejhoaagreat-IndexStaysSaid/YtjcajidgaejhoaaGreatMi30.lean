/- The reference's Edge, Subset of one, Without. tansyref5.Subset: is each number of one list in another one? The reference's Without. -/
import Derived.Test.YtjcajidgaejhoaaGreatMi29
import Derived.Test.YtjcajidgaejhoaaGreatMi21
namespace Go.Proofs.YtjcajidgaejhoaaGreat
open Go.RowKit
set_option linter.unusedSimpArgs false
set_option linter.unusedVariables false

/-- The edge with a token. -/
def edOf (es : List Ed) (t : Int) : Option Ed := es.find? fun e => decide (e.tok = t)
def edV : Option Ed → Value
  | some e => .tuple #[.agg #[.int .i64 e.tok, .int .i64 e.src, .string e.lab, .int .i64 e.dst], .bool true]
  | none => .tuple #[.agg #[.int .i64 0, .int .i64 0, .string ⟨#[]⟩, .int .i64 0], .bool false]
theorem edOf_at {es : List Ed} {t : Int} {k : Nat} {e : Ed} (hk : es[k]? = some e) (h : e.tok = t) (hj : ∀ j f, j < k → es[j]? = some f → f.tok ≠ t) : edOf es t = some e := by
  unfold edOf
  rw [List.find?_eq_some_iff_getElem]
  obtain ⟨h1, h2⟩ := List.getElem?_eq_some_iff.1 hk
  exact ⟨by simpa using h, k, h1, h2, fun j hjk => by have := hj j es[j] hjk (by simp); simpa using this⟩
theorem edOf_none {es : List Ed} {t : Int} (hj : ∀ j f, j < es.length → es[j]? = some f → f.tok ≠ t) : edOf es t = none := by
  unfold edOf
  rw [List.find?_eq_none]
  intro f hf
  obtain ⟨j, hjl, rfl⟩ := List.getElem_of_mem hf
  have := hj j es[j] hjl (by simp)
  simpa using this
theorem edOf_edgeOf {es : List Ed} (hu : Up (es.map (·.tok))) (t : Int) : edV (edOf es t) = .tuple #[.agg #[.int .i64 (edgeOf es t).1.tok, .int .i64 (edgeOf es t).1.src, .string (edgeOf es t).1.lab, .int .i64 (edgeOf es t).1.dst], .bool (edgeOf es t).2] := by
  unfold edgeOf
  by_cases ht : t ∈ es.map (·.tok)
  · obtain ⟨h1, h2⟩ := rank_lt hu ht
    rw [List.length_map] at h1
    rw [if_pos ht]
    generalize rank (es.map (·.tok)) t = i at *
    rw [List.getElem?_map, List.getElem?_eq_getElem h1] at h2
    have h3 : es[i].tok = t := by simpa using h2
    have h4 := edOf_at (es := es) (t := t) (k := i) (e := es[i]) (by simp) h3 (fun j f hj hf => by
      obtain ⟨hjl, rfl⟩ := List.getElem?_eq_some_iff.1 hf
      have := List.pairwise_iff_getElem.1 hu j i (by simpa using hjl) (by simpa using h1) hj
      simp at this
      omega)
    rw [h4, List.getElem?_eq_getElem h1]
    rfl
  · rw [if_neg ht]
    have h4 := edOf_none (es := es) (t := t) (fun j f hj hf => fun e => ht (List.mem_map.2 ⟨f, List.mem_of_getElem? hf, e⟩))
    rw [h4]
    rfl
theorem edOf_some {es : List Ed} {t : Int} : (∃ e, edOf es t = some e) ↔ t ∈ es.map (·.tok) := by
  constructor
  · rintro ⟨e, he⟩
    unfold edOf at he
    have h1 := List.find?_some he
    have h2 := List.mem_of_find?_eq_some he
    exact List.mem_map.2 ⟨e, h2, by simpa using h1⟩
  · intro h
    obtain ⟨e, he, ht⟩ := List.mem_map.1 h
    cases hq : edOf es t with
    | some e => exact ⟨e, rfl⟩
    | none =>
      unfold edOf at hq
      rw [List.find?_eq_none] at hq
      have := hq e he
      simp [ht] at this
end Go.Proofs.YtjcajidgaejhoaaGreat

namespace Go.Proofs.YtjcajidgaejhoaaGreat
open Go.RowKit
set_option linter.unusedSimpArgs false
set_option linter.unusedVariables false

/-- A Bool tells whether P holds. -/
def MetB (b : Bool) (P : Prop) : Prop := b = true ↔ P
theorem MetB.t {P : Prop} (h : MetB true P) : P := Iff.mp h rfl
theorem MetB.f {P : Prop} (h : MetB false P) : ¬ P := fun p => by have := Iff.mpr h p; cases this
theorem MetB.mkT {P : Prop} (h : P) : MetB true P := ⟨fun _ => h, fun _ => rfl⟩
theorem MetB.mkF {P : Prop} (h : ¬ P) : MetB false P := ⟨(fun e => by cases e), fun p => absurd p h⟩
theorem mem_take_snoc {α : Type} {ys : List α} {c : Nat} {y x : α} (h : ys[c]? = some y) : x ∈ ys.take (c + 1) ↔ x ∈ ys.take c ∨ x = y := by
  rw [take_one' h]; simp
set_option maxHeartbeats 4000000 in
theorem subset_any (a1 a2 : Option Addr) (c1 c2 : Nat) (xs ys : List Int) (w : World) (h1 : RdI w a1 xs) (h2 : RdI w a2 ys) (l1 : xs.length ≤ 1000000) (l2 : ys.length ≤ 1000000) :
    Calls Tryz.prog 24 #[.slice a1 xs.length c1, .slice a2 ys.length c2] w (Ans (∀ x ∈ xs, x ∈ ys) w) := by
  have H1 := Lib.hid h1
  have H2 := Lib.hid h2
  clear h1 h2
  go_enter Tryz.func24, Tryz.ntmps24
  go_wp2_with fail
  go_loopw [5] (fun i wr => ∃ k : Nat, k ≤ xs.length ∧ i = .int .i64 k ∧ Hid (Frame [] w wr ∧ ∀ j x, j < k → xs[j]? = some x → x ∈ ys)) (fun i _ => xs.length - (intOf i).toNat)
  case atStart => exact ⟨0, Nat.zero_le _, rfl, Frame.refl _ _, fun j _ h => by omega⟩
  case round =>
    obtain ⟨k, hk, rfl, hR⟩ := hrel
    by_cases hlt : k < xs.length
    · have g1 : xs[k]? = some xs[k] := by simp [hlt]
      obtain ⟨b, off, rfl, hc⟩ := (H1.out.frame hR.out.1).at hlt
      generalize xs[k] = x at *
      have G1 := Lib.hid g1
      have HC := Lib.hid hc
      clear g1 hc
      go_wp2_with fail
      go_loopw [6, 7] (fun u v wq => ∃ (c : Nat) (met : Bool), c ≤ ys.length ∧ v = .int .i64 c ∧ u = .bool met ∧ Hid (Frame [] wr wq ∧ MetB met (x ∈ ys.take c))) (fun _ v _ => ys.length - (intOf v).toNat)
      case atStart => exact ⟨0, false, Nat.zero_le _, rfl, rfl, Frame.refl _ _, MetB.mkF (by simp)⟩
      case round =>
        obtain ⟨c, met, hcl, rfl, rfl, hQ⟩ := hrel
        rename World => wq
        by_cases hlt2 : c < ys.length
        · have g2 : ys[c]? = some ys[c] := by simp [hlt2]
          obtain ⟨b2, off2, rfl, hc2⟩ := (H2.out.frame (hR.out.1.trans1 hQ.out.1)).at hlt2
          have hc := hQ.out.1.cell HC.out (by simp)
          generalize ys[c] = y at *
          have G2 := Lib.hid g2
          clear g2
          cases met with
          | true =>
            go_wp2_with fail
            go_quiet (fail)
            go_wp2_with fail
            go_roundw
            case rel => exact ⟨c + 1, true, by omega, by first | rfl | go_num, rfl, Lib.hid ⟨hQ.out.1.trans1 (Frame.drewN _ _ _), MetB.mkT ((mem_take_snoc G2.out).2 (.inl hQ.out.2.t))⟩⟩
            case measure => first | (simp [intOf]; done) | (simp [intOf]; omega)
          | false =>
            by_cases hxy : x = y
            · have hb : (x == y) = true := by simp [hxy]
              have HX := Lib.hid hxy
              clear hxy
              go_wp2_with fail
              go_quiet (fail)
              go_wp2_with fail
              go_roundw
              case rel => exact ⟨c + 1, true, by omega, by first | rfl | go_num, rfl, Lib.hid ⟨hQ.out.1.trans1 (Frame.drewN _ _ _), MetB.mkT ((mem_take_snoc G2.out).2 (.inr HX.out))⟩⟩
              case measure => first | (simp [intOf]; done) | (simp [intOf]; omega)
            · have hb : (x == y) = false := by simp [hxy]
              have HX := Lib.hid hxy
              clear hxy
              go_wp2_with fail
              go_quiet (fail)
              go_wp2_with fail
              go_roundw
              case rel => exact ⟨c + 1, false, by omega, by first | rfl | go_num, rfl, Lib.hid ⟨hQ.out.1.trans1 (Frame.drewN _ _ _), MetB.mkF (fun h => ((mem_take_snoc G2.out).1 h).elim hQ.out.2.f HX.out)⟩⟩
              case measure => first | (simp [intOf]; done) | (simp [intOf]; omega)
        · obtain rfl : c = ys.length := by omega
          have hmem : Hid (MetB met (x ∈ ys)) := by
            show MetB met (x ∈ ys)
            have := hQ.out.2; rw [List.take_length] at this; exact this
          cases met with
          | true =>
            go_wp2_with fail
            go_roundw
            case rel => exact ⟨k + 1, by omega, by first | rfl | go_num, Lib.hid ⟨hR.out.1.trans1 (hQ.out.1.trans1 (by (repeat first | assumption | exact Frame.refl _ _ | refine Frame.trans1 ?_ (Frame.alloc _ _ _) | refine Frame.trans1 ?_ (Frame.drew _ _) | refine Frame.trans1 ?_ (Frame.drewN _ _ _)))), fun j z hj hz => by
              rcases Nat.lt_or_ge j k with h | h
              · exact hR.out.2 j z h hz
              · obtain rfl : j = k := by omega
                have := G1.out.symm.trans hz
                simp at this
                subst this
                exact hmem.out.t⟩⟩
            case measure => first | (simp [intOf]; done) | (simp [intOf]; omega)
          | false =>
            go_wp2_with fail
            go_ret
            exact Ans.mkF (fun h => hmem.out.f (h x (List.mem_of_getElem? G1.out))) (hR.out.1.trans1 (hQ.out.1.trans1 (by (repeat first | assumption | exact Frame.refl _ _ | refine Frame.trans1 ?_ (Frame.alloc _ _ _) | refine Frame.trans1 ?_ (Frame.drew _ _) | refine Frame.trans1 ?_ (Frame.drewN _ _ _)))))
    · obtain rfl : k = xs.length := by omega
      go_wp2_with fail
      go_ret
      exact Ans.mkT (fun x hx => by
        obtain ⟨j, hj, rfl⟩ := List.getElem_of_mem hx
        exact hR.out.2 j xs[j] hj (by simp)) (hR.out.1.trans1 (by (repeat first | assumption | exact Frame.refl _ _ | refine Frame.trans1 ?_ (Frame.alloc _ _ _) | refine Frame.trans1 ?_ (Frame.drew _ _) | refine Frame.trans1 ?_ (Frame.drewN _ _ _))))
end Go.Proofs.YtjcajidgaejhoaaGreat

namespace Go.Proofs.YtjcajidgaejhoaaGreat
open Go.RowKit
set_option linter.unusedSimpArgs false
set_option linter.unusedVariables false

/-- What is read lies in blocks that are there. -/
theorem RF.in_heap {α : Type} {U : Nat → Prop} {w : World} {sz : Nat} {enc : α → List Value} {a : Option Addr} {xs : List α} (h : RF U w sz enc a xs) (h0 : ∀ x, 0 < (enc x).length) : RF (fun b => U b ∧ b < w.heap.size) w sz enc a xs := fun k x hx => by
  obtain ⟨b, off, h1, h2, h3⟩ := h k x hx
  have hc := h3 0 ((enc x)[0]'(h0 x)) (by simp [h0 x])
  exact ⟨b, off, h1, ⟨h2, World.block_lt_of_cell? w _ hc⟩, h3⟩
theorem RN.in_heap {U : Nat → Prop} {w : World} {a : Option Addr} {ns : List Nv} (h : RN U w a ns) : RN (fun b => U b ∧ b < w.heap.size) w a ns := fun k n hn => by
  obtain ⟨b, off, la, lc, pa, pc, h1, h2, h3, h4, h5, h6, h7⟩ := h k n hn
  exact ⟨b, off, la, lc, pa, pc, h1, ⟨h2, World.block_lt_of_cell? w _ h3⟩, h3, h4, h5, h6.in_heap (fun x => by rw [encS_len]; omega), h7.in_heap (fun x => by rw [pr_len]; omega)⟩
/-- The edges without some tokens. -/
def esWo (es : List Ed) (ts : List Int) : List Ed := es.filter fun e => !decide (e.tok ∈ ts)
theorem esWo_in {es : List Ed} {ts : List Int} {k : Nat} {e : Ed} (h : es[k]? = some e) (hm : e.tok ∈ ts) : esWo (es.take (k + 1)) ts = esWo (es.take k) ts := by
  rw [take_one' h]; simp [esWo, List.filter_append, hm]
theorem esWo_out {es : List Ed} {ts : List Int} {k : Nat} {e : Ed} (h : es[k]? = some e) (hm : e.tok ∉ ts) : esWo (es.take (k + 1)) ts = esWo (es.take k) ts ++ [e] := by
  rw [take_one' h]; simp [esWo, List.filter_append, hm]
theorem esWo_len (es : List Ed) (ts : List Int) : (esWo es ts).length ≤ es.length := List.length_filter_le _ _

/-- What Without ends in: old nodes, new edges. -/
def WoEnd (U : Nat → Prop) (an : Option Addr) (nc : Nat) (x : Gx) (w : World) (e : Ending) (w' : World) : Prop := ∃ ae ec, e = .returned (.agg #[.slice an x.ns.length nc, .slice ae x.es.length ec, .int .i64 x.next]) ∧ RG (fun b => U b ∨ (w.heap.size ≤ b ∧ b < w'.heap.size)) w' (.agg #[.slice an x.ns.length nc, .slice ae x.es.length ec, .int .i64 x.next]) x ∧ Frame [] w w'
end Go.Proofs.YtjcajidgaejhoaaGreat

