/- What holds of every graph that the calls have made; what again makes of a graph that is told. The reference's graph in memory. -/
import Derived.Test.YtolkmapdbilolaaMg12
import Derived.Test.YtolkmapdbilolaaMg16
import Derived.Test.YtolkmapdbilolaaMg09
namespace Go.Proofs.Ytolkmapdbilolaa
open Go.RowKit
set_option linter.unusedSimpArgs false
set_option linter.unusedVariables false

def NodeOk (n : Nv) : Prop := (1 ≤ n.1 ∧ n.1 ≤ 1000) ∧ (∀ s ∈ n.2.1, namedB s = true) ∧ ∀ p ∈ n.2.2, namedB p.name = true ∧ namedB p.val = true
structure GOk (ns : List Nv) (es : List Ed) (given : Int) : Prop where
  v : VOk ns
  e : EOk es given
  nd : ∀ n ∈ ns, NodeOk n
  ed : ∀ e ∈ es, namedB e.lab = true ∧ e.src ∈ ns.map (·.1) ∧ e.dst ∈ ns.map (·.1)
theorem GOk.nil : GOk [] [] 0 := ⟨VOk.nil, EOk.nil, by simp, by simp⟩
theorem GOk.addNode {ns : List Nv} {es : List Ed} {given : Int} (h : GOk ns es given) (t : Int) : GOk (vAddNode ns t).2 es given := by
  have hv := h.v.addNode t
  unfold vAddNode at *
  by_cases q1 : t < 1 ∨ 1000 < t
  · rw [if_pos q1] at *; exact h
  rw [if_neg q1] at *
  by_cases q2 : t ∈ ns.map (·.1)
  · rw [if_pos q2] at *; exact h
  rw [if_neg q2] at *
  by_cases q3 : 12 ≤ ns.length
  · rw [if_pos q3] at *; exact h
  rw [if_neg q3] at *
  generalize rank (ns.map (·.1)) t = r at *
  refine ⟨hv, h.e, fun n hn => ?_, fun e he => ?_⟩
  · simp only [List.mem_append, List.mem_cons] at hn
    rcases hn with hn | rfl | hn
    · exact h.nd n (List.mem_of_mem_take hn)
    · exact ⟨by omega, by simp, by simp⟩
    · exact h.nd n (List.mem_of_mem_drop hn)
  · have hh := h.ed e he
    have hsub : ∀ x, x ∈ ns.map (·.1) → x ∈ (ns.take r ++ (t, [], []) :: ns.drop r).map (·.1) := fun x hx => by
      rw [List.map_append, List.map_cons]
      rw [← List.take_append_drop r ns, List.map_append] at hx
      simp only [List.mem_append, List.mem_cons] at hx ⊢
      rcases hx with hx | hx
      · exact .inl hx
      · exact .inr (.inr hx)
    exact ⟨hh.1, hsub _ hh.2.1, hsub _ hh.2.2⟩
theorem GOk.mid {A B : List Nv} {n n' : Nv} {es : List Ed} {given : Int} (h : GOk (A ++ n :: B) es given) (hv : VOk (A ++ n' :: B)) (h1 : n'.1 = n.1) (hn : NodeOk n') : GOk (A ++ n' :: B) es given := by
  refine ⟨hv, h.e, fun x hx => ?_, fun e he => ?_⟩
  · simp only [List.mem_append, List.mem_cons] at hx
    rcases hx with hx | rfl | hx
    · exact h.nd x (by simp [hx])
    · exact hn
    · exact h.nd x (by simp [hx])
  · have := h.ed e he
    simpa [h1] using this
theorem mem_ins {α : Type} {l : List α} {r : Nat} {x y : α} (h : y ∈ l.take r ++ x :: l.drop r) : y = x ∨ y ∈ l := by
  simp only [List.mem_append, List.mem_cons] at h
  rcases h with h | h | h
  · exact .inr (List.mem_of_mem_take h)
  · exact .inl h
  · exact .inr (List.mem_of_mem_drop h)
theorem mem_put {α : Type} {l : List α} {r : Nat} {x y : α} (h : y ∈ l.take r ++ x :: l.drop (r + 1)) : y = x ∨ y ∈ l := by
  simp only [List.mem_append, List.mem_cons] at h
  rcases h with h | h | h
  · exact .inr (List.mem_of_mem_take h)
  · exact .inl h
  · exact .inr (List.mem_of_mem_drop h)
theorem GOk.label {ns : List Nv} {es : List Ed} {given : Int} (h : GOk ns es given) (t : Int) (s : ByteArray) : GOk (vLabel ns t s).2 es given := by
  have hv := h.v.label t s
  cases hs : namedB s with
  | false => simpa [vLabel, hs] using h
  | true =>
    by_cases hm : t ∈ ns.map (·.1)
    · obtain ⟨A, n, B, rfl, hA, rfl⟩ := v_split h.v.up hm
      rw [vLabel_mid h.v.up s hs] at *
      cases hq : memS s n.2.1 with
      | true => rw [if_pos rfl]; exact h
      | false =>
        rw [hq] at hv
        by_cases h8 : 8 ≤ n.2.1.length
        · rw [if_neg (by simp), if_pos h8]; exact h
        · rw [if_neg (by simp), if_neg h8] at *
          have hn := h.nd n (by simp)
          exact h.mid hv rfl ⟨hn.1, fun x hx => by
            rcases mem_ins hx with rfl | hx
            · exact hs
            · exact hn.2.1 x hx, hn.2.2⟩
    · have e : vLabel ns t s = (7, ns) := by unfold vLabel; rw [if_neg (by simp [hs]), if_pos hm]
      rw [e]; exact h
theorem GOk.set {ns : List Nv} {es : List Ed} {given : Int} (h : GOk ns es given) (t : Int) (s v : ByteArray) : GOk (vSet ns t s v).2 es given := by
  have hv := h.v.set t s v
  by_cases hs : namedB s = false ∨ namedB v = false
  · simpa [vSet, hs] using h
  · have hs1 : namedB s = true := by cases h1 : namedB s <;> simp [h1] at hs ⊢
    have hs2 : namedB v = true := by cases h1 : namedB v <;> simp [h1] at hs ⊢
    by_cases hm : t ∈ ns.map (·.1)
    · obtain ⟨A, n, B, rfl, hA, rfl⟩ := v_split h.v.up hm
      rw [vSet_mid h.v.up s v hs1 hs2] at *
      have hn := h.nd n (by simp)
      cases hq : memS s (n.2.2.map (·.name)) with
      | true =>
        rw [hq] at hv
        rw [if_pos rfl] at *
        exact h.mid hv rfl ⟨hn.1, hn.2.1, fun x hx => by
          rcases mem_put hx with rfl | hx
          · exact ⟨hs1, hs2⟩
          · exact hn.2.2 x hx⟩
      | false =>
        rw [hq] at hv
        by_cases h8 : 8 ≤ n.2.2.length
        · rw [if_neg (by simp), if_pos h8]; exact h
        · rw [if_neg (by simp), if_neg h8] at *
          exact h.mid hv rfl ⟨hn.1, hn.2.1, fun x hx => by
            rcases mem_ins hx with rfl | hx
            · exact ⟨hs1, hs2⟩
            · exact hn.2.2 x hx⟩
    · have e : vSet ns t s v = (7, ns) := by unfold vSet; rw [if_neg hs, if_pos hm]
      rw [e]; exact h
theorem EOk.more {es : List Ed} {given given' : Int} (h : EOk es given) (h1 : given ≤ given') (h2 : given' ≤ 1099511627776) : EOk es given' :=
  ⟨h.up, fun e he => by have := h.le e he; omega, h.len, by have := h.given0; omega, h2⟩
theorem GOk.more {ns : List Nv} {es : List Ed} {given given' : Int} (h : GOk ns es given) (h1 : given ≤ given') (h2 : given' ≤ 1099511627776) : GOk ns es given' := ⟨h.v, h.e.more h1 h2, h.nd, h.ed⟩
theorem GOk.add {ns : List Nv} {es : List Ed} {given : Int} (h : GOk ns es given) (x : Int) (s : ByteArray) (y : Int) : GOk ns (vAdd ns es given x s y).2.1 (vAdd ns es given x s y).2.2 := by
  refine ⟨h.v, h.e.add ns x s y, h.nd, fun e he => ?_⟩
  unfold vAdd at he
  split at he
  · exact h.ed e he
  · rename_i q1
    split at he
    · exact h.ed e he
    · rename_i q2
      split at he
      · exact h.ed e he
      · simp only [List.mem_append, List.mem_singleton] at he
        rcases he with he | rfl
        · exact h.ed e he
        · simp only [not_or, Classical.not_not] at q2
          exact ⟨by simpa using q1, q2.1, q2.2⟩

/-! ### order, neighbour by neighbour -/
theorem pairwise_of_steps {α : Type} {R : α → α → Prop} (tr : ∀ a b c, R a b → R b c → R a c) {xs : List α} (h : ∀ j a b, 0 < j → xs[j - 1]? = some a → xs[j]? = some b → R a b) : xs.Pairwise R := by
  rw [List.pairwise_iff_getElem]
  intro i j hi hj hij
  induction j with
  | zero => omega
  | succ j ih =>
    have hs : R (xs[j]'(by omega)) xs[j + 1] := h (j + 1) (xs[j]'(by omega)) xs[j + 1] (by omega) (by simp) (by simp)
    rcases Nat.lt_or_ge i j with h1 | h1
    · exact tr _ _ _ (ih (by omega) h1) hs
    · obtain rfl : i = j := by omega
      exact hs
theorem steps_of_pairwise {α : Type} {R : α → α → Prop} {xs : List α} (h : xs.Pairwise R) {j : Nat} {a b : α} (h0 : 0 < j) (ha : xs[j - 1]? = some a) (hb : xs[j]? = some b) : R a b := by
  rw [List.pairwise_iff_getElem] at h
  obtain ⟨h1, rfl⟩ := List.getElem?_eq_some_iff.1 ha
  obtain ⟨h2, rfl⟩ := List.getElem?_eq_some_iff.1 hb
  exact h _ _ h1 h2 (by omega)
theorem placeV_mem {ns : List Nv} {t : Int} : 0 ≤ placeV ns t ↔ t ∈ ns.map (·.1) := by
  unfold placeV
  cases hq : (ns.map (·.1)).findIdx? (fun x => decide (x = t)) with
  | none =>
    rw [List.findIdx?_eq_none_iff] at hq
    simp only
    constructor
    · intro h; omega
    · intro h; have := hq t h; simp at this
  | some k =>
    rw [List.findIdx?_eq_some_iff_getElem] at hq
    obtain ⟨h1, h2, _⟩ := hq
    simp only
    constructor
    · intro _
      have : (ns.map (·.1))[k] = t := by simpa using h2
      rw [← this]; exact List.getElem_mem h1
    · intro _; omega
theorem SoundN.of {n : Nv} (h : NodeOk n) (h1 : UpS n.2.1) (l1 : n.2.1.length ≤ 8) (h2 : UpS (n.2.2.map (·.name))) (l2 : n.2.2.length ≤ 8) : SoundN n := by
  refine ⟨h.1, l1, l2, fun j s hs => ⟨h.2.1 s (List.mem_of_getElem? hs), fun t h0 ht => steps_of_pairwise h1 h0 ht hs⟩, fun j p hp => ?_⟩
  have := h.2.2 p (List.mem_of_getElem? hp)
  exact ⟨this.1, this.2, fun q h0 hq => steps_of_pairwise h2 (a := q.name) (b := p.name) h0 (by rw [List.getElem?_map, hq]; rfl) (by rw [List.getElem?_map, hp]; rfl)⟩
theorem SoundN.upS {n : Nv} (h : SoundN n) : UpS n.2.1 := pairwise_of_steps (R := fun a b => ltS a b = true) (fun a b c => ltS_trans) (fun j a b h0 ha hb => (h.2.2.2.1 j b hb).2 a h0 ha)
theorem SoundN.upP {n : Nv} (h : SoundN n) : UpS (n.2.2.map (·.name)) := pairwise_of_steps (R := fun a b => ltS a b = true) (fun a b c => ltS_trans) (fun j a b h0 ha hb => by
  rw [List.getElem?_map] at ha hb
  obtain ⟨p, hp, rfl⟩ := Option.map_eq_some_iff.1 ha
  obtain ⟨q, hq, rfl⟩ := Option.map_eq_some_iff.1 hb
  exact (h.2.2.2.2 j q hq).2.2 p h0 hp)
theorem SoundN.ok {n : Nv} (h : SoundN n) : NodeOk n := ⟨h.1, fun s hs => by
  obtain ⟨j, hj, rfl⟩ := List.getElem_of_mem hs
  exact (h.2.2.2.1 j n.2.1[j] (by simp)).1, fun p hp => by
  obtain ⟨j, hj, rfl⟩ := List.getElem_of_mem hp
  have := h.2.2.2.2 j n.2.2[j] (by simp)
  exact ⟨this.1, this.2.1⟩⟩
/-- A graph may be just if the calls can make it. -/
theorem MayX.gok {x : Gx} (h : MayX x) : GOk x.ns x.es (x.next - 1) := by
  obtain ⟨h1, h2, h3, h4, h5, h6⟩ := h
  have sn : ∀ n ∈ x.ns, SoundN n := fun n hn => by
    obtain ⟨j, hj, rfl⟩ := List.getElem_of_mem hn
    exact (h5 j x.ns[j] (by simp)).1
  have un : Up (x.ns.map (·.1)) := pairwise_of_steps (fun a b c h1 h2 => by omega) (fun j a b h0 ha hb => by
    rw [List.getElem?_map] at ha hb
    obtain ⟨p, hp, rfl⟩ := Option.map_eq_some_iff.1 ha
    obtain ⟨q, hq, rfl⟩ := Option.map_eq_some_iff.1 hb
    exact (h5 j q hq).2 p h0 hp)
  have ue : Up (x.es.map (·.tok)) := pairwise_of_steps (fun a b c h1 h2 => by omega) (fun j a b h0 ha hb => by
    rw [List.getElem?_map] at ha hb
    obtain ⟨p, hp, rfl⟩ := Option.map_eq_some_iff.1 ha
    obtain ⟨q, hq, rfl⟩ := Option.map_eq_some_iff.1 hb
    exact (h6 j q hq).2.2.1 p h0 hp)
  have se : ∀ e ∈ x.es, 1 ≤ e.tok ∧ e.tok < x.next ∧ namedB e.lab = true ∧ 0 ≤ placeV x.ns e.src ∧ 0 ≤ placeV x.ns e.dst := fun e he => by
    obtain ⟨j, hj, rfl⟩ := List.getElem_of_mem he
    have := h6 j x.es[j] (by simp)
    exact ⟨this.1, this.2.1, this.2.2.2.1, this.2.2.2.2.1, this.2.2.2.2.2⟩
  refine ⟨⟨un, h1, fun n hn => ⟨(sn n hn).upS, (sn n hn).2.1⟩, fun n hn => ⟨(sn n hn).upP, (sn n hn).2.2.1⟩⟩, ⟨ue, fun e he => ?_, h2, by omega, by omega⟩, fun n hn => (sn n hn).ok, fun e he => ?_⟩
  · have := se e he; omega
  · have := se e he
    exact ⟨this.2.2.1, placeV_mem.1 this.2.2.2.1, placeV_mem.1 this.2.2.2.2⟩
theorem GOk.may {x : Gx} (h : GOk x.ns x.es (x.next - 1)) : MayX x := by
  obtain ⟨v, e, nd, ed⟩ := h
  have g0 := e.given0
  have g1 := e.given1
  refine ⟨v.len, e.len, by omega, by omega, fun j n hn => ?_, fun j d hd => ?_⟩
  · have hm := List.mem_of_getElem? hn
    refine ⟨SoundN.of (nd n hm) (v.ls n hm).1 (v.ls n hm).2 (v.ps n hm).1 (v.ps n hm).2, fun m h0 hmm => ?_⟩
    exact steps_of_pairwise v.up (a := m.1) (b := n.1) h0 (by rw [List.getElem?_map, hmm]; rfl) (by rw [List.getElem?_map, hn]; rfl)
  · have hm := List.mem_of_getElem? hd
    have hl := e.le d hm
    have he := ed d hm
    exact ⟨hl.1, by omega, fun f h0 hf => steps_of_pairwise e.up (a := f.tok) (b := d.tok) h0 (by rw [List.getElem?_map, hf]; rfl) (by rw [List.getElem?_map, hd]; rfl), he.1, placeV_mem.2 he.2.1, placeV_mem.2 he.2.2⟩

/-! ### again, step by step -/
theorem take_one' {α : Type} {js : List α} {i : Nat} {j : α} (hj : js[i]? = some j) : js.take (i + 1) = js.take i ++ [j] := by
  rw [List.take_add_one, hj]; rfl
theorem rank_end {ks : List Int} {t : Int} (h : ∀ k ∈ ks, k < t) : rank ks t = ks.length := by
  unfold rank
  rw [List.countP_eq_length]
  intro k hk
  simpa using h k hk
theorem rankS_end {ks : List ByteArray} {t : ByteArray} (h : ∀ k ∈ ks, ltS k t = true) : rankS ks t = ks.length := by
  unfold rankS
  rw [List.countP_eq_length]
  intro k hk
  exact h k hk
theorem before_of {α β : Type} {R : β → β → Prop} {f : α → β} {xs : List α} (h : (xs.map f).Pairwise R) {k : Nat} {x : α} (hx : xs[k]? = some x) : ∀ y ∈ (xs.take k).map f, R y (f x) := fun y hy => by
  obtain ⟨z, hz, rfl⟩ := List.mem_map.1 hy
  obtain ⟨i, hi, rfl⟩ := List.getElem_of_mem hz
  obtain ⟨hk, rfl⟩ := List.getElem?_eq_some_iff.1 hx
  rw [List.pairwise_iff_getElem] at h
  have hi' : i < k ∧ i < xs.length := by simp at hi; omega
  have := h i k (by simp; omega) (by simpa using hk) hi'.1
  simpa using this
theorem again_node {x : Gx} (h : MayX x) {k : Nat} {n : Nv} (hn : x.ns[k]? = some n) : vAddNode (x.ns.take k) n.1 = (0, x.ns.take k ++ [(n.1, [], [])]) := by
  have g := h.gok
  have hb := before_of (f := fun n : Nv => n.1) g.v.up hn
  have hk : k < x.ns.length := (List.getElem?_eq_some_iff.1 hn).1
  have hok := (g.nd n (List.mem_of_getElem? hn)).1
  have hl := g.v.len
  unfold vAddNode
  rw [if_neg (by omega), if_neg (fun hm => by have := hb _ hm; simp at this), if_neg (by simp; omega), rank_end hb, List.length_map]
  simp only [List.take_length, List.drop_length]
theorem again_label {A : List Nv} {i : Int} {ls : List ByteArray} (hu : Up ((A ++ [(i, ([] : List ByteArray), ([] : List Pr))]).map (·.1))) (hup : UpS ls) (hl : ls.length ≤ 8) {k : Nat} {s : ByteArray} (hs : ls[k]? = some s) (hnm : namedB s = true) :
    vLabel (A ++ [(i, ls.take k, [])]) i s = (0, A ++ [(i, ls.take (k + 1), [])]) := by
  have hb := before_of (f := id) (R := fun a b => ltS a b = true) (by simpa [UpS] using hup) hs
  rw [List.map_id] at hb
  have hk : k < ls.length := (List.getElem?_eq_some_iff.1 hs).1
  have hmem : memS s (ls.take k) = false := memS_not.2 (fun hm => by have := hb s hm; simp [ltS_irrefl] at this)
  have := vLabel_mid (A := A) (B := []) (n := (i, ls.take k, [])) (by simpa using hu) s hnm
  rw [this, hmem, if_neg (by simp), if_neg (by simp; omega)]
  have hr : rankS (ls.take k) s = (ls.take k).length := rankS_end hb
  simp only [hr, List.take_length, List.drop_length]
  rw [take_one' hs]
theorem again_set {A : List Nv} {i : Int} {ls : List ByteArray} {ps : List Pr} (hu : Up ((A ++ [(i, ([] : List ByteArray), ([] : List Pr))]).map (·.1))) (hup : UpS (ps.map (·.name))) (hl : ps.length ≤ 8) {k : Nat} {p : Pr} (hs : ps[k]? = some p) (hnm : namedB p.name = true) (hnv : namedB p.val = true) :
    vSet (A ++ [(i, ls, ps.take k)]) i p.name p.val = (0, A ++ [(i, ls, ps.take (k + 1))]) := by
  have hb := before_of (f := fun p : Pr => p.name) (R := fun a b => ltS a b = true) hup hs
  have hk : k < ps.length := (List.getElem?_eq_some_iff.1 hs).1
  have hmem : memS p.name ((ps.take k).map (·.name)) = false := memS_not.2 (fun hm => by have := hb _ hm; rw [ltS_irrefl] at this; cases this)
  have := vSet_mid (A := A) (B := []) (n := (i, ls, ps.take k)) (by simpa using hu) p.name p.val hnm hnv
  rw [this, hmem, if_neg (by simp), if_neg (by simp; omega)]
  have hr : rankS ((ps.take k).map (·.name)) p.name = ((ps.take k).map (·.name)).length := rankS_end hb
  simp only [hr, List.length_map, List.take_length, List.drop_length]
  rw [take_one' hs]
theorem again_edge {x : Gx} (h : MayX x) {k : Nat} {e : Ed} (he : x.es[k]? = some e) : vAdd x.ns (x.es.take k) (e.tok - 1) e.src e.lab e.dst = ((e.tok, 0), x.es.take (k + 1), e.tok) := by
  have g := h.gok
  have hm := List.mem_of_getElem? he
  have hk : k < x.es.length := (List.getElem?_eq_some_iff.1 he).1
  have hed := g.ed e hm
  have hl := g.e.len
  have hle := g.e.le e hm
  have hg := g.e.given1
  unfold vAdd
  rw [if_neg (by simp [hed.1]), if_neg (by simp only [not_or, Classical.not_not]; exact hed.2), if_neg (by simp; omega)]
  have e1 : e.tok - 1 + 1 = e.tok := by omega
  rw [e1, take_one' he]
end Go.Proofs.Ytolkmapdbilolaa

namespace Go.Proofs.Ytolkmapdbilolaa
open Go.RowKit
set_option linter.unusedSimpArgs false
set_option linter.unusedVariables false

/-- A node with what its two slices are read as. -/
structure Zn where
  nd : Nd
  ls : List ByteArray
  ps : List Pr
def Zn.enc (z : Zn) : List Value := z.nd.cs
def Zn.v (z : Zn) : Nv := (z.nd.id, z.ls, z.ps)
theorem zn_len (z : Zn) : z.enc.length = 3 := rfl
theorem zn_one (z : Zn) : ∀ u ∈ z.enc, u.oneCell' = true := nd_one z.nd
def Zn.ok (U : Nat → Prop) (w : World) (z : Zn) : Prop := z.nd.ln = z.ls.length ∧ z.nd.pn = z.ps.length ∧ RF U w 1 encS z.nd.la z.ls ∧ RF U w 2 Pr.cs z.nd.pa z.ps
section
variable {U U' : Nat → Prop} {w w' : World} {S : List Nat}
theorem Zn.ok_frame {z : Zn} (h : z.ok U w) (f : Frame S w w') (hS : ∀ b, U b → b ∉ S) : z.ok U w' := ⟨h.1, h.2.1, h.2.2.1.frame f hS, h.2.2.2.frame f hS⟩
theorem Zn.ok_mono {z : Zn} (h : z.ok U w) (hU : ∀ b, U b → U' b) : z.ok U' w := ⟨h.1, h.2.1, h.2.2.1.mono hU, h.2.2.2.mono hU⟩
theorem rn_of_zn {a : Option Addr} {zs : List Zn} (h : RF U w 3 Zn.enc a zs) (hz : ∀ z ∈ zs, z.ok U w) : RN U w a (zs.map Zn.v) := fun k n hn => by
  rw [List.getElem?_map] at hn
  obtain ⟨z, h1, rfl⟩ := Option.map_eq_some_iff.1 hn
  obtain ⟨b, off, e1, e2, e3⟩ := h k z h1
  obtain ⟨o1, o2, o3, o4⟩ := hz z (List.mem_of_getElem? h1)
  have c0 := e3 0 _ rfl
  have c1 := e3 1 _ rfl
  have c2 := e3 2 _ rfl
  rw [o1] at c1
  rw [o2] at c2
  exact ⟨b, off, _, _, _, _, e1, e2, by simpa [Zn.v] using c0, c1, c2, o3, o4⟩
end

theorem Sl.cap {α : Type} {w : World} {e sz n c : Nat} {enc : α → List Value} {a : Option Addr} {xs : List α} {G : List Nat} (h : Sl w e sz enc (.slice a n c) xs G) : n ≤ c ∧ c ≤ 9223372036854775807 := by
  rcases h with ⟨h1, _, _⟩ | ⟨b, cap, h1, _, hr⟩
  · injection h1 with _ h2 h3; subst h2 h3; omega
  · injection h1 with _ h2 h3
    subst h2 h3
    obtain ⟨_, _, q1, q2, _⟩ := hr.blk
    unfold maxLen at q2
    exact ⟨q1, by omega⟩
/-- The reference's graph at block rb; D: the blocks that it is read from. -/
def RGz (w : World) (rb : Nat) (D : List Nat) (zs : List Zn) (es : List Ed) (next : Int) : Prop :=
  rb ∉ D ∧ (∀ x ∈ D, x < w.heap.size) ∧ (∀ z ∈ zs, z.ok (· ∈ D) w) ∧ ∃ an nc ae ec, Blk w rb 82 #[.slice an zs.length nc, .slice ae es.length ec, .int .i64 next] ∧ RF (· ∈ D) w 3 Zn.enc an zs ∧ RF (· ∈ D) w 4 Ed.cs ae es ∧ zs.length ≤ nc ∧ nc ≤ 9223372036854775807
def RGv (w : World) (rb : Nat) (D : List Nat) (ns : List Nv) (es : List Ed) (next : Int) : Prop := ∃ zs, RGz w rb D zs es next ∧ zs.map Zn.v = ns
def RGEnd (w : World) (rb : Nat) (D : List Nat) (ns : List Nv) (es : List Ed) (next : Int) (w' : World) : Prop := ∃ D', RGv w' rb D' ns es next ∧ Frame [rb] w w' ∧ ∀ x ∈ D', x ∈ D ∨ w.heap.size ≤ x
section
variable {w w' : World} {rb : Nat} {D S : List Nat} {zs : List Zn} {ns : List Nv} {es : List Ed} {next : Int}
theorem RGz.frame (h : RGz w rb D zs es next) (f : Frame S w w') (hS : ∀ x ∈ rb :: D, x ∉ S) : RGz w' rb D zs es next := by
  obtain ⟨h1, h2, h3, an, nc, ae, ec, h4, h5, h6, h7⟩ := h
  have hD : ∀ b, b ∈ D → b ∉ S := fun b hb => hS b (by simp [hb])
  exact ⟨h1, fun x hx => Nat.lt_of_lt_of_le (h2 x hx) f.size, fun z hz => Zn.ok_frame (h3 z hz) f hD, an, nc, ae, ec, h4.frame f (hS rb (by simp)), h5.frame f hD, h6.frame f hD, h7⟩
theorem RGv.frame (h : RGv w rb D ns es next) (f : Frame S w w') (hS : ∀ x ∈ rb :: D, x ∉ S) : RGv w' rb D ns es next := by
  obtain ⟨zs, a, b⟩ := h; exact ⟨zs, a.frame f hS, b⟩
theorem RGv.frame0 (h : RGv w rb D ns es next) (f : Frame [] w w') : RGv w' rb D ns es next := h.frame f (by simp)
theorem RGz.lt (h : RGz w rb D zs es next) : ∀ x ∈ rb :: D, x < w.heap.size := by
  obtain ⟨h1, h2, h3, an, nc, ae, ec, h4, h5, h6, h7⟩ := h
  intro x hx
  rcases List.mem_cons.1 hx with rfl | hx
  · exact h4.lt
  · exact h2 x hx
theorem RGv.lt (h : RGv w rb D ns es next) : ∀ x ∈ rb :: D, x < w.heap.size := by obtain ⟨zs, a, b⟩ := h; exact a.lt
theorem RGEnd.quiet (h : RGv w rb D ns es next) (f : Frame [] w w') : RGEnd w rb D ns es next w' := ⟨D, h.frame0 f, f.mono (by simp), fun x hx => .inl hx⟩
theorem RGEnd.behind {w1 : World} (f : Frame [] w w1) (h : RGEnd w1 rb D ns es next w') : RGEnd w rb D ns es next w' := by
  obtain ⟨D', a, b, c⟩ := h
  exact ⟨D', a, (f.mono (by simp)).trans1 b, fun x hx => by rcases c x hx with h | h; exact .inl h; right; have := f.size; omega⟩
/-- As a value that is handed on. -/
theorem RGz.rg (h : RGz w rb D zs es next) : ∃ an nc ae ec, Blk w rb 82 #[.slice an (zs.map Zn.v).length nc, .slice ae es.length ec, .int .i64 next] ∧ RG (· ∈ D) w (.agg #[.slice an (zs.map Zn.v).length nc, .slice ae es.length ec, .int .i64 next]) ⟨zs.map Zn.v, es, next⟩ := by
  obtain ⟨h1, h2, h3, an, nc, ae, ec, h4, h5, h6, h7⟩ := h
  exact ⟨an, nc, ae, ec, by rw [List.length_map]; exact h4, an, nc, ae, ec, rfl, rn_of_zn h5 h3, h6⟩
theorem RGv.rg (h : RGv w rb D ns es next) : ∃ an nc ae ec, Blk w rb 82 #[.slice an ns.length nc, .slice ae es.length ec, .int .i64 next] ∧ RG (· ∈ D) w (.agg #[.slice an ns.length nc, .slice ae es.length ec, .int .i64 next]) ⟨ns, es, next⟩ := by
  obtain ⟨zs, a, rfl⟩ := h; exact a.rg
theorem rgnew_any (w : World) : Calls Try.prog 44 #[] w fun e w' => ∃ rb, e = .returned (.pointer (some ⟨rb, 0, none⟩)) ∧ RGv w' rb [] [] [] 1 ∧ Frame [] w w' ∧ w.heap.size ≤ rb := by
  go_enter Try.func44, Try.ntmps44
  go_wp2
  go_ret
  exact ⟨_, rfl, ⟨[], ⟨by simp, by simp, by simp, none, 0, none, 0, Blk.new _ _ _, RF.nil _ _ _ _ _, RF.nil _ _ _ _ _, by simp⟩, rfl⟩, Frame.alloc _ _ _, Nat.le_refl _⟩
/-- A new row of nodes put in the place of the old one. -/
theorem RGz.setNodes {w1 : World} (h : RGz w rb D zs es next) (f : Frame [] w w1) {zs' : List Zn} {a' : Option Addr} {n' c' : Nat} {G : List Nat} (hs : Sl w1 86 3 Zn.enc (.slice a' n' c') zs' G) (hn : zs'.length = n') (hG : ∀ x ∈ G, w.heap.size ≤ x) (hz : ∀ z ∈ zs', z.ok (fun b => b ∈ D ∨ (w.heap.size ≤ b ∧ b < w1.heap.size)) w1) (hrb : rb < w.heap.size) :
    RGEnd w rb D (zs'.map Zn.v) es next (w1.setCell ⟨rb, 0, none⟩ (.slice a' n' c')) := by
  subst hn
  obtain ⟨h1, h2, h3, an, nc, ae, ec, h4, h5, h6, h7⟩ := h
  have fs : Frame [rb] w1 (w1.setCell ⟨rb, 0, none⟩ (.slice a' zs'.length c')) := Frame.setCell _ _ _ (by simp)
  refine ⟨D ++ (List.range w1.heap.size).filter (fun x => decide (w.heap.size ≤ x)), ⟨zs', ⟨?_, ?_, ?_, a', c', ae, ec, ?_, ?_, ?_, hs.cap⟩, rfl⟩, (f.mono (by simp)).trans1 fs, ?_⟩
  · simp only [List.mem_append, List.mem_filter, List.mem_range, decide_eq_true_eq, not_or]
    exact ⟨h1, fun hm => by omega⟩
  · intro x hx
    simp only [List.mem_append, List.mem_filter, List.mem_range, decide_eq_true_eq] at hx
    have hz := fs.size
    rcases hx with hx | hx
    · have := h2 x hx; have := f.size; omega
    · omega
  · intro z hz'
    refine Zn.ok_frame (Zn.ok_mono (hz z hz') (fun b hb => ?_)) fs (fun b hb hm => ?_)
    · simp only [List.mem_append, List.mem_filter, List.mem_range, decide_eq_true_eq]
      rcases hb with hb | hb
      · exact .inl hb
      · exact .inr ⟨hb.2, hb.1⟩
    · simp only [List.mem_append, List.mem_filter, List.mem_range, decide_eq_true_eq] at hb
      simp at hm
      subst hm
      rcases hb with hb | hb
      · exact h1 hb
      · omega
  · have := (h4.frame f (by simp)).set 0 (.slice a' zs'.length c')
    simpa using this
  · refine (hs.rf zn_len (U := (· ∈ G)) (fun x hx => hx)).frame fs (fun b hb hm => ?_) |>.mono (fun b hb => ?_)
    · simp at hm; subst hm; have := hG _ hb; omega
    · simp only [List.mem_append, List.mem_filter, List.mem_range, decide_eq_true_eq]
      exact .inr ⟨hs.lt b hb, hG b hb⟩
  · refine ((h6.frame0 f).frame fs (fun b hb hm => ?_)).mono (fun b hb => by simp; exact .inl hb)
    simp at hm; subst hm; exact h1 hb
  · intro x hx
    simp only [List.mem_append, List.mem_filter, List.mem_range, decide_eq_true_eq] at hx
    rcases hx with hx | hx
    · exact .inl hx
    · exact .inr hx.2
end
end Go.Proofs.Ytolkmapdbilolaa

