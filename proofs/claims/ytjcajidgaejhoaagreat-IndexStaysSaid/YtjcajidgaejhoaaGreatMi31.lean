/- The reference's Drop. The reference's DropNode. -/
import Derived.Test.YtjcajidgaejhoaaGreatMi30
import Derived.Test.YtjcajidgaejhoaaGreatMi22
namespace Go.Proofs.YtjcajidgaejhoaaGreat
open Go.RowKit
set_option linter.unusedSimpArgs false
set_option linter.unusedVariables false

theorem zn_of_rn {U : Nat → Prop} {w : World} {a : Option Addr} {ns : List Nv} (h : RN U w a ns) : ∃ zs : List Zn, zs.map Zn.v = ns ∧ RF U w 3 Zn.enc a zs ∧ ∀ z ∈ zs, z.ok U w := by
  obtain ⟨zs, hl, hz⟩ := choose_list (α := Zn) (n := ns.length) (p := fun k z => (∀ n, ns[k]? = some n → z.v = n) ∧ z.ok U w ∧ ∃ b off, a = some ⟨b, off, none⟩ ∧ U b ∧ ∀ j u, z.enc[j]? = some u → w.cell? ⟨b, off + k * 3 + j, none⟩ = some u) (fun k hk => by
    obtain ⟨b, off, la, lc, pa, pc, h1, h2, h3, h4, h5, h6, h7⟩ := h k ns[k] (by simp [hk])
    refine ⟨⟨⟨ns[k].1, la, ns[k].2.1.length, lc, pa, ns[k].2.2.length, pc⟩, ns[k].2.1, ns[k].2.2⟩, fun n hn => ?_, ⟨rfl, rfl, h6, h7⟩, b, off, h1, h2, fun j u hu => ?_⟩
    · have : ns[k] = n := by simpa [hk] using hn
      rw [← this]; rfl
    · simp only [Zn.enc, Nd.cs] at hu
      match j, hu with
      | 0, hu => simp at hu; subst hu; exact h3
      | 1, hu => simp at hu; subst hu; exact h4
      | 2, hu => simp at hu; subst hu; exact h5
      | (j + 3), hu => simp at hu)
  refine ⟨zs, List.ext_getElem? fun k => ?_, fun k z hk => ?_, fun z hm => ?_⟩
  · rw [List.getElem?_map]
    rcases Nat.lt_or_ge k zs.length with h1 | h1
    · have h2 : k < ns.length := by omega
      have := (hz k h1).1 ns[k] (by simp [h2])
      simp [h1, h2, this]
    · rw [List.getElem?_eq_none h1, List.getElem?_eq_none (by omega)]; rfl
  · obtain ⟨hk1, rfl⟩ := List.getElem?_eq_some_iff.1 hk
    exact (hz k hk1).2.2
  · obtain ⟨k, hk, rfl⟩ := List.getElem_of_mem hm
    exact (hz k hk).2.1
theorem RGv.put {w w1 w2 : World} {rb : Nat} {D : List Nat} {ns : List Nv} {es : List Ed} {next : Int} {x : Gx} {A B C : Value} (h : RGv w rb D ns es next) (f : Frame [] w w1) (rg : RG (fun b => b ∈ D ∨ (w.heap.size ≤ b ∧ b < w1.heap.size)) w1 (.agg #[A, B, C]) x) (fs : Frame [rb] w1 w2) (hb : Blk w2 rb 101 #[A, B, C]) (hcap : ∀ a n c, A = .slice a n c → n ≤ c ∧ c ≤ 9223372036854775807) : RGEnd w rb D x.ns x.es x.next w2 := by
  obtain ⟨zs0, hz0, _⟩ := h
  have hlt := hz0.lt
  obtain ⟨h1, h2, _⟩ := hz0
  obtain ⟨an, nc, ae, ec, hv, rn, rf⟩ := rg
  simp only [Value.agg.injEq, Array.mk.injEq, List.cons.injEq] at hv
  obtain ⟨rfl, rfl, rfl, -⟩ := hv
  obtain ⟨zs, hzv, hzr, hzo⟩ := zn_of_rn rn
  have hrb := hlt rb (by simp)
  have hU : ∀ b, (b ∈ D ∨ (w.heap.size ≤ b ∧ b < w1.heap.size)) → b ∉ [rb] := fun b hb9 hm => by
    simp at hm; subst hm
    rcases hb9 with h | h
    · exact h1 h
    · omega
  have hV : ∀ b, (b ∈ D ∨ (w.heap.size ≤ b ∧ b < w1.heap.size)) → b ∈ D ++ (List.range w1.heap.size).filter (fun x => decide (w.heap.size ≤ x)) := fun b hb9 => by
    simp only [List.mem_append, List.mem_filter, List.mem_range, decide_eq_true_eq]
    rcases hb9 with h | h
    · exact .inl h
    · exact .inr ⟨h.2, h.1⟩
  refine ⟨D ++ (List.range w1.heap.size).filter (fun x => decide (w.heap.size ≤ x)), ⟨zs, ⟨?_, ?_, ?_, an, nc, ae, ec, ?_, ?_, ?_, ?_⟩, hzv⟩, (f.mono (by simp)).trans1 fs, ?_⟩
  · simp only [List.mem_append, List.mem_filter, List.mem_range, decide_eq_true_eq, not_or]
    exact ⟨h1, fun hm => by omega⟩
  · intro y hy
    simp only [List.mem_append, List.mem_filter, List.mem_range, decide_eq_true_eq] at hy
    have hz := fs.size
    rcases hy with hy | hy
    · have := h2 y hy; have := f.size; omega
    · omega
  · exact fun z hm => Zn.ok_mono (Zn.ok_frame (hzo z hm) fs hU) hV
  · rw [← hzv, List.length_map] at hb; exact hb
  · exact (hzr.frame fs hU).mono hV
  · exact (rf.frame fs hU).mono hV
  · have := hcap an _ nc rfl
    rw [← hzv, List.length_map] at this; exact this
  · intro y hy
    simp only [List.mem_append, List.mem_filter, List.mem_range, decide_eq_true_eq] at hy
    rcases hy with hy | hy
    · exact .inl hy
    · exact .inr hy.2
theorem esWo_one : ∀ {es : List Ed}, Up (es.map (·.tok)) → ∀ {t : Int}, t ∈ es.map (·.tok) → esWo es [t] = es.eraseIdx (rank (es.map (·.tok)) t) := by
  intro es
  induction es with
  | nil => intro _ t ht; simp at ht
  | cons e r ih =>
    intro hu t ht
    rw [List.map_cons] at hu ht
    obtain ⟨h1, h2⟩ := List.pairwise_cons.1 hu
    by_cases het : e.tok = t
    · have hr : esWo r [t] = r := by
        unfold esWo
        rw [List.filter_eq_self]
        intro f hf
        have := h1 f.tok (List.mem_map.2 ⟨f, hf, rfl⟩)
        simp; omega
      have hk : rank ((e :: r).map (·.tok)) t = 0 := by
        refine rank_of (Nat.zero_le _) (fun i _ h => by omega) (fun i hi _ => ?_)
        cases i with
        | zero => simp; omega
        | succ i =>
          have := h1 _ (List.getElem_mem (l := r.map (·.tok)) (n := i) (by simpa using hi))
          simp at this ⊢; omega
      rw [hk]
      have : esWo (e :: r) [t] = esWo r [t] := by simp [esWo, het]
      rw [this, hr]; rfl
    · have htr : t ∈ r.map (·.tok) := by
        rcases List.mem_cons.1 ht with h | h
        · exact absurd h.symm het
        · exact h
      have hlt := h1 t htr
      have hk : rank ((e :: r).map (·.tok)) t = rank (r.map (·.tok)) t + 1 := by
        unfold rank
        rw [List.map_cons, List.countP_cons_of_pos (by simpa using hlt)]
      rw [hk]
      have : esWo (e :: r) [t] = e :: esWo r [t] := by simp [esWo, het]
      rw [this, ih h2 htr]; rfl

end Go.Proofs.YtjcajidgaejhoaaGreat

namespace Go.Proofs.YtjcajidgaejhoaaGreat
open Go.RowKit
set_option linter.unusedSimpArgs false
set_option linter.unusedVariables false

theorem RF.take {α : Type} {U : Nat → Prop} {w : World} {sz : Nat} {enc : α → List Value} {a : Option Addr} {xs : List α} (h : RF U w sz enc a xs) (k : Nat) : RF U w sz enc a (xs.take k) := fun j x hx => by
  rw [List.getElem?_take] at hx
  split at hx
  · exact h j x hx
  · cases hx
theorem RF.drop {α : Type} {U : Nat → Prop} {w : World} {sz : Nat} {enc : α → List Value} {b off : Nat} {xs : List α} (h : RF U w sz enc (some ⟨b, off, none⟩) xs) (k : Nat) : RF U w sz enc (some ⟨b, off + k * sz, none⟩) (xs.drop k) := fun j x hx => by
  rw [List.getElem?_drop] at hx
  obtain ⟨b', off', h1, h2, h3⟩ := h (k + j) x hx
  simp at h1
  obtain ⟨rfl, rfl⟩ := h1
  refine ⟨b, off + k * sz, rfl, h2, fun i u hu => ?_⟩
  have := h3 i u hu
  rw [Nat.add_mul] at this
  rw [show off + k * sz + j * sz + i = off + (k * sz + j * sz) + i by omega]
  exact this
theorem placeV_rank {ns : List Nv} (hu : Up (ns.map (·.1))) {t : Int} (h : t ∈ ns.map (·.1)) : placeV ns t = rank (ns.map (·.1)) t ∧ rank (ns.map (·.1)) t < ns.length := by
  obtain ⟨h1, h2⟩ := rank_lt hu h
  rw [List.length_map] at h1
  generalize rank (ns.map (·.1)) t = i at *
  rw [List.getElem?_map, List.getElem?_eq_getElem h1] at h2
  refine ⟨placeV_at (k := i) (n := ns[i]) (by simp) (by simpa using h2) (fun j m hj hm => ?_), h1⟩
  obtain ⟨hjl, rfl⟩ := List.getElem?_eq_some_iff.1 hm
  have := List.pairwise_iff_getElem.1 hu j i (by simpa using hjl) (by simpa using h1) hj
  simp at this h2
  omega

end Go.Proofs.YtjcajidgaejhoaaGreat

