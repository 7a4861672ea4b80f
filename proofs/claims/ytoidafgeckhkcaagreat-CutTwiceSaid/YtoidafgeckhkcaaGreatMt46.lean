/- A copy has the same gates once more: pure. A copy of a copy is the copy; cut twice, or at once: pure. cut.Copy; cut.Restrict where all is told. -/
import Derived.Test.YtoidafgeckhkcaaGreatMt45
import Derived.Test.YtoidafgeckhkcaaGreatMt33
import Derived.Test.YtoidafgeckhkcaaGreatMt35
namespace Go.Proofs.YtoidafgeckhkcaaGreat
open Go.RowKit
set_option linter.unusedSimpArgs false
set_option linter.unusedVariables false

/-- A gate, of what its parts became. -/
def imgG (bm : Nat → Int) (g : Gt) : Gt := if g.k = 3 then ⟨3, g.a, 0⟩ else if g.k = 6 then ⟨6, bm g.a.toNat, 0⟩ else ⟨g.k, bm g.a.toNat, bm g.b.toNat⟩
theorem imgG_k (bm : Nat → Int) (g : Gt) : (imgG bm g).k = g.k := by
  unfold imgG
  by_cases h3 : g.k = 3
  · rw [if_pos h3, h3]
  rw [if_neg h3]
  by_cases h6 : g.k = 6
  · rw [if_pos h6, h6]
  rw [if_neg h6]
/-- Its parts are among js. -/
def KidsIn (js : List Nat) (g : Gt) : Prop := (g.k = 4 ∨ g.k = 5 → ∃ a b : Nat, g.a = (a : Int) ∧ g.b = (b : Int) ∧ a ∈ js ∧ b ∈ js) ∧ (g.k = 6 → ∃ a : Nat, g.a = (a : Int) ∧ a ∈ js)
theorem KidsIn.mono {js ks : List Nat} {g : Gt} (h : KidsIn js g) (hs : ∀ j ∈ js, j ∈ ks) : KidsIn ks g :=
  ⟨fun h4 => let ⟨a, b, h1, h2, h3, h5⟩ := h.1 h4; ⟨a, b, h1, h2, hs a h3, hs b h5⟩, fun h6 => let ⟨a, h1, h2⟩ := h.2 h6; ⟨a, h1, hs a h2⟩⟩
theorem imgG_congr {js : List Nat} {bm bm' : Nat → Int} {g : Gt} (hn : Ng g) (h : KidsIn js g) (he : ∀ j ∈ js, bm' j = bm j) : imgG bm' g = imgG bm g := by
  unfold imgG
  by_cases h3 : g.k = 3
  · rw [if_pos h3, if_pos h3]
  rw [if_neg h3, if_neg h3]
  by_cases h6 : g.k = 6
  · obtain ⟨a, ha, hm⟩ := h.2 h6
    rw [if_pos h6, if_pos h6, ha, Int.toNat_natCast, he a hm]
  rw [if_neg h6, if_neg h6]
  obtain ⟨a, b, ha, hb, ma, mb⟩ := h.1 (by have := hn.1; omega)
  rw [ha, hb, Int.toNat_natCast, Int.toNat_natCast, he a ma, he b mb]
theorem imgG_inj {js : List Nat} {bm : Nat → Int} {g h : Gt} (hg : Ng g) (hh : Ng h) (kg : KidsIn js g) (kh : KidsIn js h) (inj : ∀ i ∈ js, ∀ j ∈ js, bm i = bm j → i = j) (e : imgG bm g = imgG bm h) : g = h := by
  have ek : g.k = h.k := by have := congrArg Gt.k e; rwa [imgG_k, imgG_k] at this
  unfold imgG at e
  obtain ⟨gk, ga, gb⟩ := g
  obtain ⟨hk, ha, hb⟩ := h
  simp only at ek e kg kh hg hh
  subst ek
  by_cases h3 : gk = 3
  · subst h3
    simp only [if_true, Gt.mk.injEq, true_and, and_true] at e
    have e1 := (hg.2.1 rfl).2
    have e2 := (hh.2.1 rfl).2
    simp only at e1 e2
    rw [e, e1, e2]
  rw [if_neg h3, if_neg h3] at e
  by_cases h6 : gk = 6
  · subst h6
    obtain ⟨a, q1, m1⟩ := kg.2 rfl
    obtain ⟨a', q2, m2⟩ := kh.2 rfl
    simp only at q1 q2
    have e1 := hg.2.2.2 rfl
    have e2 := hh.2.2.2 rfl
    simp only at e1 e2
    subst q1 q2 e1 e2
    simp only [if_true, Int.toNat_natCast, Gt.mk.injEq, true_and, and_true] at e
    rw [inj a m1 a' m2 e]
  rw [if_neg h6, if_neg h6] at e
  have h45 : gk = 4 ∨ gk = 5 := by have := hg.1; simp only at this; omega
  obtain ⟨a, b, q1, q2, m1, m2⟩ := kg.1 h45
  obtain ⟨a', b', q3, q4, m3, m4⟩ := kh.1 h45
  simp only at q1 q2 q3 q4
  subst q1 q2 q3 q4
  simp only [Int.toNat_natCast, Gt.mk.injEq, true_and] at e
  rw [inj a m1 a' m3 e.1, inj b m2 b' m4 e.2]
structure CopyInv (T : Int) (l : List Gt) (s : CutSt) (js : List Nat) : Prop where
  ci : CInv T s js
  b0 : ∀ j ∈ js, j ≤ 1 → s.bm j = j
  b2 : ∀ j ∈ js, 2 ≤ j → 2 ≤ s.bm j ∧ ∃ g, l[j]? = some g ∧ s.l[(s.bm j).toNat]? = some (imgG s.bm g)
  mono : ∀ i ∈ js, ∀ j ∈ js, i < j → s.bm i < s.bm j
  onto : ∀ i : Nat, 2 ≤ i → i < s.l.length → ∃ j ∈ js, 2 ≤ j ∧ s.bm j = i
  cnt : s.l.length = 2 + (js.filter (fun j => decide (2 ≤ j))).length
  kids : ∀ j ∈ js, ∀ g, l[j]? = some g → KidsIn js g
theorem CopyInv.inj {T : Int} {l : List Gt} {s : CutSt} {js : List Nat} (h : CopyInv T l s js) : ∀ i ∈ js, ∀ j ∈ js, s.bm i = s.bm j → i = j := fun i hi j hj e => by
  rcases Nat.lt_trichotomy i j with h1 | h1 | h1
  · have := h.mono i hi j hj h1; omega
  · exact h1
  · have := h.mono j hj i hi h1; omega
theorem CopyInv.start (T : Int) (l : List Gt) : CopyInv T l ⟨fun _ => 0, init, T - 2, 0⟩ [] := ⟨CInv.start T, by simp, by simp, by simp, fun i h1 h2 => by simp [init] at h2; omega, by simp [init], by simp⟩
/-- Of parts that are there, a gate is made just so. -/
theorem again_img {dead : Int → Bool} (hd : ∀ t, dead t = false) {T : Int} {l : List Gt} {s : CutSt} {js : List Nat} (h : CopyInv T l s js) {k : Nat} {g : Gt} (hI : Inv l) (hg : l[k]? = some g) (hn : Ng g) (hk : KidsIn js g) : againV dead s.bm g s.l s.left = put (imgG s.bm g) s.l s.left := by
  have lo : ∀ a ∈ js, 1 ≤ a → 1 ≤ s.bm a := fun a ha h1 => by
    by_cases e : a = 1
    · rw [h.b0 a ha (by omega)]; omega
    · have := (h.b2 a ha (by omega)).1; omega
  obtain ⟨gk, ga, gb⟩ := g
  unfold againV imgG
  have hw := hI.wf k _ hg
  unfold Wfg at hw
  simp only at hw hk hn ⊢
  have hk36 := hn.1
  simp only at hk36
  rw [if_neg (by omega)]
  by_cases h3 : gk = 3
  · have h1 := (hn.2.1 h3)
    simp only at h1
    rw [if_pos h3, if_pos h3, hd]
    simp only [Bool.false_eq_true, if_false]
    unfold mkVar
    rw [if_neg (by omega)]
  rw [if_neg h3, if_neg h3]
  by_cases h6 : gk = 6
  · obtain ⟨a, q1, m1⟩ := hk.2 h6
    simp only at q1
    rw [if_neg (by omega), if_neg (by omega), if_pos h6, if_pos h6, q1, Int.toNat_natCast]
    have ha := lo a m1 (by have := hw.1 (by omega); omega)
    unfold mkStar
    rw [if_neg (by rw [areG_in1 (h.ci.nums a m1)]; simp), if_neg (by omega)]
  rw [if_neg h6]
  have h45 : gk = 4 ∨ gk = 5 := by omega
  obtain ⟨a, b, q1, q2, m1, m2⟩ := hk.1 h45
  simp only at q1 q2
  have hab : a ≤ b := by have := hw.2 h45; omega
  have a1 : 1 ≤ a := by have := hw.1 (by omega); omega
  have ha := lo a m1 a1
  have hb := lo b m2 (by omega)
  have hbm : s.bm a ≤ s.bm b := by
    rcases Nat.lt_or_eq_of_le hab with e | e
    · have := h.mono a m1 b m2 e; omega
    · rw [e]; exact Int.le_refl _
  rw [q1, q2, Int.toNat_natCast, Int.toNat_natCast]
  by_cases h4 : gk = 4
  · subst h4
    rw [if_pos rfl]
    unfold mkPlus
    rw [if_neg (by rw [areG_in2 (h.ci.nums a m1) (h.ci.nums b m2)]; simp), if_neg (by omega), if_neg (by omega), Int.min_eq_left hbm, Int.max_eq_right hbm]
    simp
  · obtain rfl : gk = 5 := by omega
    have h2 := hn.2.2.1 rfl
    simp only at h2
    have ha2 := (h.b2 a m1 (by omega)).1
    rw [if_neg h4, if_pos rfl]
    unfold mkTimes
    rw [if_neg (by rw [areG_in2 (h.ci.nums a m1) (h.ci.nums b m2)]; simp), if_neg (by omega), if_neg (by omega), if_neg (by omega), if_neg (by omega), Int.min_eq_left hbm, Int.max_eq_right hbm]
    simp
theorem init_k {m : List Gt} : ∀ {i : Nat} {x : Gt}, (init ++ m)[i]? = some x → i < 2 → x.k < 3
  | 0, x, h, _ => by simp [init] at h; rw [← h]; decide
  | 1, x, h, _ => by simp [init] at h; rw [← h]; decide
  | i + 2, _, _, hi => by omega
theorem CopyInv.step {dead : Int → Bool} (hd : ∀ t, dead t = false) {T : Int} {l : List Gt} {s : CutSt} {js : List Nat} (h : CopyInv T l s js) {k : Nat} {g : Gt} (hI : Inv l) (hN : Nrm l) (hg : l[k]? = some g) (hk : KidsIn js g) (hlt : ∀ j ∈ js, j < k) (hT : (js.length : Int) + 3 ≤ T) : CopyInv T l (cutStep dead l s k) (js ++ [k]) := by
  have hkn : k ∉ js := fun hm => by have := hlt k hm; omega
  have ci' := h.ci.step (dead := dead) hg (fun h3 => by
    rcases Nat.lt_or_ge k 2 with hk2 | hk2
    · obtain ⟨m, hm⟩ := hI.good
      rw [hm] at hg
      match k, hk2, hg with
      | 0, _, hg => simp [init] at hg; subst hg; simp at h3
      | 1, _, hg => simp [init] at hg; subst hg; simp at h3
    · exact ((hN k g hg hk2).2.1 h3).1) hk.1 hk.2 hT
  have kids' : ∀ j ∈ js ++ [k], ∀ g', l[j]? = some g' → KidsIn (js ++ [k]) g' := fun j hj g' hg' => by
    rw [List.mem_append] at hj
    rcases hj with hj | hj
    · exact (h.kids j hj g' hg').mono (fun x hx => by simp [hx])
    · simp at hj; subst hj; rw [hg] at hg'; cases hg'; exact hk.mono (fun x hx => by simp [hx])
  rw [cutStep_at h.ci.e hg] at ci' ⊢
  rcases Nat.lt_or_ge k 2 with hk2 | hk2
  · have ha : againV dead s.bm g s.l s.left = (((k : Int), 0), s.l, s.left) := by
      obtain ⟨m, hm⟩ := hI.good
      rw [hm] at hg
      match k, hk2, hg with
      | 0, _, hg => simp [init] at hg; subst hg; simp [againV]
      | 1, _, hg => simp [init] at hg; subst hg; simp [againV]
    rw [ha] at ci' ⊢
    refine ⟨ci', ?_, ?_, ?_, ?_, ?_, kids'⟩
    · intro j hj hj1
      simp only
      by_cases e : j = k
      · rw [if_pos e, e]
      · rw [if_neg e]
        rw [List.mem_append] at hj
        rcases hj with hj | hj
        · exact h.b0 j hj hj1
        · simp at hj; exact absurd hj e
    · intro j hj hj2
      rw [List.mem_append] at hj
      rcases hj with hj | hj
      · have := hlt j hj; omega
      · simp at hj; omega
    · intro i hi j hj hij
      simp only
      rw [List.mem_append] at hi hj
      have ik : i ∈ js ∧ i ≤ 1 ∧ j ≤ 1 := by
        rcases hj with hj | hj <;> rcases hi with hi | hi
        · have := hlt j hj; exact ⟨hi, by omega, by omega⟩
        · simp at hi; have := hlt j hj; omega
        · simp at hj; exact ⟨hi, by omega, by omega⟩
        · simp at hi hj; omega
      rw [if_neg (by intro e; subst e; exact hkn ik.1), h.b0 i ik.1 ik.2.1]
      by_cases e : j = k
      · rw [if_pos e]; omega
      · rw [if_neg e]
        rcases hj with hj | hj
        · rw [h.b0 j hj ik.2.2]; omega
        · simp at hj; exact absurd hj e
    · intro i h1 h2
      obtain ⟨j, hj, h3, h4⟩ := h.onto i h1 h2
      have := hlt j hj
      omega
    · rw [List.filter_append]
      have : ([k].filter fun j => decide (2 ≤ j)) = [] := by simp; omega
      rw [this, List.append_nil]
      exact h.cnt
  · have hn := hN k g hg hk2
    have hlen := h.ci.len
    have h1l : 1 ≤ s.left := by rw [h.ci.left]; omega
    have hf : find (imgG s.bm g) s.l 0 = none := find_no fun i hi e => by
      rcases Nat.lt_or_ge i 2 with hi2 | hi2
      · obtain ⟨m, hm⟩ := h.ci.inv.good
        have hki := hn.1
        have ek := congrArg Gt.k e
        rw [imgG_k] at ek
        have h8 : (init ++ m)[i]? = some s.l[i] := by rw [← hm]; exact List.getElem?_eq_getElem hi
        have := init_k h8 hi2
        omega
      · obtain ⟨j, hj, hj2, hb⟩ := h.onto i hi2 hi
        obtain ⟨_, gj, hgj, hat⟩ := h.b2 j hj hj2
        rw [hb, Int.toNat_natCast, List.getElem?_eq_getElem hi, e] at hat
        simp at hat
        have := imgG_inj hn (hN j gj hgj hj2) hk (h.kids j hj gj hgj) h.inj hat
        subst this
        have hjk : j = k := by
          obtain ⟨q1, q2⟩ := List.getElem?_eq_some_iff.mp hgj
          obtain ⟨q3, q4⟩ := List.getElem?_eq_some_iff.mp hg
          rcases Nat.lt_trichotomy j k with h5 | h5 | h5
          · exact absurd (q2.trans q4.symm) ((List.pairwise_iff_getElem.mp (List.nodup_iff_pairwise_ne.mp hI.nodup)) j k q1 q3 h5)
          · exact h5
          · exact absurd (q4.trans q2.symm) ((List.pairwise_iff_getElem.mp (List.nodup_iff_pairwise_ne.mp hI.nodup)) k j q3 q1 h5)
        exact hkn (hjk ▸ hj)
    have ha : againV dead s.bm g s.l s.left = (((s.l.length : Int), 0), s.l ++ [imgG s.bm g], s.left - 1) := by
      rw [again_img hd h hI hg hn hk]
      unfold put
      rw [hf]
      simp only
      rw [if_pos h1l]
    rw [ha] at ci' ⊢
    have old : ∀ j ∈ js, (if j = k then (s.l.length : Int) else s.bm j) = s.bm j := fun j hj => if_neg (by rintro rfl; exact hkn hj)
    refine ⟨ci', ?_, ?_, ?_, ?_, ?_, kids'⟩
    · intro j hj hj1
      rw [List.mem_append] at hj
      rcases hj with hj | hj
      · simp only; rw [old j hj]; exact h.b0 j hj hj1
      · simp at hj; omega
    · intro j hj hj2
      simp only
      rw [List.mem_append] at hj
      rcases hj with hj | hj
      · rw [old j hj]
        obtain ⟨q1, gj, q2, q3⟩ := h.b2 j hj hj2
        refine ⟨q1, gj, q2, ?_⟩
        rw [imgG_congr (hN j gj q2 hj2) (h.kids j hj gj q2) old, List.getElem?_append_left (List.getElem?_eq_some_iff.mp q3).1]
        exact q3
      · simp at hj
        subst hj
        rw [if_pos rfl]
        refine ⟨by have := h.ci.two; omega, g, hg, ?_⟩
        rw [imgG_congr hn hk old]
        simp
    · intro i hi j hj hij
      simp only
      rw [List.mem_append] at hi hj
      rcases hj with hj | hj
      · rcases hi with hi | hi
        · rw [old i hi, old j hj]; exact h.mono i hi j hj hij
        · simp at hi; have := hlt j hj; omega
      · simp at hj
        subst hj
        rw [if_pos rfl]
        rcases hi with hi | hi
        · rw [old i hi]; exact (h.ci.nums i hi).2
        · simp at hi; omega
    · intro i h1 h2
      simp only [List.length_append, List.length_cons, List.length_nil] at h2
      by_cases e : i = s.l.length
      · exact ⟨k, by simp, hk2, by simp [e]⟩
      · obtain ⟨j, hj, h3, h4⟩ := h.onto i h1 (by omega)
        exact ⟨j, by simp [hj], h3, by simp only; rw [old j hj]; exact h4⟩
    · rw [List.filter_append]
      have : ([k].filter fun j => decide (2 ≤ j)) = [k] := by simp [hk2]
      rw [this, List.length_append, List.length_append, h.cnt]
      simp only [List.length_cons, List.length_nil]
      omega
theorem copyInv_all {dead : Int → Bool} (hd : ∀ t, dead t = false) {l : List Gt} (hI : Inv l) (hN : Nrm l) {ks : List Nat} (hC : Closed l ks) (hU : ks.Pairwise (· < ·)) {T : Int} (hT : (ks.length : Int) + 3 ≤ T) : ∀ t, t ≤ ks.length → CopyInv T l (cutV dead l (ks.take t) (T - 2)) (ks.take t)
  | 0, _ => by rw [List.take_zero]; exact CopyInv.start T l
  | t + 1, ht => by
    have ih := copyInv_all hd hI hN hC hU hT t (by omega)
    have hj : ks[t]? = some ks[t] := List.getElem?_eq_getElem (by omega)
    have hkl := hC.lt ks[t] (List.getElem_mem (by omega))
    have hg : l[ks[t]]? = some l[ks[t]] := List.getElem?_eq_getElem hkl
    rw [cutV_next hj, take_one hj]
    refine ih.step hd hI hN hg ⟨hC.two t _ _ hj hg, hC.one t _ _ hj hg⟩ (fun j hm => ?_) (by rw [List.length_take]; omega)
    obtain ⟨i, hi, rfl⟩ := List.mem_iff_getElem.mp hm
    rw [List.length_take] at hi
    rw [List.getElem_take]
    exact List.pairwise_iff_getElem.mp hU i t (by omega) (by omega) (by omega)
end Go.Proofs.YtoidafgeckhkcaaGreat

namespace Go.Proofs.YtoidafgeckhkcaaGreat
open Go.RowKit
set_option linter.unusedSimpArgs false
set_option linter.unusedVariables false

theorem two_up : ∀ m : Nat, ((List.range (m + 2)).filter fun j => decide (2 ≤ j)).length = m
  | 0 => by decide
  | m + 1 => by
    rw [List.range_succ, List.filter_append, List.length_append, two_up m]
    simp
theorem two_low {n : Nat} (h : n ≤ 1) : ((List.range (n + 1)).filter fun j => decide (2 ≤ j)) = [] := by
  rw [List.filter_eq_nil_iff]
  intro j hj
  have := List.mem_range.mp hj
  simp; omega
/-- Where the root is, and that all of the copy is of it. -/
theorem copy_root {T : Int} {l : List Gt} {s : CutSt} {root : Nat} (hI : Inv l) (h : CopyInv T l s (reach l root)) : 0 ≤ s.bm root ∧ s.bm root < s.l.length ∧
    (2 ≤ root → s.bm root = s.l.length - 1) ∧ (root ≤ 1 → s.bm root = root ∧ s.l.length = 2) ∧ (∀ j ∈ reach l root, 2 ≤ j → (s.bm j).toNat ∈ reach s.l (s.bm root).toNat) := by
  have hm : root ∈ reach l root := mem_reach.mpr ⟨Nat.le_refl root, reachM_root l root⟩
  have hn := h.ci.nums root hm
  refine ⟨hn.1, hn.2, fun h2 => ?_, fun h1 => ?_, ?_⟩
  · have hb := (h.b2 root hm h2).1
    rcases Int.lt_or_le (s.bm root) (s.l.length - 1) with hlt | hge
    · exfalso
      obtain ⟨j, hj, _, hbj⟩ := h.onto (s.l.length - 1) (by omega) (by omega)
      have hjr := (mem_reach.mp hj).1
      rcases Nat.lt_or_eq_of_le hjr with e | e
      · have := h.mono j hj root hm e; omega
      · rw [e] at hbj; omega
    · omega
  · refine ⟨h.b0 root hm h1, ?_⟩
    have : (reach l root).filter (fun j => decide (2 ≤ j)) = [] := by
      rw [List.filter_eq_nil_iff]
      intro j hj
      have := (mem_reach.mp hj).1
      simp; omega
    rw [h.cnt, this]; rfl
  · have hp : ∀ d j : Nat, root - j = d → j ∈ reach l root → 2 ≤ j → (s.bm j).toNat ∈ reach s.l (s.bm root).toNat := by
      intro d
      induction d using Nat.strongRecOn with
      | ind d ih =>
        intro j hd hj h2
        by_cases e : j = root
        · rw [e]; exact mem_reach.mpr ⟨Nat.le_refl _, reachM_root _ _⟩
        obtain ⟨p, hp, hjp, g, hg, hk⟩ := reach_parent hI hj e
        have hpr := (mem_reach.mp hp).1
        have hi := ih (root - p) (by omega) p rfl hp (by omega)
        obtain ⟨hb1, g', hg', hat⟩ := h.b2 p hp (by omega)
        rw [hg] at hg'
        cases hg'
        have hi' := mem_reach.mp hi
        have hkids := reachM_kids h.ci.inv hi'.1 hat hi'.2
        have hbj := (h.b2 j hj h2).1
        have hjr := (mem_reach.mp hj).1
        have hmr : (s.bm j).toNat ≤ (s.bm root).toNat := by have := h.mono j hj root hm (by omega); omega
        refine mem_reach.mpr ⟨hmr, ?_⟩
        rw [imgG_k] at hkids
        rcases hk with ⟨h45, hab⟩ | ⟨h6, ha⟩
        · have hh := hkids.1 h45
          unfold imgG at hh
          rw [if_neg (by omega), if_neg (by omega)] at hh
          rcases hab with e | e
          · rw [e]; exact hh.1
          · rw [e]; exact hh.2
        · have hh := hkids.2 h6
          unfold imgG at hh
          rw [if_neg (by omega), if_pos h6] at hh
          rw [ha]; exact hh
    exact fun j hj h2 => hp _ j rfl hj h2
/-- A copy of a copy: as many gates, and the same number. -/
theorem copy_copy {T T' : Int} {l : List Gt} {s s' : CutSt} {root n : Nat} (hI : Inv l) (h : CopyInv T l s (reach l root)) (hn : s.bm root = n) (h' : CopyInv T' s.l s' (reach s.l n)) : s'.l.length = s.l.length ∧ s'.bm n = n := by
  obtain ⟨c1, c2, c3, c4, c5⟩ := copy_root hI h
  obtain ⟨_, _, d3, d4, _⟩ := copy_root h.ci.inv h'
  rw [hn, Int.toNat_natCast] at c5
  rcases Nat.lt_or_ge root 2 with hr | hr
  · obtain ⟨e1, e2⟩ := c4 (by omega)
    have hn1 : n ≤ 1 := by omega
    obtain ⟨g1, g2⟩ := d4 hn1
    exact ⟨by omega, g1⟩
  · have e1 := c3 hr
    have h2n : 2 ≤ n := by
      have hm : root ∈ reach l root := mem_reach.mpr ⟨Nat.le_refl root, reachM_root l root⟩
      have := (h.b2 root hm hr).1
      omega
    have hlen : s'.l.length = s.l.length := by
      rw [h'.cnt]
      have : (reach s.l n).filter (fun j => decide (2 ≤ j)) = (List.range (n + 1)).filter (fun j => decide (2 ≤ j)) := by
        unfold reach
        rw [List.filter_filter]
        refine List.filter_congr fun j hj => ?_
        have hj := List.mem_range.mp hj
        by_cases h2 : 2 ≤ j
        · obtain ⟨i, hi, hi2, hb⟩ := h.onto j h2 (by omega)
          have := c5 i hi hi2
          rw [hb, Int.toNat_natCast] at this
          rw [(mem_reach.mp this).2]; simp
        · simp [h2]
      rw [this]
      obtain ⟨m, rfl⟩ : ∃ m, n = m + 1 := ⟨n - 1, by omega⟩
      rw [two_up m]
      omega
    refine ⟨hlen, ?_⟩
    rw [d3 h2n, hlen]; omega
/-- What is dead is dead. -/
theorem truth_cut {dead : Int → Bool} {l : List Gt} (hI : Inv l) {root : Nat} (hr : root < l.length) (h3 : ∀ g ∈ l, g.k = 3 → 1 ≤ g.a) {T : Int} (hT : ((reach l root).length : Int) + 3 ≤ T) {n : Nat} (hn : (cutV dead l (reach l root) (T - 2)).bm root = n) (ts : List Int) :
    truth (cutV dead l (reach l root) (T - 2)).l n ts = worth rgB (killed rgB (fun t => decide (t ∈ ts)) dead) l root := by
  have hm : root ∈ reach l root := mem_reach.mpr ⟨Nat.le_refl root, reachM_root l root⟩
  have := cutV_worth (W := fun t => decide (t ∈ ts)) (dead := dead) hI (reach_closed hI hr) h3 hT (reach l root).length (Nat.le_refl _) root (by rw [List.take_length]; exact hm)
  rw [List.take_length, hn, Int.toNat_natCast] at this
  exact this
theorem worth_cut {W : Int → Bool} {dead : Int → Bool} {l : List Gt} (hI : Inv l) {root : Nat} (hr : root < l.length) (h3 : ∀ g ∈ l, g.k = 3 → 1 ≤ g.a) {T : Int} (hT : ((reach l root).length : Int) + 3 ≤ T) {n : Nat} (hn : (cutV dead l (reach l root) (T - 2)).bm root = n) :
    worth rgB W (cutV dead l (reach l root) (T - 2)).l n = worth rgB (killed rgB W dead) l root := by
  have hm : root ∈ reach l root := mem_reach.mpr ⟨Nat.le_refl root, reachM_root l root⟩
  have := cutV_worth (W := W) (dead := dead) hI (reach_closed hI hr) h3 hT (reach l root).length (Nat.le_refl _) root (by rw [List.take_length]; exact hm)
  rw [List.take_length, hn, Int.toNat_natCast] at this
  exact this
theorem killed_twice (W : Int → Bool) (a b : List Int) : killed rgB (killed rgB W fun t => decide (t ∈ b)) (fun t => decide (t ∈ a)) = killed rgB W fun t => decide (t ∈ a ++ b) := by
  funext t
  unfold killed
  by_cases h1 : t ∈ a <;> by_cases h2 : t ∈ b <;> simp [h1, h2]
theorem killed_none (W : Int → Bool) : (killed rgB W fun t => decide (t ∈ ([] : List Int))) = W := by
  funext t
  simp [killed]
/-- What a cut circuit's gates are. -/
theorem nrm_three {l : List Gt} (hI : Inv l) (hN : Nrm l) : ∀ g ∈ l, g.k = 3 → 1 ≤ g.a := by
  intro g hg h3
  obtain ⟨i, hi, rfl⟩ := List.mem_iff_getElem.mp hg
  have h8 : l[i]? = some l[i] := List.getElem?_eq_getElem hi
  rcases Nat.lt_or_ge i 2 with h2 | h2
  · obtain ⟨m, hm⟩ := hI.good
    have h9 : (init ++ m)[i]? = some l[i] := by rw [← hm]; exact h8
    have := init_k h9 h2
    omega
  · exact ((hN i _ h8 h2).2.1 h3).1
/-- A circuit cut, of those that are made: all that is told of it. -/
structure CutOk (dead : Int → Bool) (l : List Gt) (root : Nat) (s : CutSt) (n : Nat) : Prop where
  e : s.e = 0
  bm : s.bm root = n
  lt : n < s.l.length
  inv : Inv s.l
  nrm : Nrm s.l
  len : s.l.length ≤ root + 3
  worth : ∀ W, worth rgB W s.l n = Go.Proofs.YtoidafgeckhkcaaGreat.worth rgB (killed rgB W dead) l root
theorem cut_ok (dead : Int → Bool) {l : List Gt} (hI : Inv l) (hN : Nrm l) {root : Nat} (hr : root < l.length) (h9 : l.length ≤ 900) : ∃ n, CutOk dead l root (cutV dead l (reach l root) (1000 - 2)) n := by
  have h3 := nrm_three hI hN
  have hl := reach_len l root
  have ci := cutV_ok (dead := dead) (reach_closed hI hr) h3 (T := 1000) (by omega) (reach l root).length (Nat.le_refl _)
  rw [List.take_length] at ci
  have hm : root ∈ reach l root := mem_reach.mpr ⟨Nat.le_refl root, reachM_root l root⟩
  have hn := ci.nums root hm
  obtain ⟨n, hbm⟩ : ∃ n : Nat, (cutV dead l (reach l root) (1000 - 2)).bm root = n := ⟨((cutV dead l (reach l root) (1000 - 2)).bm root).toNat, by omega⟩
  exact ⟨n, ci.e, hbm, by omega, ci.inv, cutV_nrm _ _ _ _, by have := ci.len; omega, fun W => worth_cut hI hr h3 (by omega) hbm⟩
theorem copy_ok {dead : Int → Bool} (hd : ∀ t, dead t = false) {l : List Gt} (hI : Inv l) (hN : Nrm l) {root : Nat} (hr : root < l.length) (h9 : l.length ≤ 900) : CopyInv 1000 l (cutV dead l (reach l root) (1000 - 2)) (reach l root) := by
  have hl := reach_len l root
  have := copyInv_all hd hI hN (reach_closed hI hr) (reach_up l root) (T := 1000) (by omega) (reach l root).length (Nat.le_refl _)
  rwa [List.take_length] at this
end Go.Proofs.YtoidafgeckhkcaaGreat

namespace Go.Proofs.YtoidafgeckhkcaaGreat
open Go.RowKit
set_option linter.unusedSimpArgs false
set_option linter.unusedVariables false

set_option maxHeartbeats 4000000 in
set_option maxRecDepth 100000 in
theorem copy_any (pb : Nat) (F : List Nat) (l : List Gt) (left : Int) (hI : Inv l) (root : Nat) (hr : root < l.length) (hlen : l.length ≤ 100000) (budget : Int) (w : World) (h : St w pb F l left) :
    Calls Tryz.prog 23 #[.pointer (some ⟨pb, 0, none⟩), .int .i64 root, .int .i64 budget] w (RestrEnd (cutV (fun t => decide (t ∈ ([] : List Int))) l (reach l root) (room budget)) root w) := by
  have hR := restrict_any pb F l left hI root hr hlen budget none 0 [] (by simp) w h (.inl rfl) (by simp)
  generalize cutV (fun t => decide (t ∈ ([] : List Int))) l (reach l root) (room budget) = fin at *
  have HR := Lib.hid hR
  clear hR h hI
  by_cases he : fin.e = 0
  · have HE := Lib.hid he
    clear he
    go_enter Tryz.func23, Tryz.ntmps23
    go_wp2_with fail
    refine HR.out.mono ?_
    rintro e w' ⟨h1, h2, f⟩
    obtain ⟨qb, Q, rfl, s, q⟩ := h1 HE.out
    have P := Lib.hid (And.intro s (And.intro q f))
    clear h1 h2 s q f HR
    go_wp2_with fail
    refine bodyPost_ret (v := .tuple #[.pointer (some ⟨qb, 0, none⟩), .int .i64 (fin.bm root), .int .i64 0]) (by simp [results, Tryz.results23, go_sem]) rfl ?_
    exact ⟨fun _ => ⟨qb, Q, rfl, P.out.1, P.out.2.1⟩, fun h => absurd HE.out h, P.out.2.2⟩
  · have HE := Lib.hid he
    clear he
    go_enter Tryz.func23, Tryz.ntmps23
    go_wp2_with fail
    refine HR.out.mono ?_
    rintro e w' ⟨h1, h2, f⟩
    obtain rfl := h2 HE.out
    have P := Lib.hid f
    clear h1 h2 f HR
    go_wp2_with fail
    refine bodyPost_ret (v := .tuple #[.pointer none, .int .i64 0, .int .i64 fin.e]) (by simp [results, Tryz.results23, go_sem]) rfl ?_
    exact ⟨fun h => absurd h HE.out, fun _ => rfl, P.out⟩
/-- A circuit that was made of another one, with a gate's number. -/
def MadeEnd (l : List Gt) (left : Int) (n : Nat) (w : World) (e : Ending) (w' : World) : Prop :=
  ∃ qb Q, e = .returned (.tuple #[.pointer (some ⟨qb, 0, none⟩), .int .i64 n, .int .i64 0]) ∧ St w' qb Q l left ∧ (∀ x ∈ Q, w.heap.size ≤ x) ∧ Frame [] w w'
theorem restrict_made (pb : Nat) (F : List Nat) (l : List Gt) (left : Int) (hI : Inv l) (root : Nat) (hr : root < l.length) (hlen : l.length ≤ 100000)
    (ta : Option Addr) (tc : Nat) (ts : List Int) (htl : ts.length ≤ 1000000) (w : World) (h : St w pb F l left) (ht : RdI w ta ts) (hta : ts ≠ [] → ∀ b off, ta = some ⟨b, off, none⟩ → b < w.heap.size)
    {fin : CutSt} (hf : cutV (fun t => decide (t ∈ ts)) l (reach l root) (1000 - 2) = fin) {n : Nat} (ok : CutOk (fun t => decide (t ∈ ts)) l root fin n) :
    Calls Tryz.prog 12 #[.pointer (some ⟨pb, 0, none⟩), .int .i64 root, .slice ta ts.length tc, .int .i64 1000] w (MadeEnd fin.l fin.left n w) := by
  have hR := restrict_any pb F l left hI root hr hlen 1000 ta tc ts htl w h ht hta
  rw [show room 1000 = 1000 - 2 from by decide, hf] at hR
  refine hR.mono ?_
  rintro e w' ⟨h1, -, f⟩
  obtain ⟨qb, Q, rfl, s, q⟩ := h1 ok.e
  exact ⟨qb, Q, by rw [ok.bm], s, q, f⟩
theorem copy_made (pb : Nat) (F : List Nat) (l : List Gt) (left : Int) (hI : Inv l) (root : Nat) (hr : root < l.length) (hlen : l.length ≤ 100000) (w : World) (h : St w pb F l left)
    {fin : CutSt} (hf : cutV (fun t => decide (t ∈ ([] : List Int))) l (reach l root) (1000 - 2) = fin) {n : Nat} (ok : CutOk (fun t => decide (t ∈ ([] : List Int))) l root fin n) :
    Calls Tryz.prog 23 #[.pointer (some ⟨pb, 0, none⟩), .int .i64 root, .int .i64 1000] w (MadeEnd fin.l fin.left n w) := by
  have hR := copy_any pb F l left hI root hr hlen 1000 w h
  rw [show room 1000 = 1000 - 2 from by decide, hf] at hR
  refine hR.mono ?_
  rintro e w' ⟨h1, -, f⟩
  obtain ⟨qb, Q, rfl, s, q⟩ := h1 ok.e
  exact ⟨qb, Q, by rw [ok.bm], s, q, f⟩
end Go.Proofs.YtoidafgeckhkcaaGreat

