/- Circuits cut: pure laws on budgets. -/
import Derived.Test.YtbnhhmejlglbcaaGreatMa25
import Derived.Test.YtbnhhmejlglbcaaGreatMa32
namespace Go.Proofs.YtbnhhmejlglbcaaGreat
open Go.RowKit
set_option linter.unusedSimpArgs false
set_option linter.unusedVariables false

/-- A gate's making: what it tells where nothing is wrong. -/
def Okp (r : (Int × Int) × List Gt × Int) : Prop := r.1.2 = 0 ∧ 0 ≤ r.1.1 ∧ r.1.1 < r.2.1.length
theorem put_ok {g : Gt} {l : List Gt} {left : Int} (h : 1 ≤ left) : Okp (put g l left) := by
  unfold put
  cases hf : find g l 0 with
  | some k =>
    have := (find_bd hf).2.1
    exact ⟨rfl, by simp, by simp; omega⟩
  | none =>
    simp only
    rw [if_pos h]
    exact ⟨rfl, by simp, by simp; omega⟩
theorem areG_in2 {n : Nat} {a b : Int} (ha : 0 ≤ a ∧ a < n) (hb : 0 ≤ b ∧ b < n) : areG n [a, b] = true := by simp [areG, notG]; omega
theorem areG_in1 {n : Nat} {a : Int} (ha : 0 ≤ a ∧ a < n) : areG n [a] = true := by simp [areG, notG]; omega
theorem var_ok {t : Int} {l : List Gt} {left : Int} (h : 1 ≤ left) (ht : 1 ≤ t) : Okp (mkVar t l left) := by
  unfold mkVar; rw [if_neg (by omega)]; exact put_ok h
theorem plus_ok {a b : Int} {l : List Gt} {left : Int} (h : 1 ≤ left) (ha : 0 ≤ a ∧ a < l.length) (hb : 0 ≤ b ∧ b < l.length) : Okp (mkPlus a b l left) := by
  unfold mkPlus
  rw [if_neg (by rw [areG_in2 ha hb]; simp)]
  split
  · exact ⟨rfl, hb⟩
  · split
    · exact ⟨rfl, ha⟩
    · exact put_ok h
theorem times_ok {a b : Int} {l : List Gt} {left : Int} (h : 1 ≤ left) (h2 : 2 ≤ l.length) (ha : 0 ≤ a ∧ a < l.length) (hb : 0 ≤ b ∧ b < l.length) : Okp (mkTimes a b l left) := by
  have z : (0 : Int) ≤ 0 ∧ (0 : Int) < l.length := by omega
  unfold mkTimes
  rw [if_neg (by rw [areG_in2 ha hb]; simp)]
  split
  · exact ⟨rfl, z⟩
  · split
    · exact ⟨rfl, z⟩
    · split
      · exact ⟨rfl, hb⟩
      · split
        · exact ⟨rfl, ha⟩
        · exact put_ok h
theorem star_ok {a : Int} {l : List Gt} {left : Int} (h : 1 ≤ left) (h2 : 2 ≤ l.length) (ha : 0 ≤ a ∧ a < l.length) : Okp (mkStar a l left) := by
  have z : (0 : Int) ≤ 1 ∧ (1 : Int) < l.length := by omega
  unfold mkStar
  rw [if_neg (by rw [areG_in1 ha]; simp)]
  split
  · exact ⟨rfl, z⟩
  · exact put_ok h
/-- What again keeps. -/
theorem againV_ok {dead : Int → Bool} {bm : Nat → Int} {g : Gt} {l : List Gt} {left : Int} (h : 1 ≤ left) (h2 : 2 ≤ l.length) (h3 : g.k = 3 → 1 ≤ g.a)
    (hk : g.k = 4 ∨ g.k = 5 → (0 ≤ bm g.a.toNat ∧ bm g.a.toNat < l.length) ∧ 0 ≤ bm g.b.toNat ∧ bm g.b.toNat < l.length) (h6 : g.k = 6 → 0 ≤ bm g.a.toNat ∧ bm g.a.toNat < l.length) : Okp (againV dead bm g l left) := by
  have z : (0 : Int) ≤ 0 ∧ (0 : Int) < l.length := by omega
  have o : (0 : Int) ≤ 1 ∧ (1 : Int) < l.length := by omega
  unfold againV
  by_cases k2 : g.k = 2
  · rw [if_pos k2]; exact ⟨rfl, o⟩
  rw [if_neg k2]
  by_cases k3 : g.k = 3
  · rw [if_pos k3]
    split
    · exact ⟨rfl, z⟩
    · exact var_ok h (h3 k3)
  rw [if_neg k3]
  by_cases k4 : g.k = 4
  · rw [if_pos k4]; exact plus_ok h (hk (.inl k4)).1 (hk (.inl k4)).2
  rw [if_neg k4]
  by_cases k5 : g.k = 5
  · rw [if_pos k5]; exact times_ok h h2 (hk (.inr k5)).1 (hk (.inr k5)).2
  rw [if_neg k5]
  by_cases k6 : g.k = 6
  · rw [if_pos k6]; exact star_ok h h2 (h6 k6)
  rw [if_neg k6]; exact ⟨rfl, z⟩
theorem againV_left {dead : Int → Bool} {bm : Nat → Int} {g : Gt} {l : List Gt} (T : Int) : (againV dead bm g l (T - l.length)).2.2 = T - (againV dead bm g l (T - l.length)).2.1.length ∧ l.length ≤ (againV dead bm g l (T - l.length)).2.1.length ∧ (againV dead bm g l (T - l.length)).2.1.length ≤ l.length + 1 := by
  unfold againV
  repeat' split
  all_goals first | exact ⟨rfl, Nat.le_refl _, Nat.le_succ _⟩ | exact mkVar_left _ _ _ | exact mkPlus_left _ _ _ _ | exact mkTimes_left _ _ _ _ | exact mkStar_left _ _ _
theorem againV_inv {dead : Int → Bool} {bm : Nat → Int} {g : Gt} {l : List Gt} {left : Int} (h : Inv l) : Inv (againV dead bm g l left).2.1 := by
  unfold againV
  repeat' split
  · exact h
  · exact h
  · exact ((var_after _).1 l left h).1
  · exact ((plus_after _ _).1 l left h).1
  · exact ((times_after _ _).1 l left h).1
  · exact ((star_after _).1 l left h).1
  · exact h
/-- A cutting so far. -/
structure CInv (T : Int) (s : CutSt) (js : List Nat) : Prop where
  e : s.e = 0
  inv : Inv s.l
  left : s.left = T - s.l.length
  two : 2 ≤ s.l.length
  len : s.l.length ≤ 2 + js.length
  nums : ∀ j ∈ js, 0 ≤ s.bm j ∧ s.bm j < s.l.length
theorem CInv.start (T : Int) : CInv T ⟨fun _ => 0, init, T - 2, 0⟩ [] := ⟨rfl, inv_init, by simp [init], by simp [init], by simp [init], by simp⟩
theorem CInv.step {T : Int} {s : CutSt} {js : List Nat} (h : CInv T s js) {dead : Int → Bool} {l : List Gt} {k : Nat} {g : Gt} (hg : l[k]? = some g) (h3 : g.k = 3 → 1 ≤ g.a)
    (hk : g.k = 4 ∨ g.k = 5 → ∃ a b : Nat, g.a = (a : Int) ∧ g.b = (b : Int) ∧ a ∈ js ∧ b ∈ js) (h6 : g.k = 6 → ∃ a : Nat, g.a = (a : Int) ∧ a ∈ js) (hT : (js.length : Int) + 3 ≤ T) : CInv T (cutStep dead l s k) (js ++ [k]) := by
  have hlen := h.len
  have ok : Okp (againV dead s.bm g s.l s.left) := againV_ok (by rw [h.left]; omega) h.two h3 (fun h4 => by
    obtain ⟨a, b, ha, hb, ma, mb⟩ := hk h4
    rw [ha, hb, Int.toNat_natCast, Int.toNat_natCast]
    exact ⟨h.nums a ma, h.nums b mb⟩) (fun h4 => by
    obtain ⟨a, ha, ma⟩ := h6 h4
    rw [ha, Int.toNat_natCast]
    exact h.nums a ma)
  have le := againV_left (dead := dead) (bm := s.bm) (g := g) (l := s.l) T
  rw [← h.left] at le
  rw [cutStep_at h.e hg]
  refine ⟨ok.1, againV_inv h.inv, le.1, Nat.le_trans h.two le.2.1, ?_, ?_⟩
  · simp only [List.length_append, List.length_cons, List.length_nil]; have := h.len; have := le.2.2; omega
  · intro j hj
    simp only
    by_cases e : j = k
    · rw [if_pos e]; exact ok.2
    · rw [if_neg e]
      rw [List.mem_append] at hj
      rcases hj with hj | hj
      · have := h.nums j hj; have := le.2.1; omega
      · simp at hj; exact absurd hj e
/-- Room for all: nothing goes wrong. -/
theorem cutV_ok {dead : Int → Bool} {l : List Gt} {ks : List Nat} (hC : Closed l ks) (h3 : ∀ g ∈ l, g.k = 3 → 1 ≤ g.a) {T : Int} (hT : (ks.length : Int) + 3 ≤ T) : ∀ t, t ≤ ks.length → CInv T (cutV dead l (ks.take t) (T - 2)) (ks.take t)
  | 0, _ => by rw [List.take_zero]; exact CInv.start T
  | t + 1, ht => by
    have ih := cutV_ok (dead := dead) hC h3 hT t (by omega)
    have hj : ks[t]? = some ks[t] := List.getElem?_eq_getElem (by omega)
    have hkl := hC.lt ks[t] (List.getElem_mem (by omega))
    have hg : l[ks[t]]? = some l[ks[t]] := List.getElem?_eq_getElem hkl
    rw [cutV_next hj, take_one hj]
    exact ih.step hg (h3 _ (List.getElem_mem hkl)) (hC.two t _ _ hj hg) (hC.one t _ _ hj hg) (by rw [List.length_take]; omega)
/-! ### other budgets -/
def Bud (f : List Gt → Int → (Int × Int) × List Gt × Int) : Prop := ∀ (l : List Gt) (T T' : Int), (f l (T - l.length)).1.2 = 0 → (l.length : Int) ≤ T' →
  (((f l (T - l.length)).2.1.length : Int) ≤ T' → f l (T' - l.length) = ((f l (T - l.length)).1, (f l (T - l.length)).2.1, T' - (f l (T - l.length)).2.1.length)) ∧ (T' < (f l (T - l.length)).2.1.length → (f l (T' - l.length)).1.2 = 10)
theorem bud_const (x y : Int) : Bud fun l left => ((x, y), l, left) := fun l T T' h hl => ⟨fun _ => rfl, fun h2 => by simp at h2; omega⟩
theorem bud_put (g : Gt) : Bud (put g) := fun l T T' h hl => by
  unfold put at *
  cases hf : find g l 0 with
  | some k => exact ⟨fun _ => rfl, fun h2 => by simp [hf] at h2; omega⟩
  | none =>
    simp only [hf] at *
    by_cases h1 : 1 ≤ T - l.length
    · rw [if_pos h1] at *
      simp only [List.length_append, List.length_cons, List.length_nil]
      refine ⟨fun h2 => ?_, fun h2 => ?_⟩
      · rw [if_pos (by omega)]
        simp only [Prod.mk.injEq, true_and]
        omega
      · rw [if_neg (by omega)]
    · rw [if_neg h1] at h; simp at h
theorem bud_var (t : Int) : Bud (mkVar t) := fun l T T' h hl => by
  unfold mkVar at *
  by_cases ht : t < 1
  · rw [if_pos ht] at h; simp at h
  · rw [if_neg ht, if_neg ht] at *; exact bud_put _ l T T' h hl
theorem bud_plus (a b : Int) : Bud (mkPlus a b) := fun l T T' h hl => by
  unfold mkPlus at *
  split at h
  · simp at h
  · rename_i h0
    rw [if_neg h0, if_neg h0]
    split at h
    · rename_i h1; rw [if_pos h1, if_pos h1]; exact bud_const b 0 l T T' rfl hl
    · rename_i h1
      rw [if_neg h1, if_neg h1]
      split at h
      · rename_i h2; rw [if_pos h2, if_pos h2]; exact bud_const a 0 l T T' rfl hl
      · rename_i h2; rw [if_neg h2, if_neg h2]; exact bud_put _ l T T' h hl
theorem bud_times (a b : Int) : Bud (mkTimes a b) := fun l T T' h hl => by
  unfold mkTimes at *
  split at h
  · simp at h
  · rename_i h0
    rw [if_neg h0, if_neg h0]
    split at h
    · rename_i h1; rw [if_pos h1, if_pos h1]; exact bud_const 0 0 l T T' rfl hl
    · rename_i h1
      rw [if_neg h1, if_neg h1]
      split at h
      · rename_i h2; rw [if_pos h2, if_pos h2]; exact bud_const 0 0 l T T' rfl hl
      · rename_i h2
        rw [if_neg h2, if_neg h2]
        split at h
        · rename_i h4; rw [if_pos h4, if_pos h4]; exact bud_const b 0 l T T' rfl hl
        · rename_i h4
          rw [if_neg h4, if_neg h4]
          split at h
          · rename_i h5; rw [if_pos h5, if_pos h5]; exact bud_const a 0 l T T' rfl hl
          · rename_i h5; rw [if_neg h5, if_neg h5]; exact bud_put _ l T T' h hl
theorem bud_star (a : Int) : Bud (mkStar a) := fun l T T' h hl => by
  unfold mkStar at *
  split at h
  · simp at h
  · rename_i h0
    rw [if_neg h0, if_neg h0]
    split at h
    · rename_i h1; rw [if_pos h1, if_pos h1]; exact bud_const 1 0 l T T' rfl hl
    · rename_i h1; rw [if_neg h1, if_neg h1]; exact bud_put _ l T T' h hl
theorem bud_again (dead : Int → Bool) (bm : Nat → Int) (g : Gt) : Bud (againV dead bm g) := by
  have e : againV dead bm g = fun l left => if g.k = 2 then ((1, 0), l, left) else if g.k = 3 then (if dead g.a = true then ((0, 0), l, left) else mkVar g.a l left)
    else if g.k = 4 then mkPlus (bm g.a.toNat) (bm g.b.toNat) l left else if g.k = 5 then mkTimes (bm g.a.toNat) (bm g.b.toNat) l left
    else if g.k = 6 then mkStar (bm g.a.toNat) l left else ((0, 0), l, left) := rfl
  rw [e]
  by_cases k2 : g.k = 2
  · simp only [if_pos k2]; exact bud_const 1 0
  simp only [if_neg k2]
  by_cases k3 : g.k = 3
  · simp only [if_pos k3]
    by_cases hd : dead g.a = true
    · simp only [if_pos hd]; exact bud_const 0 0
    · simp only [if_neg hd]; exact bud_var _
  simp only [if_neg k3]
  by_cases k4 : g.k = 4
  · simp only [if_pos k4]; exact bud_plus _ _
  simp only [if_neg k4]
  by_cases k5 : g.k = 5
  · simp only [if_pos k5]; exact bud_times _ _
  simp only [if_neg k5]
  by_cases k6 : g.k = 6
  · simp only [if_pos k6]; exact bud_star _
  simp only [if_neg k6]; exact bud_const 0 0
/-- Two cuttings within other budgets. -/
def BRel (T T' : Int) (s s' : CutSt) : Prop := s.e = 0 ∧ s.left = T - s.l.length ∧ (((s.l.length : Int) ≤ T' ∧ s' = ⟨s.bm, s.l, T' - s.l.length, 0⟩) ∨ (T' < s.l.length ∧ s'.e = 10))
theorem brel_fold {T T' : Int} {dead : Int → Bool} {l : List Gt} : ∀ (ks : List Nat) (s s' : CutSt), BRel T T' s s' → (∀ k ∈ ks, k < l.length) → (ks.foldl (cutStep dead l) s).e = 0 → BRel T T' (ks.foldl (cutStep dead l) s) (ks.foldl (cutStep dead l) s')
  | [], _, _, h, _, _ => h
  | k :: ks, s, s', h, hk, he => by
    rw [List.foldl_cons] at he ⊢
    rw [List.foldl_cons]
    have he1 : (cutStep dead l s k).e = 0 := by
      apply Classical.byContradiction
      intro hn
      rw [cutFold_err hn] at he
      exact hn he
    refine brel_fold ks _ _ ?_ (fun j hj => hk j (by simp [hj])) he
    obtain ⟨h0, h1, h2⟩ := h
    have hg : l[k]? = some (l[k]'(hk k (by simp))) := List.getElem?_eq_getElem _
    generalize l[k]'(hk k (by simp)) = g at hg
    rw [cutStep_at h0 hg] at he1 ⊢
    simp only at he1
    have le := againV_left (dead := dead) (bm := s.bm) (g := g) (l := s.l) T
    rw [← h1] at le
    refine ⟨he1, le.1, ?_⟩
    rcases h2 with ⟨h2, h3⟩ | ⟨h2, h3⟩
    · have hb := bud_again dead s.bm g s.l T T' (by rw [← h1]; exact he1) h2
      rw [← h1] at hb
      subst h3
      rw [cutStep_at rfl hg]
      simp only
      rcases Int.lt_or_le T' (againV dead s.bm g s.l s.left).2.1.length with hlt | hle
      · exact .inr ⟨hlt, hb.2 hlt⟩
      · refine .inl ⟨hle, ?_⟩
        rw [hb.1 hle]
        simp only [CutSt.mk.injEq, true_and]
        exact he1
    · refine .inr ⟨by simp only; have := le.2.1; omega, ?_⟩
      rw [cutStep_err (by rw [h3]; decide)]
      exact h3
theorem cutV_bud {dead : Int → Bool} {l : List Gt} {ks : List Nat} (hk : ∀ k ∈ ks, k < l.length) {T T' : Int} (h2 : 2 ≤ T') (he : (cutV dead l ks (T - 2)).e = 0) :
    (((cutV dead l ks (T - 2)).l.length : Int) ≤ T' → cutV dead l ks (T' - 2) = ⟨(cutV dead l ks (T - 2)).bm, (cutV dead l ks (T - 2)).l, T' - (cutV dead l ks (T - 2)).l.length, 0⟩) ∧ (T' < (cutV dead l ks (T - 2)).l.length → (cutV dead l ks (T' - 2)).e = 10) := by
  have := brel_fold (T := T) (T' := T') (dead := dead) (l := l) ks ⟨fun _ => 0, init, T - 2, 0⟩ ⟨fun _ => 0, init, T' - 2, 0⟩ ⟨rfl, by simp [init], .inl ⟨by simp [init]; omega, by simp [init]⟩⟩ hk he
  obtain ⟨-, -, h⟩ := this
  refine ⟨fun hl => ?_, fun hl => ?_⟩
  · rcases h with ⟨_, h⟩ | ⟨h, _⟩
    · exact h
    · exact absurd hl (by unfold cutV; omega)
  · rcases h with ⟨h, _⟩ | ⟨_, h⟩
    · exact absurd hl (by unfold cutV; omega)
    · exact h
end Go.Proofs.YtbnhhmejlglbcaaGreat

