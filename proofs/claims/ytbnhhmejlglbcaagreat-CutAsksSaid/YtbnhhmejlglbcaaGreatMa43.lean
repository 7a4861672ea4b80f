/- What a cut circuit is worth: pure. A copy of a copy: pure. A copy has the same gates once more: pure. -/
import Derived.Test.YtbnhhmejlglbcaaGreatMa39
namespace Go.Proofs.YtbnhhmejlglbcaaGreat
open Go.RowKit
set_option linter.unusedSimpArgs false
set_option linter.unusedVariables false

/-- A gate's worth hangs on lesser gates alone. -/
theorem worth_ext {V : Type} {R : Rg V} {W : Int → V} {l l' : List Gt} (hI : Inv l) (hI' : Inv l') (he : Ext l l') : ∀ k, k < l.length → worth R W l' k = worth R W l k := by
  obtain ⟨m, rfl⟩ := he
  intro k
  induction k using Nat.strongRecOn with
  | _ k ih =>
    intro hk
    have hg : l[k]? = some l[k] := List.getElem?_eq_getElem hk
    have hg' : (l ++ m)[k]? = some l[k] := by rw [List.getElem?_append_left hk, hg]
    rw [worth_at hI hg, worth_at hI' hg']
    exact gval_congr hI hg fun j hj => ih j hj (by omega)
theorem worth_zero {V : Type} {R : Rg V} {W : Int → V} {l : List Gt} (hI : Inv l) : worth R W l 0 = R.z := by
  obtain ⟨m, rfl⟩ := hI.good
  have hg : (init ++ m)[0]? = some ⟨1, 0, 0⟩ := rfl
  rw [worth_at hI hg]; simp [gval]
theorem worth_one {V : Type} {R : Rg V} {W : Int → V} {l : List Gt} (hI : Inv l) : worth R W l 1 = R.o := by
  obtain ⟨m, rfl⟩ := hI.good
  have hg : (init ++ m)[1]? = some ⟨2, 0, 0⟩ := rfl
  rw [worth_at hI hg]; simp [gval]
/-- What is told is the gate. -/
theorem put_at {g : Gt} {l : List Gt} {left : Int} (h : 1 ≤ left) : (put g l left).2.1[(put g l left).1.1.toNat]? = some g ∧ Ext l (put g l left).2.1 := by
  unfold put
  cases hf : find g l 0 with
  | some k =>
    have := (find_bd hf).2.2
    exact ⟨by simpa using this, Ext.refl l⟩
  | none =>
    simp only
    rw [if_pos h]
    exact ⟨by simp, [g], rfl⟩
theorem put_worth {R : Rg Bool} {W : Int → Bool} {g : Gt} {l : List Gt} {left : Int} (h : 1 ≤ left) (hI : Inv (put g l left).2.1) : worth R W (put g l left).2.1 (put g l left).1.1.toNat = gval R W (worth R W (put g l left).2.1) g := worth_at hI (put_at h).1
/-- What again makes is worth what the gate was, without what is dead. -/
theorem againV_worth {W : Int → Bool} {dead : Int → Bool} {bm : Nat → Int} {g : Gt} {l : List Gt} {left : Int} (hI : Inv l) (h : 1 ≤ left) (h2 : 2 ≤ l.length) (h3 : g.k = 3 → 1 ≤ g.a)
    (hk : g.k = 4 ∨ g.k = 5 → (0 ≤ bm g.a.toNat ∧ bm g.a.toNat < l.length) ∧ 0 ≤ bm g.b.toNat ∧ bm g.b.toNat < l.length) (h6 : g.k = 6 → 0 ≤ bm g.a.toNat ∧ bm g.a.toNat < l.length) :
    worth rgB W (againV dead bm g l left).2.1 (againV dead bm g l left).1.1.toNat = gval rgB (killed rgB W dead) (fun j => worth rgB W l (bm j).toNat) g ∧ Ext l (againV dead bm g l left).2.1 := by
  have hI2 := againV_inv (dead := dead) (bm := bm) (g := g) (left := left) hI
  unfold againV at *
  unfold gval
  dsimp only
  by_cases k2 : g.k = 2
  · rw [if_pos k2] at *; rw [if_pos k2]; exact ⟨worth_one hI, Ext.refl l⟩
  rw [if_neg k2] at *
  rw [if_neg k2]
  by_cases k3 : g.k = 3
  · rw [if_pos k3] at *
    rw [if_pos k3]
    unfold killed
    by_cases hd : dead g.a = true
    · rw [if_pos hd] at *; rw [if_pos hd]; exact ⟨worth_zero hI, Ext.refl l⟩
    · rw [if_neg hd] at *
      rw [if_neg hd]
      unfold mkVar at *
      rw [if_neg (by have := h3 k3; omega)] at *
      exact ⟨by rw [put_worth h hI2]; simp [gval], (put_at h).2⟩
  rw [if_neg k3] at *
  rw [if_neg k3]
  by_cases k4 : g.k = 4
  · rw [if_pos k4] at *
    rw [if_pos k4]
    obtain ⟨ha, hb⟩ := hk (.inl k4)
    generalize bm g.a.toNat = x at *
    generalize bm g.b.toNat = y at *
    unfold mkPlus at *
    rw [if_neg (by rw [areG_in2 ha hb]; simp)] at *
    by_cases x0 : x = 0
    · rw [if_pos x0] at *; subst x0; exact ⟨by rw [show (0 : Int).toNat = 0 from rfl, worth_zero hI]; exact (Bool.false_or _).symm, Ext.refl l⟩
    rw [if_neg x0] at *
    by_cases y0 : y = 0
    · rw [if_pos y0] at *; subst y0; exact ⟨by rw [show (0 : Int).toNat = 0 from rfl, worth_zero hI]; exact (Bool.or_false _).symm, Ext.refl l⟩
    rw [if_neg y0] at *
    have hx := put_at (g := ⟨4, min x y, max x y⟩) (l := l) h
    refine ⟨?_, hx.2⟩
    rw [put_worth h hI2]
    have e1 := worth_ext (R := rgB) (W := W) hI hI2 hx.2 x.toNat (by omega)
    have e2 := worth_ext (R := rgB) (W := W) hI hI2 hx.2 y.toNat (by omega)
    rw [← e1, ← e2]
    rcases Int.le_total x y with hxy | hxy
    · rw [Int.min_eq_left hxy, Int.max_eq_right hxy]; simp [gval]
    · rw [Int.min_eq_right hxy, Int.max_eq_left hxy]; exact Bool.or_comm _ _
  rw [if_neg k4] at *
  rw [if_neg k4]
  by_cases k5 : g.k = 5
  · rw [if_pos k5] at *
    rw [if_pos k5]
    obtain ⟨ha, hb⟩ := hk (.inr k5)
    generalize bm g.a.toNat = x at *
    generalize bm g.b.toNat = y at *
    unfold mkTimes at *
    rw [if_neg (by rw [areG_in2 ha hb]; simp)] at *
    by_cases x0 : x = 0
    · rw [if_pos x0] at *; subst x0; exact ⟨by rw [show (0 : Int).toNat = 0 from rfl, worth_zero hI]; rfl, Ext.refl l⟩
    rw [if_neg x0] at *
    by_cases y0 : y = 0
    · rw [if_pos y0] at *; subst y0; exact ⟨by rw [show (0 : Int).toNat = 0 from rfl, worth_zero hI]; exact (Bool.and_false _).symm, Ext.refl l⟩
    rw [if_neg y0] at *
    by_cases x1 : x = 1
    · rw [if_pos x1] at *; subst x1; exact ⟨by rw [show (1 : Int).toNat = 1 from rfl, worth_one hI]; exact (Bool.true_and _).symm, Ext.refl l⟩
    rw [if_neg x1] at *
    by_cases y1 : y = 1
    · rw [if_pos y1] at *; subst y1; exact ⟨by rw [show (1 : Int).toNat = 1 from rfl, worth_one hI]; exact (Bool.and_true _).symm, Ext.refl l⟩
    rw [if_neg y1] at *
    have hx := put_at (g := ⟨5, min x y, max x y⟩) (l := l) h
    refine ⟨?_, hx.2⟩
    rw [put_worth h hI2]
    have e1 := worth_ext (R := rgB) (W := W) hI hI2 hx.2 x.toNat (by omega)
    have e2 := worth_ext (R := rgB) (W := W) hI hI2 hx.2 y.toNat (by omega)
    rw [← e1, ← e2]
    rcases Int.le_total x y with hxy | hxy
    · rw [Int.min_eq_left hxy, Int.max_eq_right hxy]; simp [gval]
    · rw [Int.min_eq_right hxy, Int.max_eq_left hxy]; exact Bool.and_comm _ _
  rw [if_neg k5] at *
  rw [if_neg k5]
  by_cases k6 : g.k = 6
  · rw [if_pos k6] at *
    rw [if_pos k6]
    have ha := h6 k6
    generalize bm g.a.toNat = x at *
    unfold mkStar at *
    rw [if_neg (by rw [areG_in1 ha]; simp)] at *
    by_cases x0 : x = 0
    · rw [if_pos x0] at *; exact ⟨by rw [show (1 : Int).toNat = 1 from rfl, worth_one hI]; rfl, Ext.refl l⟩
    rw [if_neg x0] at *
    exact ⟨by rw [put_worth h hI2]; simp [gval, rgB], (put_at h).2⟩
  rw [if_neg k6] at *
  rw [if_neg k6]
  exact ⟨worth_zero hI, Ext.refl l⟩
/-- All gates so far are worth what they were, without what is dead. -/
theorem cutV_worth {W : Int → Bool} {dead : Int → Bool} {l : List Gt} (hI : Inv l) {ks : List Nat} (hC : Closed l ks) (h3 : ∀ g ∈ l, g.k = 3 → 1 ≤ g.a) {T : Int} (hT : (ks.length : Int) + 3 ≤ T) : ∀ t, t ≤ ks.length →
    ∀ j ∈ ks.take t, worth rgB W (cutV dead l (ks.take t) (T - 2)).l ((cutV dead l (ks.take t) (T - 2)).bm j).toNat = worth rgB (killed rgB W dead) l j
  | 0, _ => by simp
  | t + 1, ht => by
    have ih := cutV_worth (W := W) (dead := dead) hI hC h3 hT t (by omega)
    have ci := cutV_ok (dead := dead) hC h3 hT t (by omega)
    have hj : ks[t]? = some ks[t] := List.getElem?_eq_getElem (by omega)
    have hkl := hC.lt ks[t] (List.getElem_mem (by omega))
    have hg : l[ks[t]]? = some l[ks[t]] := List.getElem?_eq_getElem hkl
    have hkn := mem_take_nodup hC.nodup hj
    have c2 := hC.two t _ _ hj hg
    have c1 := hC.one t _ _ hj hg
    have h3' := h3 _ (List.getElem_mem hkl)
    rw [cutV_next hj, take_one hj, cutStep_at ci.e hg]
    generalize ks[t] = k at *
    generalize l[k] = g at *
    generalize cutV dead l (ks.take t) (T - 2) = s at *
    have hlen := ci.len
    rw [List.length_take] at hlen
    have aw := againV_worth (W := W) (dead := dead) (bm := s.bm) (g := g) (l := s.l) (left := s.left) ci.inv (by rw [ci.left]; omega) ci.two h3' (fun h4 => by
      obtain ⟨a, b, ha, hb, ma, mb⟩ := c2 h4
      rw [ha, hb, Int.toNat_natCast, Int.toNat_natCast]
      exact ⟨ci.nums a ma, ci.nums b mb⟩) (fun h4 => by
      obtain ⟨a, ha, ma⟩ := c1 h4
      rw [ha, Int.toNat_natCast]
      exact ci.nums a ma)
    intro j hm
    rw [List.mem_append] at hm
    simp only
    by_cases e : j = k
    · subst e
      rw [if_pos rfl, aw.1, worth_at hI hg]
      unfold gval
      dsimp only
      by_cases k2 : g.k = 2
      · rw [if_pos k2, if_pos k2]
      rw [if_neg k2, if_neg k2]
      by_cases k3 : g.k = 3
      · rw [if_pos k3, if_pos k3]
      rw [if_neg k3, if_neg k3]
      by_cases k4 : g.k = 4
      · obtain ⟨a, b, ha, hb, ma, mb⟩ := c2 (.inl k4)
        rw [if_pos k4, if_pos k4, ha, hb, Int.toNat_natCast, Int.toNat_natCast, ih a ma, ih b mb]
      rw [if_neg k4, if_neg k4]
      by_cases k5 : g.k = 5
      · obtain ⟨a, b, ha, hb, ma, mb⟩ := c2 (.inr k5)
        rw [if_pos k5, if_pos k5, ha, hb, Int.toNat_natCast, Int.toNat_natCast, ih a ma, ih b mb]
      rw [if_neg k5, if_neg k5]
      by_cases k6 : g.k = 6
      · rw [if_pos k6, if_pos k6]; rfl
      rw [if_neg k6, if_neg k6]
    · rw [if_neg e]
      rcases hm with hm | hm
      · rw [← ih j hm]
        have := ci.nums j hm
        exact worth_ext ci.inv (againV_inv ci.inv) aw.2 _ (by omega)
      · simp at hm; exact absurd hm e
end Go.Proofs.YtbnhhmejlglbcaaGreat

namespace Go.Proofs.YtbnhhmejlglbcaaGreat
open Go.RowKit
set_option linter.unusedSimpArgs false
set_option linter.unusedVariables false

/-- What a gate from the third on is like. -/
def Ng (g : Gt) : Prop := (3 ≤ g.k ∧ g.k ≤ 6) ∧ (g.k = 3 → 1 ≤ g.a ∧ g.b = 0) ∧ (g.k = 5 → 2 ≤ g.a) ∧ (g.k = 6 → g.b = 0)
def Nrm (l : List Gt) : Prop := ∀ i g, l[i]? = some g → 2 ≤ i → Ng g
theorem nrm_init : Nrm init := fun i g h h2 => by
  have := (List.getElem?_eq_some_iff.mp h).1
  simp [init] at this; omega
theorem put_nrm {g : Gt} {l : List Gt} {left : Int} (h : Nrm l) (hg : Ng g) : Nrm (put g l left).2.1 := by
  unfold put
  repeat' split
  · exact h
  · intro i x hx h2
    simp only at hx
    rcases Nat.lt_or_ge i l.length with hlt | hge
    · rw [List.getElem?_append_left hlt] at hx; exact h i x hx h2
    · rw [List.getElem?_append_right hge] at hx
      have := (List.getElem?_eq_some_iff.mp hx).1
      simp at this
      have e : i - l.length = 0 := by omega
      rw [e] at hx
      simp at hx
      exact hx ▸ hg
  · exact h
theorem var_nrm {t : Int} {l : List Gt} {left : Int} (h : Nrm l) : Nrm (mkVar t l left).2.1 := by
  unfold mkVar
  split
  · exact h
  · exact put_nrm h ⟨by simp, fun _ => ⟨by simp; omega, rfl⟩, by simp, by simp⟩
theorem plus_nrm {a b : Int} {l : List Gt} {left : Int} (h : Nrm l) : Nrm (mkPlus a b l left).2.1 := by
  unfold mkPlus
  repeat' split
  all_goals first | exact h | exact put_nrm h ⟨by simp, by simp, by simp, by simp⟩
theorem areG_lo {n : Nat} {a b : Int} (h : ¬ areG n [a, b] = false) : 0 ≤ a ∧ 0 ≤ b := by
  simp [areG, notG] at h; omega
theorem times_nrm {a b : Int} {l : List Gt} {left : Int} (h : Nrm l) : Nrm (mkTimes a b l left).2.1 := by
  unfold mkTimes
  by_cases h0 : areG l.length [a, b] = false
  · rw [if_pos h0]; exact h
  rw [if_neg h0]
  have h1 := areG_lo h0
  by_cases a0 : a = 0
  · rw [if_pos a0]; exact h
  rw [if_neg a0]
  by_cases b0 : b = 0
  · rw [if_pos b0]; exact h
  rw [if_neg b0]
  by_cases a1 : a = 1
  · rw [if_pos a1]; exact h
  rw [if_neg a1]
  by_cases b1 : b = 1
  · rw [if_pos b1]; exact h
  rw [if_neg b1]
  exact put_nrm h ⟨by simp, by simp, fun _ => by simp only; omega, by simp⟩
theorem star_nrm {a : Int} {l : List Gt} {left : Int} (h : Nrm l) : Nrm (mkStar a l left).2.1 := by
  unfold mkStar
  repeat' split
  all_goals first | exact h | exact put_nrm h ⟨by simp, by simp, by simp, by simp⟩
theorem againV_nrm {dead : Int → Bool} {bm : Nat → Int} {g : Gt} {l : List Gt} {left : Int} (h : Nrm l) : Nrm (againV dead bm g l left).2.1 := by
  unfold againV
  repeat' split
  all_goals first | exact h | exact var_nrm h | exact plus_nrm h | exact times_nrm h | exact star_nrm h
theorem cutV_nrm (dead : Int → Bool) (l : List Gt) (left : Int) (ks : List Nat) : Nrm (cutV dead l ks left).l := by
  have : ∀ (ks : List Nat) (s : CutSt), Nrm s.l → Nrm (ks.foldl (cutStep dead l) s).l := by
    intro ks
    induction ks with
    | nil => intro s h; exact h
    | cons k ks ih =>
      intro s h
      rw [List.foldl_cons]
      refine ih _ ?_
      unfold cutStep
      split
      · exact h
      · split
        · exact h
        · exact againV_nrm h
  exact this ks _ nrm_init
theorem opS_nrm {s : Stp} {l : List Gt} {left : Int} (h : Nrm l) (h4 : s.kind ≤ 4) : Nrm (opS s l left).2.1 := by
  unfold opS
  by_cases k1 : s.kind = 1
  · rw [if_pos k1]; exact var_nrm h
  rw [if_neg k1]
  by_cases k2 : s.kind = 2
  · rw [if_pos k2]; exact plus_nrm h
  rw [if_neg k2]
  by_cases k3 : s.kind = 3
  · rw [if_pos k3]; exact times_nrm h
  rw [if_neg k3]
  by_cases k4 : s.kind = 4
  · rw [if_pos k4]; exact star_nrm h
  rw [if_neg k4, if_neg (by omega)]; exact h
theorem gatesM_nrm (xs : List St3) : Nrm (gatesM xs) := by
  have : ∀ (xs : List St3) (l : List Gt), Nrm l → Nrm (xs.foldl stepM l) := by
    intro xs
    induction xs with
    | nil => intro l h; exact h
    | cons x t ih => intro l h; rw [List.foldl_cons]; exact ih _ (opS_nrm h (by simp only [St3.stp]; split <;> omega))
  exact this xs _ nrm_init
/-! ### what is marked has a parent that is marked -/
def Kid (l : List Gt) (p j : Nat) : Prop := ∃ g, l[p]? = some g ∧ (((g.k = 4 ∨ g.k = 5) ∧ (j = g.a.toNat ∨ j = g.b.toNat)) ∨ (g.k = 6 ∧ j = g.a.toNat))
theorem marks_from {l : List Gt} {n j : Nat} {m : Nat → Bool} (h : marks l n m j = true) : m j = true ∨ (m n = true ∧ Kid l n j) := by
  unfold marks at h
  cases hg : l[n]? with
  | none => rw [hg] at h; exact .inl h
  | some g =>
    rw [hg] at h
    simp only at h
    by_cases hm : m n = true
    · rw [if_pos hm] at h
      by_cases h4 : g.k = 4 ∨ g.k = 5
      · rw [if_pos h4] at h
        simp only [upd] at h
        by_cases e1 : j = g.a.toNat
        · exact .inr ⟨hm, g, hg, .inl ⟨h4, .inl e1⟩⟩
        · rw [if_neg e1] at h
          by_cases e2 : j = g.b.toNat
          · exact .inr ⟨hm, g, hg, .inl ⟨h4, .inr e2⟩⟩
          · rw [if_neg e2] at h; exact .inl h
      · rw [if_neg h4] at h
        by_cases h6 : g.k = 6
        · rw [if_pos h6] at h
          simp only [upd] at h
          by_cases e1 : j = g.a.toNat
          · exact .inr ⟨hm, g, hg, .inr ⟨h6, e1⟩⟩
          · rw [if_neg e1] at h; exact .inl h
        · rw [if_neg h6] at h; exact .inl h
    · rw [if_neg hm] at h; exact .inl h
theorem down_from {l : List Gt} : ∀ (n : Nat) {j : Nat} {m : Nat → Bool}, down l n m j = true → m j = true ∨ ∃ p, p < n ∧ down l n m p = true ∧ Kid l p j
  | 0, _, _, h => .inl h
  | n + 1, j, m, h => by
    unfold down at h ⊢
    rcases down_from n h with h1 | ⟨p, hp, h1, h2⟩
    · rcases marks_from h1 with h2 | ⟨h2, h3⟩
      · exact .inl h2
      · exact .inr ⟨n, by omega, down_keep n (marks_keep h2), h3⟩
    · exact .inr ⟨p, by omega, h1, h2⟩
theorem reach_parent {l : List Gt} (hI : Inv l) {root j : Nat} (hj : j ∈ reach l root) (hne : j ≠ root) : ∃ p, p ∈ reach l root ∧ j < p ∧ Kid l p j := by
  have hm := (mem_reach.mp hj).2
  rcases down_from _ hm with h | ⟨p, hp, h1, h2⟩
  · simp at h; exact absurd h hne
  · refine ⟨p, mem_reach.mpr ⟨by omega, h1⟩, ?_, h2⟩
    obtain ⟨g, hg, h3⟩ := h2
    rcases h3 with ⟨h4, h5⟩ | ⟨h6, h5⟩
    · obtain ⟨a, ha, ha1, _⟩ := wf_nat hI hg (by omega)
      obtain ⟨b, hb, hb1, _⟩ := wf_nat2 hI hg h4
      rw [ha, hb] at h5
      simp at h5
      omega
    · obtain ⟨a, ha, ha1, _⟩ := wf_nat hI hg (by omega)
      rw [ha] at h5
      simp at h5
      omega
end Go.Proofs.YtbnhhmejlglbcaaGreat

namespace Go.Proofs.YtbnhhmejlglbcaaGreat
open Go.RowKit
set_option linter.unusedSimpArgs false
set_option linter.unusedVariables false

/-- A gate, of what its parts became. -/
def imgG (bm : Nat → Int) (g : Gt) : Gt := if g.k = 3 then ⟨3, g.a, 0⟩ else if g.k = 6 then ⟨6, bm g.a.toNat, 0⟩ else ⟨g.k, bm g.a.toNat, bm g.b.toNat⟩
theorem imgG_k (bm : Nat → Int) (g : Gt) : (imgG bm g).k = g.k := by
  unfold imgG
  by_cases h3 : g.k = 3
  · rw [if_pos h3, h3]
  rw [if_neg h3]
  by_cases h6 : g.k = 6
  · rw [if_pos h6, h6]
  rw [if_neg h6]
/-- Its parts are among js. -/
def KidsIn (js : List Nat) (g : Gt) : Prop := (g.k = 4 ∨ g.k = 5 → ∃ a b : Nat, g.a = (a : Int) ∧ g.b = (b : Int) ∧ a ∈ js ∧ b ∈ js) ∧ (g.k = 6 → ∃ a : Nat, g.a = (a : Int) ∧ a ∈ js)
theorem KidsIn.mono {js ks : List Nat} {g : Gt} (h : KidsIn js g) (hs : ∀ j ∈ js, j ∈ ks) : KidsIn ks g :=
  ⟨fun h4 => let ⟨a, b, h1, h2, h3, h5⟩ := h.1 h4; ⟨a, b, h1, h2, hs a h3, hs b h5⟩, fun h6 => let ⟨a, h1, h2⟩ := h.2 h6; ⟨a, h1, hs a h2⟩⟩
theorem imgG_congr {js : List Nat} {bm bm' : Nat → Int} {g : Gt} (hn : Ng g) (h : KidsIn js g) (he : ∀ j ∈ js, bm' j = bm j) : imgG bm' g = imgG bm g := by
  unfold imgG
  by_cases h3 : g.k = 3
  · rw [if_pos h3, if_pos h3]
  rw [if_neg h3, if_neg h3]
  by_cases h6 : g.k = 6
  · obtain ⟨a, ha, hm⟩ := h.2 h6
    rw [if_pos h6, if_pos h6, ha, Int.toNat_natCast, he a hm]
  rw [if_neg h6, if_neg h6]
  obtain ⟨a, b, ha, hb, ma, mb⟩ := h.1 (by have := hn.1; omega)
  rw [ha, hb, Int.toNat_natCast, Int.toNat_natCast, he a ma, he b mb]
theorem imgG_inj {js : List Nat} {bm : Nat → Int} {g h : Gt} (hg : Ng g) (hh : Ng h) (kg : KidsIn js g) (kh : KidsIn js h) (inj : ∀ i ∈ js, ∀ j ∈ js, bm i = bm j → i = j) (e : imgG bm g = imgG bm h) : g = h := by
  have ek : g.k = h.k := by have := congrArg Gt.k e; rwa [imgG_k, imgG_k] at this
  unfold imgG at e
  obtain ⟨gk, ga, gb⟩ := g
  obtain ⟨hk, ha, hb⟩ := h
  simp only at ek e kg kh hg hh
  subst ek
  by_cases h3 : gk = 3
  · subst h3
    simp only [if_true, Gt.mk.injEq, true_and, and_true] at e
    have e1 := (hg.2.1 rfl).2
    have e2 := (hh.2.1 rfl).2
    simp only at e1 e2
    rw [e, e1, e2]
  rw [if_neg h3, if_neg h3] at e
  by_cases h6 : gk = 6
  · subst h6
    obtain ⟨a, q1, m1⟩ := kg.2 rfl
    obtain ⟨a', q2, m2⟩ := kh.2 rfl
    simp only at q1 q2
    have e1 := hg.2.2.2 rfl
    have e2 := hh.2.2.2 rfl
    simp only at e1 e2
    subst q1 q2 e1 e2
    simp only [if_true, Int.toNat_natCast, Gt.mk.injEq, true_and, and_true] at e
    rw [inj a m1 a' m2 e]
  rw [if_neg h6, if_neg h6] at e
  have h45 : gk = 4 ∨ gk = 5 := by have := hg.1; simp only at this; omega
  obtain ⟨a, b, q1, q2, m1, m2⟩ := kg.1 h45
  obtain ⟨a', b', q3, q4, m3, m4⟩ := kh.1 h45
  simp only at q1 q2 q3 q4
  subst q1 q2 q3 q4
  simp only [Int.toNat_natCast, Gt.mk.injEq, true_and] at e
  rw [inj a m1 a' m3 e.1, inj b m2 b' m4 e.2]
structure CopyInv (T : Int) (l : List Gt) (s : CutSt) (js : List Nat) : Prop where
  ci : CInv T s js
  b0 : ∀ j ∈ js, j ≤ 1 → s.bm j = j
  b2 : ∀ j ∈ js, 2 ≤ j → 2 ≤ s.bm j ∧ ∃ g, l[j]? = some g ∧ s.l[(s.bm j).toNat]? = some (imgG s.bm g)
  mono : ∀ i ∈ js, ∀ j ∈ js, i < j → s.bm i < s.bm j
  onto : ∀ i : Nat, 2 ≤ i → i < s.l.length → ∃ j ∈ js, 2 ≤ j ∧ s.bm j = i
  cnt : s.l.length = 2 + (js.filter (fun j => decide (2 ≤ j))).length
  kids : ∀ j ∈ js, ∀ g, l[j]? = some g → KidsIn js g
theorem CopyInv.inj {T : Int} {l : List Gt} {s : CutSt} {js : List Nat} (h : CopyInv T l s js) : ∀ i ∈ js, ∀ j ∈ js, s.bm i = s.bm j → i = j := fun i hi j hj e => by
  rcases Nat.lt_trichotomy i j with h1 | h1 | h1
  · have := h.mono i hi j hj h1; omega
  · exact h1
  · have := h.mono j hj i hi h1; omega
theorem CopyInv.start (T : Int) (l : List Gt) : CopyInv T l ⟨fun _ => 0, init, T - 2, 0⟩ [] := ⟨CInv.start T, by simp, by simp, by simp, fun i h1 h2 => by simp [init] at h2; omega, by simp [init], by simp⟩
/-- Of parts that are there, a gate is made just so. -/
theorem again_img {dead : Int → Bool} (hd : ∀ t, dead t = false) {T : Int} {l : List Gt} {s : CutSt} {js : List Nat} (h : CopyInv T l s js) {k : Nat} {g : Gt} (hI : Inv l) (hg : l[k]? = some g) (hn : Ng g) (hk : KidsIn js g) : againV dead s.bm g s.l s.left = put (imgG s.bm g) s.l s.left := by
  have lo : ∀ a ∈ js, 1 ≤ a → 1 ≤ s.bm a := fun a ha h1 => by
    by_cases e : a = 1
    · rw [h.b0 a ha (by omega)]; omega
    · have := (h.b2 a ha (by omega)).1; omega
  obtain ⟨gk, ga, gb⟩ := g
  unfold againV imgG
  have hw := hI.wf k _ hg
  unfold Wfg at hw
  simp only at hw hk hn ⊢
  have hk36 := hn.1
  simp only at hk36
  rw [if_neg (by omega)]
  by_cases h3 : gk = 3
  · have h1 := (hn.2.1 h3)
    simp only at h1
    rw [if_pos h3, if_pos h3, hd]
    simp only [Bool.false_eq_true, if_false]
    unfold mkVar
    rw [if_neg (by omega)]
  rw [if_neg h3, if_neg h3]
  by_cases h6 : gk = 6
  · obtain ⟨a, q1, m1⟩ := hk.2 h6
    simp only at q1
    rw [if_neg (by omega), if_neg (by omega), if_pos h6, if_pos h6, q1, Int.toNat_natCast]
    have ha := lo a m1 (by have := hw.1 (by omega); omega)
    unfold mkStar
    rw [if_neg (by rw [areG_in1 (h.ci.nums a m1)]; simp), if_neg (by omega)]
  rw [if_neg h6]
  have h45 : gk = 4 ∨ gk = 5 := by omega
  obtain ⟨a, b, q1, q2, m1, m2⟩ := hk.1 h45
  simp only at q1 q2
  have hab : a ≤ b := by have := hw.2 h45; omega
  have a1 : 1 ≤ a := by have := hw.1 (by omega); omega
  have ha := lo a m1 a1
  have hb := lo b m2 (by omega)
  have hbm : s.bm a ≤ s.bm b := by
    rcases Nat.lt_or_eq_of_le hab with e | e
    · have := h.mono a m1 b m2 e; omega
    · rw [e]; exact Int.le_refl _
  rw [q1, q2, Int.toNat_natCast, Int.toNat_natCast]
  by_cases h4 : gk = 4
  · subst h4
    rw [if_pos rfl]
    unfold mkPlus
    rw [if_neg (by rw [areG_in2 (h.ci.nums a m1) (h.ci.nums b m2)]; simp), if_neg (by omega), if_neg (by omega), Int.min_eq_left hbm, Int.max_eq_right hbm]
    simp
  · obtain rfl : gk = 5 := by omega
    have h2 := hn.2.2.1 rfl
    simp only at h2
    have ha2 := (h.b2 a m1 (by omega)).1
    rw [if_neg h4, if_pos rfl]
    unfold mkTimes
    rw [if_neg (by rw [areG_in2 (h.ci.nums a m1) (h.ci.nums b m2)]; simp), if_neg (by omega), if_neg (by omega), if_neg (by omega), if_neg (by omega), Int.min_eq_left hbm, Int.max_eq_right hbm]
    simp
theorem init_k {m : List Gt} : ∀ {i : Nat} {x : Gt}, (init ++ m)[i]? = some x → i < 2 → x.k < 3
  | 0, x, h, _ => by simp [init] at h; rw [← h]; decide
  | 1, x, h, _ => by simp [init] at h; rw [← h]; decide
  | i + 2, _, _, hi => by omega
theorem CopyInv.step {dead : Int → Bool} (hd : ∀ t, dead t = false) {T : Int} {l : List Gt} {s : CutSt} {js : List Nat} (h : CopyInv T l s js) {k : Nat} {g : Gt} (hI : Inv l) (hN : Nrm l) (hg : l[k]? = some g) (hk : KidsIn js g) (hlt : ∀ j ∈ js, j < k) (hT : (js.length : Int) + 3 ≤ T) : CopyInv T l (cutStep dead l s k) (js ++ [k]) := by
  have hkn : k ∉ js := fun hm => by have := hlt k hm; omega
  have ci' := h.ci.step (dead := dead) hg (fun h3 => by
    rcases Nat.lt_or_ge k 2 with hk2 | hk2
    · obtain ⟨m, hm⟩ := hI.good
      rw [hm] at hg
      match k, hk2, hg with
      | 0, _, hg => simp [init] at hg; subst hg; simp at h3
      | 1, _, hg => simp [init] at hg; subst hg; simp at h3
    · exact ((hN k g hg hk2).2.1 h3).1) hk.1 hk.2 hT
  have kids' : ∀ j ∈ js ++ [k], ∀ g', l[j]? = some g' → KidsIn (js ++ [k]) g' := fun j hj g' hg' => by
    rw [List.mem_append] at hj
    rcases hj with hj | hj
    · exact (h.kids j hj g' hg').mono (fun x hx => by simp [hx])
    · simp at hj; subst hj; rw [hg] at hg'; cases hg'; exact hk.mono (fun x hx => by simp [hx])
  rw [cutStep_at h.ci.e hg] at ci' ⊢
  rcases Nat.lt_or_ge k 2 with hk2 | hk2
  · have ha : againV dead s.bm g s.l s.left = (((k : Int), 0), s.l, s.left) := by
      obtain ⟨m, hm⟩ := hI.good
      rw [hm] at hg
      match k, hk2, hg with
      | 0, _, hg => simp [init] at hg; subst hg; simp [againV]
      | 1, _, hg => simp [init] at hg; subst hg; simp [againV]
    rw [ha] at ci' ⊢
    refine ⟨ci', ?_, ?_, ?_, ?_, ?_, kids'⟩
    · intro j hj hj1
      simp only
      by_cases e : j = k
      · rw [if_pos e, e]
      · rw [if_neg e]
        rw [List.mem_append] at hj
        rcases hj with hj | hj
        · exact h.b0 j hj hj1
        · simp at hj; exact absurd hj e
    · intro j hj hj2
      rw [List.mem_append] at hj
      rcases hj with hj | hj
      · have := hlt j hj; omega
      · simp at hj; omega
    · intro i hi j hj hij
      simp only
      rw [List.mem_append] at hi hj
      have ik : i ∈ js ∧ i ≤ 1 ∧ j ≤ 1 := by
        rcases hj with hj | hj <;> rcases hi with hi | hi
        · have := hlt j hj; exact ⟨hi, by omega, by omega⟩
        · simp at hi; have := hlt j hj; omega
        · simp at hj; exact ⟨hi, by omega, by omega⟩
        · simp at hi hj; omega
      rw [if_neg (by intro e; subst e; exact hkn ik.1), h.b0 i ik.1 ik.2.1]
      by_cases e : j = k
      · rw [if_pos e]; omega
      · rw [if_neg e]
        rcases hj with hj | hj
        · rw [h.b0 j hj ik.2.2]; omega
        · simp at hj; exact absurd hj e
    · intro i h1 h2
      obtain ⟨j, hj, h3, h4⟩ := h.onto i h1 h2
      have := hlt j hj
      omega
    · rw [List.filter_append]
      have : ([k].filter fun j => decide (2 ≤ j)) = [] := by simp; omega
      rw [this, List.append_nil]
      exact h.cnt
  · have hn := hN k g hg hk2
    have hlen := h.ci.len
    have h1l : 1 ≤ s.left := by rw [h.ci.left]; omega
    have hf : find (imgG s.bm g) s.l 0 = none := find_no fun i hi e => by
      rcases Nat.lt_or_ge i 2 with hi2 | hi2
      · obtain ⟨m, hm⟩ := h.ci.inv.good
        have hki := hn.1
        have ek := congrArg Gt.k e
        rw [imgG_k] at ek
        have h8 : (init ++ m)[i]? = some s.l[i] := by rw [← hm]; exact List.getElem?_eq_getElem hi
        have := init_k h8 hi2
        omega
      · obtain ⟨j, hj, hj2, hb⟩ := h.onto i hi2 hi
        obtain ⟨_, gj, hgj, hat⟩ := h.b2 j hj hj2
        rw [hb, Int.toNat_natCast, List.getElem?_eq_getElem hi, e] at hat
        simp at hat
        have := imgG_inj hn (hN j gj hgj hj2) hk (h.kids j hj gj hgj) h.inj hat
        subst this
        have hjk : j = k := by
          obtain ⟨q1, q2⟩ := List.getElem?_eq_some_iff.mp hgj
          obtain ⟨q3, q4⟩ := List.getElem?_eq_some_iff.mp hg
          rcases Nat.lt_trichotomy j k with h5 | h5 | h5
          · exact absurd (q2.trans q4.symm) ((List.pairwise_iff_getElem.mp (List.nodup_iff_pairwise_ne.mp hI.nodup)) j k q1 q3 h5)
          · exact h5
          · exact absurd (q4.trans q2.symm) ((List.pairwise_iff_getElem.mp (List.nodup_iff_pairwise_ne.mp hI.nodup)) k j q3 q1 h5)
        exact hkn (hjk ▸ hj)
    have ha : againV dead s.bm g s.l s.left = (((s.l.length : Int), 0), s.l ++ [imgG s.bm g], s.left - 1) := by
      rw [again_img hd h hI hg hn hk]
      unfold put
      rw [hf]
      simp only
      rw [if_pos h1l]
    rw [ha] at ci' ⊢
    have old : ∀ j ∈ js, (if j = k then (s.l.length : Int) else s.bm j) = s.bm j := fun j hj => if_neg (by rintro rfl; exact hkn hj)
    refine ⟨ci', ?_, ?_, ?_, ?_, ?_, kids'⟩
    · intro j hj hj1
      rw [List.mem_append] at hj
      rcases hj with hj | hj
      · simp only; rw [old j hj]; exact h.b0 j hj hj1
      · simp at hj; omega
    · intro j hj hj2
      simp only
      rw [List.mem_append] at hj
      rcases hj with hj | hj
      · rw [old j hj]
        obtain ⟨q1, gj, q2, q3⟩ := h.b2 j hj hj2
        refine ⟨q1, gj, q2, ?_⟩
        rw [imgG_congr (hN j gj q2 hj2) (h.kids j hj gj q2) old, List.getElem?_append_left (List.getElem?_eq_some_iff.mp q3).1]
        exact q3
      · simp at hj
        subst hj
        rw [if_pos rfl]
        refine ⟨by have := h.ci.two; omega, g, hg, ?_⟩
        rw [imgG_congr hn hk old]
        simp
    · intro i hi j hj hij
      simp only
      rw [List.mem_append] at hi hj
      rcases hj with hj | hj
      · rcases hi with hi | hi
        · rw [old i hi, old j hj]; exact h.mono i hi j hj hij
        · simp at hi; have := hlt j hj; omega
      · simp at hj
        subst hj
        rw [if_pos rfl]
        rcases hi with hi | hi
        · rw [old i hi]; exact (h.ci.nums i hi).2
        · simp at hi; omega
    · intro i h1 h2
      simp only [List.length_append, List.length_cons, List.length_nil] at h2
      by_cases e : i = s.l.length
      · exact ⟨k, by simp, hk2, by simp [e]⟩
      · obtain ⟨j, hj, h3, h4⟩ := h.onto i h1 (by omega)
        exact ⟨j, by simp [hj], h3, by simp only; rw [old j hj]; exact h4⟩
    · rw [List.filter_append]
      have : ([k].filter fun j => decide (2 ≤ j)) = [k] := by simp [hk2]
      rw [this, List.length_append, List.length_append, h.cnt]
      simp only [List.length_cons, List.length_nil]
      omega
theorem copyInv_all {dead : Int → Bool} (hd : ∀ t, dead t = false) {l : List Gt} (hI : Inv l) (hN : Nrm l) {ks : List Nat} (hC : Closed l ks) (hU : ks.Pairwise (· < ·)) {T : Int} (hT : (ks.length : Int) + 3 ≤ T) : ∀ t, t ≤ ks.length → CopyInv T l (cutV dead l (ks.take t) (T - 2)) (ks.take t)
  | 0, _ => by rw [List.take_zero]; exact CopyInv.start T l
  | t + 1, ht => by
    have ih := copyInv_all hd hI hN hC hU hT t (by omega)
    have hj : ks[t]? = some ks[t] := List.getElem?_eq_getElem (by omega)
    have hkl := hC.lt ks[t] (List.getElem_mem (by omega))
    have hg : l[ks[t]]? = some l[ks[t]] := List.getElem?_eq_getElem hkl
    rw [cutV_next hj, take_one hj]
    refine ih.step hd hI hN hg ⟨hC.two t _ _ hj hg, hC.one t _ _ hj hg⟩ (fun j hm => ?_) (by rw [List.length_take]; omega)
    obtain ⟨i, hi, rfl⟩ := List.mem_iff_getElem.mp hm
    rw [List.length_take] at hi
    rw [List.getElem_take]
    exact List.pairwise_iff_getElem.mp hU i t (by omega) (by omega) (by omega)
end Go.Proofs.YtbnhhmejlglbcaaGreat

