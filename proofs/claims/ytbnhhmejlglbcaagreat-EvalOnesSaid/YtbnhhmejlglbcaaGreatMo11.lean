/- What a gate is made of: the law on lists; rows of marks. What gates are worth: pure, over any values. -/
import Derived.Test.YtbnhhmejlglbcaaGreatMo10
import Derived.Test.YtbnhhmejlglbcaaGreatMo08
import Derived.Laws.MakeOwn
namespace Go.Proofs.YtbnhhmejlglbcaaGreat
open Go.RowKit
set_option linter.unusedSimpArgs false
set_option linter.unusedVariables false

theorem infoBool : (Tryz.prog.info? 4).map (fun i => (i.zero, i.size, i.bytes)) = some (some (.bool false), 1, 1) := by kernel_rfl
theorem made_bools (n : Nat) : madeCells #[Value.bool false] n = (List.replicate n (Value.bool false)).toArray := by
  apply Array.ext
  · simp [madeCells]
  · intro i h1 h2
    simp [madeCells, Nat.mod_one]
set_option maxRecDepth 100000 in
theorem run_make_bools (n : Nat) (w : World) (hn : n ≤ 1000000) : (Instr.makeSlice 141 (.int .i64 n) (.int .i64 n)).run Tryz.prog w = .ok (.slice (some ⟨w.heap.size, 0, none⟩) n n) (w.alloc (.cells (List.replicate n (Value.bool false)).toArray 4)) := by
  obtain ⟨i0, h2, h3, h4, h5⟩ := info_parts infoBool
  have hm := run_make (P := Tryz.prog) w 141 4 i0 _ Tryz.underlying141 h2 h3 .i64 .i64 n n (by omega) (Int.le_refl _) (by rw [h5]; omega) (by omega)
  rw [h4, Nat.mul_one, show ((n : Int)).toNat = n from Int.toNat_natCast n] at hm
  rw [← made_bools]
  exact hm

/-- A row of marks. -/
def MRow (w : World) (b n : Nat) (m : Nat → Bool) : Prop := RowAt w b 4 1 n n ((List.range n).map fun j => Value.bool (m j))
def upd (m : Nat → Bool) (x : Nat) : Nat → Bool := fun j => if j = x then true else m j
theorem MRow.frame {w w' : World} {b n : Nat} {m : Nat → Bool} {S : List Nat} (h : MRow w b n m) (f : Frame S w w') (hb : b ∉ S) : MRow w' b n m := RowAt.frame h f hb
theorem MRow.lt {w : World} {b n : Nat} {m : Nat → Bool} (h : MRow w b n m) : b < w.heap.size := RowAt.lt h
theorem MRow.at {w : World} {b n : Nat} {m : Nat → Bool} (h : MRow w b n m) {j : Nat} (hj : j < n) : w.cell? ⟨b, j, none⟩ = some (.bool (m j)) := RowAt.cell h (by simp [hj])
theorem MRow.frozen {w : World} {b n : Nat} {m : Nat → Bool} (h : MRow w b n m) (j : Nat) : w.frozen? ⟨b, j, none⟩ = false := RowAt.frozen h j
theorem MRow.set {w : World} {b n : Nat} {m : Nat → Bool} (h : MRow w b n m) {x : Nat} (hx : x < n) : MRow (w.setCell ⟨b, x, none⟩ (.bool true)) b n (upd m x) := by
  obtain ⟨cs, h1, h2, h3, h4, h5⟩ := RowAt.blk h
  refine RowAt.of_blk (h1.set _ _) h2 h3 (by simpa using h4) ?_
  rw [Array.toList_setIfInBounds, List.take_set, h5]
  apply List.ext_getElem
  · simp
  · intro i g1 g2
    simp only [List.getElem_set, List.getElem_map, List.getElem_range, upd]
    by_cases e : x = i
    · subst e; simp
    · rw [if_neg e, if_neg (fun h => e h.symm)]
theorem MRow.new (w : World) (n : Nat) (hn : n ≤ 1000000) : MRow (w.alloc (.cells (List.replicate n (Value.bool false)).toArray 4)) w.heap.size n (fun _ => false) := by
  refine RowAt.of_blk (Blk.new _ _ _) (Nat.le_refl _) (by unfold maxLen; omega) (by simp) ?_
  rw [List.take_of_length_le (by simp)]
  apply List.ext_getElem <;> simp

/-- One gate's marks; those of all below k. -/
def marks (l : List Gt) (k : Nat) (m : Nat → Bool) : Nat → Bool :=
  match l[k]? with
  | none => m
  | some g => if m k = true then (if g.k = 4 ∨ g.k = 5 then upd (upd m g.b.toNat) g.a.toNat else if g.k = 6 then upd m g.a.toNat else m) else m
def down (l : List Gt) : Nat → (Nat → Bool) → (Nat → Bool)
  | 0, m => m
  | k + 1, m => down l k (marks l k m)
/-- The gates' kinds. -/
def Knd (l : List Gt) : Prop := ∀ g ∈ l, 1 ≤ g.k ∧ g.k ≤ 6
theorem wf_nat {l : List Gt} (hI : Inv l) {k : Nat} {g : Gt} (hg : l[k]? = some g) (h4 : 4 ≤ g.k) : ∃ a : Nat, g.a = a ∧ a < k ∧ 1 ≤ a := by
  have := (hI.wf k g hg).1 h4
  exact ⟨g.a.toNat, by omega, by omega, by omega⟩
theorem wf_nat2 {l : List Gt} (hI : Inv l) {k : Nat} {g : Gt} (hg : l[k]? = some g) (h4 : g.k = 4 ∨ g.k = 5) : ∃ b : Nat, g.b = b ∧ b < k ∧ 1 ≤ b := by
  have := (hI.wf k g hg).1 (by omega)
  have := (hI.wf k g hg).2 h4
  exact ⟨g.b.toNat, by omega, by omega, by omega⟩
theorem marks_ge {l : List Gt} (hI : Inv l) {k j : Nat} (m : Nat → Bool) (h : k ≤ j) : marks l k m j = m j := by
  cases hg : l[k]? with
  | none => simp only [marks, hg]
  | some g =>
    simp only [marks, hg]
    by_cases hm : m k = true
    · rw [if_pos hm]
      by_cases h4 : g.k = 4 ∨ g.k = 5
      · obtain ⟨a, ha, ha1, _⟩ := wf_nat hI hg (by omega)
        obtain ⟨b, hb, hb1, _⟩ := wf_nat2 hI hg h4
        rw [if_pos h4]
        simp only [upd, ha, hb, Int.toNat_natCast]
        rw [if_neg (by omega), if_neg (by omega)]
      · rw [if_neg h4]
        by_cases h6 : g.k = 6
        · obtain ⟨a, ha, ha1, _⟩ := wf_nat hI hg (by omega)
          rw [if_pos h6]
          simp only [upd, ha, Int.toNat_natCast]
          rw [if_neg (by omega)]
        · rw [if_neg h6]
    · rw [if_neg hm]
theorem down_ge {l : List Gt} (hI : Inv l) : ∀ {k j : Nat} (m : Nat → Bool), k ≤ j + 1 → down l k m j = m j := by
  intro k
  induction k with
  | zero => intro j m _; rfl
  | succ k ih =>
    intro j m h
    unfold down
    rw [ih _ (by omega), marks_ge hI m (by omega)]
/-- The marks of a gate's own. -/
def reachM (l : List Gt) (root : Nat) : Nat → Bool := down l (root + 1) (fun j => decide (j = root))
/-- What a gate is made of, rising. -/
def reach (l : List Gt) (root : Nat) : List Nat := (List.range (root + 1)).filter (reachM l root)
end Go.Proofs.YtbnhhmejlglbcaaGreat

namespace Go.Proofs.YtbnhhmejlglbcaaGreat
open Go.RowKit
set_option linter.unusedSimpArgs false
set_option linter.unusedVariables false

/-- What a semiring's functions make. -/
structure Rg (V : Type) where
  z : V
  o : V
  p : V → V → V
  t : V → V → V
  s : V → V
section
variable {V : Type}
def gval (R : Rg V) (w : Int → V) (vs : Nat → V) (g : Gt) : V :=
  if g.k = 2 then R.o else if g.k = 3 then w g.a else if g.k = 4 then R.p (vs g.a.toNat) (vs g.b.toNat) else if g.k = 5 then R.t (vs g.a.toNat) (vs g.b.toNat) else if g.k = 6 then R.s (vs g.a.toNat) else R.z
def worthF (R : Rg V) (w : Int → V) (l : List Gt) : Nat → Nat → V
  | 0, _ => R.z
  | n + 1, k => match l[k]? with
    | none => R.z
    | some g => gval R w (worthF R w l n) g
def worth (R : Rg V) (w : Int → V) (l : List Gt) (k : Nat) : V := worthF R w l (k + 1) k
theorem gval_congr {R : Rg V} {w : Int → V} {vs us : Nat → V} {l : List Gt} (hI : Inv l) {k : Nat} {g : Gt} (hg : l[k]? = some g) (h : ∀ j, j < k → vs j = us j) : gval R w vs g = gval R w us g := by
  unfold gval
  by_cases h2 : g.k = 2
  · rw [if_pos h2, if_pos h2]
  rw [if_neg h2, if_neg h2]
  by_cases h3 : g.k = 3
  · rw [if_pos h3, if_pos h3]
  rw [if_neg h3, if_neg h3]
  by_cases h4 : g.k = 4
  · obtain ⟨a, ha, ha1, _⟩ := wf_nat hI hg (by omega)
    obtain ⟨b, hb, hb1, _⟩ := wf_nat2 hI hg (.inl h4)
    rw [if_pos h4, if_pos h4, ha, hb, Int.toNat_natCast, Int.toNat_natCast, h a ha1, h b hb1]
  rw [if_neg h4, if_neg h4]
  by_cases h5 : g.k = 5
  · obtain ⟨a, ha, ha1, _⟩ := wf_nat hI hg (by omega)
    obtain ⟨b, hb, hb1, _⟩ := wf_nat2 hI hg (.inr h5)
    rw [if_pos h5, if_pos h5, ha, hb, Int.toNat_natCast, Int.toNat_natCast, h a ha1, h b hb1]
  rw [if_neg h5, if_neg h5]
  by_cases h6 : g.k = 6
  · obtain ⟨a, ha, ha1, _⟩ := wf_nat hI hg (by omega)
    rw [if_pos h6, if_pos h6, ha, Int.toNat_natCast, h a ha1]
  rw [if_neg h6, if_neg h6]
theorem worthF_eq {R : Rg V} {w : Int → V} {l : List Gt} (hI : Inv l) : ∀ (k n m : Nat), k < n → k < m → worthF R w l n k = worthF R w l m k := by
  intro k
  induction k using Nat.strongRecOn with
  | _ k ih =>
    intro n m hn hm
    obtain ⟨n, rfl⟩ : ∃ n', n = n' + 1 := ⟨n - 1, by omega⟩
    obtain ⟨m, rfl⟩ : ∃ m', m = m' + 1 := ⟨m - 1, by omega⟩
    unfold worthF
    cases hg : l[k]? with
    | none => rfl
    | some g => exact gval_congr hI hg fun j hj => ih j hj n m (by omega) (by omega)
theorem worth_at {R : Rg V} {w : Int → V} {l : List Gt} (hI : Inv l) {k : Nat} {g : Gt} (hg : l[k]? = some g) : worth R w l k = gval R w (worth R w l) g := by
  unfold worth
  rw [worthF, hg]
  exact gval_congr hI hg fun j hj => worthF_eq hI j k (j + 1) hj (by omega)
end
/-! ### what a gate is made of is closed -/
theorem marks_keep {l : List Gt} {k j : Nat} {m : Nat → Bool} (h : m j = true) : marks l k m j = true := by
  unfold marks
  cases l[k]? with
  | none => exact h
  | some g =>
    simp only
    have u : ∀ (m : Nat → Bool) x, m j = true → upd m x j = true := fun m x hm => by unfold upd; split <;> simp_all
    split
    · split
      · exact u _ _ (u _ _ h)
      · split
        · exact u _ _ h
        · exact h
    · exact h
theorem down_keep {l : List Gt} : ∀ (n : Nat) {j : Nat} {m : Nat → Bool}, m j = true → down l n m j = true
  | 0, _, _, h => h
  | n + 1, _, _, h => down_keep n (marks_keep h)
theorem down_kids {l : List Gt} (hI : Inv l) : ∀ (n : Nat) {k : Nat} {m : Nat → Bool} {g : Gt}, k < n → l[k]? = some g → down l n m k = true → ((g.k = 4 ∨ g.k = 5) → down l n m g.a.toNat = true ∧ down l n m g.b.toNat = true) ∧ (g.k = 6 → down l n m g.a.toNat = true)
  | 0, _, _, _, h, _, _ => by omega
  | n + 1, k, m, g, h, hg, hd => by
    unfold down at hd ⊢
    by_cases hk : k = n
    · subst hk
      rw [down_ge hI _ (by omega), marks_ge hI m (Nat.le_refl _)] at hd
      have hm : marks l k m = if m k = true then (if g.k = 4 ∨ g.k = 5 then upd (upd m g.b.toNat) g.a.toNat else if g.k = 6 then upd m g.a.toNat else m) else m := by unfold marks; rw [hg]
      rw [if_pos hd] at hm
      refine ⟨fun h4 => ?_, fun h6 => ?_⟩
      · rw [if_pos h4] at hm
        refine ⟨down_keep k ?_, down_keep k ?_⟩
        · rw [hm]; simp [upd]
        · rw [hm]; simp only [upd]; split <;> simp
      · rw [if_neg (by omega), if_pos h6] at hm
        refine down_keep k ?_
        rw [hm]; simp [upd]
    · exact down_kids hI n (by omega) hg hd
theorem reachM_root (l : List Gt) (root : Nat) : reachM l root root = true := down_keep _ (by simp)
theorem reachM_kids {l : List Gt} (hI : Inv l) {root k : Nat} {g : Gt} (hk : k ≤ root) (hg : l[k]? = some g) (h : reachM l root k = true) : ((g.k = 4 ∨ g.k = 5) → reachM l root g.a.toNat = true ∧ reachM l root g.b.toNat = true) ∧ (g.k = 6 → reachM l root g.a.toNat = true) :=
  down_kids hI (root + 1) (by omega) hg h
/-- A gate's worth hangs on the tokens it is made of. -/
theorem worth_congr {V : Type} {R : Rg V} {w w' : Int → V} {l : List Gt} (hI : Inv l) {root : Nat} (h : ∀ k g, k ≤ root → reachM l root k = true → l[k]? = some g → g.k = 3 → w g.a = w' g.a) : ∀ k, k ≤ root → reachM l root k = true → worth R w l k = worth R w' l k := by
  intro k
  induction k using Nat.strongRecOn with
  | _ k ih =>
    intro hk hr
    cases hg : l[k]? with
    | none => unfold worth; rw [worthF, worthF, hg]
    | some g =>
      rw [worth_at hI hg, worth_at hI hg]
      have hc := reachM_kids hI hk hg hr
      unfold gval
      by_cases h2 : g.k = 2
      · rw [if_pos h2, if_pos h2]
      rw [if_neg h2, if_neg h2]
      by_cases h3 : g.k = 3
      · rw [if_pos h3, if_pos h3, h k g hk hr hg h3]
      rw [if_neg h3, if_neg h3]
      by_cases h4 : g.k = 4
      · obtain ⟨a, ha, ha1, _⟩ := wf_nat hI hg (by omega)
        obtain ⟨b, hb, hb1, _⟩ := wf_nat2 hI hg (.inl h4)
        have hh := hc.1 (.inl h4)
        rw [ha, hb, Int.toNat_natCast, Int.toNat_natCast] at hh
        rw [if_pos h4, if_pos h4, ha, hb, Int.toNat_natCast, Int.toNat_natCast, ih a ha1 (by omega) hh.1, ih b hb1 (by omega) hh.2]
      rw [if_neg h4, if_neg h4]
      by_cases h5 : g.k = 5
      · obtain ⟨a, ha, ha1, _⟩ := wf_nat hI hg (by omega)
        obtain ⟨b, hb, hb1, _⟩ := wf_nat2 hI hg (.inr h5)
        have hh := hc.1 (.inr h5)
        rw [ha, hb, Int.toNat_natCast, Int.toNat_natCast] at hh
        rw [if_pos h5, if_pos h5, ha, hb, Int.toNat_natCast, Int.toNat_natCast, ih a ha1 (by omega) hh.1, ih b hb1 (by omega) hh.2]
      rw [if_neg h5, if_neg h5]
      by_cases h6 : g.k = 6
      · obtain ⟨a, ha, ha1, _⟩ := wf_nat hI hg (by omega)
        have hh := hc.2 h6
        rw [ha, Int.toNat_natCast] at hh
        rw [if_pos h6, if_pos h6, ha, Int.toNat_natCast, ih a ha1 (by omega) hh]
      rw [if_neg h6, if_neg h6]
/-! ### Bool -/
def rgB : Rg Bool := ⟨false, true, (· || ·), (· && ·), fun _ => true⟩
theorem worthB_mono {w w' : Int → Bool} {l : List Gt} (hI : Inv l) (h : ∀ t, w t = true → w' t = true) : ∀ k, worth rgB w l k = true → worth rgB w' l k = true := by
  intro k
  induction k using Nat.strongRecOn with
  | _ k ih =>
    cases hg : l[k]? with
    | none => unfold worth; rw [worthF, hg]; exact fun h => by cases h
    | some g =>
      rw [worth_at hI hg, worth_at hI hg]
      unfold gval
      by_cases h2 : g.k = 2
      · rw [if_pos h2, if_pos h2]; exact id
      rw [if_neg h2, if_neg h2]
      by_cases h3 : g.k = 3
      · rw [if_pos h3, if_pos h3]; exact h _
      rw [if_neg h3, if_neg h3]
      by_cases h4 : g.k = 4
      · obtain ⟨a, ha, ha1, _⟩ := wf_nat hI hg (by omega)
        obtain ⟨b, hb, hb1, _⟩ := wf_nat2 hI hg (.inl h4)
        rw [if_pos h4, if_pos h4, ha, hb, Int.toNat_natCast, Int.toNat_natCast]
        simp only [rgB, Bool.or_eq_true]
        exact fun hh => hh.imp (ih a ha1) (ih b hb1)
      rw [if_neg h4, if_neg h4]
      by_cases h5 : g.k = 5
      · obtain ⟨a, ha, ha1, _⟩ := wf_nat hI hg (by omega)
        obtain ⟨b, hb, hb1, _⟩ := wf_nat2 hI hg (.inr h5)
        rw [if_pos h5, if_pos h5, ha, hb, Int.toNat_natCast, Int.toNat_natCast]
        simp only [rgB, Bool.and_eq_true]
        exact fun hh => ⟨ih a ha1 hh.1, ih b hb1 hh.2⟩
      rw [if_neg h5, if_neg h5]
      by_cases h6 : g.k = 6
      · rw [if_pos h6, if_pos h6]; exact fun _ => rfl
      rw [if_neg h6, if_neg h6]; exact id
end Go.Proofs.YtbnhhmejlglbcaaGreat

