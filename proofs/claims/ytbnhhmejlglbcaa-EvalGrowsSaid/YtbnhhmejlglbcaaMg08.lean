/- What a gate is made of: the law on lists; rows of marks. What gates are worth: pure, over any values. A map from numbers to values; what a semiring's functions keep to. -/
import Derived.Test.YtbnhhmejlglbcaaMg07
import Derived.Test.YtbnhhmejlglbcaaMg06
import Derived.Laws.MakeOwn
namespace Go.Proofs.Ytbnhhmejlglbcaa
open Go.RowKit
set_option linter.unusedSimpArgs false
set_option linter.unusedVariables false

theorem infoBool : (Try.prog.info? 4).map (fun i => (i.zero, i.size, i.bytes)) = some (some (.bool false), 1, 1) := by kernel_rfl
theorem made_bools (n : Nat) : madeCells #[Value.bool false] n = (List.replicate n (Value.bool false)).toArray := by
  apply Array.ext
  · simp [madeCells]
  · intro i h1 h2
    simp [madeCells, Nat.mod_one]
set_option maxRecDepth 100000 in
theorem run_make_bools (n : Nat) (w : World) (hn : n ≤ 1000000) : (Instr.makeSlice 97 (.int .i64 n) (.int .i64 n)).run Try.prog w = .ok (.slice (some ⟨w.heap.size, 0, none⟩) n n) (w.alloc (.cells (List.replicate n (Value.bool false)).toArray 4)) := by
  obtain ⟨i0, h2, h3, h4, h5⟩ := info_parts infoBool
  have hm := run_make (P := Try.prog) w 97 4 i0 _ Try.underlying97 h2 h3 .i64 .i64 n n (by omega) (Int.le_refl _) (by rw [h5]; omega) (by omega)
  rw [h4, Nat.mul_one, show ((n : Int)).toNat = n from Int.toNat_natCast n] at hm
  rw [← made_bools]
  exact hm

/-- A row of marks. -/
def MRow (w : World) (b n : Nat) (m : Nat → Bool) : Prop := RowAt w b 4 1 n n ((List.range n).map fun j => Value.bool (m j))
def upd (m : Nat → Bool) (x : Nat) : Nat → Bool := fun j => if j = x then true else m j
theorem MRow.frame {w w' : World} {b n : Nat} {m : Nat → Bool} {S : List Nat} (h : MRow w b n m) (f : Frame S w w') (hb : b ∉ S) : MRow w' b n m := RowAt.frame h f hb
theorem MRow.lt {w : World} {b n : Nat} {m : Nat → Bool} (h : MRow w b n m) : b < w.heap.size := RowAt.lt h
theorem MRow.at {w : World} {b n : Nat} {m : Nat → Bool} (h : MRow w b n m) {j : Nat} (hj : j < n) : w.cell? ⟨b, j, none⟩ = some (.bool (m j)) := RowAt.cell h (by simp [hj])
theorem MRow.frozen {w : World} {b n : Nat} {m : Nat → Bool} (h : MRow w b n m) (j : Nat) : w.frozen? ⟨b, j, none⟩ = false := RowAt.frozen h j
theorem MRow.set {w : World} {b n : Nat} {m : Nat → Bool} (h : MRow w b n m) {x : Nat} (hx : x < n) : MRow (w.setCell ⟨b, x, none⟩ (.bool true)) b n (upd m x) := by
  obtain ⟨cs, h1, h2, h3, h4, h5⟩ := RowAt.blk h
  refine RowAt.of_blk (h1.set _ _) h2 h3 (by simpa using h4) ?_
  rw [Array.toList_setIfInBounds, List.take_set, h5]
  apply List.ext_getElem
  · simp
  · intro i g1 g2
    simp only [List.getElem_set, List.getElem_map, List.getElem_range, upd]
    by_cases e : x = i
    · subst e; simp
    · rw [if_neg e, if_neg (fun h => e h.symm)]
theorem MRow.new (w : World) (n : Nat) (hn : n ≤ 1000000) : MRow (w.alloc (.cells (List.replicate n (Value.bool false)).toArray 4)) w.heap.size n (fun _ => false) := by
  refine RowAt.of_blk (Blk.new _ _ _) (Nat.le_refl _) (by unfold maxLen; omega) (by simp) ?_
  rw [List.take_of_length_le (by simp)]
  apply List.ext_getElem <;> simp

/-- One gate's marks; those of all below k. -/
def marks (l : List Gt) (k : Nat) (m : Nat → Bool) : Nat → Bool :=
  match l[k]? with
  | none => m
  | some g => if m k = true then (if g.k = 4 ∨ g.k = 5 then upd (upd m g.b.toNat) g.a.toNat else if g.k = 6 then upd m g.a.toNat else m) else m
def down (l : List Gt) : Nat → (Nat → Bool) → (Nat → Bool)
  | 0, m => m
  | k + 1, m => down l k (marks l k m)
/-- The gates' kinds. -/
def Knd (l : List Gt) : Prop := ∀ g ∈ l, 1 ≤ g.k ∧ g.k ≤ 6
theorem wf_nat {l : List Gt} (hI : Inv l) {k : Nat} {g : Gt} (hg : l[k]? = some g) (h4 : 4 ≤ g.k) : ∃ a : Nat, g.a = a ∧ a < k ∧ 1 ≤ a := by
  have := (hI.wf k g hg).1 h4
  exact ⟨g.a.toNat, by omega, by omega, by omega⟩
theorem wf_nat2 {l : List Gt} (hI : Inv l) {k : Nat} {g : Gt} (hg : l[k]? = some g) (h4 : g.k = 4 ∨ g.k = 5) : ∃ b : Nat, g.b = b ∧ b < k ∧ 1 ≤ b := by
  have := (hI.wf k g hg).1 (by omega)
  have := (hI.wf k g hg).2 h4
  exact ⟨g.b.toNat, by omega, by omega, by omega⟩
theorem marks_ge {l : List Gt} (hI : Inv l) {k j : Nat} (m : Nat → Bool) (h : k ≤ j) : marks l k m j = m j := by
  cases hg : l[k]? with
  | none => simp only [marks, hg]
  | some g =>
    simp only [marks, hg]
    by_cases hm : m k = true
    · rw [if_pos hm]
      by_cases h4 : g.k = 4 ∨ g.k = 5
      · obtain ⟨a, ha, ha1, _⟩ := wf_nat hI hg (by omega)
        obtain ⟨b, hb, hb1, _⟩ := wf_nat2 hI hg h4
        rw [if_pos h4]
        simp only [upd, ha, hb, Int.toNat_natCast]
        rw [if_neg (by omega), if_neg (by omega)]
      · rw [if_neg h4]
        by_cases h6 : g.k = 6
        · obtain ⟨a, ha, ha1, _⟩ := wf_nat hI hg (by omega)
          rw [if_pos h6]
          simp only [upd, ha, Int.toNat_natCast]
          rw [if_neg (by omega)]
        · rw [if_neg h6]
    · rw [if_neg hm]
theorem down_ge {l : List Gt} (hI : Inv l) : ∀ {k j : Nat} (m : Nat → Bool), k ≤ j + 1 → down l k m j = m j := by
  intro k
  induction k with
  | zero => intro j m _; rfl
  | succ k ih =>
    intro j m h
    unfold down
    rw [ih _ (by omega), marks_ge hI m (by omega)]
/-- The marks of a gate's own. -/
def reachM (l : List Gt) (root : Nat) : Nat → Bool := down l (root + 1) (fun j => decide (j = root))
/-- What a gate is made of, rising. -/
def reach (l : List Gt) (root : Nat) : List Nat := (List.range (root + 1)).filter (reachM l root)
end Go.Proofs.Ytbnhhmejlglbcaa

namespace Go.Proofs.Ytbnhhmejlglbcaa
open Go.RowKit
set_option linter.unusedSimpArgs false
set_option linter.unusedVariables false

/-- What a semiring's functions make. -/
structure Rg (V : Type) where
  z : V
  o : V
  p : V → V → V
  t : V → V → V
  s : V → V
section
variable {V : Type}
def gval (R : Rg V) (w : Int → V) (vs : Nat → V) (g : Gt) : V :=
  if g.k = 2 then R.o else if g.k = 3 then w g.a else if g.k = 4 then R.p (vs g.a.toNat) (vs g.b.toNat) else if g.k = 5 then R.t (vs g.a.toNat) (vs g.b.toNat) else if g.k = 6 then R.s (vs g.a.toNat) else R.z
def worthF (R : Rg V) (w : Int → V) (l : List Gt) : Nat → Nat → V
  | 0, _ => R.z
  | n + 1, k => match l[k]? with
    | none => R.z
    | some g => gval R w (worthF R w l n) g
def worth (R : Rg V) (w : Int → V) (l : List Gt) (k : Nat) : V := worthF R w l (k + 1) k
theorem gval_congr {R : Rg V} {w : Int → V} {vs us : Nat → V} {l : List Gt} (hI : Inv l) {k : Nat} {g : Gt} (hg : l[k]? = some g) (h : ∀ j, j < k → vs j = us j) : gval R w vs g = gval R w us g := by
  unfold gval
  by_cases h2 : g.k = 2
  · rw [if_pos h2, if_pos h2]
  rw [if_neg h2, if_neg h2]
  by_cases h3 : g.k = 3
  · rw [if_pos h3, if_pos h3]
  rw [if_neg h3, if_neg h3]
  by_cases h4 : g.k = 4
  · obtain ⟨a, ha, ha1, _⟩ := wf_nat hI hg (by omega)
    obtain ⟨b, hb, hb1, _⟩ := wf_nat2 hI hg (.inl h4)
    rw [if_pos h4, if_pos h4, ha, hb, Int.toNat_natCast, Int.toNat_natCast, h a ha1, h b hb1]
  rw [if_neg h4, if_neg h4]
  by_cases h5 : g.k = 5
  · obtain ⟨a, ha, ha1, _⟩ := wf_nat hI hg (by omega)
    obtain ⟨b, hb, hb1, _⟩ := wf_nat2 hI hg (.inr h5)
    rw [if_pos h5, if_pos h5, ha, hb, Int.toNat_natCast, Int.toNat_natCast, h a ha1, h b hb1]
  rw [if_neg h5, if_neg h5]
  by_cases h6 : g.k = 6
  · obtain ⟨a, ha, ha1, _⟩ := wf_nat hI hg (by omega)
    rw [if_pos h6, if_pos h6, ha, Int.toNat_natCast, h a ha1]
  rw [if_neg h6, if_neg h6]
theorem worthF_eq {R : Rg V} {w : Int → V} {l : List Gt} (hI : Inv l) : ∀ (k n m : Nat), k < n → k < m → worthF R w l n k = worthF R w l m k := by
  intro k
  induction k using Nat.strongRecOn with
  | _ k ih =>
    intro n m hn hm
    obtain ⟨n, rfl⟩ : ∃ n', n = n' + 1 := ⟨n - 1, by omega⟩
    obtain ⟨m, rfl⟩ : ∃ m', m = m' + 1 := ⟨m - 1, by omega⟩
    unfold worthF
    cases hg : l[k]? with
    | none => rfl
    | some g => exact gval_congr hI hg fun j hj => ih j hj n m (by omega) (by omega)
theorem worth_at {R : Rg V} {w : Int → V} {l : List Gt} (hI : Inv l) {k : Nat} {g : Gt} (hg : l[k]? = some g) : worth R w l k = gval R w (worth R w l) g := by
  unfold worth
  rw [worthF, hg]
  exact gval_congr hI hg fun j hj => worthF_eq hI j k (j + 1) hj (by omega)
end
/-! ### what a gate is made of is closed -/
theorem marks_keep {l : List Gt} {k j : Nat} {m : Nat → Bool} (h : m j = true) : marks l k m j = true := by
  unfold marks
  cases l[k]? with
  | none => exact h
  | some g =>
    simp only
    have u : ∀ (m : Nat → Bool) x, m j = true → upd m x j = true := fun m x hm => by unfold upd; split <;> simp_all
    split
    · split
      · exact u _ _ (u _ _ h)
      · split
        · exact u _ _ h
        · exact h
    · exact h
theorem down_keep {l : List Gt} : ∀ (n : Nat) {j : Nat} {m : Nat → Bool}, m j = true → down l n m j = true
  | 0, _, _, h => h
  | n + 1, _, _, h => down_keep n (marks_keep h)
theorem down_kids {l : List Gt} (hI : Inv l) : ∀ (n : Nat) {k : Nat} {m : Nat → Bool} {g : Gt}, k < n → l[k]? = some g → down l n m k = true → ((g.k = 4 ∨ g.k = 5) → down l n m g.a.toNat = true ∧ down l n m g.b.toNat = true) ∧ (g.k = 6 → down l n m g.a.toNat = true)
  | 0, _, _, _, h, _, _ => by omega
  | n + 1, k, m, g, h, hg, hd => by
    unfold down at hd ⊢
    by_cases hk : k = n
    · subst hk
      rw [down_ge hI _ (by omega), marks_ge hI m (Nat.le_refl _)] at hd
      have hm : marks l k m = if m k = true then (if g.k = 4 ∨ g.k = 5 then upd (upd m g.b.toNat) g.a.toNat else if g.k = 6 then upd m g.a.toNat else m) else m := by unfold marks; rw [hg]
      rw [if_pos hd] at hm
      refine ⟨fun h4 => ?_, fun h6 => ?_⟩
      · rw [if_pos h4] at hm
        refine ⟨down_keep k ?_, down_keep k ?_⟩
        · rw [hm]; simp [upd]
        · rw [hm]; simp only [upd]; split <;> simp
      · rw [if_neg (by omega), if_pos h6] at hm
        refine down_keep k ?_
        rw [hm]; simp [upd]
    · exact down_kids hI n (by omega) hg hd
theorem reachM_root (l : List Gt) (root : Nat) : reachM l root root = true := down_keep _ (by simp)
theorem reachM_kids {l : List Gt} (hI : Inv l) {root k : Nat} {g : Gt} (hk : k ≤ root) (hg : l[k]? = some g) (h : reachM l root k = true) : ((g.k = 4 ∨ g.k = 5) → reachM l root g.a.toNat = true ∧ reachM l root g.b.toNat = true) ∧ (g.k = 6 → reachM l root g.a.toNat = true) :=
  down_kids hI (root + 1) (by omega) hg h
/-- A gate's worth hangs on the tokens it is made of. -/
theorem worth_congr {V : Type} {R : Rg V} {w w' : Int → V} {l : List Gt} (hI : Inv l) {root : Nat} (h : ∀ k g, k ≤ root → reachM l root k = true → l[k]? = some g → g.k = 3 → w g.a = w' g.a) : ∀ k, k ≤ root → reachM l root k = true → worth R w l k = worth R w' l k := by
  intro k
  induction k using Nat.strongRecOn with
  | _ k ih =>
    intro hk hr
    cases hg : l[k]? with
    | none => unfold worth; rw [worthF, worthF, hg]
    | some g =>
      rw [worth_at hI hg, worth_at hI hg]
      have hc := reachM_kids hI hk hg hr
      unfold gval
      by_cases h2 : g.k = 2
      · rw [if_pos h2, if_pos h2]
      rw [if_neg h2, if_neg h2]
      by_cases h3 : g.k = 3
      · rw [if_pos h3, if_pos h3, h k g hk hr hg h3]
      rw [if_neg h3, if_neg h3]
      by_cases h4 : g.k = 4
      · obtain ⟨a, ha, ha1, _⟩ := wf_nat hI hg (by omega)
        obtain ⟨b, hb, hb1, _⟩ := wf_nat2 hI hg (.inl h4)
        have hh := hc.1 (.inl h4)
        rw [ha, hb, Int.toNat_natCast, Int.toNat_natCast] at hh
        rw [if_pos h4, if_pos h4, ha, hb, Int.toNat_natCast, Int.toNat_natCast, ih a ha1 (by omega) hh.1, ih b hb1 (by omega) hh.2]
      rw [if_neg h4, if_neg h4]
      by_cases h5 : g.k = 5
      · obtain ⟨a, ha, ha1, _⟩ := wf_nat hI hg (by omega)
        obtain ⟨b, hb, hb1, _⟩ := wf_nat2 hI hg (.inr h5)
        have hh := hc.1 (.inr h5)
        rw [ha, hb, Int.toNat_natCast, Int.toNat_natCast] at hh
        rw [if_pos h5, if_pos h5, ha, hb, Int.toNat_natCast, Int.toNat_natCast, ih a ha1 (by omega) hh.1, ih b hb1 (by omega) hh.2]
      rw [if_neg h5, if_neg h5]
      by_cases h6 : g.k = 6
      · obtain ⟨a, ha, ha1, _⟩ := wf_nat hI hg (by omega)
        have hh := hc.2 h6
        rw [ha, Int.toNat_natCast] at hh
        rw [if_pos h6, if_pos h6, ha, Int.toNat_natCast, ih a ha1 (by omega) hh]
      rw [if_neg h6, if_neg h6]
/-! ### Bool -/
def rgB : Rg Bool := ⟨false, true, (· || ·), (· && ·), fun _ => true⟩
theorem worthB_mono {w w' : Int → Bool} {l : List Gt} (hI : Inv l) (h : ∀ t, w t = true → w' t = true) : ∀ k, worth rgB w l k = true → worth rgB w' l k = true := by
  intro k
  induction k using Nat.strongRecOn with
  | _ k ih =>
    cases hg : l[k]? with
    | none => unfold worth; rw [worthF, hg]; exact fun h => by cases h
    | some g =>
      rw [worth_at hI hg, worth_at hI hg]
      unfold gval
      by_cases h2 : g.k = 2
      · rw [if_pos h2, if_pos h2]; exact id
      rw [if_neg h2, if_neg h2]
      by_cases h3 : g.k = 3
      · rw [if_pos h3, if_pos h3]; exact h _
      rw [if_neg h3, if_neg h3]
      by_cases h4 : g.k = 4
      · obtain ⟨a, ha, ha1, _⟩ := wf_nat hI hg (by omega)
        obtain ⟨b, hb, hb1, _⟩ := wf_nat2 hI hg (.inl h4)
        rw [if_pos h4, if_pos h4, ha, hb, Int.toNat_natCast, Int.toNat_natCast]
        simp only [rgB, Bool.or_eq_true]
        exact fun hh => hh.imp (ih a ha1) (ih b hb1)
      rw [if_neg h4, if_neg h4]
      by_cases h5 : g.k = 5
      · obtain ⟨a, ha, ha1, _⟩ := wf_nat hI hg (by omega)
        obtain ⟨b, hb, hb1, _⟩ := wf_nat2 hI hg (.inr h5)
        rw [if_pos h5, if_pos h5, ha, hb, Int.toNat_natCast, Int.toNat_natCast]
        simp only [rgB, Bool.and_eq_true]
        exact fun hh => ⟨ih a ha1 hh.1, ih b hb1 hh.2⟩
      rw [if_neg h5, if_neg h5]
      by_cases h6 : g.k = 6
      · rw [if_pos h6, if_pos h6]; exact fun _ => rfl
      rw [if_neg h6, if_neg h6]; exact id
end Go.Proofs.Ytbnhhmejlglbcaa

namespace Go.Proofs.Ytbnhhmejlglbcaa
open Go.RowKit
set_option linter.unusedSimpArgs false
set_option linter.unusedVariables false

def entI (l : List (Int × Value)) : List MapEntry := l.zipIdx.map fun (p, i) => { key := .int .i64 p.1, val := p.2, born := i }
def findI (k : Int) (l : List (Int × Value)) (i : Nat) : Option (Nat × Value) := match l with
  | [] => none
  | h :: t => if k = h.1 then some (i, h.2) else findI k t (i + 1)
theorem findNow_int (kk : IntKind) (k : Int) : ∀ (l : List (Int × Value)) (i : Nat), Instr.findNow (.int kk) (.int .i64 k) ((l.zipIdx i).map fun (p, i) => { key := .int .i64 p.1, val := p.2, born := i }) i = some (findI k l i)
  | [], i => by simp [Instr.findNow, findI]
  | h :: t, i => by
    have ih := findNow_int kk k t (i + 1)
    simp only [List.zipIdx_cons, List.map_cons, Instr.findNow, findI, Instr.sameNow, if_true]
    by_cases e : k = h.1
    · subst e; simp
    · rw [if_neg e]
      have : (k == h.1) = false := by simpa using e
      rw [this]
      exact ih
theorem findI_none {k : Int} : ∀ (l : List (Int × Value)) (i : Nat), k ∉ l.map Prod.fst → findI k l i = none
  | [], i, _ => rfl
  | h :: t, i, hk => by
    simp only [List.map_cons, List.mem_cons, not_or] at hk
    rw [findI, if_neg hk.1]
    exact findI_none t (i + 1) hk.2
theorem findI_some {k : Int} : ∀ (l : List (Int × Value)) (i : Nat), k ∈ l.map Prod.fst → ∃ p v, findI k l i = some (p, v) ∧ (k, v) ∈ l
  | [], i, h => by simp at h
  | h :: t, i, hk => by
    rw [findI]
    by_cases e : k = h.1
    · rw [if_pos e]; exact ⟨i, h.2, rfl, by subst e; simp⟩
    · rw [if_neg e]
      simp only [List.map_cons, List.mem_cons] at hk
      rcases hk with hk | hk
      · exact absurd hk e
      · obtain ⟨p, v, h1, h2⟩ := findI_some t (i + 1) hk
        exact ⟨p, v, h1, by simp [h2]⟩
theorem checkKey_int (e : Bool) (n : Nat) (k : Int) (w : World) : (Instr.checkKey e (n + 1) 3 (.int .i64 k)).run Try.prog w = .ok () w := by simp [Instr.checkKey, go_sem]
theorem lookup_int (w : World) (mb : Nat) (l : List (Int × Value)) (clock : Nat) (k : Int) (p : Nat) (v : Value) (h : MBlk w mb (entI l).toArray clock) (hf : findI k l 0 = some (p, v)) :
    (Instr.lookup 68 (.map (some mb)) (.int .i64 k) false).run Try.prog w = .ok v w := by
  have h2 := findNow_int .i64 k l 0
  rw [hf] at h2
  have hg : (getObj mb).run Try.prog w = .ok (.map (entI l).toArray clock) w := by unfold MBlk at h; simp [getObj, Sem.run, h]
  have hc : ∀ e, (Instr.checkKey e 10000 3 (.int .i64 k)).run Try.prog w = .ok () w := fun e => checkKey_int e 9999 k w
  have hk : (Instr.findKey 3 (.int .i64 k) (entI l)).run Try.prog w = .ok (some (p, v)) w := by
    simp only [Instr.findKey, entI, go_sem]
    simp [h2, go_sem]
  simp [Instr.lookup, go_sem, hg, hc, hk]
theorem update_int (w : World) (mb : Nat) (l : List (Int × Value)) (k : Int) (v : Value) (h : MBlk w mb (entI l).toArray l.length) (hf : findI k l 0 = none) :
    (Instr.mapUpdate 68 (.map (some mb)) (.int .i64 k) v).run Try.prog w = .ok () (setMap w mb (entI (l ++ [(k, v)])).toArray (l.length + 1)) := by
  have h2 := findNow_int .i64 k l 0
  rw [hf] at h2
  have hg : (getObj mb).run Try.prog w = .ok (.map (entI l).toArray l.length) w := by unfold MBlk at h; simp [getObj, Sem.run, h]
  have hc : ∀ e, (Instr.checkKey e 10000 3 (.int .i64 k)).run Try.prog w = .ok () w := fun e => checkKey_int e 9999 k w
  have hk : (Instr.findKey 3 (.int .i64 k) (entI l)).run Try.prog w = .ok none w := by
    simp only [Instr.findKey, entI, go_sem]
    simp [h2, go_sem]
  have hs : ∀ o, (setObj mb o).run Try.prog w = .ok () { w with heap := w.heap.setIfInBounds mb o } := by intro o; unfold MBlk at h; simp [setObj, Sem.run, h]
  have he : (entI l).toArray.push { key := .int .i64 k, val := v, born := l.length } = (entI (l ++ [(k, v)])).toArray := by simp [entI, List.zipIdx_append]
  simp [Instr.mapUpdate, go_sem, hg, hc, hk, hs, ← he, setMap]

/-! ### what a semiring's functions keep to -/
/-- Rows of digits are as they were. -/
def KeepD (w w' : World) : Prop := ∀ (k : Nat) (cs : Array Value) (c : Nat × Nat), w.heap[k]? = some (Obj.cells cs 77 c) → w'.heap[k]? = w.heap[k]?
theorem KeepD.of0 {w w' : World} (f : Frame [] w w') : KeepD w w' := fun k cs c h => f.block k (by
  rcases Nat.lt_or_ge k w.heap.size with h1 | h1
  · exact h1
  · rw [Array.getElem?_eq_none h1] at h; cases h) (by simp)
theorem KeepD.map {w w' : World} {mb : Nat} {es : Array MapEntry} {c : Nat} (f : Frame [mb] w w') (hm : MBlk w mb es c) : KeepD w w' := fun k cs c h => f.block k (by
  rcases Nat.lt_or_ge k w.heap.size with h1 | h1
  · exact h1
  · rw [Array.getElem?_eq_none h1] at h; cases h) (by
  simp only [List.mem_singleton]
  rintro rfl
  unfold MBlk at hm
  rw [hm] at h; cases h)
theorem KeepD.blk {w w' : World} {b T : Nat} {cs : Array Value} (f : Frame [b] w w') (hb : Blk w b T cs) (hT : T ≠ 77) : KeepD w w' := fun k cs c h => f.block k (by
  rcases Nat.lt_or_ge k w.heap.size with h1 | h1
  · exact h1
  · rw [Array.getElem?_eq_none h1] at h; cases h) (by
  simp only [List.mem_singleton]
  rintro rfl
  unfold Blk at hb
  rw [hb] at h
  simp only [Option.some.injEq, Obj.cells.injEq] at h
  exact hT h.2.1)
theorem KeepD.trans {a b c : World} (h : KeepD a b) (k : KeepD b c) : KeepD a c := fun i cs x hc => by
  have h1 := h i cs x hc
  exact (k i cs x (h1.trans hc)).trans h1
/-- What is known of a value hangs on rows of digits alone. -/
def Kept {V : Type} (Is : World → Value → V → Prop) : Prop := ∀ w w' v x, Is w v x → KeepD w w' → Is w' v x
/-- One result, a value, and no error. -/
def VEnd {V : Type} (Is : World → Value → V → Prop) (x : V) (w : World) (e : Ending) (w' : World) : Prop := ∃ v, e = .returned (.tuple #[v, .int .i64 0]) ∧ Is w' v x ∧ Frame [] w w'
/-- A semiring's functions, at the values for which Pl, Tm, Sr hold. -/
structure SemOk {V : Type} (n : Int) (R : Rg V) (Is : World → Value → V → Prop) (Pl Tm : V → V → Prop) (Sr : V → Prop) : Prop where
  form : ∀ {w v x}, Is w v x → ∃ inf sa sl sc lv fl, v = .agg #[.int .i64 n, .bool inf, .slice sa sl sc, .int .i64 lv, .float .f64 fl]
  keep : Kept Is
  zero : ∀ w, Calls Try.prog 24 #[.int .i64 n] w fun e w' => VEnd Is R.z w e w'
  one : ∀ w, Calls Try.prog 42 #[.int .i64 n] w fun e w' => VEnd Is R.o w e w'
  plus : ∀ w u v x y, Is w u x → Is w v y → Pl x y → Calls Try.prog 45 #[u, v] w fun e w' => VEnd Is (R.p x y) w e w'
  times : ∀ w u v x y, Is w u x → Is w v y → Tm x y → Calls Try.prog 46 #[u, v] w fun e w' => VEnd Is (R.t x y) w e w'
  star : ∀ w u x, Is w u x → Sr x → Calls Try.prog 47 #[u] w fun e w' => VEnd Is (R.s x) w e w'
/-- A gate's functions may be asked. -/
def FitG {V : Type} (Pl Tm : V → V → Prop) (Sr : V → Prop) (vs : Nat → V) (g : Gt) : Prop :=
  (g.k = 4 → Pl (vs g.a.toNat) (vs g.b.toNat)) ∧ (g.k = 5 → Tm (vs g.a.toNat) (vs g.b.toNat)) ∧ (g.k = 6 → Sr (vs g.a.toNat))
/-- A map of gates' values. -/
def GMap {V : Type} (Is : World → Value → V → Prop) (vs : Nat → V) (w : World) (mb : Nat) (ks : List Nat) : Prop :=
  ∃ es : List (Int × Value), MBlk w mb (entI es).toArray es.length ∧ es.map Prod.fst = ks.map (fun j : Nat => (j : Int)) ∧ ∀ k v, (k, v) ∈ es → ∃ j : Nat, k = j ∧ Is w v (vs j)
theorem GMap.new {V : Type} (Is : World → Value → V → Prop) (vs : Nat → V) (w : World) : GMap Is vs (w.alloc (.map #[] 0)) w.heap.size [] :=
  ⟨[], MBlk.new _ _ _, rfl, by simp⟩
theorem GMap.lt {V : Type} {Is : World → Value → V → Prop} {vs : Nat → V} {w : World} {mb : Nat} {ks : List Nat} (h : GMap Is vs w mb ks) : mb < w.heap.size := by
  obtain ⟨es, h1, _⟩ := h; exact h1.lt
theorem GMap.frame0 {V : Type} {Is : World → Value → V → Prop} {vs : Nat → V} {w w' : World} {mb : Nat} {ks : List Nat} (h : GMap Is vs w mb ks) (kp : Kept Is) (f : Frame [] w w') : GMap Is vs w' mb ks := by
  obtain ⟨es, h1, h2, h3⟩ := h
  exact ⟨es, h1.frame f (by simp), h2, fun k v hm => let ⟨j, a, b⟩ := h3 k v hm; ⟨j, a, kp _ _ _ _ b (KeepD.of0 f)⟩⟩
theorem GMap.look {V : Type} {Is : World → Value → V → Prop} {vs : Nat → V} {w : World} {mb : Nat} {ks : List Nat} (h : GMap Is vs w mb ks) {j : Nat} (hj : j ∈ ks) : ∃ v, Is w v (vs j) ∧ ∀ w', Frame [] w w' → (Instr.lookup 68 (.map (some mb)) (.int .i64 j) false).run Try.prog w' = .ok v w' := by
  obtain ⟨es, h1, h2, h3⟩ := h
  obtain ⟨p, v, a, b⟩ := findI_some (k := (j : Int)) es 0 (by rw [h2]; exact List.mem_map_of_mem hj)
  obtain ⟨j', e, c⟩ := h3 _ _ b
  have : j' = j := by omega
  subst this
  exact ⟨v, c, fun w' f => lookup_int w' mb es _ _ p v (h1.frame f (by simp)) a⟩
theorem GMap.put {V : Type} {Is : World → Value → V → Prop} {vs : Nat → V} {w : World} {mb : Nat} {ks : List Nat} (h : GMap Is vs w mb ks) (kp : Kept Is) {k : Nat} (hk : k ∉ ks) {v : Value} (hv : Is w v (vs k)) :
    ∃ w', (Instr.mapUpdate 68 (.map (some mb)) (.int .i64 k) v).run Try.prog w = .ok () w' ∧ GMap Is vs w' mb (ks ++ [k]) ∧ Frame [mb] w w' := by
  obtain ⟨es, h1, h2, h3⟩ := h
  have f : Frame [mb] w (setMap w mb (entI (es ++ [((k : Int), v)])).toArray (es.length + 1)) := Frame.setMap _ _ _ _ (by simp)
  have kd := KeepD.map f h1
  refine ⟨_, update_int w mb es k v h1 (findI_none es 0 ?_), ⟨es ++ [((k : Int), v)], by simpa using h1.set (entI (es ++ [((k : Int), v)])).toArray (es.length + 1), by simp [h2], ?_⟩, f⟩
  · rw [h2]
    intro hm
    obtain ⟨j, hj, e⟩ := List.mem_map.mp hm
    have : j = k := by omega
    exact hk (this ▸ hj)
  · intro k' v' hm
    rw [List.mem_append] at hm
    rcases hm with hm | hm
    · obtain ⟨j, a, b⟩ := h3 k' v' hm
      exact ⟨j, a, kp _ _ _ _ b kd⟩
    · simp at hm
      obtain ⟨rfl, rfl⟩ := hm
      exact ⟨k, rfl, kp _ _ _ _ hv kd⟩
end Go.Proofs.Ytbnhhmejlglbcaa

