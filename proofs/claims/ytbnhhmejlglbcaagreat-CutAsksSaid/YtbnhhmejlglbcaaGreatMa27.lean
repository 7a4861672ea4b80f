/- A graph's records, as they lie in memory. slices.Compact of a row in order: each element once, in order. Sets as rising lists; families of least sets: the laws on lists. -/
import Derived.Test.YtbnhhmejlglbcaaGreatMa09
import Derived.Test.YtbnhhmejlglbcaaGreatMa02
import Derived.Test.YtbnhhmejlglbcaaGreatMa01
import Derived.Lib.SlicesCompact
namespace Go.Proofs.YtbnhhmejlglbcaaGreat
open Go.RowKit
set_option linter.unusedSimpArgs false
set_option linter.unusedVariables false

/-- An edge. -/
structure Ed where
  tok : Int
  src : Int
  lab : ByteArray
  dst : Int
  deriving DecidableEq
def Ed.cs (e : Ed) : List Value := [.int .i64 e.tok, .int .i64 e.src, .string e.lab, .int .i64 e.dst]
theorem ed_len (e : Ed) : e.cs.length = 4 := rfl
theorem ed_one (e : Ed) : ∀ u ∈ e.cs, u.oneCell' = true := by simp [Ed.cs, Value.oneCell']
/-- A node, its two slices by their headers. -/
structure Nd where
  id : Int
  la : Option Addr
  ln : Nat
  lc : Nat
  pa : Option Addr
  pn : Nat
  pc : Nat
def Nd.cs (n : Nd) : List Value := [.int .i64 n.id, .slice n.la n.ln n.lc, .slice n.pa n.pn n.pc]
theorem nd_len (n : Nd) : n.cs.length = 3 := rfl
theorem nd_one (n : Nd) : ∀ u ∈ n.cs, u.oneCell' = true := by simp [Nd.cs, Value.oneCell']
/-- How many stand ahead of t; is t there? -/
def rank (ks : List Int) (t : Int) : Nat := ks.countP (fun k => decide (k < t))
def Up (ks : List Int) : Prop := ks.Pairwise (· < ·)

theorem rank_le (ks : List Int) (t : Int) : rank ks t ≤ ks.length := List.countP_le_length
theorem rank_of {ks : List Int} {t : Int} : ∀ {r : Nat}, r ≤ ks.length → (∀ i (h : i < ks.length), i < r → ks[i] < t) → (∀ i (h : i < ks.length), r ≤ i → t ≤ ks[i]) → rank ks t = r := by
  unfold rank
  induction ks with
  | nil => intro r hr _ _; simp at hr; simp [hr]
  | cons a l ih =>
    intro r hr h1 h2
    cases r with
    | zero =>
      rw [List.countP_eq_zero]
      intro x hx
      obtain ⟨i, hi, rfl⟩ := List.getElem_of_mem hx
      have := h2 i hi (Nat.zero_le _)
      simp; omega
    | succ r =>
      have ha : a < t := h1 0 (by simp) (by omega)
      rw [List.countP_cons_of_pos (by simpa using ha)]
      rw [ih (r := r) (by simpa using hr) (fun i h hi => h1 (i + 1) (by simpa using h) (by omega)) (fun i h hi => h2 (i + 1) (by simpa using h) (by omega))]
theorem rank_mem {ks : List Int} {t : Int} {r : Nat} (hr : r ≤ ks.length) (h1 : ∀ i (h : i < ks.length), i < r → ks[i] < t) (hu : Up ks) (h2 : ∀ i (h : i < ks.length), r ≤ i → t ≤ ks[i]) : decide (t ∈ ks) = decide (ks[r]? = some t) := by
  rw [decide_eq_decide]
  constructor
  · intro hm
    obtain ⟨i, hi, he⟩ := List.getElem_of_mem hm
    have hri : r ≤ i := by
      refine Nat.le_of_not_lt fun h => ?_
      have := h1 i hi h; omega
    rcases Nat.lt_or_ge r i with h | h
    · have a1 := (List.pairwise_iff_getElem.1 hu) r i (by omega) hi h
      have a2 := h2 r (by omega) (Nat.le_refl _)
      omega
    · obtain rfl : r = i := by omega
      rw [List.getElem?_eq_getElem hi, he]
  · intro h
    exact List.mem_of_getElem? h

/-- cmp.Compare at ints. -/
def cmpI (a b : Int) : Int := if a < b then -1 else if a > b then 1 else 0
theorem cmpI_neg (a b : Int) : cmpI a b < 0 ↔ a < b := by unfold cmpI; split <;> (try split) <;> omega
theorem cmpI_zero (a b : Int) : cmpI a b = 0 ↔ a = b := by unfold cmpI; split <;> (try split) <;> omega

theorem cmp_int (a b : Int) (w : World) : Calls Tryz.prog 199 #[.int .i64 a, .int .i64 b] w fun e w' => e = .returned (.int .i64 (cmpI a b)) ∧ w' = w := by
  rcases (by omega : a < b ∨ b < a ∨ a = b) with h | h | h
  · have e : cmpI a b = -1 := by simp [cmpI, h]
    rw [e]
    clear e
    go_enter Tryz.func199, Tryz.ntmps199
    go_wp2
    go_ret
    exact ⟨rfl, rfl⟩
  · have e : cmpI a b = 1 := by unfold cmpI; rw [if_neg (by omega), if_pos (by omega)]
    rw [e]
    clear e
    have h2 : ¬ a < b := by omega
    go_enter Tryz.func199, Tryz.ntmps199
    go_wp2
    go_ret
    exact ⟨rfl, rfl⟩
  · subst h
    have e : cmpI a a = 0 := by simp [cmpI]
    rw [e]
    clear e
    go_enter Tryz.func199, Tryz.ntmps199
    go_wp2
    go_ret
    exact ⟨rfl, rfl⟩

end Go.Proofs.YtbnhhmejlglbcaaGreat

namespace Go.Proofs.YtbnhhmejlglbcaaGreat
open Go.RowKit
set_option linter.unusedSimpArgs false
set_option linter.unusedVariables false

section
variable {α : Type} [Inhabited α] [DecidableEq α]
theorem compactUpTo_mem (d : Array α) (m : Nat) (x : α) : x ∈ Lib.compactUpTo d m ↔ ∃ i, i < m ∧ d[i]! = x := by
  constructor
  · intro h
    unfold Lib.compactUpTo at h
    obtain ⟨i, hi, rfl⟩ := List.mem_map.1 h
    exact ⟨i, List.mem_range.1 (List.mem_filter.1 hi).1, rfl⟩
  · rintro ⟨i, hi, rfl⟩
    unfold Lib.compactUpTo
    induction i with
    | zero => exact List.mem_map.2 ⟨0, List.mem_filter.2 ⟨List.mem_range.2 hi, by simp [Lib.keeps]⟩, rfl⟩
    | succ i ih =>
      by_cases h : d[i + 1]! = d[i]!
      · rw [h]; exact ih (by omega)
      · exact List.mem_map.2 ⟨i + 1, List.mem_filter.2 ⟨List.mem_range.2 hi, by simp [Lib.keeps, h]⟩, rfl⟩
theorem compactUpTo_up {R : α → α → Prop} (anti : ∀ a b, R a b → R b a → a = b) (refl : ∀ a, R a a) (d : Array α) (m : Nat) (hs : ∀ i j, i ≤ j → j < m → R d[i]! d[j]!) : (Lib.compactUpTo d m).Pairwise (fun a b => R a b ∧ a ≠ b) := by
  unfold Lib.compactUpTo
  rw [List.pairwise_map]
  have h1 : ((List.range m).filter (Lib.keeps d)).Pairwise (fun i j => i < j ∧ j < m ∧ Lib.keeps d j = true) := by
    refine List.Pairwise.imp_of_mem (R := (· < ·)) (fun {i j} hi hj h => ⟨h, List.mem_range.1 (List.mem_filter.1 hj).1, (List.mem_filter.1 hj).2⟩) ?_
    exact List.Pairwise.filter _ List.pairwise_lt_range
  refine h1.imp fun {i j} ⟨h2, h3, h4⟩ => ⟨hs i j (by omega) h3, fun e => ?_⟩
  have h5 : d[j]! ≠ d[j - 1]! := by
    rcases of_decide_eq_true h4 with h | h
    · omega
    · exact h
  refine h5 (anti _ _ ?_ (hs (j - 1) j (by omega) h3))
  rw [← e]
  exact hs i (j - 1) (by omega) (by omega)
theorem compact_mem (zs : List α) (x : α) : x ∈ Lib.compact zs ↔ x ∈ zs := by
  unfold Lib.compact
  rw [compactUpTo_mem]
  constructor
  · rintro ⟨i, hi, rfl⟩
    simp [hi]
  · intro h
    obtain ⟨i, hi, rfl⟩ := List.getElem_of_mem h
    exact ⟨i, hi, by simp [hi]⟩
theorem compact_up {R : α → α → Prop} (anti : ∀ a b, R a b → R b a → a = b) (refl : ∀ a, R a a) {zs : List α} (hs : zs.Pairwise R) : (Lib.compact zs).Pairwise (fun a b => R a b ∧ a ≠ b) := by
  unfold Lib.compact
  refine compactUpTo_up anti refl _ _ fun i j h1 h2 => ?_
  rcases Nat.eq_or_lt_of_le h1 with rfl | h1
  · exact refl _
  · have := List.pairwise_iff_getElem.1 hs i j (by omega) h2 h1
    simpa [h2, show i < zs.length by omega] using this
omit [Inhabited α] [DecidableEq α] in
/-- Two rising lists of the same elements are one. -/
theorem up_ext {S : α → α → Prop} (irr : ∀ a, ¬ S a a) (asy : ∀ a b, S a b → S b a → False) {xs ys : List α} (hx : xs.Pairwise S) (hy : ys.Pairwise S) (h : ∀ x, x ∈ xs ↔ x ∈ ys) : xs = ys := by
  induction xs generalizing ys with
  | nil =>
    cases ys with
    | nil => rfl
    | cons y t => exact absurd ((h y).2 (by simp)) (by simp)
  | cons x s ih =>
    cases ys with
    | nil => exact absurd ((h x).1 (by simp)) (by simp)
    | cons y t =>
      obtain ⟨hx1, hx2⟩ := List.pairwise_cons.1 hx
      obtain ⟨hy1, hy2⟩ := List.pairwise_cons.1 hy
      have e : x = y := by
        rcases List.mem_cons.1 ((h x).1 (by simp)) with e | h1
        · exact e
        · rcases List.mem_cons.1 ((h y).2 (by simp)) with e | h2
          · exact e.symm
          · exact (asy _ _ (hy1 x h1) (hx1 y h2)).elim
      subst e
      rw [ih hx2 hy2 fun z => ?_]
      constructor
      · intro hz
        rcases List.mem_cons.1 ((h z).1 (by simp [hz])) with e | h1
        · subst e; exact absurd (hx1 z hz) (irr z)
        · exact h1
      · intro hz
        rcases List.mem_cons.1 ((h z).2 (by simp [hz])) with e | h1
        · subst e; exact absurd (hy1 z hz) (irr z)
        · exact h1
end
end Go.Proofs.YtbnhhmejlglbcaaGreat

namespace Go.Proofs.YtbnhhmejlglbcaaGreat
open Go.RowKit
set_option linter.unusedSimpArgs false
set_option linter.unusedVariables false

/-! ### numbers, each once, rising -/
def insI (out : List Int) (x : Int) : List Int := if x ∈ out then out else out.take (rank out x) ++ x :: out.drop (rank out x)
def srtI (l : List Int) : List Int := l.foldl insI []
theorem up_cons {x : Int} {l : List Int} : Up (x :: l) ↔ (∀ y ∈ l, x < y) ∧ Up l := List.pairwise_cons
theorem insI_mem (out : List Int) (x y : Int) : y ∈ insI out x ↔ y = x ∨ y ∈ out := by
  unfold insI
  by_cases h : x ∈ out
  · rw [if_pos h]
    exact ⟨.inr, fun h => by rcases h with rfl | h <;> assumption⟩
  · rw [if_neg h]
    constructor
    · intro h1
      simp only [List.mem_append, List.mem_cons] at h1
      rcases h1 with h1 | h1 | h1
      · exact .inr (List.mem_of_mem_take h1)
      · exact .inl h1
      · exact .inr (List.mem_of_mem_drop h1)
    · rintro (rfl | h1)
      · simp
      · rw [← List.take_append_drop (rank out x) out] at h1
        rcases List.mem_append.1 h1 with h1 | h1 <;> simp [h1]
theorem rank_split {ks : List Int} (hu : Up ks) (t : Int) : (∀ y ∈ ks.take (rank ks t), y < t) ∧ (∀ y ∈ ks.drop (rank ks t), t ≤ y) := by
  induction ks with
  | nil => simp
  | cons x s ih =>
    obtain ⟨h1, h2⟩ := up_cons.1 hu
    by_cases h : x < t
    · have e : rank (x :: s) t = rank s t + 1 := by simp [rank, h]
      rw [e]
      obtain ⟨i1, i2⟩ := ih h2
      refine ⟨fun y hy => ?_, fun y hy => i2 y (by simpa using hy)⟩
      simp at hy
      rcases hy with rfl | hy
      · exact h
      · exact i1 y hy
    · have e : rank (x :: s) t = 0 := by
        unfold rank
        rw [List.countP_eq_zero]
        intro y hy
        rcases List.mem_cons.1 hy with rfl | hy
        · simpa using h
        · have := h1 y hy; simp; omega
      rw [e]
      refine ⟨by simp, fun y hy => ?_⟩
      simp at hy
      rcases hy with rfl | hy
      · omega
      · have := h1 y hy; omega
theorem insI_up {out : List Int} {x : Int} (h : Up out) : Up (insI out x) := by
  unfold insI
  split
  · exact h
  · rename_i hm
    obtain ⟨h1, h2⟩ := rank_split h x
    have h3 : ∀ y ∈ out.drop (rank out x), x < y := fun y hy => by
      have := h2 y hy
      have : y ≠ x := fun e => hm (e ▸ List.mem_of_mem_drop hy)
      omega
    have hu := h
    unfold Up at *
    rw [← List.take_append_drop (rank out x) out, List.pairwise_append] at hu
    rw [List.pairwise_append]
    refine ⟨hu.1, List.pairwise_cons.2 ⟨h3, hu.2.1⟩, fun a ha b hb => ?_⟩
    rcases List.mem_cons.1 hb with rfl | hb
    · exact h1 a ha
    · exact hu.2.2 a ha b hb
theorem srtI_up (l : List Int) : Up (srtI l) := by
  have : ∀ (l acc : List Int), Up acc → Up (l.foldl insI acc) := by
    intro l
    induction l with
    | nil => intro acc h; exact h
    | cons x t ih => intro acc h; exact ih _ (insI_up h)
  exact this l [] (by simp [Up])
theorem srtI_mem (l : List Int) (y : Int) : y ∈ srtI l ↔ y ∈ l := by
  suffices h : ∀ (l out : List Int), y ∈ l.foldl insI out ↔ y ∈ l ∨ y ∈ out by
    have := h l []
    simpa [srtI] using this
  intro l
  induction l with
  | nil => simp
  | cons x t ih =>
    intro out
    rw [List.foldl_cons, ih, insI_mem]
    simp only [List.mem_cons]
    constructor
    · rintro (h | h | h)
      · exact .inl (.inr h)
      · exact .inl (.inl h)
      · exact .inr h
    · rintro ((h | h) | h)
      · exact .inr (.inl h)
      · exact .inl h
      · exact .inr (.inr h)
theorem up_eq {a b : List Int} (ha : Up a) (hb : Up b) (h : ∀ x, x ∈ a ↔ x ∈ b) : a = b :=
  up_ext (S := fun x y : Int => x < y) (fun a h => by omega) (fun a b h1 h2 => by omega) ha hb h
theorem srtI_fix {a : List Int} (ha : Up a) : srtI a = a := up_eq (srtI_up a) ha (srtI_mem a)
theorem srtI_compact (l : List Int) : Lib.compact (l.mergeSort fun x y => decide (x ≤ y)) = srtI l := by
  have hp : (l.mergeSort fun x y => decide (x ≤ y)).Pairwise (fun a b => a ≤ b) := by
    have := List.pairwise_mergeSort (le := fun (x y : Int) => decide (x ≤ y)) (fun a b c h1 h2 => by simp at *; omega) (fun a b => by simp; omega) l
    exact this.imp fun h => by simpa using h
  refine up_eq ?_ (srtI_up l) fun x => ?_
  · exact (compact_up (R := fun (a b : Int) => a ≤ b) (fun a b h1 h2 => by omega) (fun a => by omega) hp).imp fun {a b} ⟨h1, h2⟩ => by omega
  · rw [srtI_mem, compact_mem, List.mem_mergeSort]
/-! ### parts -/
def Sub (a b : List Int) : Prop := ∀ n ∈ a, n ∈ b
def subB (a b : List Int) : Bool := a.all fun n => decide (n ∈ b)
theorem subB_iff {a b : List Int} : subB a b = true ↔ Sub a b := by simp [subB, Sub]
theorem subB_false {a b : List Int} : subB a b = false ↔ ¬ Sub a b := by
  rw [← subB_iff]; simp
theorem Sub.refl (a : List Int) : Sub a a := fun _ h => h
theorem Sub.trans {a b c : List Int} (h : Sub a b) (k : Sub b c) : Sub a c := fun n hn => k n (h n hn)
theorem Sub.srt {a b : List Int} : Sub a (srtI b) ↔ Sub a b := ⟨fun h n hn => (srtI_mem _ _).1 (h n hn), fun h n hn => (srtI_mem _ _).2 (h n hn)⟩
theorem Sub.srt' {a b : List Int} : Sub (srtI a) b ↔ Sub a b := ⟨fun h n hn => h n ((srtI_mem _ _).2 hn), fun h n hn => h n ((srtI_mem _ _).1 hn)⟩
theorem Sub.sublist {a b : List Int} (ha : Up a) (hb : Up b) (h : Sub a b) : a.Sublist b := by
  induction b generalizing a with
  | nil =>
    cases a with
    | nil => exact List.Sublist.refl _
    | cons x s => exact absurd (h x (by simp)) (by simp)
  | cons y t ih =>
    obtain ⟨hb1, hb2⟩ := up_cons.1 hb
    cases a with
    | nil => exact List.nil_sublist _
    | cons x s =>
      obtain ⟨ha1, ha2⟩ := up_cons.1 ha
      by_cases e : x = y
      · subst e
        refine List.Sublist.cons_cons _ (ih ha2 hb2 fun n hn => ?_)
        rcases List.mem_cons.1 (h n (by simp [hn])) with e | h1
        · subst e; have := ha1 n hn; omega
        · exact h1
      · refine List.Sublist.cons _ (ih ha hb2 fun n hn => ?_)
        have hx : x ∈ t := by
          rcases List.mem_cons.1 (h x (by simp)) with e' | h1
          · exact absurd e' e
          · exact h1
        have hyx := hb1 x hx
        rcases List.mem_cons.1 (h n hn) with e' | h1
        · subst e'
          rcases List.mem_cons.1 hn with e2 | h2
          · exact absurd e2.symm e
          · have := ha1 n h2; omega
        · exact h1
theorem Sub.len {a b : List Int} (ha : Up a) (hb : Up b) (h : Sub a b) : a.length ≤ b.length := (h.sublist ha hb).length_le
theorem Sub.eq_of_len {a b : List Int} (ha : Up a) (hb : Up b) (h : Sub a b) (hl : b.length ≤ a.length) : a = b := (h.sublist ha hb).eq_of_length_le hl
/-! ### the order of sets -/
def cmpL : List Int → List Int → Int
  | [], [] => 0
  | [], _ :: _ => -1
  | _ :: _, [] => 1
  | a :: s, b :: t => if a < b then -1 else if b < a then 1 else cmpL s t
def cfO (a b : List Int) : Int := if a.length < b.length then -1 else if b.length < a.length then 1 else cmpL a b
theorem cmpL_zero : ∀ {a b : List Int}, cmpL a b = 0 ↔ a = b
  | [], [] => by simp [cmpL]
  | [], _ :: _ => by simp [cmpL]
  | _ :: _, [] => by simp [cmpL]
  | a :: s, b :: t => by
    unfold cmpL
    by_cases h1 : a < b
    · simp [h1]; intro e; omega
    · by_cases h2 : b < a
      · simp [h1, h2]; intro e; omega
      · have e : a = b := by omega
        subst e
        simp [cmpL_zero]
theorem cmpL_asym : ∀ {a b : List Int}, cmpL a b < 0 ↔ 0 < cmpL b a
  | [], [] => by simp [cmpL]
  | [], _ :: _ => by simp [cmpL]
  | _ :: _, [] => by simp [cmpL]
  | a :: s, b :: t => by
    unfold cmpL
    by_cases h1 : a < b
    · have h2 : ¬ b < a := by omega
      simp [h1, h2]
    · by_cases h2 : b < a
      · simp [h1, h2]
      · simp [h1, h2]; exact cmpL_asym
theorem cmpL_trans : ∀ {a b c : List Int}, cmpL a b < 0 → cmpL b c < 0 → cmpL a c < 0
  | [], [], c => by simp [cmpL]
  | [], _ :: _, [] => by simp [cmpL]
  | [], _ :: _, _ :: _ => by simp [cmpL]
  | _ :: _, [], c => by simp [cmpL]
  | _ :: _, _ :: _, [] => by simp [cmpL]
  | a :: s, b :: t, c :: u => by
    unfold cmpL
    intro h k
    by_cases h1 : a < b
    · by_cases k1 : b < c
      · have : a < c := by omega
        simp [this]
      · by_cases k2 : c < b
        · simp [k1, k2] at k
        · have : a < c := by omega
          simp [this]
    · by_cases h2 : b < a
      · simp [h1, h2] at h
      · simp [h1, h2] at h
        by_cases k1 : b < c
        · have : a < c := by omega
          simp [this]
        · by_cases k2 : c < b
          · simp [k1, k2] at k
          · simp [k1, k2] at k
            have e1 : ¬ a < c := by omega
            have e2 : ¬ c < a := by omega
            simp [e1, e2]
            exact cmpL_trans h k
def LtO (a b : List Int) : Prop := cfO a b < 0
instance (a b : List Int) : Decidable (LtO a b) := by unfold LtO; infer_instance
theorem cfO_zero {a b : List Int} : cfO a b = 0 ↔ a = b := by
  unfold cfO
  by_cases h1 : a.length < b.length
  · rw [if_pos h1]; simp; intro e; subst e; omega
  · by_cases h2 : b.length < a.length
    · rw [if_neg h1, if_pos h2]; simp; intro e; subst e; omega
    · rw [if_neg h1, if_neg h2]; exact cmpL_zero
theorem cfO_asym {a b : List Int} : cfO a b < 0 ↔ 0 < cfO b a := by
  unfold cfO
  by_cases h1 : a.length < b.length
  · have h2 : ¬ b.length < a.length := by omega
    rw [if_pos h1, if_neg h2, if_pos h1]; simp
  · by_cases h2 : b.length < a.length
    · rw [if_neg h1, if_pos h2, if_pos h2]; simp
    · rw [if_neg h1, if_neg h2, if_neg h2, if_neg h1]; exact cmpL_asym
theorem LtO.irrefl (a : List Int) : ¬ LtO a a := by unfold LtO; rw [cfO_zero.2 rfl]; omega
theorem LtO.trans {a b c : List Int} (h : LtO a b) (k : LtO b c) : LtO a c := by
  unfold LtO cfO at *
  by_cases h1 : a.length < b.length
  · by_cases k1 : b.length < c.length
    · rw [if_pos (by omega)]; omega
    · by_cases k2 : c.length < b.length
      · rw [if_neg k1, if_pos k2] at k; omega
      · rw [if_pos (by omega)]; omega
  · by_cases h2 : b.length < a.length
    · rw [if_neg h1, if_pos h2] at h; omega
    · rw [if_neg h1, if_neg h2] at h
      by_cases k1 : b.length < c.length
      · rw [if_pos (by omega)]; omega
      · by_cases k2 : c.length < b.length
        · rw [if_neg k1, if_pos k2] at k; omega
        · rw [if_neg k1, if_neg k2] at k
          rw [if_neg (by omega), if_neg (by omega)]
          exact cmpL_trans h k
theorem LtO.asym {a b : List Int} (h : LtO a b) : ¬ LtO b a := fun k => LtO.irrefl a (h.trans k)
theorem LtO.total (a b : List Int) : LtO a b ∨ a = b ∨ LtO b a := by
  have h1 := @cfO_zero a b
  have h2 := @cfO_asym b a
  unfold LtO
  rcases (by omega : cfO a b < 0 ∨ cfO a b = 0 ∨ 0 < cfO a b) with h | h | h
  · exact .inl h
  · exact .inr (.inl (h1.1 h))
  · exact .inr (.inr (h2.2 h))
theorem LtO.of_len {a b : List Int} (h : a.length < b.length) : LtO a b := by unfold LtO cfO; rw [if_pos h]; omega
theorem LtO.len {a b : List Int} (h : LtO a b) : a.length ≤ b.length := by
  unfold LtO cfO at h
  by_cases h1 : a.length < b.length
  · omega
  · by_cases h2 : b.length < a.length
    · rw [if_neg h1, if_pos h2] at h; omega
    · omega
theorem ltO_ext {xs ys : List (List Int)} (hx : xs.Pairwise LtO) (hy : ys.Pairwise LtO) (h : ∀ x, x ∈ xs ↔ x ∈ ys) : xs = ys :=
  up_ext LtO.irrefl (fun a b h k => LtO.asym h k) hx hy h
/-! ### least sets -/
def Ups (l : List (List Int)) : Prop := ∀ s ∈ l, Up s
def IsMin (l : List (List Int)) (s : List Int) : Prop := s ∈ l ∧ ∀ t ∈ l, Sub t s → t = s
/-- f is the family of the least ones of l, in order. -/
def Fam (l f : List (List Int)) : Prop := f.Pairwise LtO ∧ ∀ s, s ∈ f ↔ IsMin l s
theorem Fam.ext {l f g : List (List Int)} (hf : Fam l f) (hg : Fam l g) : f = g := ltO_ext hf.1 hg.1 fun s => (hf.2 s).trans (hg.2 s).symm
theorem IsMin.congr {l m : List (List Int)} (h : ∀ s, s ∈ l ↔ s ∈ m) (s : List Int) : IsMin l s ↔ IsMin m s := by
  unfold IsMin
  rw [h s]
  exact ⟨fun ⟨a, b⟩ => ⟨a, fun t ht => b t ((h t).2 ht)⟩, fun ⟨a, b⟩ => ⟨a, fun t ht => b t ((h t).1 ht)⟩⟩
theorem Fam.congr {l m f : List (List Int)} (h : ∀ s, s ∈ l ↔ s ∈ m) (hf : Fam l f) : Fam m f := ⟨hf.1, fun s => (hf.2 s).trans (IsMin.congr h s)⟩
/-- Below each set stands a least one. -/
theorem exists_min {l : List (List Int)} (hu : Ups l) : ∀ (n : Nat) (s : List Int), s.length = n → s ∈ l → ∃ t, IsMin l t ∧ Sub t s := by
  intro n
  induction n using Nat.strongRecOn with
  | ind n ih =>
    intro s hn hs
    by_cases h : ∀ t ∈ l, Sub t s → t = s
    · exact ⟨s, ⟨hs, h⟩, Sub.refl s⟩
    · simp only [Classical.not_forall] at h
      obtain ⟨t, ht, hts, hne⟩ := h
      have hl := hts.len (hu t ht) (hu s hs)
      have hlt : t.length < n := by
        rcases Nat.lt_or_ge t.length n with h | h
        · exact h
        · exact absurd (hts.eq_of_len (hu t ht) (hu s hs) (by omega)) hne
      obtain ⟨u, hu1, hu2⟩ := ih t.length hlt t rfl ht
      exact ⟨u, hu1, hu2.trans hts⟩
def hasL (f : List (List Int)) (S : List Int) : Bool := f.any fun s => subB s S
theorem hasL_iff {f : List (List Int)} {S : List Int} : hasL f S = true ↔ ∃ s ∈ f, Sub s S := by
  unfold hasL
  rw [List.any_eq_true]
  exact ⟨fun ⟨s, h1, h2⟩ => ⟨s, h1, subB_iff.1 h2⟩, fun ⟨s, h1, h2⟩ => ⟨s, h1, subB_iff.2 h2⟩⟩
theorem Fam.has {l f : List (List Int)} (hu : Ups l) (hf : Fam l f) (S : List Int) : hasL f S = true ↔ ∃ s ∈ l, Sub s S := by
  rw [hasL_iff]
  constructor
  · rintro ⟨s, h1, h2⟩
    exact ⟨s, ((hf.2 s).1 h1).1, h2⟩
  · rintro ⟨s, h1, h2⟩
    obtain ⟨t, h3, h4⟩ := exists_min hu _ s rfl h1
    exact ⟨t, (hf.2 t).2 h3, h4.trans h2⟩
theorem Fam.ups {l f : List (List Int)} (hu : Ups l) (hf : Fam l f) : Ups f := fun s hs => hu s ((hf.2 s).1 hs).1
theorem Fam.anti {l f : List (List Int)} (hf : Fam l f) {s t : List Int} (hs : s ∈ f) (ht : t ∈ f) (h : Sub t s) : t = s := ((hf.2 s).1 hs).2 t ((hf.2 t).1 ht).1 h
/-- Families that hold for the same sets are one. -/
theorem Fam.ext_has {l m f g : List (List Int)} (hl : Ups l) (hm : Ups m) (hf : Fam l f) (hg : Fam m g) (h : ∀ S, hasL f S = hasL g S) : f = g := by
  refine ltO_ext hf.1 hg.1 ?_
  have key : ∀ {l m f g : List (List Int)}, Ups l → Ups m → Fam l f → Fam m g → (∀ S, hasL f S = hasL g S) → ∀ s ∈ f, s ∈ g := by
    intro l m f g hl hm hf hg h s hs
    have h1 : hasL g s = true := by rw [← h s]; exact hasL_iff.2 ⟨s, hs, Sub.refl s⟩
    obtain ⟨t, ht, hts⟩ := hasL_iff.1 h1
    have h2 : hasL f t = true := by rw [h t]; exact hasL_iff.2 ⟨t, ht, Sub.refl t⟩
    obtain ⟨u, hu, hut⟩ := hasL_iff.1 h2
    have e := hf.anti hs hu (hut.trans hts)
    subst e
    have : t = u := up_eq (hg.ups hm t ht) (hf.ups hl u hu) fun x => ⟨hts x, hut x⟩
    subst this
    exact ht
  exact fun s => ⟨key hl hm hf hg h s, key hm hl hg hf (fun S => (h S).symm) s⟩
/-! ### how anti finds them -/
def insL (out : List (List Int)) (s : List Int) : List (List Int) := if out.any (fun t => subB t s) = true then out else out ++ [s]
theorem insL_step {p out : List (List Int)} {s : List Int} (hu : Ups (p ++ [s])) (hp : (p ++ [s]).Pairwise LtO) (hf : Fam p out) : Fam (p ++ [s]) (insL out s) := by
  have hup : Ups p := fun t ht => hu t (by simp [ht])
  have hus : Up s := hu s (by simp)
  have hlt : ∀ t ∈ p, LtO t s := fun t ht => (List.pairwise_append.1 hp).2.2 t ht s (by simp)
  have hno : ∀ t ∈ p, ¬ (Sub s t ∧ s ≠ t) := fun t ht ⟨h1, h2⟩ => by
    have hl := h1.len hus (hup t ht)
    have hl2 := (hlt t ht).len
    exact h2 (h1.eq_of_len hus (hup t ht) hl2)
  have hne : ∀ t ∈ p, t ≠ s := fun t ht e => by subst e; exact LtO.irrefl _ (hlt t ht)
  unfold insL
  by_cases h : out.any (fun t => subB t s) = true
  · rw [if_pos h]
    have hh := (hf.has hup s).1 h
    refine ⟨hf.1, fun u => ?_⟩
    rw [hf.2 u]
    constructor
    · rintro ⟨h1, h2⟩
      refine ⟨by simp [h1], fun t ht htu => ?_⟩
      rcases List.mem_append.1 ht with ht | ht
      · exact h2 t ht htu
      · simp at ht; subst ht
        exact Classical.byContradiction fun hx => hno u h1 ⟨htu, fun e => hx e⟩
    · rintro ⟨h1, h2⟩
      rcases List.mem_append.1 h1 with h1 | h1
      · exact ⟨h1, fun t ht => h2 t (by simp [ht])⟩
      · simp at h1; subst h1
        obtain ⟨t, ht, hts⟩ := hh
        exact absurd (h2 t (by simp [ht]) hts) (hne t ht)
  · rw [if_neg h]
    have hh : ∀ t ∈ p, ¬ Sub t s := fun t ht hts => h ((hf.has hup s).2 ⟨t, ht, hts⟩)
    refine ⟨List.pairwise_append.2 ⟨hf.1, by simp, fun a ha b hb => ?_⟩, fun u => ?_⟩
    · simp at hb; subst hb
      exact hlt a ((hf.2 a).1 ha).1
    · rw [List.mem_append, hf.2 u]
      constructor
      · rintro (⟨h1, h2⟩ | h1)
        · refine ⟨by simp [h1], fun t ht htu => ?_⟩
          rcases List.mem_append.1 ht with ht | ht
          · exact h2 t ht htu
          · simp at ht; subst ht
            exact Classical.byContradiction fun hx => hno u h1 ⟨htu, fun e => hx e⟩
        · simp at h1; subst h1
          refine ⟨by simp, fun t ht hts => ?_⟩
          rcases List.mem_append.1 ht with ht | ht
          · exact absurd hts (hh t ht)
          · simpa using ht
      · rintro ⟨h1, h2⟩
        rcases List.mem_append.1 h1 with h1 | h1
        · exact .inl ⟨h1, fun t ht => h2 t (by simp [ht])⟩
        · exact .inr h1
theorem fam_nil : Fam [] [] := ⟨List.Pairwise.nil, fun s => by simp [IsMin]⟩
theorem insL_all {d : List (List Int)} (hu : Ups d) (hp : d.Pairwise LtO) : Fam d (d.foldl insL []) := by
  have : ∀ (r p out : List (List Int)), p ++ r = d → Fam p out → Fam d (r.foldl insL out) := by
    intro r
    induction r with
    | nil => intro p out e h; simp at e; subst e; exact h
    | cons s t ih =>
      intro p out e h
      refine ih (p ++ [s]) (insL out s) (by simpa using e) (insL_step (fun x hx => hu x ?_) (hp.sublist ?_) h)
      · rw [← e]; simp at hx ⊢; rcases hx with h | h <;> simp [h]
      · rw [← e, show p ++ s :: t = (p ++ [s]) ++ t by simp]; exact List.sublist_append_left _ _
  exact this d [] [] rfl fam_nil
end Go.Proofs.YtbnhhmejlglbcaaGreat

