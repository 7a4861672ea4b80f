/- tansylaw13.awake. What the ops of circ come to, in plain lists. What holds of a store's gates, whatever was done. -/
import Derived.Test.YtbnhhmejlglbcaaMg06
namespace Go.Proofs.Ytbnhhmejlglbcaa
open Go.RowKit
set_option linter.unusedSimpArgs false
set_option linter.unusedVariables false

/-- A store that a call has made for itself. -/
def Own (w : World) (pb : Nat) (l : List Gt) (left : Int) (w' : World) : Prop := ∃ F, St w' pb F l left ∧ Frame [] w w' ∧ ∀ x ∈ F, w.heap.size ≤ x
theorem Own.next {w w1 w2 : World} {pb : Nat} {F : List Nat} {l' : List Gt} {left' : Int} (hF : Frame [] w w1) (hn : ∀ x ∈ F, w.heap.size ≤ x) (h : StEnd w1 pb F l' left' w2) : Own w pb l' left' w2 := by
  obtain ⟨F', a, b, c⟩ := h
  exact ⟨F', a, hF.trans b (fun x hx => .inr (hn x hx)), fun x hx => by rcases c x hx with h | h; exact hn x h; have := hF.size; omega⟩
theorem Own.quiet {w w1 w2 : World} {pb : Nat} {l : List Gt} {left : Int} (h : Own w pb l left w1) (f : Frame [] w1 w2) : Own w pb l left w2 := by
  obtain ⟨F, a, b, c⟩ := h
  exact ⟨F, a.frame0 f, b.trans1 f, c⟩

end Go.Proofs.Ytbnhhmejlglbcaa

namespace Go.Proofs.Ytbnhhmejlglbcaa
open Go.RowKit
set_option linter.unusedSimpArgs false
set_option linter.unusedVariables false

def Good (l : List Gt) : Prop := ∃ m, l = init ++ m
def Ext (l l' : List Gt) : Prop := ∃ m, l' = l ++ m
theorem Ext.refl (l : List Gt) : Ext l l := ⟨[], by simp⟩
theorem Ext.trans {a b c : List Gt} (h : Ext a b) (k : Ext b c) : Ext a c := by
  obtain ⟨m, rfl⟩ := h; obtain ⟨n, rfl⟩ := k; exact ⟨m ++ n, by simp⟩
theorem Ext.len {a b : List Gt} (h : Ext a b) : a.length ≤ b.length := by obtain ⟨m, rfl⟩ := h; simp
theorem Good.ext {a b : List Gt} (h : Good a) (k : Ext a b) : Good b := by
  obtain ⟨m, rfl⟩ := h; obtain ⟨n, rfl⟩ := k; exact ⟨m ++ n, by simp⟩
theorem Good.len {a : List Gt} (h : Good a) : 2 ≤ a.length := by obtain ⟨m, rfl⟩ := h; simp [init]

theorem find_app (g : Gt) (l m : List Gt) (i : Nat) : find g (l ++ m) i = (match find g l i with | some k => some k | none => find g m (i + l.length)) := by
  induction l generalizing i with
  | nil => simp [find]
  | cons h t ih =>
    simp only [List.cons_append, find]
    by_cases e : g = h
    · simp [e]
    · simp only [if_neg e, ih]
      simp [Nat.add_comm, Nat.add_left_comm]
theorem find_ext {g : Gt} {l l' : List Gt} {k : Nat} (h : find g l 0 = some k) (e : Ext l l') : find g l' 0 = some k := by
  obtain ⟨m, rfl⟩ := e; rw [find_app, h]
theorem find_bd {g : Gt} : ∀ {l : List Gt} {i k : Nat}, find g l i = some k → i ≤ k ∧ k < i + l.length ∧ l[k - i]? = some g
  | [], i, k, h => by simp [find] at h
  | x :: t, i, k, h => by
    simp only [find] at h
    split at h
    · rename_i e; simp at h; subst h; simp [e]
    · have := find_bd h
      refine ⟨by omega, by simp; omega, ?_⟩
      rw [show k - i = (k - (i + 1)) + 1 from by omega]
      simpa using this.2.2
theorem find_mem {g : Gt} : ∀ {l : List Gt} {i : Nat}, find g l i = none → g ∉ l
  | [], _, _ => by simp
  | x :: t, i, h => by
    simp only [find] at h
    split at h
    · cases h
    · rename_i e; simp [e, find_mem h]

/-- A gate's number that is neither 0 nor 1. -/
def Okk (l : List Gt) (k : Int) : Prop := 2 ≤ k ∧ k < l.length
theorem Okk.ext {a b : List Gt} {k : Int} (h : Okk a k) (e : Ext a b) : Okk b k := ⟨h.1, by have := e.len; have := h.2; omega⟩

/-- What put comes to where there is room. -/
theorem put_room (g : Gt) (l : List Gt) (left : Int) (hl : Good l) (hg : g ∉ init) (h1 : 1 ≤ left) :
    ∃ (k : Int) (l' : List Gt) (left' : Int), put g l left = ((k, 0), l', left') ∧ Ext l l' ∧ left - 1 ≤ left' ∧ left' ≤ left ∧ Okk l' k ∧ ∀ l'' left'', Ext l' l'' → put g l'' left'' = ((k, 0), l'', left'') := by
  cases hf : find g l 0 with
  | some k =>
    refine ⟨k, l, left, by simp [put, hf], Ext.refl _, by omega, Int.le_refl _, ?_, fun l'' left'' e => by simp [put, find_ext hf e]⟩
    have hb := find_bd hf
    obtain ⟨m, rfl⟩ := hl
    refine ⟨?_, by have := hb.2.1; omega⟩
    rcases Nat.lt_or_ge k 2 with h | h
    · exfalso
      have h3 := hb.2.2
      rw [List.getElem?_append_left (by simp [init]; omega)] at h3
      exact hg (List.mem_of_getElem? h3)
    · omega
  | none =>
    have hf' : find g (l ++ [g]) 0 = some l.length := by rw [find_app, hf]; simp [find]
    have := hl.len
    refine ⟨l.length, l ++ [g], left - 1, by simp [put, hf, h1], ⟨[g], rfl⟩, Int.le_refl _, by omega, ⟨by omega, by simp; omega⟩, fun l'' left'' e => by simp [put, find_ext hf' e]⟩

theorem areG_ok {l : List Gt} {xs : List Int} (h : ∀ x ∈ xs, 0 ≤ x ∧ x < l.length) : areG l.length xs = true := by
  simp only [areG, Bool.not_eq_true', List.any_eq_false, notG, Bool.or_eq_true, decide_eq_true_eq, not_or]
  intro x hx; have := h x hx; omega
theorem not_init {k a b : Int} (h : 3 ≤ k) : (⟨k, a, b⟩ : Gt) ∉ init := by simp [init]; omega

theorem plus_zero_r {l : List Gt} {x left : Int} (hl : Good l) (hx : Okk l x) : mkPlus x 0 l left = ((x, 0), l, left) := by
  have := hl.len
  have h := areG_ok (l := l) (xs := [x, 0]) (by simp; exact ⟨⟨by have := hx.1; omega, hx.2⟩, by omega⟩)
  have : x ≠ 0 := by have := hx.1; omega
  simp [mkPlus, h, this]
theorem plus_zero_l {l : List Gt} {x left : Int} (hl : Good l) (hx : Okk l x) : mkPlus 0 x l left = ((x, 0), l, left) := by
  have := hl.len
  have h := areG_ok (l := l) (xs := [0, x]) (by simp; exact ⟨by omega, ⟨by have := hx.1; omega, hx.2⟩⟩)
  simp [mkPlus, h]
theorem times_one_r {l : List Gt} {x left : Int} (hl : Good l) (hx : Okk l x) : mkTimes x 1 l left = ((x, 0), l, left) := by
  have := hl.len
  have h := areG_ok (l := l) (xs := [x, 1]) (by simp; exact ⟨⟨by have := hx.1; omega, hx.2⟩, by omega⟩)
  have h1 : x ≠ 0 := by have := hx.1; omega
  have h2 : x ≠ 1 := by have := hx.1; omega
  simp [mkTimes, h, h1, h2]
theorem times_one_l {l : List Gt} {x left : Int} (hl : Good l) (hx : Okk l x) : mkTimes 1 x l left = ((x, 0), l, left) := by
  have := hl.len
  have h := areG_ok (l := l) (xs := [1, x]) (by simp; exact ⟨by omega, ⟨by have := hx.1; omega, hx.2⟩⟩)
  have h1 : x ≠ 0 := by have := hx.1; omega
  simp [mkTimes, h, h1]
theorem times_zero_r {l : List Gt} {x left : Int} (hl : Good l) (hx : Okk l x) : mkTimes x 0 l left = ((0, 0), l, left) := by
  have := hl.len
  have h := areG_ok (l := l) (xs := [x, 0]) (by simp; exact ⟨⟨by have := hx.1; omega, hx.2⟩, by omega⟩)
  have h1 : x ≠ 0 := by have := hx.1; omega
  simp [mkTimes, h, h1]
theorem star_zero {l : List Gt} {left : Int} (hl : Good l) : mkStar 0 l left = ((1, 0), l, left) := by
  have := hl.len
  have h := areG_ok (l := l) (xs := [0]) (by simp; omega)
  simp [mkStar, h]
theorem plus_room {l : List Gt} {x y left : Int} (hl : Good l) (hx : Okk l x) (hy : Okk l y) (h1 : 1 ≤ left) :
    ∃ (k : Int) (l' : List Gt) (left' : Int), mkPlus x y l left = ((k, 0), l', left') ∧ Ext l l' ∧ left - 1 ≤ left' ∧ left' ≤ left ∧ Okk l' k ∧ ∀ l'' left'', Ext l' l'' → mkPlus x y l'' left'' = ((k, 0), l'', left'') ∧ mkPlus y x l'' left'' = ((k, 0), l'', left'') := by
  have e : ∀ l2 left2, Ext l l2 → mkPlus x y l2 left2 = put ⟨4, min x y, max x y⟩ l2 left2 ∧ mkPlus y x l2 left2 = put ⟨4, min x y, max x y⟩ l2 left2 := by
    intro l2 left2 e
    have hx2 := hx.ext e
    have hy2 := hy.ext e
    have a1 := areG_ok (l := l2) (xs := [x, y]) (by simp; exact ⟨⟨by have := hx2.1; omega, hx2.2⟩, ⟨by have := hy2.1; omega, hy2.2⟩⟩)
    have a2 := areG_ok (l := l2) (xs := [y, x]) (by simp; exact ⟨⟨by have := hy2.1; omega, hy2.2⟩, ⟨by have := hx2.1; omega, hx2.2⟩⟩)
    have h1 : x ≠ 0 := by have := hx.1; omega
    have h2 : y ≠ 0 := by have := hy.1; omega
    simp [mkPlus, a1, a2, h1, h2, Int.min_comm, Int.max_comm]
  obtain ⟨k, l', left', p1, p2, p3, p4, p5, p6⟩ := put_room ⟨4, min x y, max x y⟩ l left hl (not_init (by omega)) h1
  exact ⟨k, l', left', by rw [(e l left (Ext.refl _)).1, p1], p2, p3, p4, p5, fun l'' left'' q => by
    rw [(e l'' left'' (p2.trans q)).1, (e l'' left'' (p2.trans q)).2, p6 l'' left'' q]; exact ⟨rfl, rfl⟩⟩
theorem times_room {l : List Gt} {x y left : Int} (hl : Good l) (hx : Okk l x) (hy : Okk l y) (h1 : 1 ≤ left) :
    ∃ (k : Int) (l' : List Gt) (left' : Int), mkTimes x y l left = ((k, 0), l', left') ∧ Ext l l' ∧ left - 1 ≤ left' ∧ left' ≤ left ∧ Okk l' k ∧ ∀ l'' left'', Ext l' l'' → mkTimes x y l'' left'' = ((k, 0), l'', left'') ∧ mkTimes y x l'' left'' = ((k, 0), l'', left'') := by
  have e : ∀ l2 left2, Ext l l2 → mkTimes x y l2 left2 = put ⟨5, min x y, max x y⟩ l2 left2 ∧ mkTimes y x l2 left2 = put ⟨5, min x y, max x y⟩ l2 left2 := by
    intro l2 left2 e
    have hx2 := hx.ext e
    have hy2 := hy.ext e
    have a1 := areG_ok (l := l2) (xs := [x, y]) (by simp; exact ⟨⟨by have := hx2.1; omega, hx2.2⟩, ⟨by have := hy2.1; omega, hy2.2⟩⟩)
    have a2 := areG_ok (l := l2) (xs := [y, x]) (by simp; exact ⟨⟨by have := hy2.1; omega, hy2.2⟩, ⟨by have := hx2.1; omega, hx2.2⟩⟩)
    have h1 : x ≠ 0 := by have := hx.1; omega
    have h2 : y ≠ 0 := by have := hy.1; omega
    have h3 : x ≠ 1 := by have := hx.1; omega
    have h4 : y ≠ 1 := by have := hy.1; omega
    simp [mkTimes, a1, a2, h1, h2, h3, h4, Int.min_comm, Int.max_comm]
  obtain ⟨k, l', left', p1, p2, p3, p4, p5, p6⟩ := put_room ⟨5, min x y, max x y⟩ l left hl (not_init (by omega)) h1
  exact ⟨k, l', left', by rw [(e l left (Ext.refl _)).1, p1], p2, p3, p4, p5, fun l'' left'' q => by
    rw [(e l'' left'' (p2.trans q)).1, (e l'' left'' (p2.trans q)).2, p6 l'' left'' q]; exact ⟨rfl, rfl⟩⟩

/-- Sums along a list, done twice. accs: what is gathered on the way. -/
theorem sum_room : ∀ (xs : List Int) (acc : Int) (l : List Gt) (left : Int), Good l → (acc = 0 ∨ Okk l acc) → (∀ x ∈ xs, Okk l x) → (xs.length : Int) ≤ left →
    ∃ (s : Int) (l' : List Gt) (left' : Int) (accs : Nat → Int), mkSum xs acc l left = ((s, 0), l', left') ∧ Ext l l' ∧ accs 0 = acc ∧ accs xs.length = s ∧
      ∀ l'' left'', Ext l' l'' → ∀ i (h : i < xs.length), mkPlus (accs i) xs[i] l'' left'' = ((accs (i + 1), 0), l'', left'')
  | [], acc, l, left, _, _, _, _ => ⟨acc, l, left, fun _ => acc, rfl, Ext.refl _, rfl, rfl, fun _ _ _ i h => by simp at h⟩
  | x :: xs, acc, l, left, hl, ha, hx, hn => by
    have hx0 := hx x (by simp)
    have step : ∃ (k : Int) (l1 : List Gt) (left1 : Int), mkPlus acc x l left = ((k, 0), l1, left1) ∧ Ext l l1 ∧ left - 1 ≤ left1 ∧ Okk l1 k ∧ ∀ l'' left'', Ext l1 l'' → mkPlus acc x l'' left'' = ((k, 0), l'', left'') := by
      rcases ha with rfl | ha
      · exact ⟨x, l, left, plus_zero_l hl hx0, Ext.refl _, by omega, hx0, fun l'' left'' e => plus_zero_l (hl.ext e) (hx0.ext e)⟩
      · obtain ⟨k, l1, left1, p1, p2, p3, _, p5, p6⟩ := plus_room (left := left) hl ha hx0 (by simp at hn; omega)
        exact ⟨k, l1, left1, p1, p2, p3, p5, fun l'' left'' e => (p6 l'' left'' e).1⟩
    obtain ⟨k, l1, left1, p1, p2, p3, p5, p6⟩ := step
    obtain ⟨s, l', left', accs, q1, q2, q3, q4, q5⟩ := sum_room xs k l1 left1 (hl.ext p2) (.inr p5) (fun y hy => (hx y (by simp [hy])).ext p2) (by simp at hn; omega)
    refine ⟨s, l', left', fun i => match i with | 0 => acc | i + 1 => accs i, ?_, p2.trans q2, rfl, by simpa using q4, ?_⟩
    · rw [mkSum, p1]; simpa using q1
    · intro l'' left'' e i hi
      match i, hi with
      | 0, _ => simp only [List.getElem_cons_zero, q3]; exact p6 l'' left'' (q2.trans e)
      | i + 1, hi => simpa using q5 l'' left'' e i (by simpa using hi)

end Go.Proofs.Ytbnhhmejlglbcaa

namespace Go.Proofs.Ytbnhhmejlglbcaa
open Go.RowKit
set_option linter.unusedSimpArgs false
set_option linter.unusedVariables false

/-- May a gate stand at place i? -/
def Wfg (i : Nat) (g : Gt) : Prop := (4 ≤ g.k → g.a < i ∧ g.b < i ∧ 1 ≤ g.a) ∧ ((g.k = 4 ∨ g.k = 5) → g.a ≤ g.b)
structure Inv (l : List Gt) : Prop where
  good : Good l
  nodup : l.Nodup
  wf : ∀ i g, l[i]? = some g → Wfg i g

theorem inv_init : Inv init := ⟨⟨[], by simp⟩, by decide, fun i g h => by
  match i, h with
  | 0, h => simp [init] at h; subst h; simp [Wfg]
  | 1, h => simp [init] at h; subst h; simp [Wfg]
  | i + 2, h => simp [init] at h⟩

theorem put_inv {g : Gt} {l : List Gt} {left : Int} (h : Inv l) (hg : Wfg l.length g) : Inv (put g l left).2.1 ∧ (put g l left).2.1.length ≤ l.length + 1 ∧ l.length ≤ (put g l left).2.1.length := by
  unfold put
  cases hf : find g l 0 with
  | some k => exact ⟨h, by simp, by simp⟩
  | none =>
    simp only
    split
    · refine ⟨⟨h.good.ext ⟨[g], rfl⟩, ?_, ?_⟩, by simp, by simp⟩
      · rw [List.nodup_append]
        exact ⟨h.nodup, by simp, fun a ha b hb => by simp at hb; subst hb; intro e; subst e; exact find_mem hf ha⟩
      · intro i x hx
        rcases Nat.lt_trichotomy i l.length with hl | hl | hl
        · rw [List.getElem?_append_left hl] at hx; exact h.wf i x hx
        · subst hl; simp at hx; subst hx; exact hg
        · rw [List.getElem?_append_right (by omega)] at hx
          rw [List.getElem?_eq_none (by simp; omega)] at hx; cases hx
    · exact ⟨h, by simp, by simp⟩
theorem put_twice (g : Gt) (l : List Gt) (left : Int) : (put g (put g l left).2.1 (put g l left).2.2).2 = (put g l left).2 := by
  unfold put
  cases hf : find g l 0 with
  | some k => simp [hf]
  | none =>
    by_cases h1 : 1 ≤ left
    · have hf' : find g (l ++ [g]) 0 = some l.length := by rw [find_app, hf]; simp [find]
      simp [h1, hf']
    · simp [h1, hf]

theorem areG_mono {l l' : List Gt} {xs : List Int} (h : areG l.length xs = true) (e : l.length ≤ l'.length) : areG l'.length xs = true := by
  apply areG_ok
  intro x hx
  simp only [areG, Bool.not_eq_true', List.any_eq_false, notG, Bool.or_eq_true, decide_eq_true_eq, not_or] at h
  have := h x hx; omega
theorem areG_two {n : Nat} {a b : Int} (h : areG n [a, b] = true) : 0 ≤ a ∧ a < n ∧ 0 ≤ b ∧ b < n := by
  simp only [areG, Bool.not_eq_true', List.any_eq_false, notG, Bool.or_eq_true, decide_eq_true_eq, not_or] at h
  have h1 := h a (by simp); have h2 := h b (by simp); omega
theorem areG_one {n : Nat} {a : Int} (h : areG n [a] = true) : 0 ≤ a ∧ a < n := by
  simp only [areG, Bool.not_eq_true', List.any_eq_false, notG, Bool.or_eq_true, decide_eq_true_eq, not_or] at h
  have h1 := h a (by simp); omega

/-- An op, and what is left behind it. -/
def After (f : List Gt → Int → (Int × Int) × List Gt × Int) : Prop :=
  (∀ l left, Inv l → Inv (f l left).2.1 ∧ (f l left).2.1.length ≤ l.length + 1 ∧ l.length ≤ (f l left).2.1.length) ∧ ∀ l left, Inv l → (f (f l left).2.1 (f l left).2.2).2 = (f l left).2

theorem var_after (t : Int) : After (mkVar t) := by
  refine ⟨fun l left h => ?_, fun l left h => ?_⟩
  · unfold mkVar; split
    · exact ⟨h, by simp, by simp⟩
    · exact put_inv h (by simp [Wfg])
  · by_cases ht : t < 1
    · simp [mkVar, ht]
    · simp only [mkVar, if_neg ht]; exact put_twice _ _ _
theorem plus_after (a b : Int) : After (mkPlus a b) := by
  have key : ∀ l left, Inv l → Inv (mkPlus a b l left).2.1 ∧ (mkPlus a b l left).2.1.length ≤ l.length + 1 ∧ l.length ≤ (mkPlus a b l left).2.1.length := by
    intro l left h
    unfold mkPlus
    split
    · exact ⟨h, by simp, by simp⟩
    · split
      · exact ⟨h, by simp, by simp⟩
      · split
        · exact ⟨h, by simp, by simp⟩
        · rename_i h1 h2 h3
          have := areG_two (by simpa using h1 : areG l.length [a, b] = true)
          exact put_inv h ⟨fun _ => ⟨by simp; omega, by simp; omega, by simp; omega⟩, fun _ => by simp; omega⟩
  refine ⟨key, fun l left h => ?_⟩
  have hk := key l left h
  cases hA : areG l.length [a, b] with
  | false => simp [mkPlus, hA]
  | true =>
    by_cases ha : a = 0
    · subst ha; simp [mkPlus, hA]
    · by_cases hb : b = 0
      · subst hb; simp [mkPlus, hA, ha]
      · have e : ∀ l2 left2, areG l2.length [a, b] = true → mkPlus a b l2 left2 = put ⟨4, min a b, max a b⟩ l2 left2 := by
          intro l2 left2 h2; simp [mkPlus, h2, ha, hb]
        rw [e _ _ (areG_mono hA hk.2.2), e l left hA]
        exact put_twice _ _ _
theorem times_after (a b : Int) : After (mkTimes a b) := by
  have key : ∀ l left, Inv l → Inv (mkTimes a b l left).2.1 ∧ (mkTimes a b l left).2.1.length ≤ l.length + 1 ∧ l.length ≤ (mkTimes a b l left).2.1.length := by
    intro l left h
    unfold mkTimes
    repeat' split
    all_goals first
      | exact ⟨h, by simp, by simp⟩
      | (rename_i h1 h2 h3 h4 h5
         have := areG_two (by simpa using h1 : areG l.length [a, b] = true)
         exact put_inv h ⟨fun _ => ⟨by simp; omega, by simp; omega, by simp; omega⟩, fun _ => by simp; omega⟩)
  refine ⟨key, fun l left h => ?_⟩
  have hk := key l left h
  cases hA : areG l.length [a, b] with
  | false => simp [mkTimes, hA]
  | true =>
    by_cases ha : a = 0
    · subst ha; simp [mkTimes, hA]
    · by_cases hb : b = 0
      · subst hb; simp [mkTimes, hA, ha]
      · by_cases ha1 : a = 1
        · subst ha1; simp [mkTimes, hA, hb]
        · by_cases hb1 : b = 1
          · subst hb1; simp [mkTimes, hA, ha, ha1]
          · have e : ∀ l2 left2, areG l2.length [a, b] = true → mkTimes a b l2 left2 = put ⟨5, min a b, max a b⟩ l2 left2 := by
              intro l2 left2 h2; simp [mkTimes, h2, ha, hb, ha1, hb1]
            rw [e _ _ (areG_mono hA hk.2.2), e l left hA]
            exact put_twice _ _ _
theorem star_after (a : Int) : After (mkStar a) := by
  have key : ∀ l left, Inv l → Inv (mkStar a l left).2.1 ∧ (mkStar a l left).2.1.length ≤ l.length + 1 ∧ l.length ≤ (mkStar a l left).2.1.length := by
    intro l left h
    unfold mkStar
    repeat' split
    all_goals first
      | exact ⟨h, by simp, by simp⟩
      | (rename_i h1 h2
         have := areG_one (by simpa using h1 : areG l.length [a] = true)
         have hl := h.good.len
         exact put_inv h ⟨fun _ => ⟨by simp; omega, by simp; omega, by simp; omega⟩, fun h => by simp at h⟩)
  refine ⟨key, fun l left h => ?_⟩
  have hk := key l left h
  cases hA : areG l.length [a] with
  | false => simp [mkStar, hA]
  | true =>
    by_cases ha : a = 0
    · subst ha; simp [mkStar, hA]
    · have e : ∀ l2 left2, areG l2.length [a] = true → mkStar a l2 left2 = put ⟨6, a, 0⟩ l2 left2 := by
        intro l2 left2 h2; simp [mkStar, h2, ha]
      rw [e _ _ (areG_mono hA hk.2.2), e l left hA]
      exact put_twice _ _ _
theorem none_after : After (fun l left => ((0, 0), l, left)) := ⟨fun l left h => ⟨h, by simp, by simp⟩, fun _ _ _ => rfl⟩

/-- The op of a step of CircAlike. -/
def opA (kind a b : Int) : List Gt → Int → (Int × Int) × List Gt × Int :=
  if kind = 1 then mkVar (a + 1) else if kind = 2 then mkPlus a b else if kind = 3 then mkTimes b a else if kind = 4 then mkStar a else fun l left => ((0, 0), l, left)
theorem opA_after (kind a b : Int) : After (opA kind a b) := by
  unfold opA
  repeat' split
  · exact var_after _
  · exact plus_after _ _
  · exact times_after _ _
  · exact star_after _
  · exact none_after

/-- What goes on beside a store: memory that its calls do not write. -/
structure Keep (KB : List Nat) (Kp : World → Prop) : Prop where
  lt : ∀ w, Kp w → ∀ x ∈ KB, x < w.heap.size
  st : ∀ w w' S, Kp w → Frame S w w' → (∀ x ∈ KB, x ∉ S) → Kp w'
def GK (w : World) (pb : Nat) (KB : List Nat) (Kp : World → Prop) (l : List Gt) (left : Int) (wr : World) : Prop :=
  ∃ F, St wr pb F l left ∧ Frame [] w wr ∧ (∀ x ∈ F, w.heap.size ≤ x) ∧ Kp wr ∧ (∀ x ∈ KB, x ∉ F) ∧ 2 ≤ l.length
section
variable {w wr w' : World} {pb : Nat} {KB : List Nat} {Kp : World → Prop} {l l' : List Gt} {left left' : Int}
theorem GK.step (hK : Keep KB Kp) {F : List Nat} (f : Frame [] w wr) (n : ∀ x ∈ F, w.heap.size ≤ x) (r : Kp wr) (hb : ∀ x ∈ KB, x ∉ F) (hl : 2 ≤ l'.length) (h : StEnd wr pb F l' left' w') : GK w pb KB Kp l' left' w' := by
  obtain ⟨F', a, b', c⟩ := h
  have hz := f.size
  refine ⟨F', a, f.trans b' (fun x hx => .inr (n x hx)), fun x hx => by rcases c x hx with h | h; exact n x h; omega, hK.st _ _ _ r b' hb, fun x hx hm => ?_, hl⟩
  rcases c _ hm with h | h
  · exact hb x hx h
  · have := hK.lt _ r x hx; omega
theorem GK.quiet (hK : Keep KB Kp) (h : GK w pb KB Kp l left wr) (f : Frame [] wr w') : GK w pb KB Kp l left w' := by
  obtain ⟨F, s, f1, n, r, hb, hl⟩ := h
  exact ⟨F, s.frame0 f, f1.trans1 f, n, hK.st _ _ _ r f (by simp), hb, hl⟩
theorem GK.frame (h : GK w pb KB Kp l left wr) : Frame [] w wr := by obtain ⟨_, _, f, _⟩ := h; exact f
theorem GK.var (hK : Keep KB Kp) (h : GK w pb KB Kp l left wr) (t : Int) (hl : 2 ≤ (mkVar t l left).2.1.length) :
    Calls Try.prog 15 #[.pointer (some ⟨pb, 0, none⟩), .int .i64 t] wr fun e w' => e = .returned (.tuple #[.int .i64 (mkVar t l left).1.1, .int .i64 (mkVar t l left).1.2]) ∧ GK w pb KB Kp (mkVar t l left).2.1 (mkVar t l left).2.2 w' := by
  obtain ⟨F, s, f, n, r, hb, h2⟩ := h
  exact (var_any pb F l left t wr s (by omega)).mono fun e w' ⟨h1, h2⟩ => ⟨h1, GK.step hK f n r hb hl h2⟩
theorem GK.plus (hK : Keep KB Kp) (h : GK w pb KB Kp l left wr) (a b : Int) (hl : 2 ≤ (mkPlus a b l left).2.1.length) :
    Calls Try.prog 17 #[.pointer (some ⟨pb, 0, none⟩), .int .i64 a, .int .i64 b] wr fun e w' => e = .returned (.tuple #[.int .i64 (mkPlus a b l left).1.1, .int .i64 (mkPlus a b l left).1.2]) ∧ GK w pb KB Kp (mkPlus a b l left).2.1 (mkPlus a b l left).2.2 w' := by
  obtain ⟨F, s, f, n, r, hb, h2⟩ := h
  exact (plus_any pb F l left a b wr s (by omega)).mono fun e w' ⟨h1, h2⟩ => ⟨h1, GK.step hK f n r hb hl h2⟩
theorem GK.times (hK : Keep KB Kp) (h : GK w pb KB Kp l left wr) (a b : Int) (hl : 2 ≤ (mkTimes a b l left).2.1.length) :
    Calls Try.prog 19 #[.pointer (some ⟨pb, 0, none⟩), .int .i64 a, .int .i64 b] wr fun e w' => e = .returned (.tuple #[.int .i64 (mkTimes a b l left).1.1, .int .i64 (mkTimes a b l left).1.2]) ∧ GK w pb KB Kp (mkTimes a b l left).2.1 (mkTimes a b l left).2.2 w' := by
  obtain ⟨F, s, f, n, r, hb, h2⟩ := h
  exact (times_any pb F l left a b wr s (by omega)).mono fun e w' ⟨h1, h2⟩ => ⟨h1, GK.step hK f n r hb hl h2⟩
theorem GK.star (hK : Keep KB Kp) (h : GK w pb KB Kp l left wr) (a : Int) (hl : 2 ≤ (mkStar a l left).2.1.length) :
    Calls Try.prog 21 #[.pointer (some ⟨pb, 0, none⟩), .int .i64 a] wr fun e w' => e = .returned (.tuple #[.int .i64 (mkStar a l left).1.1, .int .i64 (mkStar a l left).1.2]) ∧ GK w pb KB Kp (mkStar a l left).2.1 (mkStar a l left).2.2 w' := by
  obtain ⟨F, s, f, n, r, hb, h2⟩ := h
  exact (star_any pb F l left a wr s (by omega)).mono fun e w' ⟨h1, h2⟩ => ⟨h1, GK.step hK f n r hb hl h2⟩
theorem GK.len (h : GK w pb KB Kp l left wr) : Calls Try.prog 23 #[.pointer (some ⟨pb, 0, none⟩)] wr fun e w' => e = .returned (.int .i64 l.length) ∧ w' = wr := by
  obtain ⟨F, s, _⟩ := h
  exact len_any pb F l left wr s
theorem keep_blk (b T : Nat) (cs : Array Value) : Keep [b] (fun w => Blk w b T cs) := ⟨fun w h x hx => by simp at hx; subst hx; exact h.lt, fun w w' S h f hS => h.frame f (hS b (by simp))⟩
theorem keep_none : Keep [] (fun _ => True) := ⟨fun _ _ x hx => by simp at hx, fun _ _ _ _ _ _ => trivial⟩
end

end Go.Proofs.Ytbnhhmejlglbcaa

