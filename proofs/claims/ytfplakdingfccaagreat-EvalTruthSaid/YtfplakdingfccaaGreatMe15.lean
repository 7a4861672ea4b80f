/- What holds of a store's gates, whatever was done. -/
import Derived.Test.YtfplakdingfccaaGreatMe14
namespace Go.Proofs.YtfplakdingfccaaGreat
open Go.RowKit
set_option linter.unusedSimpArgs false
set_option linter.unusedVariables false

/-- May a gate stand at place i? -/
def Wfg (i : Nat) (g : Gt) : Prop := (4 ≤ g.k → g.a < i ∧ g.b < i ∧ 1 ≤ g.a) ∧ ((g.k = 4 ∨ g.k = 5) → g.a ≤ g.b)
structure Inv (l : List Gt) : Prop where
  good : Good l
  nodup : l.Nodup
  wf : ∀ i g, l[i]? = some g → Wfg i g

theorem inv_init : Inv init := ⟨⟨[], by simp⟩, by decide, fun i g h => by
  match i, h with
  | 0, h => simp [init] at h; subst h; simp [Wfg]
  | 1, h => simp [init] at h; subst h; simp [Wfg]
  | i + 2, h => simp [init] at h⟩

theorem put_inv {g : Gt} {l : List Gt} {left : Int} (h : Inv l) (hg : Wfg l.length g) : Inv (put g l left).2.1 ∧ (put g l left).2.1.length ≤ l.length + 1 ∧ l.length ≤ (put g l left).2.1.length := by
  unfold put
  cases hf : find g l 0 with
  | some k => exact ⟨h, by simp, by simp⟩
  | none =>
    simp only
    split
    · refine ⟨⟨h.good.ext ⟨[g], rfl⟩, ?_, ?_⟩, by simp, by simp⟩
      · rw [List.nodup_append]
        exact ⟨h.nodup, by simp, fun a ha b hb => by simp at hb; subst hb; intro e; subst e; exact find_mem hf ha⟩
      · intro i x hx
        rcases Nat.lt_trichotomy i l.length with hl | hl | hl
        · rw [List.getElem?_append_left hl] at hx; exact h.wf i x hx
        · subst hl; simp at hx; subst hx; exact hg
        · rw [List.getElem?_append_right (by omega)] at hx
          rw [List.getElem?_eq_none (by simp; omega)] at hx; cases hx
    · exact ⟨h, by simp, by simp⟩
theorem put_twice (g : Gt) (l : List Gt) (left : Int) : (put g (put g l left).2.1 (put g l left).2.2).2 = (put g l left).2 := by
  unfold put
  cases hf : find g l 0 with
  | some k => simp [hf]
  | none =>
    by_cases h1 : 1 ≤ left
    · have hf' : find g (l ++ [g]) 0 = some l.length := by rw [find_app, hf]; simp [find]
      simp [h1, hf']
    · simp [h1, hf]

theorem areG_mono {l l' : List Gt} {xs : List Int} (h : areG l.length xs = true) (e : l.length ≤ l'.length) : areG l'.length xs = true := by
  apply areG_ok
  intro x hx
  simp only [areG, Bool.not_eq_true', List.any_eq_false, notG, Bool.or_eq_true, decide_eq_true_eq, not_or] at h
  have := h x hx; omega
theorem areG_two {n : Nat} {a b : Int} (h : areG n [a, b] = true) : 0 ≤ a ∧ a < n ∧ 0 ≤ b ∧ b < n := by
  simp only [areG, Bool.not_eq_true', List.any_eq_false, notG, Bool.or_eq_true, decide_eq_true_eq, not_or] at h
  have h1 := h a (by simp); have h2 := h b (by simp); omega
theorem areG_one {n : Nat} {a : Int} (h : areG n [a] = true) : 0 ≤ a ∧ a < n := by
  simp only [areG, Bool.not_eq_true', List.any_eq_false, notG, Bool.or_eq_true, decide_eq_true_eq, not_or] at h
  have h1 := h a (by simp); omega

/-- An op, and what is left behind it. -/
def After (f : List Gt → Int → (Int × Int) × List Gt × Int) : Prop :=
  (∀ l left, Inv l → Inv (f l left).2.1 ∧ (f l left).2.1.length ≤ l.length + 1 ∧ l.length ≤ (f l left).2.1.length) ∧ ∀ l left, Inv l → (f (f l left).2.1 (f l left).2.2).2 = (f l left).2

theorem var_after (t : Int) : After (mkVar t) := by
  refine ⟨fun l left h => ?_, fun l left h => ?_⟩
  · unfold mkVar; split
    · exact ⟨h, by simp, by simp⟩
    · exact put_inv h (by simp [Wfg])
  · by_cases ht : t < 1
    · simp [mkVar, ht]
    · simp only [mkVar, if_neg ht]; exact put_twice _ _ _
theorem plus_after (a b : Int) : After (mkPlus a b) := by
  have key : ∀ l left, Inv l → Inv (mkPlus a b l left).2.1 ∧ (mkPlus a b l left).2.1.length ≤ l.length + 1 ∧ l.length ≤ (mkPlus a b l left).2.1.length := by
    intro l left h
    unfold mkPlus
    split
    · exact ⟨h, by simp, by simp⟩
    · split
      · exact ⟨h, by simp, by simp⟩
      · split
        · exact ⟨h, by simp, by simp⟩
        · rename_i h1 h2 h3
          have := areG_two (by simpa using h1 : areG l.length [a, b] = true)
          exact put_inv h ⟨fun _ => ⟨by simp; omega, by simp; omega, by simp; omega⟩, fun _ => by simp; omega⟩
  refine ⟨key, fun l left h => ?_⟩
  have hk := key l left h
  cases hA : areG l.length [a, b] with
  | false => simp [mkPlus, hA]
  | true =>
    by_cases ha : a = 0
    · subst ha; simp [mkPlus, hA]
    · by_cases hb : b = 0
      · subst hb; simp [mkPlus, hA, ha]
      · have e : ∀ l2 left2, areG l2.length [a, b] = true → mkPlus a b l2 left2 = put ⟨4, min a b, max a b⟩ l2 left2 := by
          intro l2 left2 h2; simp [mkPlus, h2, ha, hb]
        rw [e _ _ (areG_mono hA hk.2.2), e l left hA]
        exact put_twice _ _ _
theorem times_after (a b : Int) : After (mkTimes a b) := by
  have key : ∀ l left, Inv l → Inv (mkTimes a b l left).2.1 ∧ (mkTimes a b l left).2.1.length ≤ l.length + 1 ∧ l.length ≤ (mkTimes a b l left).2.1.length := by
    intro l left h
    unfold mkTimes
    repeat' split
    all_goals first
      | exact ⟨h, by simp, by simp⟩
      | (rename_i h1 h2 h3 h4 h5
         have := areG_two (by simpa using h1 : areG l.length [a, b] = true)
         exact put_inv h ⟨fun _ => ⟨by simp; omega, by simp; omega, by simp; omega⟩, fun _ => by simp; omega⟩)
  refine ⟨key, fun l left h => ?_⟩
  have hk := key l left h
  cases hA : areG l.length [a, b] with
  | false => simp [mkTimes, hA]
  | true =>
    by_cases ha : a = 0
    · subst ha; simp [mkTimes, hA]
    · by_cases hb : b = 0
      · subst hb; simp [mkTimes, hA, ha]
      · by_cases ha1 : a = 1
        · subst ha1; simp [mkTimes, hA, hb]
        · by_cases hb1 : b = 1
          · subst hb1; simp [mkTimes, hA, ha, ha1]
          · have e : ∀ l2 left2, areG l2.length [a, b] = true → mkTimes a b l2 left2 = put ⟨5, min a b, max a b⟩ l2 left2 := by
              intro l2 left2 h2; simp [mkTimes, h2, ha, hb, ha1, hb1]
            rw [e _ _ (areG_mono hA hk.2.2), e l left hA]
            exact put_twice _ _ _
theorem star_after (a : Int) : After (mkStar a) := by
  have key : ∀ l left, Inv l → Inv (mkStar a l left).2.1 ∧ (mkStar a l left).2.1.length ≤ l.length + 1 ∧ l.length ≤ (mkStar a l left).2.1.length := by
    intro l left h
    unfold mkStar
    repeat' split
    all_goals first
      | exact ⟨h, by simp, by simp⟩
      | (rename_i h1 h2
         have := areG_one (by simpa using h1 : areG l.length [a] = true)
         have hl := h.good.len
         exact put_inv h ⟨fun _ => ⟨by simp; omega, by simp; omega, by simp; omega⟩, fun h => by simp at h⟩)
  refine ⟨key, fun l left h => ?_⟩
  have hk := key l left h
  cases hA : areG l.length [a] with
  | false => simp [mkStar, hA]
  | true =>
    by_cases ha : a = 0
    · subst ha; simp [mkStar, hA]
    · have e : ∀ l2 left2, areG l2.length [a] = true → mkStar a l2 left2 = put ⟨6, a, 0⟩ l2 left2 := by
        intro l2 left2 h2; simp [mkStar, h2, ha]
      rw [e _ _ (areG_mono hA hk.2.2), e l left hA]
      exact put_twice _ _ _
theorem none_after : After (fun l left => ((0, 0), l, left)) := ⟨fun l left h => ⟨h, by simp, by simp⟩, fun _ _ _ => rfl⟩

/-- The op of a step of CircAlike. -/
def opA (kind a b : Int) : List Gt → Int → (Int × Int) × List Gt × Int :=
  if kind = 1 then mkVar (a + 1) else if kind = 2 then mkPlus a b else if kind = 3 then mkTimes b a else if kind = 4 then mkStar a else fun l left => ((0, 0), l, left)
theorem opA_after (kind a b : Int) : After (opA kind a b) := by
  unfold opA
  repeat' split
  · exact var_after _
  · exact plus_after _ _
  · exact times_after _ _
  · exact star_after _
  · exact none_after

/-- What goes on beside a store: memory that its calls do not write. -/
structure Keep (KB : List Nat) (Kp : World → Prop) : Prop where
  lt : ∀ w, Kp w → ∀ x ∈ KB, x < w.heap.size
  st : ∀ w w' S, Kp w → Frame S w w' → (∀ x ∈ KB, x ∉ S) → Kp w'
def GK (w : World) (pb : Nat) (KB : List Nat) (Kp : World → Prop) (l : List Gt) (left : Int) (wr : World) : Prop :=
  ∃ F, St wr pb F l left ∧ Frame [] w wr ∧ (∀ x ∈ F, w.heap.size ≤ x) ∧ Kp wr ∧ (∀ x ∈ KB, x ∉ F) ∧ 2 ≤ l.length
section
variable {w wr w' : World} {pb : Nat} {KB : List Nat} {Kp : World → Prop} {l l' : List Gt} {left left' : Int}
theorem GK.step (hK : Keep KB Kp) {F : List Nat} (f : Frame [] w wr) (n : ∀ x ∈ F, w.heap.size ≤ x) (r : Kp wr) (hb : ∀ x ∈ KB, x ∉ F) (hl : 2 ≤ l'.length) (h : StEnd wr pb F l' left' w') : GK w pb KB Kp l' left' w' := by
  obtain ⟨F', a, b', c⟩ := h
  have hz := f.size
  refine ⟨F', a, f.trans b' (fun x hx => .inr (n x hx)), fun x hx => by rcases c x hx with h | h; exact n x h; omega, hK.st _ _ _ r b' hb, fun x hx hm => ?_, hl⟩
  rcases c _ hm with h | h
  · exact hb x hx h
  · have := hK.lt _ r x hx; omega
theorem GK.quiet (hK : Keep KB Kp) (h : GK w pb KB Kp l left wr) (f : Frame [] wr w') : GK w pb KB Kp l left w' := by
  obtain ⟨F, s, f1, n, r, hb, hl⟩ := h
  exact ⟨F, s.frame0 f, f1.trans1 f, n, hK.st _ _ _ r f (by simp), hb, hl⟩
theorem GK.frame (h : GK w pb KB Kp l left wr) : Frame [] w wr := by obtain ⟨_, _, f, _⟩ := h; exact f
theorem GK.var (hK : Keep KB Kp) (h : GK w pb KB Kp l left wr) (t : Int) (hl : 2 ≤ (mkVar t l left).2.1.length) :
    Calls Tryz.prog 39 #[.pointer (some ⟨pb, 0, none⟩), .int .i64 t] wr fun e w' => e = .returned (.tuple #[.int .i64 (mkVar t l left).1.1, .int .i64 (mkVar t l left).1.2]) ∧ GK w pb KB Kp (mkVar t l left).2.1 (mkVar t l left).2.2 w' := by
  obtain ⟨F, s, f, n, r, hb, h2⟩ := h
  exact (var_any pb F l left t wr s (by omega)).mono fun e w' ⟨h1, h2⟩ => ⟨h1, GK.step hK f n r hb hl h2⟩
theorem GK.plus (hK : Keep KB Kp) (h : GK w pb KB Kp l left wr) (a b : Int) (hl : 2 ≤ (mkPlus a b l left).2.1.length) :
    Calls Tryz.prog 41 #[.pointer (some ⟨pb, 0, none⟩), .int .i64 a, .int .i64 b] wr fun e w' => e = .returned (.tuple #[.int .i64 (mkPlus a b l left).1.1, .int .i64 (mkPlus a b l left).1.2]) ∧ GK w pb KB Kp (mkPlus a b l left).2.1 (mkPlus a b l left).2.2 w' := by
  obtain ⟨F, s, f, n, r, hb, h2⟩ := h
  exact (plus_any pb F l left a b wr s (by omega)).mono fun e w' ⟨h1, h2⟩ => ⟨h1, GK.step hK f n r hb hl h2⟩
theorem GK.times (hK : Keep KB Kp) (h : GK w pb KB Kp l left wr) (a b : Int) (hl : 2 ≤ (mkTimes a b l left).2.1.length) :
    Calls Tryz.prog 43 #[.pointer (some ⟨pb, 0, none⟩), .int .i64 a, .int .i64 b] wr fun e w' => e = .returned (.tuple #[.int .i64 (mkTimes a b l left).1.1, .int .i64 (mkTimes a b l left).1.2]) ∧ GK w pb KB Kp (mkTimes a b l left).2.1 (mkTimes a b l left).2.2 w' := by
  obtain ⟨F, s, f, n, r, hb, h2⟩ := h
  exact (times_any pb F l left a b wr s (by omega)).mono fun e w' ⟨h1, h2⟩ => ⟨h1, GK.step hK f n r hb hl h2⟩
theorem GK.star (hK : Keep KB Kp) (h : GK w pb KB Kp l left wr) (a : Int) (hl : 2 ≤ (mkStar a l left).2.1.length) :
    Calls Tryz.prog 45 #[.pointer (some ⟨pb, 0, none⟩), .int .i64 a] wr fun e w' => e = .returned (.tuple #[.int .i64 (mkStar a l left).1.1, .int .i64 (mkStar a l left).1.2]) ∧ GK w pb KB Kp (mkStar a l left).2.1 (mkStar a l left).2.2 w' := by
  obtain ⟨F, s, f, n, r, hb, h2⟩ := h
  exact (star_any pb F l left a wr s (by omega)).mono fun e w' ⟨h1, h2⟩ => ⟨h1, GK.step hK f n r hb hl h2⟩
theorem GK.len (h : GK w pb KB Kp l left wr) : Calls Tryz.prog 47 #[.pointer (some ⟨pb, 0, none⟩)] wr fun e w' => e = .returned (.int .i64 l.length) ∧ w' = wr := by
  obtain ⟨F, s, _⟩ := h
  exact len_any pb F l left wr s
theorem keep_blk (b T : Nat) (cs : Array Value) : Keep [b] (fun w => Blk w b T cs) := ⟨fun w h x hx => by simp at hx; subst hx; exact h.lt, fun w w' S h f hS => h.frame f (hS b (by simp))⟩
theorem keep_none : Keep [] (fun _ => True) := ⟨fun _ _ x hx => by simp at hx, fun _ _ _ _ _ _ => trivial⟩
end

end Go.Proofs.YtfplakdingfccaaGreat

