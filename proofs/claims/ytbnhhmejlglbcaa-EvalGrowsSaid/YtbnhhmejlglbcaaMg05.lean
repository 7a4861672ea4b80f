/- circ: Len, is, Var, Plus, Times, Star. -/
import Derived.Test.YtbnhhmejlglbcaaMg03
import Derived.Test.YtbnhhmejlglbcaaMg04
namespace Go.Proofs.Ytbnhhmejlglbcaa
open Go.RowKit
set_option linter.unusedSimpArgs false
set_option linter.unusedVariables false

theorem len_any (pb : Nat) (F : List Nat) (l : List Gt) (left : Int) (w : World) (h : St w pb F l left) :
    Calls Try.prog 23 #[.pointer (some ⟨pb, 0, none⟩)] w fun e w' => e = .returned (.int .i64 l.length) ∧ w' = w := by
  obtain ⟨lb, cap, mb, kb, -, h0, -⟩ := h
  have c0 := h0.at 0 rfl
  go_enter Try.func23, Try.ntmps23
  go_wp2_with fail
  go_ret
  exact ⟨rfl, rfl⟩

theorem len_nil (w : World) : Calls Try.prog 23 #[.pointer none] w fun e w' => e = .returned (.int .i64 0) ∧ w' = w := by
  go_enter Try.func23, Try.ntmps23
  go_wp2_with fail
  go_ret
  exact ⟨rfl, rfl⟩

/-- A store's ops, on the gates and what is left. -/
def mkVar (t : Int) (l : List Gt) (left : Int) : (Int × Int) × List Gt × Int := if t < 1 then ((0, 1), l, left) else put ⟨3, t, 0⟩ l left

/-- Is it no gate's number? -/
def notG (n : Nat) (k : Int) : Bool := decide (k < 0) || decide ((n : Int) ≤ k)

theorem entered_is1 : Entered 56 := by intro args w; simp [go_sem]

theorem is1_any (sb n : Nat) (q : Option Addr) (k : Int) (w : World) (hs : Blk w sb 25 #[.pointer q])
    (h : Calls Try.prog 23 #[.pointer q] w fun e w' => e = .returned (.int .i64 n) ∧ w' = w) :
    Calls Try.prog 56 #[.int .i64 k, .pointer (some ⟨sb, 0, none⟩)] w fun e w' => e = .returned (.bool (notG n k)) ∧ Frame [] w w' := by
  have c0 := hs.at 0 rfl
  have H := Lib.hid h
  clear h
  by_cases hk : k < 0
  · have hr : Hid (notG n k = true) := by show notG n k = true; simp [notG, hk]
    go_enter Try.func56, Try.ntmps56
    go_wp2_with fail
    go_ret
    exact ⟨by rw [hr.out]; rfl, Frame.refl _ _⟩
  · have hr : Hid (notG n k = decide ((n : Int) ≤ k)) := by show notG n k = _; simp [notG, hk]
    go_enter Try.func56, Try.ntmps56
    go_wp2_with fail
    refine H.out.mono ?_
    rintro e w' ⟨rfl, rfl⟩
    go_wp2_with fail
    go_ret
    exact ⟨by rw [hr.out]; rfl, Frame.refl _ _⟩

/-- Are all of these gates' numbers? -/
def areG (n : Nat) (xs : List Int) : Bool := !xs.any (notG n)

/-- A store, or none: what Len says of it, and later. -/
def Lens (w : World) (q : Option Addr) (n : Nat) : Prop := ∀ w', Frame [] w w' → Calls Try.prog 23 #[.pointer q] w' fun e w'' => e = .returned (.int .i64 n) ∧ w'' = w'
theorem St.lens {w : World} {pb : Nat} {F : List Nat} {l : List Gt} {left : Int} (h : St w pb F l left) : Lens w (some ⟨pb, 0, none⟩) l.length := fun w' f => len_any pb F l left w' (h.frame0 f)
theorem lens_nil (w : World) : Lens w none 0 := fun w' _ => len_nil w'

theorem is_any (q : Option Addr) (n : Nat) (a : Option Addr) (cap : Nat) (xs : List Int) (w : World) (hx : RdI w a xs) (hl : xs.length ≤ 1073741824) (h : Lens w q n) :
    Calls Try.prog 37 #[.pointer q, .slice a xs.length cap] w fun e w' => e = .returned (.bool (areG n xs)) ∧ Frame [] w w' := by
  have hmf := run_makeFunc
  have H := Lib.hid h
  have HX := Lib.hid hx
  clear h hx
  go_enter Try.func37, Try.ntmps37
  go_wp2_with fail
  have fr : Frame [] w (w.alloc (.cells #[.pointer q] 25)) := Frame.alloc _ _ _
  have hT : TellsI (w.alloc (.cells #[.pointer q] 25)) 56 #[.pointer (some ⟨w.heap.size, 0, none⟩)] (notG n) := by
    refine ⟨entered_is1, fun w' f n' => ?_⟩
    rw [show (#[Value.int .i64 n'] ++ #[Value.pointer (some ⟨w.heap.size, 0, none⟩)]) = #[.int .i64 n', .pointer (some ⟨w.heap.size, 0, none⟩)] from rfl]
    exact is1_any w.heap.size n q n' w' ((Blk.new _ _ _).frame f (by simp)) (H.out w' (fr.trans1 f))
  refine (containsFunc_int a cap xs 56 _ (notG n) _ (HX.out.frame fr) hl hT).mono ?_
  rintro e w' ⟨rfl, f⟩
  go_wp2_with fail
  go_ret
  exact ⟨rfl, fr.trans1 f⟩

theorem var_any (pb : Nat) (F : List Nat) (l : List Gt) (left : Int) (t : Int) (w : World) (h : St w pb F l left) (h0 : 0 < l.length) :
    Calls Try.prog 15 #[.pointer (some ⟨pb, 0, none⟩), .int .i64 t] w fun e w' =>
      e = .returned (.tuple #[.int .i64 (mkVar t l left).1.1, .int .i64 (mkVar t l left).1.2]) ∧ StEnd w pb F (mkVar t l left).2.1 (mkVar t l left).2.2 w' := by
  have hz : ((l.length : Int) == 0) = false := by simp; intro e; subst e; simp at h0
  have H := Lib.hid h
  by_cases ht : t < 1
  · have hr : mkVar t l left = ((0, 1), l, left) := by simp [mkVar, ht]
    rw [hr]
    clear hr h
    go_enter Try.func15, Try.ntmps15
    go_wp2_with fail
    refine (len_any pb F l left _ H.out).mono ?_
    rintro e w' ⟨rfl, rfl⟩
    go_wp2_with fail
    go_ret2
    exact ⟨rfl, F, H.out, Frame.refl _ _, fun x hx => .inl hx⟩
  · have hr : mkVar t l left = put ⟨3, t, 0⟩ l left := by simp [mkVar, ht]
    rw [hr]
    clear hr h
    generalize hp : put ⟨3, t, 0⟩ l left = p at *
    have HP := Lib.hid hp
    clear hp
    go_enter Try.func15, Try.ntmps15
    go_wp2_with fail
    refine (len_any pb F l left _ H.out).mono ?_
    rintro e w' ⟨rfl, rfl⟩
    go_wp2_with fail
    refine (made_any pb F l left 3 t 0 _ H.out).mono ?_
    rw [HP.out]
    rintro e w' ⟨rfl, he⟩
    have HE := Lib.hid he
    clear he
    go_wp2_with fail
    go_ret2
    exact ⟨rfl, HE.out⟩

def mkPlus (a b : Int) (l : List Gt) (left : Int) : (Int × Int) × List Gt × Int :=
  if areG l.length [a, b] = false then ((0, 1), l, left) else if a = 0 then ((b, 0), l, left) else if b = 0 then ((a, 0), l, left) else put ⟨4, min a b, max a b⟩ l left
def mkTimes (a b : Int) (l : List Gt) (left : Int) : (Int × Int) × List Gt × Int :=
  if areG l.length [a, b] = false then ((0, 1), l, left) else if a = 0 then ((0, 0), l, left) else if b = 0 then ((0, 0), l, left) else if a = 1 then ((b, 0), l, left) else if b = 1 then ((a, 0), l, left) else put ⟨5, min a b, max a b⟩ l left
def mkStar (a : Int) (l : List Gt) (left : Int) : (Int × Int) × List Gt × Int :=
  if areG l.length [a] = false then ((0, 1), l, left) else if a = 0 then ((1, 0), l, left) else put ⟨6, a, 0⟩ l left

theorem StEnd.self {w w' : World} {pb : Nat} {F : List Nat} {l : List Gt} {left : Int} (h : St w pb F l left) (f : Frame [] w w') : StEnd w pb F l left w' := ⟨F, h.frame0 f, f.mono (by simp), fun _ hx => .inl hx⟩
theorem StEnd.behind {w w1 w' : World} {pb : Nat} {F : List Nat} {l : List Gt} {left : Int} (f : Frame [] w w1) (h : StEnd w1 pb F l left w') : StEnd w pb F l left w' := by
  obtain ⟨F', a, b, c⟩ := h
  exact ⟨F', a, (f.mono (by simp)).trans1 b, fun x hx => by rcases c x hx with h | h; exact .inl h; right; have := f.size; omega⟩

/-- A new slice of two ints; of one. -/
theorem RdI.two (w : World) (a b : Int) (T : TypeId) : RdI (w.alloc (.cells #[.int .i64 a, .int .i64 b] T)) (some ⟨w.heap.size, 0, none⟩) [a, b] :=
  .inr ⟨w.heap.size, 0, rfl, by simp, fun k hk => by
    have h := Blk.new w T #[.int .i64 a, .int .i64 b]
    match k, hk with
    | 0, _ => exact h.at 0 rfl
    | 1, _ => exact h.at 1 rfl⟩
theorem RdI.one (w : World) (a : Int) (T : TypeId) : RdI (w.alloc (.cells #[.int .i64 a] T)) (some ⟨w.heap.size, 0, none⟩) [a] :=
  .inr ⟨w.heap.size, 0, rfl, by simp, fun k hk => by
    have h := Blk.new w T #[.int .i64 a]
    match k, hk with
    | 0, _ => exact h.at 0 rfl⟩

theorem plus_any (pb : Nat) (F : List Nat) (l : List Gt) (left : Int) (a b : Int) (w : World) (h : St w pb F l left) (h0 : 0 < l.length) :
    Calls Try.prog 17 #[.pointer (some ⟨pb, 0, none⟩), .int .i64 a, .int .i64 b] w fun e w' =>
      e = .returned (.tuple #[.int .i64 (mkPlus a b l left).1.1, .int .i64 (mkPlus a b l left).1.2]) ∧ StEnd w pb F (mkPlus a b l left).2.1 (mkPlus a b l left).2.2 w' := by
  have H := Lib.hid h
  clear h
  unfold mkPlus
  cases hA : areG l.length [a, b] with
  | false =>
    simp only [if_true]
    go_enter Try.func17, Try.ntmps17
    go_wp2_with fail
    have fr : Frame [] w (w.alloc (.cells #[.int .i64 a, .int .i64 b] 3)) := Frame.alloc _ _ _
    refine (is_any (some ⟨pb, 0, none⟩) l.length _ 2 [a, b] _ (RdI.two _ _ _ _) (by simp) (H.out.frame0 fr).lens).mono ?_
    rintro e w1 ⟨rfl, f1⟩
    have f2 := Lib.hid (fr.trans1 f1)
    clear f1 fr
    go_wp2_with fail
    go_ret2
    exact ⟨rfl, StEnd.self H.out f2.out⟩
  | true =>
    simp only [Bool.true_eq_false, if_false]
    by_cases hc : a = 0
    · simp only [if_pos hc]
      have q1 : (a == 0) = true := by simp [hc]
      clear hc
      go_enter Try.func17, Try.ntmps17
      go_wp2_with fail
      have fr : Frame [] w (w.alloc (.cells #[.int .i64 a, .int .i64 b] 3)) := Frame.alloc _ _ _
      refine (is_any (some ⟨pb, 0, none⟩) l.length _ 2 [a, b] _ (RdI.two _ _ _ _) (by simp) (H.out.frame0 fr).lens).mono ?_
      rintro e w1 ⟨rfl, f1⟩
      have f2 := Lib.hid (fr.trans1 f1)
      clear f1 fr
      go_wp2_with fail
      go_ret2
      exact ⟨rfl, StEnd.self H.out f2.out⟩
    · simp only [if_neg hc]
      have q1 : (a == 0) = false := by simp [hc]
      clear hc
      by_cases hc : b = 0
      · simp only [if_pos hc]
        have q2 : (b == 0) = true := by simp [hc]
        clear hc
        go_enter Try.func17, Try.ntmps17
        go_wp2_with fail
        have fr : Frame [] w (w.alloc (.cells #[.int .i64 a, .int .i64 b] 3)) := Frame.alloc _ _ _
        refine (is_any (some ⟨pb, 0, none⟩) l.length _ 2 [a, b] _ (RdI.two _ _ _ _) (by simp) (H.out.frame0 fr).lens).mono ?_
        rintro e w1 ⟨rfl, f1⟩
        have f2 := Lib.hid (fr.trans1 f1)
        clear f1 fr
        go_wp2_with fail
        go_ret2
        exact ⟨rfl, StEnd.self H.out f2.out⟩
      · simp only [if_neg hc]
        have q2 : (b == 0) = false := by simp [hc]
        clear hc
        rcases (by omega : a < b ∨ b < a ∨ a = b) with hab | hab | rfl
        · have e1 : min a b = a := by omega
          have e2 : max a b = b := by omega
          rw [e1, e2]
          clear e1 e2
          generalize hp : put ⟨4, a, b⟩ l left = p at *
          have HP := Lib.hid hp
          clear hp
          go_enter Try.func17, Try.ntmps17
          go_wp2_with fail
          have fr : Frame [] w (w.alloc (.cells #[.int .i64 a, .int .i64 b] 3)) := Frame.alloc _ _ _
          refine (is_any (some ⟨pb, 0, none⟩) l.length _ 2 [a, b] _ (RdI.two _ _ _ _) (by simp) (H.out.frame0 fr).lens).mono ?_
          rintro e w1 ⟨rfl, f1⟩
          have f2 := Lib.hid (fr.trans1 f1)
          clear f1 fr
          go_wp2_with fail
          refine (made_any pb F l left 4 a b w1 (H.out.frame0 f2.out)).mono ?_
          rw [HP.out]
          rintro e w' ⟨rfl, he⟩
          have HE := Lib.hid he
          clear he
          go_wp2_with fail
          go_ret2
          exact ⟨rfl, HE.out.behind f2.out⟩
        · have e1 : min a b = b := by omega
          have e2 : max a b = a := by omega
          rw [e1, e2]
          clear e1 e2
          generalize hp : put ⟨4, b, a⟩ l left = p at *
          have HP := Lib.hid hp
          clear hp
          go_enter Try.func17, Try.ntmps17
          go_wp2_with fail
          have fr : Frame [] w (w.alloc (.cells #[.int .i64 a, .int .i64 b] 3)) := Frame.alloc _ _ _
          refine (is_any (some ⟨pb, 0, none⟩) l.length _ 2 [a, b] _ (RdI.two _ _ _ _) (by simp) (H.out.frame0 fr).lens).mono ?_
          rintro e w1 ⟨rfl, f1⟩
          have f2 := Lib.hid (fr.trans1 f1)
          clear f1 fr
          go_wp2_with fail
          refine (made_any pb F l left 4 b a w1 (H.out.frame0 f2.out)).mono ?_
          rw [HP.out]
          rintro e w' ⟨rfl, he⟩
          have HE := Lib.hid he
          clear he
          go_wp2_with fail
          go_ret2
          exact ⟨rfl, HE.out.behind f2.out⟩
        · have e1 : min a a = a := by omega
          have e2 : max a a = a := by omega
          rw [e1, e2]
          clear e1 e2
          generalize hp : put ⟨4, a, a⟩ l left = p at *
          have HP := Lib.hid hp
          clear hp
          go_enter Try.func17, Try.ntmps17
          go_wp2_with fail
          have fr : Frame [] w (w.alloc (.cells #[.int .i64 a, .int .i64 a] 3)) := Frame.alloc _ _ _
          refine (is_any (some ⟨pb, 0, none⟩) l.length _ 2 [a, a] _ (RdI.two _ _ _ _) (by simp) (H.out.frame0 fr).lens).mono ?_
          rintro e w1 ⟨rfl, f1⟩
          have f2 := Lib.hid (fr.trans1 f1)
          clear f1 fr
          go_wp2_with fail
          refine (made_any pb F l left 4 a a w1 (H.out.frame0 f2.out)).mono ?_
          rw [HP.out]
          rintro e w' ⟨rfl, he⟩
          have HE := Lib.hid he
          clear he
          go_wp2_with fail
          go_ret2
          exact ⟨rfl, HE.out.behind f2.out⟩

theorem times_any (pb : Nat) (F : List Nat) (l : List Gt) (left : Int) (a b : Int) (w : World) (h : St w pb F l left) (h0 : 0 < l.length) :
    Calls Try.prog 19 #[.pointer (some ⟨pb, 0, none⟩), .int .i64 a, .int .i64 b] w fun e w' =>
      e = .returned (.tuple #[.int .i64 (mkTimes a b l left).1.1, .int .i64 (mkTimes a b l left).1.2]) ∧ StEnd w pb F (mkTimes a b l left).2.1 (mkTimes a b l left).2.2 w' := by
  have H := Lib.hid h
  clear h
  unfold mkTimes
  cases hA : areG l.length [a, b] with
  | false =>
    simp only [if_true]
    go_enter Try.func19, Try.ntmps19
    go_wp2_with fail
    have fr : Frame [] w (w.alloc (.cells #[.int .i64 a, .int .i64 b] 3)) := Frame.alloc _ _ _
    refine (is_any (some ⟨pb, 0, none⟩) l.length _ 2 [a, b] _ (RdI.two _ _ _ _) (by simp) (H.out.frame0 fr).lens).mono ?_
    rintro e w1 ⟨rfl, f1⟩
    have f2 := Lib.hid (fr.trans1 f1)
    clear f1 fr
    go_wp2_with fail
    go_ret2
    exact ⟨rfl, StEnd.self H.out f2.out⟩
  | true =>
    simp only [Bool.true_eq_false, if_false]
    by_cases hc : a = 0
    · simp only [if_pos hc]
      have q1 : (a == 0) = true := by simp [hc]
      clear hc
      go_enter Try.func19, Try.ntmps19
      go_wp2_with fail
      have fr : Frame [] w (w.alloc (.cells #[.int .i64 a, .int .i64 b] 3)) := Frame.alloc _ _ _
      refine (is_any (some ⟨pb, 0, none⟩) l.length _ 2 [a, b] _ (RdI.two _ _ _ _) (by simp) (H.out.frame0 fr).lens).mono ?_
      rintro e w1 ⟨rfl, f1⟩
      have f2 := Lib.hid (fr.trans1 f1)
      clear f1 fr
      go_wp2_with fail
      go_ret2
      exact ⟨rfl, StEnd.self H.out f2.out⟩
    · simp only [if_neg hc]
      have q1 : (a == 0) = false := by simp [hc]
      clear hc
      by_cases hc : b = 0
      · simp only [if_pos hc]
        have q2 : (b == 0) = true := by simp [hc]
        clear hc
        go_enter Try.func19, Try.ntmps19
        go_wp2_with fail
        have fr : Frame [] w (w.alloc (.cells #[.int .i64 a, .int .i64 b] 3)) := Frame.alloc _ _ _
        refine (is_any (some ⟨pb, 0, none⟩) l.length _ 2 [a, b] _ (RdI.two _ _ _ _) (by simp) (H.out.frame0 fr).lens).mono ?_
        rintro e w1 ⟨rfl, f1⟩
        have f2 := Lib.hid (fr.trans1 f1)
        clear f1 fr
        go_wp2_with fail
        go_ret2
        exact ⟨rfl, StEnd.self H.out f2.out⟩
      · simp only [if_neg hc]
        have q2 : (b == 0) = false := by simp [hc]
        clear hc
        by_cases hc : a = 1
        · simp only [if_pos hc]
          have q3 : (a == 1) = true := by simp [hc]
          clear hc
          go_enter Try.func19, Try.ntmps19
          go_wp2_with fail
          have fr : Frame [] w (w.alloc (.cells #[.int .i64 a, .int .i64 b] 3)) := Frame.alloc _ _ _
          refine (is_any (some ⟨pb, 0, none⟩) l.length _ 2 [a, b] _ (RdI.two _ _ _ _) (by simp) (H.out.frame0 fr).lens).mono ?_
          rintro e w1 ⟨rfl, f1⟩
          have f2 := Lib.hid (fr.trans1 f1)
          clear f1 fr
          go_wp2_with fail
          go_ret2
          exact ⟨rfl, StEnd.self H.out f2.out⟩
        · simp only [if_neg hc]
          have q3 : (a == 1) = false := by simp [hc]
          clear hc
          by_cases hc : b = 1
          · simp only [if_pos hc]
            have q4 : (b == 1) = true := by simp [hc]
            clear hc
            go_enter Try.func19, Try.ntmps19
            go_wp2_with fail
            have fr : Frame [] w (w.alloc (.cells #[.int .i64 a, .int .i64 b] 3)) := Frame.alloc _ _ _
            refine (is_any (some ⟨pb, 0, none⟩) l.length _ 2 [a, b] _ (RdI.two _ _ _ _) (by simp) (H.out.frame0 fr).lens).mono ?_
            rintro e w1 ⟨rfl, f1⟩
            have f2 := Lib.hid (fr.trans1 f1)
            clear f1 fr
            go_wp2_with fail
            go_ret2
            exact ⟨rfl, StEnd.self H.out f2.out⟩
          · simp only [if_neg hc]
            have q4 : (b == 1) = false := by simp [hc]
            clear hc
            rcases (by omega : a < b ∨ b < a ∨ a = b) with hab | hab | rfl
            · have e1 : min a b = a := by omega
              have e2 : max a b = b := by omega
              rw [e1, e2]
              clear e1 e2
              generalize hp : put ⟨5, a, b⟩ l left = p at *
              have HP := Lib.hid hp
              clear hp
              go_enter Try.func19, Try.ntmps19
              go_wp2_with fail
              have fr : Frame [] w (w.alloc (.cells #[.int .i64 a, .int .i64 b] 3)) := Frame.alloc _ _ _
              refine (is_any (some ⟨pb, 0, none⟩) l.length _ 2 [a, b] _ (RdI.two _ _ _ _) (by simp) (H.out.frame0 fr).lens).mono ?_
              rintro e w1 ⟨rfl, f1⟩
              have f2 := Lib.hid (fr.trans1 f1)
              clear f1 fr
              go_wp2_with fail
              refine (made_any pb F l left 5 a b w1 (H.out.frame0 f2.out)).mono ?_
              rw [HP.out]
              rintro e w' ⟨rfl, he⟩
              have HE := Lib.hid he
              clear he
              go_wp2_with fail
              go_ret2
              exact ⟨rfl, HE.out.behind f2.out⟩
            · have e1 : min a b = b := by omega
              have e2 : max a b = a := by omega
              rw [e1, e2]
              clear e1 e2
              generalize hp : put ⟨5, b, a⟩ l left = p at *
              have HP := Lib.hid hp
              clear hp
              go_enter Try.func19, Try.ntmps19
              go_wp2_with fail
              have fr : Frame [] w (w.alloc (.cells #[.int .i64 a, .int .i64 b] 3)) := Frame.alloc _ _ _
              refine (is_any (some ⟨pb, 0, none⟩) l.length _ 2 [a, b] _ (RdI.two _ _ _ _) (by simp) (H.out.frame0 fr).lens).mono ?_
              rintro e w1 ⟨rfl, f1⟩
              have f2 := Lib.hid (fr.trans1 f1)
              clear f1 fr
              go_wp2_with fail
              refine (made_any pb F l left 5 b a w1 (H.out.frame0 f2.out)).mono ?_
              rw [HP.out]
              rintro e w' ⟨rfl, he⟩
              have HE := Lib.hid he
              clear he
              go_wp2_with fail
              go_ret2
              exact ⟨rfl, HE.out.behind f2.out⟩
            · have e1 : min a a = a := by omega
              have e2 : max a a = a := by omega
              rw [e1, e2]
              clear e1 e2
              generalize hp : put ⟨5, a, a⟩ l left = p at *
              have HP := Lib.hid hp
              clear hp
              go_enter Try.func19, Try.ntmps19
              go_wp2_with fail
              have fr : Frame [] w (w.alloc (.cells #[.int .i64 a, .int .i64 a] 3)) := Frame.alloc _ _ _
              refine (is_any (some ⟨pb, 0, none⟩) l.length _ 2 [a, a] _ (RdI.two _ _ _ _) (by simp) (H.out.frame0 fr).lens).mono ?_
              rintro e w1 ⟨rfl, f1⟩
              have f2 := Lib.hid (fr.trans1 f1)
              clear f1 fr
              go_wp2_with fail
              refine (made_any pb F l left 5 a a w1 (H.out.frame0 f2.out)).mono ?_
              rw [HP.out]
              rintro e w' ⟨rfl, he⟩
              have HE := Lib.hid he
              clear he
              go_wp2_with fail
              go_ret2
              exact ⟨rfl, HE.out.behind f2.out⟩

theorem star_any (pb : Nat) (F : List Nat) (l : List Gt) (left : Int) (a : Int) (w : World) (h : St w pb F l left) (h0 : 0 < l.length) :
    Calls Try.prog 21 #[.pointer (some ⟨pb, 0, none⟩), .int .i64 a] w fun e w' =>
      e = .returned (.tuple #[.int .i64 (mkStar a l left).1.1, .int .i64 (mkStar a l left).1.2]) ∧ StEnd w pb F (mkStar a l left).2.1 (mkStar a l left).2.2 w' := by
  have H := Lib.hid h
  clear h
  unfold mkStar
  cases hA : areG l.length [a] with
  | false =>
    simp only [if_true]
    go_enter Try.func21, Try.ntmps21
    go_wp2_with fail
    have fr : Frame [] w (w.alloc (.cells #[.int .i64 a] 3)) := Frame.alloc _ _ _
    refine (is_any (some ⟨pb, 0, none⟩) l.length _ 1 [a] _ (RdI.one _ _ _) (by simp) (H.out.frame0 fr).lens).mono ?_
    rintro e w1 ⟨rfl, f1⟩
    have f2 := Lib.hid (fr.trans1 f1)
    clear f1 fr
    go_wp2_with fail
    go_ret2
    exact ⟨rfl, StEnd.self H.out f2.out⟩
  | true =>
    simp only [Bool.true_eq_false, if_false]
    by_cases hc : a = 0
    · simp only [if_pos hc]
      have q1 : (a == 0) = true := by simp [hc]
      clear hc
      go_enter Try.func21, Try.ntmps21
      go_wp2_with fail
      have fr : Frame [] w (w.alloc (.cells #[.int .i64 a] 3)) := Frame.alloc _ _ _
      refine (is_any (some ⟨pb, 0, none⟩) l.length _ 1 [a] _ (RdI.one _ _ _) (by simp) (H.out.frame0 fr).lens).mono ?_
      rintro e w1 ⟨rfl, f1⟩
      have f2 := Lib.hid (fr.trans1 f1)
      clear f1 fr
      go_wp2_with fail
      go_ret2
      exact ⟨rfl, StEnd.self H.out f2.out⟩
    · simp only [if_neg hc]
      have q1 : (a == 0) = false := by simp [hc]
      clear hc
      generalize hp : put ⟨6, a, 0⟩ l left = p at *
      have HP := Lib.hid hp
      clear hp
      go_enter Try.func21, Try.ntmps21
      go_wp2_with fail
      have fr : Frame [] w (w.alloc (.cells #[.int .i64 a] 3)) := Frame.alloc _ _ _
      refine (is_any (some ⟨pb, 0, none⟩) l.length _ 1 [a] _ (RdI.one _ _ _) (by simp) (H.out.frame0 fr).lens).mono ?_
      rintro e w1 ⟨rfl, f1⟩
      have f2 := Lib.hid (fr.trans1 f1)
      clear f1 fr
      go_wp2_with fail
      refine (made_any pb F l left 6 a 0 w1 (H.out.frame0 f2.out)).mono ?_
      rw [HP.out]
      rintro e w' ⟨rfl, he⟩
      have HE := Lib.hid he
      clear he
      go_wp2_with fail
      go_ret2
      exact ⟨rfl, HE.out.behind f2.out⟩

end Go.Proofs.Ytbnhhmejlglbcaa

