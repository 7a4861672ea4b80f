/- The reference store's calls. The reference store's Sum. -/
import Derived.Test.YtbnhhmejlglbcaaMg13
import Derived.Test.YtbnhhmejlglbcaaMg06
namespace Go.Proofs.Ytbnhhmejlglbcaa
open Go.RowKit
set_option linter.unusedSimpArgs false
set_option linter.unusedVariables false

def RMade (b : Int) (w : World) (e : Ending) (w' : World) : Prop := ∃ pb F, e = .returned (.pointer (some ⟨pb, 0, none⟩)) ∧ RSt w' pb F init (room b + 2) ∧ Frame [] w w' ∧ ∀ x ∈ F, w.heap.size ≤ x
theorem rnew_any (b : Int) (w : World) : Calls Try.prog 14 #[.int .i64 b] w (RMade b w) := by
  obtain ⟨m, hm, hcase⟩ : ∃ m, Hid (room b + 2 = m) ∧ ((b ≤ 2 ∧ m = 2) ∨ (2 < b ∧ b ≤ 1073741824 ∧ m = b) ∨ (1073741824 < b ∧ m = 1073741824)) := ⟨_, rfl, by unfold room; omega⟩
  rcases hcase with ⟨h1, rfl⟩ | ⟨h1, h2, hmb⟩ | ⟨h1, rfl⟩
  · go_enter Try.func14, Try.ntmps14
    go_wp2_with fail
    go_ret
    have b1 := Blk.new w 61 #[.int .i64 1, .int .i64 0, .int .i64 0, .int .i64 2, .int .i64 0, .int .i64 0]
    have sl : Sl (w.alloc (.cells #[.int .i64 1, .int .i64 0, .int .i64 0, .int .i64 2, .int .i64 0, .int .i64 0] 61)) 61 3 Gt.cs (.slice (some ⟨w.heap.size, 0, none⟩) init.length 2) init [w.heap.size] := Sl.of_blk b1 (by decide) (by decide) rfl rfl
    refine ⟨_, _, rfl, ⟨some ⟨w.heap.size, 0, none⟩, 2, [w.heap.size], ?_, sl.frame0 (Frame.alloc _ _ _), ?_, rfl⟩, (Frame.alloc _ _ _).trans1 (Frame.alloc _ _ _), ?_⟩
    · rw [hm.out, show init.length = 2 from rfl]
      have := Blk.new (w.alloc (.cells #[.int .i64 1, .int .i64 0, .int .i64 0, .int .i64 2, .int .i64 0, .int .i64 0] 61)) 33 #[.slice (some ⟨w.heap.size, 0, none⟩) 2 2, .int .i64 2]
      simpa using this
    · simp
    · simp
  · subst hmb
    go_enter Try.func14, Try.ntmps14
    go_wp2_with fail
    go_ret
    have b1 := Blk.new w 61 #[.int .i64 1, .int .i64 0, .int .i64 0, .int .i64 2, .int .i64 0, .int .i64 0]
    have sl : Sl (w.alloc (.cells #[.int .i64 1, .int .i64 0, .int .i64 0, .int .i64 2, .int .i64 0, .int .i64 0] 61)) 61 3 Gt.cs (.slice (some ⟨w.heap.size, 0, none⟩) init.length 2) init [w.heap.size] := Sl.of_blk b1 (by decide) (by decide) rfl rfl
    refine ⟨_, _, rfl, ⟨some ⟨w.heap.size, 0, none⟩, 2, [w.heap.size], ?_, sl.frame0 (Frame.alloc _ _ _), ?_, rfl⟩, (Frame.alloc _ _ _).trans1 (Frame.alloc _ _ _), ?_⟩
    · rw [hm.out, show init.length = 2 from rfl]
      have := Blk.new (w.alloc (.cells #[.int .i64 1, .int .i64 0, .int .i64 0, .int .i64 2, .int .i64 0, .int .i64 0] 61)) 33 #[.slice (some ⟨w.heap.size, 0, none⟩) 2 2, .int .i64 m]
      simpa using this
    · simp
    · simp
  · go_enter Try.func14, Try.ntmps14
    go_wp2_with fail
    go_ret
    have b1 := Blk.new w 61 #[.int .i64 1, .int .i64 0, .int .i64 0, .int .i64 2, .int .i64 0, .int .i64 0]
    have sl : Sl (w.alloc (.cells #[.int .i64 1, .int .i64 0, .int .i64 0, .int .i64 2, .int .i64 0, .int .i64 0] 61)) 61 3 Gt.cs (.slice (some ⟨w.heap.size, 0, none⟩) init.length 2) init [w.heap.size] := Sl.of_blk b1 (by decide) (by decide) rfl rfl
    refine ⟨_, _, rfl, ⟨some ⟨w.heap.size, 0, none⟩, 2, [w.heap.size], ?_, sl.frame0 (Frame.alloc _ _ _), ?_, rfl⟩, (Frame.alloc _ _ _).trans1 (Frame.alloc _ _ _), ?_⟩
    · rw [hm.out, show init.length = 2 from rfl]
      have := Blk.new (w.alloc (.cells #[.int .i64 1, .int .i64 0, .int .i64 0, .int .i64 2, .int .i64 0, .int .i64 0] 61)) 33 #[.slice (some ⟨w.heap.size, 0, none⟩) 2 2, .int .i64 1073741824]
      simpa using this
    · simp
    · simp
section
variable {w : World} {pb : Nat} {F : List Nat} {l : List Gt} {bud : Int}
theorem rvar_any (h : RSt w pb F l bud) (t : Int) (hlen : l.length ≤ 1000000) :
    Calls Try.prog 16 #[.pointer (some ⟨pb, 0, none⟩), .int .i64 t] w fun e w' =>
      e = .returned (.tuple #[.int .i64 (mkVar t l (bud - l.length)).1.1, .int .i64 (mkVar t l (bud - l.length)).1.2]) ∧ REnd w pb F (mkVar t l (bud - l.length)).2.1 bud w' := by
  have H := Lib.hid h
  clear h
  unfold mkVar
  by_cases hc : t < 1
  · simp only [if_pos hc]
    go_enter Try.func16, Try.ntmps16
    go_wp2_with fail
    go_ret2
    exact ⟨rfl, REnd.self H.out (Frame.refl _ _)⟩
  · simp only [if_neg hc]
    generalize hp : put ⟨3, t, 0⟩ l (bud - l.length) = p at *
    have HP := Lib.hid hp
    clear hp
    go_enter Try.func16, Try.ntmps16
    go_wp2_with fail
    refine (rgate_any H.out 3 t 0 hlen).mono ?_
    rw [HP.out]
    rintro e w' ⟨rfl, he⟩
    have HE := Lib.hid he
    clear he
    go_wp2_with fail
    go_ret2
    exact ⟨rfl, HE.out⟩
set_option maxHeartbeats 1000000 in
theorem rplus_any (h : RSt w pb F l bud) (a b : Int) (hlen : l.length ≤ 1000000) :
    Calls Try.prog 18 #[.pointer (some ⟨pb, 0, none⟩), .int .i64 a, .int .i64 b] w fun e w' =>
      e = .returned (.tuple #[.int .i64 (mkPlus a b l (bud - l.length)).1.1, .int .i64 (mkPlus a b l (bud - l.length)).1.2]) ∧ REnd w pb F (mkPlus a b l (bud - l.length)).2.1 bud w' := by
  have H := Lib.hid h
  clear h
  unfold mkPlus
  cases ha : notG l.length a with
  | true =>
    have hA : areG l.length [a, b] = false := by simp [areG, ha]
    simp only [hA, if_true]
    have NA := Lib.hid ha
    clear hA ha
    go_enter Try.func18, Try.ntmps18
    go_wp2_with fail
    refine (ris_any H.out a).mono ?_
    rintro e w' ⟨rfl, rfl⟩
    rw [NA.out]
    go_wp2_with fail
    go_ret2
    exact ⟨rfl, REnd.self H.out (Frame.refl _ _)⟩
  | false =>
  cases hb : notG l.length b with
  | true =>
    have hA : areG l.length [a, b] = false := by simp [areG, hb]
    simp only [hA, if_true]
    have NA := Lib.hid ha
    have NB := Lib.hid hb
    clear hA ha hb
    go_enter Try.func18, Try.ntmps18
    go_wp2_with fail
    refine (ris_any H.out a).mono ?_
    rintro e w' ⟨rfl, rfl⟩
    rw [NA.out]
    go_wp2_with fail
    refine (ris_any H.out b).mono ?_
    rintro e w' ⟨rfl, rfl⟩
    rw [NB.out]
    go_wp2_with fail
    go_ret2
    exact ⟨rfl, REnd.self H.out (Frame.refl _ _)⟩
  | false =>
    have hA : areG l.length [a, b] = true := by simp [areG, ha, hb]
    simp only [hA, Bool.true_eq_false, if_false]
    have NA := Lib.hid ha
    have NB := Lib.hid hb
    clear hA ha hb
    by_cases hc0 : a = 0
    · simp only [if_pos hc0]
      have q0 : (a == 0) = true := by simp [hc0]
      clear hc0
      go_enter Try.func18, Try.ntmps18
      go_wp2_with fail
      refine (ris_any H.out a).mono ?_
      rintro e w' ⟨rfl, rfl⟩
      rw [NA.out]
      go_wp2_with fail
      refine (ris_any H.out b).mono ?_
      rintro e w' ⟨rfl, rfl⟩
      rw [NB.out]
      go_wp2_with fail
      go_ret2
      exact ⟨rfl, REnd.self H.out (Frame.refl _ _)⟩
    simp only [if_neg hc0]
    have q0 : (a == 0) = false := by simp [hc0]
    clear hc0
    by_cases hc1 : b = 0
    · simp only [if_pos hc1]
      have q1 : (b == 0) = true := by simp [hc1]
      clear hc1
      go_enter Try.func18, Try.ntmps18
      go_wp2_with fail
      refine (ris_any H.out a).mono ?_
      rintro e w' ⟨rfl, rfl⟩
      rw [NA.out]
      go_wp2_with fail
      refine (ris_any H.out b).mono ?_
      rintro e w' ⟨rfl, rfl⟩
      rw [NB.out]
      go_wp2_with fail
      go_ret2
      exact ⟨rfl, REnd.self H.out (Frame.refl _ _)⟩
    simp only [if_neg hc1]
    have q1 : (b == 0) = false := by simp [hc1]
    clear hc1
    rcases (by omega : a < b ∨ b < a ∨ a = b) with hab | hab | rfl
    · have e1 : min a b = a := by omega
      have e2 : max a b = b := by omega
      rw [e1, e2]
      clear e1 e2
      generalize hp : put ⟨4, a, b⟩ l (bud - l.length) = p at *
      have HP := Lib.hid hp
      clear hp
      go_enter Try.func18, Try.ntmps18
      go_wp2_with fail
      refine (ris_any H.out a).mono ?_
      rintro e w' ⟨rfl, rfl⟩
      rw [NA.out]
      go_wp2_with fail
      refine (ris_any H.out b).mono ?_
      rintro e w' ⟨rfl, rfl⟩
      rw [NB.out]
      go_wp2_with fail
      refine (rgate_any H.out 4 a b hlen).mono ?_
      rw [HP.out]
      rintro e w' ⟨rfl, he⟩
      have HE := Lib.hid he
      clear he
      go_wp2_with fail
      go_ret2
      exact ⟨rfl, HE.out⟩
    · have e1 : min a b = b := by omega
      have e2 : max a b = a := by omega
      rw [e1, e2]
      clear e1 e2
      generalize hp : put ⟨4, b, a⟩ l (bud - l.length) = p at *
      have HP := Lib.hid hp
      clear hp
      go_enter Try.func18, Try.ntmps18
      go_wp2_with fail
      refine (ris_any H.out a).mono ?_
      rintro e w' ⟨rfl, rfl⟩
      rw [NA.out]
      go_wp2_with fail
      refine (ris_any H.out b).mono ?_
      rintro e w' ⟨rfl, rfl⟩
      rw [NB.out]
      go_wp2_with fail
      refine (rgate_any H.out 4 b a hlen).mono ?_
      rw [HP.out]
      rintro e w' ⟨rfl, he⟩
      have HE := Lib.hid he
      clear he
      go_wp2_with fail
      go_ret2
      exact ⟨rfl, HE.out⟩
    · have e1 : min a a = a := by omega
      have e2 : max a a = a := by omega
      rw [e1, e2]
      clear e1 e2
      generalize hp : put ⟨4, a, a⟩ l (bud - l.length) = p at *
      have HP := Lib.hid hp
      clear hp
      go_enter Try.func18, Try.ntmps18
      go_wp2_with fail
      refine (ris_any H.out a).mono ?_
      rintro e w' ⟨rfl, rfl⟩
      rw [NA.out]
      go_wp2_with fail
      refine (ris_any H.out a).mono ?_
      rintro e w' ⟨rfl, rfl⟩
      rw [NA.out]
      go_wp2_with fail
      refine (rgate_any H.out 4 a a hlen).mono ?_
      rw [HP.out]
      rintro e w' ⟨rfl, he⟩
      have HE := Lib.hid he
      clear he
      go_wp2_with fail
      go_ret2
      exact ⟨rfl, HE.out⟩
set_option maxHeartbeats 1000000 in
theorem rtimes_any (h : RSt w pb F l bud) (a b : Int) (hlen : l.length ≤ 1000000) :
    Calls Try.prog 20 #[.pointer (some ⟨pb, 0, none⟩), .int .i64 a, .int .i64 b] w fun e w' =>
      e = .returned (.tuple #[.int .i64 (mkTimes a b l (bud - l.length)).1.1, .int .i64 (mkTimes a b l (bud - l.length)).1.2]) ∧ REnd w pb F (mkTimes a b l (bud - l.length)).2.1 bud w' := by
  have H := Lib.hid h
  clear h
  unfold mkTimes
  cases ha : notG l.length a with
  | true =>
    have hA : areG l.length [a, b] = false := by simp [areG, ha]
    simp only [hA, if_true]
    have NA := Lib.hid ha
    clear hA ha
    go_enter Try.func20, Try.ntmps20
    go_wp2_with fail
    refine (ris_any H.out a).mono ?_
    rintro e w' ⟨rfl, rfl⟩
    rw [NA.out]
    go_wp2_with fail
    go_ret2
    exact ⟨rfl, REnd.self H.out (Frame.refl _ _)⟩
  | false =>
  cases hb : notG l.length b with
  | true =>
    have hA : areG l.length [a, b] = false := by simp [areG, hb]
    simp only [hA, if_true]
    have NA := Lib.hid ha
    have NB := Lib.hid hb
    clear hA ha hb
    go_enter Try.func20, Try.ntmps20
    go_wp2_with fail
    refine (ris_any H.out a).mono ?_
    rintro e w' ⟨rfl, rfl⟩
    rw [NA.out]
    go_wp2_with fail
    refine (ris_any H.out b).mono ?_
    rintro e w' ⟨rfl, rfl⟩
    rw [NB.out]
    go_wp2_with fail
    go_ret2
    exact ⟨rfl, REnd.self H.out (Frame.refl _ _)⟩
  | false =>
    have hA : areG l.length [a, b] = true := by simp [areG, ha, hb]
    simp only [hA, Bool.true_eq_false, if_false]
    have NA := Lib.hid ha
    have NB := Lib.hid hb
    clear hA ha hb
    by_cases hc0 : a = 0
    · simp only [if_pos hc0]
      have q0 : (a == 0) = true := by simp [hc0]
      clear hc0
      go_enter Try.func20, Try.ntmps20
      go_wp2_with fail
      refine (ris_any H.out a).mono ?_
      rintro e w' ⟨rfl, rfl⟩
      rw [NA.out]
      go_wp2_with fail
      refine (ris_any H.out b).mono ?_
      rintro e w' ⟨rfl, rfl⟩
      rw [NB.out]
      go_wp2_with fail
      go_ret2
      exact ⟨rfl, REnd.self H.out (Frame.refl _ _)⟩
    simp only [if_neg hc0]
    have q0 : (a == 0) = false := by simp [hc0]
    clear hc0
    by_cases hc1 : b = 0
    · simp only [if_pos hc1]
      have q1 : (b == 0) = true := by simp [hc1]
      clear hc1
      go_enter Try.func20, Try.ntmps20
      go_wp2_with fail
      refine (ris_any H.out a).mono ?_
      rintro e w' ⟨rfl, rfl⟩
      rw [NA.out]
      go_wp2_with fail
      refine (ris_any H.out b).mono ?_
      rintro e w' ⟨rfl, rfl⟩
      rw [NB.out]
      go_wp2_with fail
      go_ret2
      exact ⟨rfl, REnd.self H.out (Frame.refl _ _)⟩
    simp only [if_neg hc1]
    have q1 : (b == 0) = false := by simp [hc1]
    clear hc1
    by_cases hc2 : a = 1
    · simp only [if_pos hc2]
      have q2 : (a == 1) = true := by simp [hc2]
      clear hc2
      go_enter Try.func20, Try.ntmps20
      go_wp2_with fail
      refine (ris_any H.out a).mono ?_
      rintro e w' ⟨rfl, rfl⟩
      rw [NA.out]
      go_wp2_with fail
      refine (ris_any H.out b).mono ?_
      rintro e w' ⟨rfl, rfl⟩
      rw [NB.out]
      go_wp2_with fail
      go_ret2
      exact ⟨rfl, REnd.self H.out (Frame.refl _ _)⟩
    simp only [if_neg hc2]
    have q2 : (a == 1) = false := by simp [hc2]
    clear hc2
    by_cases hc3 : b = 1
    · simp only [if_pos hc3]
      have q3 : (b == 1) = true := by simp [hc3]
      clear hc3
      go_enter Try.func20, Try.ntmps20
      go_wp2_with fail
      refine (ris_any H.out a).mono ?_
      rintro e w' ⟨rfl, rfl⟩
      rw [NA.out]
      go_wp2_with fail
      refine (ris_any H.out b).mono ?_
      rintro e w' ⟨rfl, rfl⟩
      rw [NB.out]
      go_wp2_with fail
      go_ret2
      exact ⟨rfl, REnd.self H.out (Frame.refl _ _)⟩
    simp only [if_neg hc3]
    have q3 : (b == 1) = false := by simp [hc3]
    clear hc3
    rcases (by omega : a < b ∨ b < a ∨ a = b) with hab | hab | rfl
    · have e1 : min a b = a := by omega
      have e2 : max a b = b := by omega
      rw [e1, e2]
      clear e1 e2
      generalize hp : put ⟨5, a, b⟩ l (bud - l.length) = p at *
      have HP := Lib.hid hp
      clear hp
      go_enter Try.func20, Try.ntmps20
      go_wp2_with fail
      refine (ris_any H.out a).mono ?_
      rintro e w' ⟨rfl, rfl⟩
      rw [NA.out]
      go_wp2_with fail
      refine (ris_any H.out b).mono ?_
      rintro e w' ⟨rfl, rfl⟩
      rw [NB.out]
      go_wp2_with fail
      refine (rgate_any H.out 5 a b hlen).mono ?_
      rw [HP.out]
      rintro e w' ⟨rfl, he⟩
      have HE := Lib.hid he
      clear he
      go_wp2_with fail
      go_ret2
      exact ⟨rfl, HE.out⟩
    · have e1 : min a b = b := by omega
      have e2 : max a b = a := by omega
      rw [e1, e2]
      clear e1 e2
      generalize hp : put ⟨5, b, a⟩ l (bud - l.length) = p at *
      have HP := Lib.hid hp
      clear hp
      go_enter Try.func20, Try.ntmps20
      go_wp2_with fail
      refine (ris_any H.out a).mono ?_
      rintro e w' ⟨rfl, rfl⟩
      rw [NA.out]
      go_wp2_with fail
      refine (ris_any H.out b).mono ?_
      rintro e w' ⟨rfl, rfl⟩
      rw [NB.out]
      go_wp2_with fail
      refine (rgate_any H.out 5 b a hlen).mono ?_
      rw [HP.out]
      rintro e w' ⟨rfl, he⟩
      have HE := Lib.hid he
      clear he
      go_wp2_with fail
      go_ret2
      exact ⟨rfl, HE.out⟩
    · have e1 : min a a = a := by omega
      have e2 : max a a = a := by omega
      rw [e1, e2]
      clear e1 e2
      generalize hp : put ⟨5, a, a⟩ l (bud - l.length) = p at *
      have HP := Lib.hid hp
      clear hp
      go_enter Try.func20, Try.ntmps20
      go_wp2_with fail
      refine (ris_any H.out a).mono ?_
      rintro e w' ⟨rfl, rfl⟩
      rw [NA.out]
      go_wp2_with fail
      refine (ris_any H.out a).mono ?_
      rintro e w' ⟨rfl, rfl⟩
      rw [NA.out]
      go_wp2_with fail
      refine (rgate_any H.out 5 a a hlen).mono ?_
      rw [HP.out]
      rintro e w' ⟨rfl, he⟩
      have HE := Lib.hid he
      clear he
      go_wp2_with fail
      go_ret2
      exact ⟨rfl, HE.out⟩
theorem rstar_any (h : RSt w pb F l bud) (a : Int) (hlen : l.length ≤ 1000000) :
    Calls Try.prog 22 #[.pointer (some ⟨pb, 0, none⟩), .int .i64 a] w fun e w' =>
      e = .returned (.tuple #[.int .i64 (mkStar a l (bud - l.length)).1.1, .int .i64 (mkStar a l (bud - l.length)).1.2]) ∧ REnd w pb F (mkStar a l (bud - l.length)).2.1 bud w' := by
  have H := Lib.hid h
  clear h
  unfold mkStar
  cases ha : notG l.length a with
  | true =>
    have hA : areG l.length [a] = false := by simp [areG, ha]
    simp only [hA, if_true]
    have NA := Lib.hid ha
    clear hA ha
    go_enter Try.func22, Try.ntmps22
    go_wp2_with fail
    refine (ris_any H.out a).mono ?_
    rintro e w' ⟨rfl, rfl⟩
    rw [NA.out]
    go_wp2_with fail
    go_ret2
    exact ⟨rfl, REnd.self H.out (Frame.refl _ _)⟩
  | false =>
    have hA : areG l.length [a] = true := by simp [areG, ha]
    simp only [hA, Bool.true_eq_false, if_false]
    have NA := Lib.hid ha
    clear hA ha
    by_cases hc : a = 0
    · simp only [if_pos hc]
      have q1 : (a == 0) = true := by simp [hc]
      clear hc
      go_enter Try.func22, Try.ntmps22
      go_wp2_with fail
      refine (ris_any H.out a).mono ?_
      rintro e w' ⟨rfl, rfl⟩
      rw [NA.out]
      go_wp2_with fail
      go_ret2
      exact ⟨rfl, REnd.self H.out (Frame.refl _ _)⟩
    · simp only [if_neg hc]
      have q1 : (a == 0) = false := by simp [hc]
      clear hc
      generalize hp : put ⟨6, a, 0⟩ l (bud - l.length) = p at *
      have HP := Lib.hid hp
      clear hp
      go_enter Try.func22, Try.ntmps22
      go_wp2_with fail
      refine (ris_any H.out a).mono ?_
      rintro e w' ⟨rfl, rfl⟩
      rw [NA.out]
      go_wp2_with fail
      refine (rgate_any H.out 6 a 0 hlen).mono ?_
      rw [HP.out]
      rintro e w' ⟨rfl, he⟩
      have HE := Lib.hid he
      clear he
      go_wp2_with fail
      go_ret2
      exact ⟨rfl, HE.out⟩
end
end Go.Proofs.Ytbnhhmejlglbcaa

namespace Go.Proofs.Ytbnhhmejlglbcaa
open Go.RowKit
set_option linter.unusedSimpArgs false
set_option linter.unusedVariables false
theorem put_left (g : Gt) (l : List Gt) (bud : Int) : (put g l (bud - l.length)).2.2 = bud - (put g l (bud - l.length)).2.1.length ∧ l.length ≤ (put g l (bud - l.length)).2.1.length ∧ (put g l (bud - l.length)).2.1.length ≤ l.length + 1 := by
  unfold put
  split
  · exact ⟨rfl, Nat.le_refl _, Nat.le_succ _⟩
  · split
    · refine ⟨?_, ?_, ?_⟩ <;> simp <;> omega
    · exact ⟨rfl, Nat.le_refl _, Nat.le_succ _⟩
theorem mkVar_left (t : Int) (l : List Gt) (bud : Int) : (mkVar t l (bud - l.length)).2.2 = bud - (mkVar t l (bud - l.length)).2.1.length ∧ l.length ≤ (mkVar t l (bud - l.length)).2.1.length ∧ (mkVar t l (bud - l.length)).2.1.length ≤ l.length + 1 := by
  unfold mkVar
  split
  · exact ⟨rfl, Nat.le_refl _, Nat.le_succ _⟩
  · exact put_left _ _ _
theorem mkPlus_left (a b : Int) (l : List Gt) (bud : Int) : (mkPlus a b l (bud - l.length)).2.2 = bud - (mkPlus a b l (bud - l.length)).2.1.length ∧ l.length ≤ (mkPlus a b l (bud - l.length)).2.1.length ∧ (mkPlus a b l (bud - l.length)).2.1.length ≤ l.length + 1 := by
  unfold mkPlus
  repeat' split
  all_goals first | exact ⟨rfl, Nat.le_refl _, Nat.le_succ _⟩ | exact put_left _ _ _
theorem mkTimes_left (a b : Int) (l : List Gt) (bud : Int) : (mkTimes a b l (bud - l.length)).2.2 = bud - (mkTimes a b l (bud - l.length)).2.1.length ∧ l.length ≤ (mkTimes a b l (bud - l.length)).2.1.length ∧ (mkTimes a b l (bud - l.length)).2.1.length ≤ l.length + 1 := by
  unfold mkTimes
  repeat' split
  all_goals first | exact ⟨rfl, Nat.le_refl _, Nat.le_succ _⟩ | exact put_left _ _ _
theorem mkStar_left (a : Int) (l : List Gt) (bud : Int) : (mkStar a l (bud - l.length)).2.2 = bud - (mkStar a l (bud - l.length)).2.1.length ∧ l.length ≤ (mkStar a l (bud - l.length)).2.1.length ∧ (mkStar a l (bud - l.length)).2.1.length ≤ l.length + 1 := by
  unfold mkStar
  repeat' split
  all_goals first | exact ⟨rfl, Nat.le_refl _, Nat.le_succ _⟩ | exact put_left _ _ _
theorem mkSum_left : ∀ (xs : List Int) (acc : Int) (l : List Gt) (bud : Int), (mkSum xs acc l (bud - l.length)).2.2 = bud - (mkSum xs acc l (bud - l.length)).2.1.length ∧ l.length ≤ (mkSum xs acc l (bud - l.length)).2.1.length ∧ (mkSum xs acc l (bud - l.length)).2.1.length ≤ l.length + xs.length := by
  intro xs
  induction xs with
  | nil => intro acc l bud; exact ⟨rfl, Nat.le_refl _, Nat.le_refl _⟩
  | cons x t ih =>
    intro acc l bud
    have hp := mkPlus_left acc x l bud
    unfold mkSum
    generalize mkPlus acc x l (bud - l.length) = p at *
    obtain ⟨p1, p2, p3⟩ := p
    simp only at *
    obtain ⟨h1, h2, h3⟩ := hp
    split
    · rw [h1]
      have := ih p1.1 p2 bud
      refine ⟨this.1, by omega, by simp only [List.length_cons]; omega⟩
    · exact ⟨h1, h2, by simp only [List.length_cons]; omega⟩

theorem REnd.comp {w w1 w' : World} {pb : Nat} {F F1 : List Nat} {l : List Gt} {bud : Int} (b : Frame F w w1) (c : Grow F F1 w) (h : REnd w1 pb F1 l bud w') : REnd w pb F l bud w' := by
  obtain ⟨F2, a', b', c'⟩ := h
  exact ⟨F2, a', b.trans b' c, fun x hx => by
    rcases c' x hx with h | h
    · exact c x h
    · right; have := b.size; omega⟩

end Go.Proofs.Ytbnhhmejlglbcaa

