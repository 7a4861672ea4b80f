/- tansylaw5.AntiSets: the walk. -/
import Derived.Test.YtojfemaamhampaaAwake5
import Derived.Test.YtojfemaamhampaaInts2
namespace Go.Proofs.Ytojfemaamhampaa
open Go.RowKit
set_option linter.unusedSimpArgs false
set_option linter.unusedVariables false

theorem antiSets_out (a1 a2 : Option Addr) (n1 c1 n2 c2 : Nat) (w : World) (h : 60 < n1 ∨ 60 < n2) :
    Calls Try.prog 3 #[.slice a1 n1 c1, .slice a2 n2 c2] w fun e w' => e = .returned (.bool true) ∧ Frame [] w w' := by
  by_cases h1 : 60 < n1
  · have hd : decide ((n1 : Int) > 60) = true := decide_eq_true (by omega)
    clear h
    go_enter Try.func3, Try.ntmps3
    go_wp2_with fail
    refine (awake5 _).mono ?_
    rintro e w1 ⟨rfl, f1⟩
    go_wp2_with fail
    go_ret
    exact ⟨rfl, f1⟩
  · have hd : decide ((n1 : Int) > 60) = false := decide_eq_false (by omega)
    have hd2 : decide ((n2 : Int) > 60) = true := decide_eq_true (by omega)
    clear h
    go_enter Try.func3, Try.ntmps3
    go_wp2_with fail
    refine (awake5 _).mono ?_
    rintro e w1 ⟨rfl, f1⟩
    go_wp2_with fail
    go_ret
    exact ⟨rfl, f1⟩
theorem up_next {xs : List Int} (h : Up xs) {m : Nat} {x y : Int} (hx : xs[m]? = some x) (hy : xs[m + 1]? = some y) : x < y := by
  obtain ⟨h1, rfl⟩ := List.getElem?_eq_some_iff.1 hx
  obtain ⟨h2, rfl⟩ := List.getElem?_eq_some_iff.1 hy
  exact List.pairwise_iff_getElem.1 h m (m + 1) h1 h2 (by omega)
theorem rdI_rf {w : World} {a : Option Addr} {xs : List Int} (h : RdI w a xs) : RF (fun b => b < w.heap.size) w 1 encI a xs := fun k x hx => by
  obtain ⟨hk, rfl⟩ := List.getElem?_eq_some_iff.1 hx
  rcases h with rfl | ⟨b, off, h1, h2, h3⟩
  · simp at hk
  · refine ⟨b, off, h1, h2, fun j u hu => ?_⟩
    cases j with
    | zero => simp [encI] at hu; subst hu; rw [Nat.mul_one, Nat.add_zero]; exact h3 k hk
    | succ j => simp [encI] at hu
theorem sub_both {xs ys : List Int} : subB xs ys = decide (srtI (xs ++ ys) = srtI ys) := by
  rw [Bool.eq_iff_iff, subB_iff, decide_eq_true_iff]
  constructor
  · intro h
    refine up_eq (srtI_up _) (srtI_up _) fun x => ?_
    simp only [srtI_mem, List.mem_append]
    exact ⟨fun k => k.elim (h x) id, .inr⟩
  · intro h x hx
    have : x ∈ srtI (xs ++ ys) := (srtI_mem _ _).2 (by simp [hx])
    rw [h] at this
    exact (srtI_mem _ _).1 this
theorem sub_eq {xs ys : List Int} : (subB xs ys && subB ys xs) = decide (srtI xs = srtI ys) := by
  rw [Bool.eq_iff_iff, Bool.and_eq_true, subB_iff, subB_iff, decide_eq_true_iff]
  constructor
  · rintro ⟨h, k⟩
    refine up_eq (srtI_up _) (srtI_up _) fun x => ?_
    simp only [srtI_mem]
    exact ⟨h x, k x⟩
  · intro h
    constructor
    · intro x hx
      have : x ∈ srtI xs := (srtI_mem _ _).2 hx
      rw [h] at this
      exact (srtI_mem _ _).1 this
    · intro x hx
      have : x ∈ srtI ys := (srtI_mem _ _).2 hx
      rw [← h] at this
      exact (srtI_mem _ _).1 this
theorem ints_dec (a1 a2 : Option Addr) (c1 c2 : Nat) (xs ys : List Int) (w : World) (h1 : RdI w a1 xs) (h2 : RdI w a2 ys) (l1 : xs.length ≤ 1000000) (l2 : ys.length ≤ 1000000) :
    Calls Try.prog 12 #[.slice a1 xs.length c1, .slice a2 ys.length c2] w fun e w' => e = .returned (.bool (decide (xs = ys))) ∧ Frame [] w w' := by
  by_cases h : xs = ys
  · rw [decide_eq_true h]; exact Ans.yes (ints_any _ _ a1 a2 c1 c2 xs ys w (rdI_rf h1) (rdI_rf h2) l1 l2) h
  · rw [decide_eq_false h]; exact Ans.no (ints_any _ _ a1 a2 c1 c2 xs ys w (rdI_rf h1) (rdI_rf h2) l1 l2) h
set_option maxHeartbeats 4000000 in
set_option maxRecDepth 100000 in
theorem antiSets_in (a1 a2 : Option Addr) (c1 c2 : Nat) (xs ys : List Int) (w : World) (h1 : RdI w a1 xs) (h2 : RdI w a2 ys) (l1 : xs.length ≤ 60) (l2 : ys.length ≤ 60) :
    Calls Try.prog 3 #[.slice a1 xs.length c1, .slice a2 ys.length c2] w fun e w' => e = .returned (.bool true) ∧ Frame [] w w' := by
  have hd1 : decide ((xs.length : Int) > 60) = false := decide_eq_false (by omega)
  have hd2 : decide ((ys.length : Int) > 60) = false := decide_eq_false (by omega)
  have H1 := Lib.hid h1
  have H2 := Lib.hid h2
  have UX := Lib.hid (srtI_up xs)
  have UB := Lib.hid (srtI_up (xs ++ ys))
  have s1 : Hid (subB xs (srtI xs) = true) := subB_iff.2 fun n hn => (srtI_mem _ _).2 hn
  have s2 : Hid (subB (srtI xs) xs = true) := subB_iff.2 fun n hn => (srtI_mem _ _).1 hn
  have s3 : Hid (subB (srtI xs) (srtI (xs ++ ys)) = true) := subB_iff.2 fun n hn => (srtI_mem _ _).2 (List.mem_append.2 (.inl ((srtI_mem _ _).1 hn)))
  have s4 : Hid (subB (srtI ys) (srtI (xs ++ ys)) = true) := subB_iff.2 fun n hn => (srtI_mem _ _).2 (List.mem_append.2 (.inr ((srtI_mem _ _).1 hn)))
  have s5 : Hid (subB xs ys = decide (srtI (xs ++ ys) = srtI ys)) := sub_both
  have s6 : Hid ((subB xs ys && subB ys xs) = decide (srtI xs = srtI ys)) := sub_eq
  have lx : (srtI xs).length ≤ 60 := Nat.le_trans (srtI_len xs) l1
  have ly : (srtI ys).length ≤ 60 := Nat.le_trans (srtI_len ys) l2
  have lb : (srtI (xs ++ ys)).length ≤ 120 := Nat.le_trans (srtI_len _) (by simp; omega)
  have A1 := Lib.hid fun w' (f : Frame [] w w') => asorted_any a1 c1 xs w' (h1.frame f) (by omega)
  have A2 := Lib.hid fun w' (f : Frame [] w w') => asorted_any a2 c2 ys w' (h2.frame f) (by omega)
  have A3 : Hid (∀ w' a c, RdI w' a (xs ++ ys) → Calls Try.prog 10 #[.slice a (xs.length + ys.length) c] w' (FreshEnd 3 1 encI (srtI (xs ++ ys)) w')) := by
    show ∀ w' a c, _
    intro w' a c h
    have := asorted_any a c (xs ++ ys) w' h (by simp; omega)
    rwa [List.length_append] at this
  generalize srtI xs = X at *
  generalize srtI ys = Y at *
  generalize srtI (xs ++ ys) = B at *
  clear h1 h2
  go_enter Try.func3, Try.ntmps3
  go_wp2_with fail
  refine (A1.out _ (Frame.refl _ _)).mono ?_
  rintro e w1 ⟨a3, c3, G3, rfl, s3, f3, g3⟩
  have X3 := Lib.hid s3.rdI
  have F3 := Lib.hid f3
  clear s3 f3 g3
  go_wp2_with fail
  refine (A2.out _ F3.out).mono ?_
  rintro e w2 ⟨a4, c4, G4, rfl, s4, f4, g4⟩
  have X4 := Lib.hid s4.rdI
  have F4 := Lib.hid (F3.out.trans1 f4)
  have Y3 := Lib.hid (X3.out.frame f4)
  clear s4 f4 g4
  go_wp2_with (at_builtin; first
    | (refine wpList_append_rf rfl (.tmp 22) (.tmp 23) 22 rfl 3 1 8 _ encI Try.underlying22 infoInt rfl (by omega) _ [] 0 rfl [w2.heap.size] rfl (sl_empty w2 _ _ _) (fun b => b < w.heap.size) a1 xs.length c1 xs rfl ((rdI_rf H1.out).frame0 (F4.out.trans1 (Frame.alloc [] _ _))) rfl encI_len encI_one xs.length (by omega) (by omega) (by omega) ?_; intro a5 cap5 w5 G5 sl5 f5 hG5; have E5 := Lib.hid ((Frame.alloc [] w2 (.cells #[] 3)).trans f5 (fun x hx => .inr (by simp at hx; omega))); have HG5 : Hid (∀ x ∈ G5, w2.heap.size ≤ x) := (fun x hx => by rcases hG5 x hx with h | h <;> simp at h <;> omega); have S5 := Lib.hid (show Sl w5 3 1 encI (.slice a5 xs.length cap5) xs G5 from sl5); clear sl5 f5 hG5)
    | (refine wpList_append_rf rfl (.tmp 24) (.tmp 25) 22 rfl 3 1 8 _ encI Try.underlying22 infoInt rfl (by omega) (.slice a5 xs.length cap5) xs xs.length rfl G5 rfl S5.out (fun b => b < w.heap.size) a2 ys.length c2 ys rfl ((rdI_rf H2.out).frame0 (F4.out.trans1 E5.out)) rfl encI_len encI_one (xs.length + ys.length) rfl (by omega) (by omega) ?_; intro a6 cap6 w6 G6 sl6 f6 hG6; have E6 := Lib.hid (E5.out.trans f6 (fun x hx => .inr (HG5.out x hx))); have S6 := Lib.hid sl6.rdI; clear sl6 f6 hG6))
  refine (A3.out _ _ _ S6.out).mono ?_
  rintro e w7 ⟨a7, c7, G7, rfl, s7, f7, g7⟩
  have E7 := Lib.hid (E6.out.trans1 f7)
  have F7 := Lib.hid (F4.out.trans1 E7.out)
  have Z3 := Lib.hid (Y3.out.frame E7.out)
  have Z4 := Lib.hid (X4.out.frame E7.out)
  have Z7 := Lib.hid s7.rdI
  have Z1 := Lib.hid (H1.out.frame F7.out)
  have Z2 := Lib.hid (H2.out.frame F7.out)
  clear s7 f7 g7 E5 E6 HG5 S5 S6 A1 A2 A3 X3 Y3 X4 F3 F4 E7 H1 H2
  go_wp2_with fail
  go_loopw [8] (fun i wr => ∃ k : Nat, 1 ≤ k ∧ k ≤ X.length + 1 ∧ i = .int .i64 k ∧ Hid (Frame [] w7 wr)) (fun i _ => X.length + 1 - (intOf i).toNat)
  case atStart => exact ⟨1, Nat.le_refl _, by omega, rfl, Frame.refl _ _⟩
  case round =>
    obtain ⟨k, hk1, hk2, rfl, hQ⟩ := hrel
    rename World => wr
    by_cases hlt : k < X.length
    · obtain ⟨m, rfl⟩ : ∃ m, k = m + 1 := ⟨k - 1, by omega⟩
      have g1 : X[m]? = some X[m] := by simp [show m < X.length by omega]
      have g2 : X[m + 1]? = some X[m + 1] := by simp [hlt]
      have hxy := up_next UX.out g1 g2
      have ZZ := Z3.out.frame hQ.out
      obtain ⟨b, off, rfl, q1⟩ := ZZ.at (k := m) (by omega)
      obtain ⟨b', off', e', q2⟩ := ZZ.at hlt
      simp only [Option.some.injEq, Addr.mk.injEq] at e'
      obtain ⟨rfl, rfl, -⟩ := e'
      generalize X[m] = x at *
      generalize X[m + 1] = y at *
      have hd3 : decide (y ≤ x) = false := decide_eq_false (by omega)
      have e1 : IntKind.i64.wrap (((m + 1 : Nat) : Int) - 1) = (m : Int) := by rw [show (((m + 1 : Nat) : Int) - 1) = (m : Int) from by omega]; exact IntWalk.i64_in _ (by omega)
      have hm0 : (0 : Int) ≤ ((m + 1 : Nat) : Int) - 1 := by omega
      clear g1 g2 hxy ZZ
      go_wp2_with fail
      go_quiet (fail)
      go_wp2_with fail
      go_roundw
      case rel => exact ⟨m + 2, by omega, by omega, by first | rfl | go_num, hQ.out.trans1 (by (repeat first | assumption | exact Frame.refl _ _ | refine Frame.trans1 ?_ (Frame.alloc _ _ _) | refine Frame.trans1 ?_ (Frame.drew _ _) | refine Frame.trans1 ?_ (Frame.drewN _ _ _)))⟩
      case measure => first | (simp [intOf]; done) | (simp [intOf]; omega)
    · have K0 := hQ
      have P1 : Hid (∀ w', Frame [] w7 w' → Calls Try.prog 11 #[.slice a1 xs.length c1, .slice a3 X.length c3] w' fun e w'' => e = .returned (.bool (true)) ∧ Frame [] w' w'') := fun w' f => by have := asubset_any a1 a3 c1 c3 xs X w' (Z1.out.frame f) (Z3.out.frame f) (by omega) (by omega); rwa [s1.out] at this
      have P2 : Hid (∀ w', Frame [] w7 w' → Calls Try.prog 11 #[.slice a3 X.length c3, .slice a1 xs.length c1] w' fun e w'' => e = .returned (.bool (true)) ∧ Frame [] w' w'') := fun w' f => by have := asubset_any a3 a1 c3 c1 X xs w' (Z3.out.frame f) (Z1.out.frame f) (by omega) (by omega); rwa [s2.out] at this
      have P3 : Hid (∀ w', Frame [] w7 w' → Calls Try.prog 11 #[.slice a1 xs.length c1, .slice a2 ys.length c2] w' fun e w'' => e = .returned (.bool (subB xs ys)) ∧ Frame [] w' w'') := fun w' f => asubset_any a1 a2 c1 c2 xs ys w' (Z1.out.frame f) (Z2.out.frame f) (by omega) (by omega)
      have P4 : Hid (∀ w', Frame [] w7 w' → Calls Try.prog 12 #[.slice a7 B.length c7, .slice a4 Y.length c4] w' fun e w'' => e = .returned (.bool (subB xs ys)) ∧ Frame [] w' w'') := fun w' f => by have := ints_dec a7 a4 c7 c4 B Y w' (Z7.out.frame f) (Z4.out.frame f) (by omega) (by omega); rwa [← s5.out] at this
      have P5 : Hid (∀ w', Frame [] w7 w' → Calls Try.prog 11 #[.slice a3 X.length c3, .slice a7 B.length c7] w' fun e w'' => e = .returned (.bool (true)) ∧ Frame [] w' w'') := fun w' f => by have := asubset_any a3 a7 c3 c7 X B w' (Z3.out.frame f) (Z7.out.frame f) (by omega) (by omega); rwa [s3.out] at this
      have P6 : Hid (∀ w', Frame [] w7 w' → Calls Try.prog 11 #[.slice a4 Y.length c4, .slice a7 B.length c7] w' fun e w'' => e = .returned (.bool (true)) ∧ Frame [] w' w'') := fun w' f => by have := asubset_any a4 a7 c4 c7 Y B w' (Z4.out.frame f) (Z7.out.frame f) (by omega) (by omega); rwa [s4.out] at this
      have P7 : Hid (∀ w', Frame [] w7 w' → Calls Try.prog 11 #[.slice a2 ys.length c2, .slice a1 xs.length c1] w' fun e w'' => e = .returned (.bool (subB ys xs)) ∧ Frame [] w' w'') := fun w' f => asubset_any a2 a1 c2 c1 ys xs w' (Z2.out.frame f) (Z1.out.frame f) (by omega) (by omega)
      have P8 : Hid (∀ w', Frame [] w7 w' → Calls Try.prog 12 #[.slice a3 X.length c3, .slice a4 Y.length c4] w' fun e w'' => e = .returned (.bool (subB xs ys && subB ys xs)) ∧ Frame [] w' w'') := fun w' f => by have := ints_dec a3 a4 c3 c4 X Y w' (Z3.out.frame f) (Z4.out.frame f) (by omega) (by omega); rwa [← s6.out] at this
      clear hQ s1 s2 s3 s4 s5 s6 Z1 Z2 Z3 Z4 Z7 UX UB
      generalize subB xs ys = p at *
      generalize subB ys xs = q at *
      cases p with
      | false =>
        simp only [Bool.false_and] at P8
        go_wp2_with fail
        refine (P1.out _ K0.out).mono ?_
        rintro e v1 ⟨rfl, f⟩
        have K1 := Lib.hid (K0.out.trans1 f)
        clear f
        go_wp2_with fail
        refine (P2.out _ K1.out).mono ?_
        rintro e v2 ⟨rfl, f⟩
        have K2 := Lib.hid (K1.out.trans1 f)
        clear f
        go_wp2_with fail
        refine (P3.out _ K2.out).mono ?_
        rintro e v3 ⟨rfl, f⟩
        have K3 := Lib.hid (K2.out.trans1 f)
        clear f
        go_wp2_with fail
        refine (P4.out _ K3.out).mono ?_
        rintro e v4 ⟨rfl, f⟩
        have K4 := Lib.hid (K3.out.trans1 f)
        clear f
        go_wp2_with fail
        refine (P5.out _ K4.out).mono ?_
        rintro e v5 ⟨rfl, f⟩
        have K5 := Lib.hid (K4.out.trans1 f)
        clear f
        go_wp2_with fail
        refine (P6.out _ K5.out).mono ?_
        rintro e v6 ⟨rfl, f⟩
        have K6 := Lib.hid (K5.out.trans1 f)
        clear f
        go_wp2_with fail
        refine (P3.out _ K6.out).mono ?_
        rintro e v7 ⟨rfl, f⟩
        have K7 := Lib.hid (K6.out.trans1 f)
        clear f
        go_wp2_with fail
        refine (P8.out _ K7.out).mono ?_
        rintro e v8 ⟨rfl, f⟩
        have K8 := Lib.hid (K7.out.trans1 f)
        clear f
        go_wp2_with fail
        refine (awake5 _).mono ?_
        rintro e vz ⟨rfl, f⟩
        have K := Lib.hid (K8.out.trans1 f)
        clear f
        go_wp2_with fail
        go_ret
        exact ⟨rfl, F7.out.trans1 K.out⟩
      | true =>
        simp only [Bool.true_and] at P8
        cases q with
        | false =>
          go_wp2_with fail
          refine (P1.out _ K0.out).mono ?_
          rintro e v1 ⟨rfl, f⟩
          have K1 := Lib.hid (K0.out.trans1 f)
          clear f
          go_wp2_with fail
          refine (P2.out _ K1.out).mono ?_
          rintro e v2 ⟨rfl, f⟩
          have K2 := Lib.hid (K1.out.trans1 f)
          clear f
          go_wp2_with fail
          refine (P3.out _ K2.out).mono ?_
          rintro e v3 ⟨rfl, f⟩
          have K3 := Lib.hid (K2.out.trans1 f)
          clear f
          go_wp2_with fail
          refine (P4.out _ K3.out).mono ?_
          rintro e v4 ⟨rfl, f⟩
          have K4 := Lib.hid (K3.out.trans1 f)
          clear f
          go_wp2_with fail
          refine (P5.out _ K4.out).mono ?_
          rintro e v5 ⟨rfl, f⟩
          have K5 := Lib.hid (K4.out.trans1 f)
          clear f
          go_wp2_with fail
          refine (P6.out _ K5.out).mono ?_
          rintro e v6 ⟨rfl, f⟩
          have K6 := Lib.hid (K5.out.trans1 f)
          clear f
          go_wp2_with fail
          refine (P3.out _ K6.out).mono ?_
          rintro e v7 ⟨rfl, f⟩
          have K7 := Lib.hid (K6.out.trans1 f)
          clear f
          go_wp2_with fail
          refine (P7.out _ K7.out).mono ?_
          rintro e v8 ⟨rfl, f⟩
          have K8 := Lib.hid (K7.out.trans1 f)
          clear f
          go_wp2_with fail
          refine (P8.out _ K8.out).mono ?_
          rintro e vz ⟨rfl, f⟩
          have K9 := Lib.hid (K8.out.trans1 f)
          clear f
          go_wp2_with fail
          refine (awake5 _).mono ?_
          rintro e vz ⟨rfl, f⟩
          have K := Lib.hid (K9.out.trans1 f)
          clear f
          go_wp2_with fail
          go_ret
          exact ⟨rfl, F7.out.trans1 K.out⟩
        | true =>
          go_wp2_with fail
          refine (P1.out _ K0.out).mono ?_
          rintro e v1 ⟨rfl, f⟩
          have K1 := Lib.hid (K0.out.trans1 f)
          clear f
          go_wp2_with fail
          refine (P2.out _ K1.out).mono ?_
          rintro e v2 ⟨rfl, f⟩
          have K2 := Lib.hid (K1.out.trans1 f)
          clear f
          go_wp2_with fail
          refine (P3.out _ K2.out).mono ?_
          rintro e v3 ⟨rfl, f⟩
          have K3 := Lib.hid (K2.out.trans1 f)
          clear f
          go_wp2_with fail
          refine (P4.out _ K3.out).mono ?_
          rintro e v4 ⟨rfl, f⟩
          have K4 := Lib.hid (K3.out.trans1 f)
          clear f
          go_wp2_with fail
          refine (P5.out _ K4.out).mono ?_
          rintro e v5 ⟨rfl, f⟩
          have K5 := Lib.hid (K4.out.trans1 f)
          clear f
          go_wp2_with fail
          refine (P6.out _ K5.out).mono ?_
          rintro e v6 ⟨rfl, f⟩
          have K6 := Lib.hid (K5.out.trans1 f)
          clear f
          go_wp2_with fail
          refine (P3.out _ K6.out).mono ?_
          rintro e v7 ⟨rfl, f⟩
          have K7 := Lib.hid (K6.out.trans1 f)
          clear f
          go_wp2_with fail
          refine (P7.out _ K7.out).mono ?_
          rintro e v8 ⟨rfl, f⟩
          have K8 := Lib.hid (K7.out.trans1 f)
          clear f
          go_wp2_with fail
          refine (P8.out _ K8.out).mono ?_
          rintro e vz ⟨rfl, f⟩
          have K9 := Lib.hid (K8.out.trans1 f)
          clear f
          go_wp2_with fail
          refine (awake5 _).mono ?_
          rintro e vz ⟨rfl, f⟩
          have K := Lib.hid (K9.out.trans1 f)
          clear f
          go_wp2_with fail
          go_ret
          exact ⟨rfl, F7.out.trans1 K.out⟩
end Go.Proofs.Ytojfemaamhampaa
