/- Binary search over texts, and over properties by name. -/
import Derived.Test.YtjcajidgaejhoaaMi14
namespace Go.Proofs.Ytjcajidgaejhoaa
open Go.RowKit
set_option linter.unusedSimpArgs false
set_option linter.unusedVariables false

set_option maxHeartbeats 1000000 in
set_option maxRecDepth 100000 in
theorem bs_str (a : Option Addr) (cap : Nat) (xs : List ByteArray) (G : List Nat) (t : ByteArray) (w : World) (h : Sl w 9 1 encS (.slice a xs.length cap) xs G) (hu : UpS (xs)) (hn : xs.length ≤ 1073741824) :
    Calls Try.prog 52 #[.slice a xs.length cap, .string t] w fun e w' => e = .returned (.tuple #[.int .i64 (rankS (xs) t), .bool (memS t (xs))]) ∧ Frame [] w w' := by
  have S := Lib.hid h
  have U := Lib.hid hu
  clear h hu
  generalize hr : rankS (xs) t = r
  generalize hd : memS t (xs) = d
  have HR := Lib.hid hr
  have HD := Lib.hid hd
  clear hr hd
  go_enter Try.func52, Try.ntmps52
  go_wp2_with fail
  go_loopw [7, 8] (fun u v wr => ∃ lo hi : Nat, u = .int .i64 lo ∧ v = .int .i64 hi ∧ lo ≤ hi ∧ hi ≤ xs.length ∧ Frame [] w wr ∧ Hid ((∀ i (h : i < xs.length), i < lo → ltS xs[i] t = true) ∧ (∀ i (h : i < xs.length), hi ≤ i → ltS xs[i] t = false))) (fun u v _ => (intOf v).toNat - (intOf u).toNat)
  case atStart => exact ⟨0, xs.length, rfl, rfl, Nat.zero_le _, Nat.le_refl _, Frame.refl _ _, fun i h hi => absurd hi (Nat.not_lt_zero _), fun i h hi => by omega⟩
  case round =>
    obtain ⟨lo, hi, rfl, rfl, hlh, hin, hf, hI⟩ := hrel
    have s2 := S.out.frame0 hf
    by_cases hlt : lo < hi
    · have hm : (lo + hi) / 2 < xs.length := by omega
      have hx : xs[(lo + hi) / 2]? = some xs[(lo + hi) / 2] := by simp [hm]
      obtain ⟨b9, c9, e9, _, _, hc⟩ := s2.cell encS_len hx
      injection e9 with e9 _ e92
      subst e9 e92
      have q0 := hc 0 _ rfl
      simp only [Nat.add_zero] at q0
      simp only [Nat.mul_one] at q0
      have hcmp := fun w => less_str xs[(lo + hi) / 2] t w
      have hmono : ∀ i (h : i < xs.length), i ≤ (lo + hi) / 2 → ltS xs[(lo + hi) / 2] xs[i] = false := by
        intro i h hle
        rcases Nat.lt_or_ge i ((lo + hi) / 2) with q | q
        · have := (List.pairwise_iff_getElem.1 U.out) i ((lo + hi) / 2) (by simpa using h) (by simpa using hm) q
          exact ltS_asymm (by simpa using this)
        · obtain rfl : i = (lo + hi) / 2 := by omega
          exact ltS_irrefl _
      have hmono2 : ∀ i (h : i < xs.length), (lo + hi) / 2 ≤ i → ltS xs[i] xs[(lo + hi) / 2] = false := by
        intro i h hle
        rcases Nat.lt_or_ge ((lo + hi) / 2) i with q | q
        · have := (List.pairwise_iff_getElem.1 U.out) ((lo + hi) / 2) i (by simpa using hm) (by simpa using h) q
          exact ltS_asymm (by simpa using this)
        · obtain rfl : i = (lo + hi) / 2 := by omega
          exact ltS_irrefl _
      have M1 := Lib.hid hmono
      have M2 := Lib.hid hmono2
      clear hmono hmono2 hx hc s2
      have HF := Lib.hid hf
      clear hf
      generalize hxx : xs[(lo + hi) / 2] = x at *
      have HX := Lib.hid hxx
      clear hxx
      have HC := Lib.hid hcmp
      clear hcmp
      cases hk : ltS x t with
      | true =>
        have KK := Lib.hid hk
        have K1 : Hid True := Lib.hid trivial
        clear hk
        go_wp2_with fail
        refine (HC.out _).mono ?_
        rintro e w3 ⟨rfl, rfl⟩
        rw [KK.out]
        go_wp2_with fail
        go_roundw
        case rel => exact ⟨(lo + hi) / 2 + 1, hi, by go_num, rfl, by omega, hin, HF.out, fun i h hi' => ltS_le_lt (M1.out i h (by omega)) KK.out, hI.out.2⟩
        case measure => simp [intOf]; omega
      | false =>
        have KK := Lib.hid hk
        have K1 : Hid True := Lib.hid trivial
        clear hk
        go_wp2_with fail
        refine (HC.out _).mono ?_
        rintro e w3 ⟨rfl, rfl⟩
        rw [KK.out]
        go_wp2_with fail
        go_roundw
        case rel => exact ⟨lo, (lo + hi) / 2, rfl, by go_num, by omega, by omega, HF.out, hI.out.1, fun i h hi' => ltS_le_ge (M2.out i h hi') KK.out⟩
        case measure => simp [intOf]; omega
    · obtain rfl : lo = hi := by omega
      have hr : rankS (xs) t = lo := rankS_of (by simpa using hin) (fun i h hi => by simpa using hI.out.1 i (by simpa using h) hi) (fun i h hi => by simpa using hI.out.2 i (by simpa using h) hi)
      have hme := rankS_mem (t := t) (r := lo) (by simpa using hin) (fun i h hi => by simpa using hI.out.1 i (by simpa using h) hi) U.out (fun i h hi => by simpa using hI.out.2 i (by simpa using h) hi)
      rw [HR.out] at hr
      rw [HD.out] at hme
      have hr2 := hr.symm
      clear hr
      subst hr2
      by_cases hl : lo < xs.length
      · have hx : xs[lo]? = some xs[lo] := by simp [hl]
        obtain ⟨b9, c9, e9, _, _, hc⟩ := s2.cell encS_len hx
        injection e9 with e9 _ e92
        subst e9 e92
        have q0 := hc 0 _ rfl
        simp only [Nat.add_zero] at q0
        simp only [Nat.mul_one] at q0
        have hcmp := fun w => less_str xs[lo] t w
        have hget : (xs)[lo]? = some xs[lo] := by simp [hl]
        rw [hget] at hme
        have HF := Lib.hid hf
        clear hx hc s2 hf hget
        generalize xs[lo] = x at *
        have HC := Lib.hid hcmp
        clear hcmp
        by_cases hk : x = t
        · have hd : decide (some x = some t) = true := by simp [hk]
          rw [hd] at hme
          subst hme
          subst hk
          have h1 : (x.toList == x.toList) = true := by simp
          clear hd
          go_wp2_with (go_at_call 80; refine (sisNaN_str _ _).mono ?_; rintro e w' ⟨rfl, rfl⟩)
          go_ret2
          exact ⟨rfl, HF.out⟩
        · have hd : decide (some x = some t) = false := by simp [hk]
          rw [hd] at hme
          subst hme
          have h1 := eqL_false hk
          clear hd hk
          go_wp2_with (go_at_call 80; refine (sisNaN_str _ _).mono ?_; rintro e w' ⟨rfl, rfl⟩)
          go_ret2
          exact ⟨rfl, HF.out⟩
      · have hd : decide ((xs)[lo]? = some t) = false := by rw [List.getElem?_eq_none (by first | omega | (simp; omega))]; simp
        rw [hd] at hme
        subst hme
        have HF := Lib.hid hf
        clear hd s2 hf
        go_wp2_with fail
        go_ret2
        exact ⟨rfl, HF.out⟩

set_option maxHeartbeats 1000000 in
set_option maxRecDepth 100000 in
theorem bsf_prop (a : Option Addr) (cap : Nat) (xs : List Pr) (G : List Nat) (t : ByteArray) (w : World) (h : Sl w 46 2 Pr.cs (.slice a xs.length cap) xs G) (hu : UpS (xs.map (·.name))) (hn : xs.length ≤ 1073741824) :
    Calls Try.prog 54 #[.slice a xs.length cap, .string t, .func (.func 55) #[] #[]] w fun e w' => e = .returned (.tuple #[.int .i64 (rankS (xs.map (·.name)) t), .bool (memS t (xs.map (·.name)))]) ∧ Frame [] w w' := by
  have S := Lib.hid h
  have U := Lib.hid hu
  clear h hu
  generalize hr : rankS (xs.map (·.name)) t = r
  generalize hd : memS t (xs.map (·.name)) = d
  have HR := Lib.hid hr
  have HD := Lib.hid hd
  clear hr hd
  go_enter Try.func54, Try.ntmps54
  go_wp2_with fail
  go_loopw [9, 10] (fun u v wr => ∃ lo hi : Nat, u = .int .i64 lo ∧ v = .int .i64 hi ∧ lo ≤ hi ∧ hi ≤ xs.length ∧ Frame [] w wr ∧ Hid ((∀ i (h : i < xs.length), i < lo → ltS xs[i].name t = true) ∧ (∀ i (h : i < xs.length), hi ≤ i → ltS xs[i].name t = false))) (fun u v _ => (intOf v).toNat - (intOf u).toNat)
  case atStart => exact ⟨0, xs.length, rfl, rfl, Nat.zero_le _, Nat.le_refl _, Frame.refl _ _, fun i h hi => absurd hi (Nat.not_lt_zero _), fun i h hi => by omega⟩
  case round =>
    obtain ⟨lo, hi, rfl, rfl, hlh, hin, hf, hI⟩ := hrel
    have s2 := S.out.frame0 hf
    by_cases hlt : lo < hi
    · have hm : (lo + hi) / 2 < xs.length := by omega
      have hx : xs[(lo + hi) / 2]? = some xs[(lo + hi) / 2] := by simp [hm]
      obtain ⟨b9, c9, e9, _, _, hc⟩ := s2.cell pr_len hx
      injection e9 with e9 _ e92
      subst e9 e92
      have q0 := hc 0 _ rfl
      have q1 := hc 1 _ rfl
      simp only [Nat.add_zero] at q0
      have hcmp := fun w => cmp_prop xs[(lo + hi) / 2] t w
      have hmono : ∀ i (h : i < xs.length), i ≤ (lo + hi) / 2 → ltS xs[(lo + hi) / 2].name xs[i].name = false := by
        intro i h hle
        rcases Nat.lt_or_ge i ((lo + hi) / 2) with q | q
        · have := (List.pairwise_iff_getElem.1 U.out) i ((lo + hi) / 2) (by simpa using h) (by simpa using hm) q
          exact ltS_asymm (by simpa using this)
        · obtain rfl : i = (lo + hi) / 2 := by omega
          exact ltS_irrefl _
      have hmono2 : ∀ i (h : i < xs.length), (lo + hi) / 2 ≤ i → ltS xs[i].name xs[(lo + hi) / 2].name = false := by
        intro i h hle
        rcases Nat.lt_or_ge ((lo + hi) / 2) i with q | q
        · have := (List.pairwise_iff_getElem.1 U.out) ((lo + hi) / 2) i (by simpa using hm) (by simpa using h) q
          exact ltS_asymm (by simpa using this)
        · obtain rfl : i = (lo + hi) / 2 := by omega
          exact ltS_irrefl _
      have M1 := Lib.hid hmono
      have M2 := Lib.hid hmono2
      clear hmono hmono2 hx hc s2
      have HF := Lib.hid hf
      clear hf
      generalize hxx : xs[(lo + hi) / 2] = x at *
      have HX := Lib.hid hxx
      clear hxx
      have HC := Lib.hid hcmp
      clear hcmp
      cases hk : ltS x.name t with
      | true =>
        have KK := Lib.hid hk
        have hneg : cmpS x.name t < 0 := (cmpS_neg _ _).2 hk
        clear hk
        go_wp2_with fail
        refine (HC.out _).mono ?_
        rintro e w3 ⟨rfl, f3⟩
        have F3 := Lib.hid f3
        clear f3
        go_wp2_with fail
        go_roundw
        case rel => exact ⟨(lo + hi) / 2 + 1, hi, by go_num, rfl, by omega, hin, HF.out.trans1 F3.out, fun i h hi' => ltS_le_lt (M1.out i h (by omega)) KK.out, hI.out.2⟩
        case measure => simp [intOf]; omega
      | false =>
        have KK := Lib.hid hk
        have hneg : ¬ cmpS x.name t < 0 := fun h => by rw [(cmpS_neg _ _).1 h] at hk; cases hk
        clear hk
        go_wp2_with fail
        refine (HC.out _).mono ?_
        rintro e w3 ⟨rfl, f3⟩
        have F3 := Lib.hid f3
        clear f3
        go_wp2_with fail
        go_roundw
        case rel => exact ⟨lo, (lo + hi) / 2, rfl, by go_num, by omega, by omega, HF.out.trans1 F3.out, hI.out.1, fun i h hi' => ltS_le_ge (M2.out i h hi') KK.out⟩
        case measure => simp [intOf]; omega
    · obtain rfl : lo = hi := by omega
      have hr : rankS (xs.map (·.name)) t = lo := rankS_of (by simpa using hin) (fun i h hi => by simpa using hI.out.1 i (by simpa using h) hi) (fun i h hi => by simpa using hI.out.2 i (by simpa using h) hi)
      have hme := rankS_mem (t := t) (r := lo) (by simpa using hin) (fun i h hi => by simpa using hI.out.1 i (by simpa using h) hi) U.out (fun i h hi => by simpa using hI.out.2 i (by simpa using h) hi)
      rw [HR.out] at hr
      rw [HD.out] at hme
      have hr2 := hr.symm
      clear hr
      subst hr2
      by_cases hl : lo < xs.length
      · have hx : xs[lo]? = some xs[lo] := by simp [hl]
        obtain ⟨b9, c9, e9, _, _, hc⟩ := s2.cell pr_len hx
        injection e9 with e9 _ e92
        subst e9 e92
        have q0 := hc 0 _ rfl
        have q1 := hc 1 _ rfl
        simp only [Nat.add_zero] at q0
        have hcmp := fun w => cmp_prop xs[lo] t w
        have hget : (xs.map (·.name))[lo]? = some xs[lo].name := by simp [hl]
        rw [hget] at hme
        have HF := Lib.hid hf
        clear hx hc s2 hf hget
        generalize xs[lo] = x at *
        have HC := Lib.hid hcmp
        clear hcmp
        by_cases hk : x.name = t
        · have hd : decide (some x.name = some t) = true := by simp [hk]
          rw [hd] at hme
          subst hme
          have h0 : cmpS x.name t = 0 := (cmpS_zero _ _).2 hk
          have h1 : (cmpS x.name t == 0) = true := by simp [h0]
          clear h0
          clear hd hk
          go_wp2_with fail
          refine (HC.out _).mono ?_
          rintro e w3 ⟨rfl, f3⟩
          have F3 := Lib.hid f3
          clear f3
          go_wp2_with fail
          go_ret2
          exact ⟨rfl, HF.out.trans1 F3.out⟩
        · have hd : decide (some x.name = some t) = false := by simp [hk]
          rw [hd] at hme
          subst hme
          have h0 : ¬ cmpS x.name t = 0 := fun h => hk ((cmpS_zero _ _).1 h)
          have h1 : (cmpS x.name t == 0) = false := by simp [h0]
          clear h0
          clear hd hk
          go_wp2_with fail
          refine (HC.out _).mono ?_
          rintro e w3 ⟨rfl, f3⟩
          have F3 := Lib.hid f3
          clear f3
          go_wp2_with fail
          go_ret2
          exact ⟨rfl, HF.out.trans1 F3.out⟩
      · have hd : decide ((xs.map (·.name))[lo]? = some t) = false := by rw [List.getElem?_eq_none (by first | omega | (simp; omega))]; simp
        rw [hd] at hme
        subst hme
        have HF := Lib.hid hf
        clear hd s2 hf
        go_wp2_with fail
        go_ret2
        exact ⟨rfl, HF.out⟩
end Go.Proofs.Ytjcajidgaejhoaa

