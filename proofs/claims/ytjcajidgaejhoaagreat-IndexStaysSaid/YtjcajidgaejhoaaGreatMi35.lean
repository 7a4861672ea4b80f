/- slices.Index, slices.Contains at ints, texts, properties. -/
import Derived.Test.YtjcajidgaejhoaaGreatMi33
import Derived.Test.YtjcajidgaejhoaaGreatMi34
namespace Go.Proofs.YtjcajidgaejhoaaGreat
open Go.RowKit
set_option linter.unusedSimpArgs false
set_option linter.unusedVariables false

set_option maxHeartbeats 4000000 in
theorem idx_str (U : Nat → Prop) (a : Option Addr) (c : Nat) (xs : List ByteArray) (x : ByteArray) (w : World) (h : RF U w 1 encS a xs) (hl : xs.length ≤ 1000000) :
    Calls Tryz.prog 75 #[.slice a xs.length c, .string x] w (InEnd (x ∈ xs) w) := by
  have H := Lib.hid h
  clear h
  go_enter Tryz.func75, Tryz.ntmps75
  go_wp2_with fail
  have FR := Lib.hid (Frame.refl [] w)
  go_loopw [8] (fun i wr => ∃ k : Nat, k ≤ xs.length ∧ i = .int .i64 k ∧ Hid (Frame [] w wr ∧ ∀ j z, j < k → xs[j]? = some z → z ≠ x)) (fun i _ => xs.length - (intOf i).toNat)
  case atStart => exact ⟨0, Nat.zero_le _, rfl, Frame.refl _ _, fun j _ h => by omega⟩
  case round =>
    obtain ⟨k, hk, rfl, hR⟩ := hrel
    rename World => wr

    by_cases hlt : k < xs.length
    · have g1 : xs[k]? = some xs[k] := by simp [hlt]
      obtain ⟨b, off, rfl, -, q1⟩ := (H.out.frame0 (FR.out.trans1 hR.out.1)) k _ g1
      have x0 := q1 0 _ rfl
      simp only [Nat.add_zero, Nat.mul_one] at x0
      generalize xs[k] = y at *
      have G1 := Lib.hid g1
      clear g1 q1
      by_cases hxy : x = y
      · have hb := beq_toList_true hxy
        have HX := Lib.hid hxy
        clear hxy
        go_wp2_with fail
        go_ret
        exact ⟨k, rfl, ⟨fun _ => HX.out ▸ List.mem_of_getElem? G1.out, fun _ => by omega⟩, (FR.out.trans1 hR.out.1).trans1 (by (repeat first | assumption | exact Frame.refl _ _ | refine Frame.trans1 ?_ (Frame.alloc _ _ _) | refine Frame.trans1 ?_ (Frame.drew _ _) | refine Frame.trans1 ?_ (Frame.drewN _ _ _)))⟩
      · have hb := beq_toList_false hxy
        have HX := Lib.hid hxy
        clear hxy
        go_wp2_with fail
        go_roundw
        case rel => exact ⟨k + 1, by omega, by first | rfl | go_num, Lib.hid ⟨hR.out.1.trans1 (by (repeat first | assumption | exact Frame.refl _ _ | refine Frame.trans1 ?_ (Frame.alloc _ _ _) | refine Frame.trans1 ?_ (Frame.drew _ _) | refine Frame.trans1 ?_ (Frame.drewN _ _ _))), fun j z hj hz => by
          rcases Nat.lt_or_ge j k with h | h
          · exact hR.out.2 j z h hz
          · obtain rfl : j = k := by omega
            have := G1.out.symm.trans hz
            simp at this
            subst this
            exact fun e => HX.out e.symm⟩⟩
        case measure => first | (simp [intOf]; done) | (simp [intOf]; omega)
    · obtain rfl : k = xs.length := by omega
      go_wp2_with fail
      go_ret
      exact ⟨-1, rfl, ⟨fun h => by omega, fun h => by
        obtain ⟨j, hj, e⟩ := List.getElem_of_mem h
        exact absurd e (hR.out.2 j xs[j] hj (by simp))⟩, (FR.out.trans1 hR.out.1).trans1 (by (repeat first | assumption | exact Frame.refl _ _ | refine Frame.trans1 ?_ (Frame.alloc _ _ _) | refine Frame.trans1 ?_ (Frame.drew _ _) | refine Frame.trans1 ?_ (Frame.drewN _ _ _)))⟩
theorem con_str (U : Nat → Prop) (a : Option Addr) (c : Nat) (xs : List ByteArray) (x : ByteArray) (w : World) (h : RF U w 1 encS a xs) (hl : xs.length ≤ 1000000) (b : Bool) (hb : b = true ↔ x ∈ xs) :
    Calls Tryz.prog 48 #[.slice a xs.length c, .string x] w fun e w' => e = .returned (.bool b) ∧ Frame [] w w' := by
  have HI := Lib.hid (fun w' (f : Frame [] w w') => idx_str U a c xs x w' (h.frame0 f) hl)
  have HB := Lib.hid hb
  clear h hb
  go_enter Tryz.func48, Tryz.ntmps48
  go_wp2_with fail
  refine (HI.out _ (by (repeat first | assumption | exact Frame.refl _ _ | refine Frame.trans1 ?_ (Frame.alloc _ _ _) | refine Frame.trans1 ?_ (Frame.drew _ _) | refine Frame.trans1 ?_ (Frame.drewN _ _ _)))).mono ?_
  rintro e w3 ⟨i, rfl, hi, f3⟩
  have F3 := Lib.hid (And.intro hi f3)
  clear hi f3
  go_wp2_with fail
  go_ret
  have E : decide (0 ≤ i) = b := by
    cases b with
    | true => exact decide_eq_true (F3.out.1.2 (HB.out.1 rfl))
    | false => exact decide_eq_false (fun h => by have := HB.out.2 (F3.out.1.1 h); simp at this)
  exact ⟨by rw [← E]; rfl, (show Frame [] w _ from by (repeat first | assumption | exact Frame.refl _ _ | refine Frame.trans1 ?_ (Frame.alloc _ _ _) | refine Frame.trans1 ?_ (Frame.drew _ _) | refine Frame.trans1 ?_ (Frame.drewN _ _ _))).trans1 F3.out.2⟩
set_option maxHeartbeats 4000000 in
theorem idx_prop (U : Nat → Prop) (a : Option Addr) (c : Nat) (xs : List Pr) (x : Pr) (w : World) (h : RF U w 2 Pr.cs a xs) (hl : xs.length ≤ 1000000) :
    Calls Tryz.prog 76 #[.slice a xs.length c, .agg #[.string x.name, .string x.val]] w (InEnd (x ∈ xs) w) := by
  have H := Lib.hid h
  clear h
  go_enter Tryz.func76, Tryz.ntmps76
  go_wp2_with fail
  have fr := Frame.alloc [] w (.cells #[.string x.name, .string x.val] 67)
  have b1 := Blk.new w 67 #[.string x.name, .string x.val]
  generalize w.alloc (.cells #[.string x.name, .string x.val] 67) = wa at *
  generalize w.heap.size = zb at *
  have B1 := Lib.hid b1
  have FR := Lib.hid fr
  clear b1 fr
  go_loopw [8] (fun i wr => ∃ k : Nat, k ≤ xs.length ∧ i = .int .i64 k ∧ Hid (Frame [] wa wr ∧ ∀ j z, j < k → xs[j]? = some z → z ≠ x)) (fun i _ => xs.length - (intOf i).toNat)
  case atStart => exact ⟨0, Nat.zero_le _, rfl, Frame.refl _ _, fun j _ h => by omega⟩
  case round =>
    obtain ⟨k, hk, rfl, hR⟩ := hrel
    rename World => wr
    have z0 := (B1.out.frame hR.out.1 (by simp)).at 0 rfl
    have z1 := (B1.out.frame hR.out.1 (by simp)).at 1 rfl
    by_cases hlt : k < xs.length
    · have g1 : xs[k]? = some xs[k] := by simp [hlt]
      obtain ⟨b, off, rfl, -, q1⟩ := (H.out.frame0 (FR.out.trans1 hR.out.1)) k _ g1
      have x0 := q1 0 _ rfl
      have x1 := q1 1 _ rfl
      simp only [Nat.add_zero] at x0
      generalize xs[k] = y at *
      have G1 := Lib.hid g1
      clear g1 q1
      by_cases hxy : x = y
      · have Q' : Hid (∀ n, (binOp .eql 67 (.agg #[.string x.name, .string x.val]) (.agg #[.string y.name, .string y.val])).run Tryz.prog (wr.drewN n) = .ok (.bool true) (wr.drewN n)) := by
          show ∀ n, _
          intro n
          have := eql_prop x y (wr.drewN n)
          rw [decide_eq_true hxy] at this; exact this
        have HX := Lib.hid hxy
        clear hxy
        go_wp2_with fail
        refine wp_region_quiet_lit (by kernel_rfl) (by kernel_rfl) ?_
        iterate 5 (go_big_quiet_step (fail))
        go_big_quiet_want
        refine quiet_bin .eql 67 67 (.tmp 11) (.tmp 15) (.agg #[.string x.name, .string x.val]) (.agg #[.string y.name, .string y.val]) (.bool true) rfl rfl rfl (fun w => guard_prop _ _ _ _ _ w) ?_ ?_
        · rintro _ ⟨n, rfl⟩; exact Q'.out n
        go_big_quiet_on
        refine wpQuiet_nil ?_
        intro _ hw'
        obtain ⟨nq, hw'⟩ := hw'
        subst hw'
        go_wp2_with fail
        go_ret
        exact ⟨k, rfl, ⟨fun _ => HX.out ▸ List.mem_of_getElem? G1.out, fun _ => by omega⟩, (FR.out.trans1 hR.out.1).trans1 (Frame.drewN _ _ _)⟩
      · have Q' : Hid (∀ n, (binOp .eql 67 (.agg #[.string x.name, .string x.val]) (.agg #[.string y.name, .string y.val])).run Tryz.prog (wr.drewN n) = .ok (.bool false) (wr.drewN n)) := by
          show ∀ n, _
          intro n
          have := eql_prop x y (wr.drewN n)
          rw [decide_eq_false hxy] at this; exact this
        have HX := Lib.hid hxy
        clear hxy
        go_wp2_with fail
        refine wp_region_quiet_lit (by kernel_rfl) (by kernel_rfl) ?_
        iterate 5 (go_big_quiet_step (fail))
        go_big_quiet_want
        refine quiet_bin .eql 67 67 (.tmp 11) (.tmp 15) (.agg #[.string x.name, .string x.val]) (.agg #[.string y.name, .string y.val]) (.bool false) rfl rfl rfl (fun w => guard_prop _ _ _ _ _ w) ?_ ?_
        · rintro _ ⟨n, rfl⟩; exact Q'.out n
        go_big_quiet_on
        refine wpQuiet_nil ?_
        intro _ hw'
        obtain ⟨nq, hw'⟩ := hw'
        subst hw'
        go_wp2_with fail
        go_roundw
        case rel => exact ⟨k + 1, by omega, by first | rfl | go_num, Lib.hid ⟨hR.out.1.trans1 (Frame.drewN _ _ _), fun j z hj hz => by
          rcases Nat.lt_or_ge j k with h | h
          · exact hR.out.2 j z h hz
          · obtain rfl : j = k := by omega
            have := G1.out.symm.trans hz
            simp at this
            subst this
            exact fun e => HX.out e.symm⟩⟩
        case measure => first | (simp [intOf]; done) | (simp [intOf]; omega)
    · obtain rfl : k = xs.length := by omega
      go_wp2_with fail
      go_ret
      exact ⟨-1, rfl, ⟨fun h => by omega, fun h => by
        obtain ⟨j, hj, e⟩ := List.getElem_of_mem h
        exact absurd e (hR.out.2 j xs[j] hj (by simp))⟩, (FR.out.trans1 hR.out.1).trans1 (by (repeat first | assumption | exact Frame.refl _ _ | refine Frame.trans1 ?_ (Frame.alloc _ _ _) | refine Frame.trans1 ?_ (Frame.drew _ _) | refine Frame.trans1 ?_ (Frame.drewN _ _ _)))⟩
theorem con_prop (U : Nat → Prop) (a : Option Addr) (c : Nat) (xs : List Pr) (x : Pr) (w : World) (h : RF U w 2 Pr.cs a xs) (hl : xs.length ≤ 1000000) (b : Bool) (hb : b = true ↔ x ∈ xs) :
    Calls Tryz.prog 49 #[.slice a xs.length c, .agg #[.string x.name, .string x.val]] w fun e w' => e = .returned (.bool b) ∧ Frame [] w w' := by
  have HI := Lib.hid (fun w' (f : Frame [] w w') => idx_prop U a c xs x w' (h.frame0 f) hl)
  have HB := Lib.hid hb
  clear h hb
  go_enter Tryz.func49, Tryz.ntmps49
  go_wp2_with fail
  refine (HI.out _ (by (repeat first | assumption | exact Frame.refl _ _ | refine Frame.trans1 ?_ (Frame.alloc _ _ _) | refine Frame.trans1 ?_ (Frame.drew _ _) | refine Frame.trans1 ?_ (Frame.drewN _ _ _)))).mono ?_
  rintro e w3 ⟨i, rfl, hi, f3⟩
  have F3 := Lib.hid (And.intro hi f3)
  clear hi f3
  go_wp2_with fail
  go_ret
  have E : decide (0 ≤ i) = b := by
    cases b with
    | true => exact decide_eq_true (F3.out.1.2 (HB.out.1 rfl))
    | false => exact decide_eq_false (fun h => by have := HB.out.2 (F3.out.1.1 h); simp at this)
  exact ⟨by rw [← E]; rfl, (show Frame [] w _ from by (repeat first | assumption | exact Frame.refl _ _ | refine Frame.trans1 ?_ (Frame.alloc _ _ _) | refine Frame.trans1 ?_ (Frame.drew _ _) | refine Frame.trans1 ?_ (Frame.drewN _ _ _))).trans1 F3.out.2⟩
set_option maxHeartbeats 4000000 in
theorem idx_int (U : Nat → Prop) (a : Option Addr) (c : Nat) (xs : List Int) (x : Int) (w : World) (h : RF U w 1 encI a xs) (hl : xs.length ≤ 1000000) :
    Calls Tryz.prog 92 #[.slice a xs.length c, .int .i64 x] w (InEnd (x ∈ xs) w) := by
  have H := Lib.hid h
  clear h
  go_enter Tryz.func92, Tryz.ntmps92
  go_wp2_with fail
  have FR := Lib.hid (Frame.refl [] w)
  go_loopw [8] (fun i wr => ∃ k : Nat, k ≤ xs.length ∧ i = .int .i64 k ∧ Hid (Frame [] w wr ∧ ∀ j z, j < k → xs[j]? = some z → z ≠ x)) (fun i _ => xs.length - (intOf i).toNat)
  case atStart => exact ⟨0, Nat.zero_le _, rfl, Frame.refl _ _, fun j _ h => by omega⟩
  case round =>
    obtain ⟨k, hk, rfl, hR⟩ := hrel
    rename World => wr

    by_cases hlt : k < xs.length
    · have g1 : xs[k]? = some xs[k] := by simp [hlt]
      obtain ⟨b, off, rfl, -, q1⟩ := (H.out.frame0 (FR.out.trans1 hR.out.1)) k _ g1
      have x0 := q1 0 _ rfl
      simp only [Nat.add_zero, Nat.mul_one] at x0
      generalize xs[k] = y at *
      have G1 := Lib.hid g1
      clear g1 q1
      by_cases hxy : x = y
      · have hb : (x == y) = true := by simp [hxy]
        have HX := Lib.hid hxy
        clear hxy
        go_wp2_with fail
        go_ret
        exact ⟨k, rfl, ⟨fun _ => HX.out ▸ List.mem_of_getElem? G1.out, fun _ => by omega⟩, (FR.out.trans1 hR.out.1).trans1 (by (repeat first | assumption | exact Frame.refl _ _ | refine Frame.trans1 ?_ (Frame.alloc _ _ _) | refine Frame.trans1 ?_ (Frame.drew _ _) | refine Frame.trans1 ?_ (Frame.drewN _ _ _)))⟩
      · have hb : (x == y) = false := by simpa using hxy
        have HX := Lib.hid hxy
        clear hxy
        go_wp2_with fail
        go_roundw
        case rel => exact ⟨k + 1, by omega, by first | rfl | go_num, Lib.hid ⟨hR.out.1.trans1 (by (repeat first | assumption | exact Frame.refl _ _ | refine Frame.trans1 ?_ (Frame.alloc _ _ _) | refine Frame.trans1 ?_ (Frame.drew _ _) | refine Frame.trans1 ?_ (Frame.drewN _ _ _))), fun j z hj hz => by
          rcases Nat.lt_or_ge j k with h | h
          · exact hR.out.2 j z h hz
          · obtain rfl : j = k := by omega
            have := G1.out.symm.trans hz
            simp at this
            subst this
            exact fun e => HX.out e.symm⟩⟩
        case measure => first | (simp [intOf]; done) | (simp [intOf]; omega)
    · obtain rfl : k = xs.length := by omega
      go_wp2_with fail
      go_ret
      exact ⟨-1, rfl, ⟨fun h => by omega, fun h => by
        obtain ⟨j, hj, e⟩ := List.getElem_of_mem h
        exact absurd e (hR.out.2 j xs[j] hj (by simp))⟩, (FR.out.trans1 hR.out.1).trans1 (by (repeat first | assumption | exact Frame.refl _ _ | refine Frame.trans1 ?_ (Frame.alloc _ _ _) | refine Frame.trans1 ?_ (Frame.drew _ _) | refine Frame.trans1 ?_ (Frame.drewN _ _ _)))⟩
theorem con_int (U : Nat → Prop) (a : Option Addr) (c : Nat) (xs : List Int) (x : Int) (w : World) (h : RF U w 1 encI a xs) (hl : xs.length ≤ 1000000) (b : Bool) (hb : b = true ↔ x ∈ xs) :
    Calls Tryz.prog 69 #[.slice a xs.length c, .int .i64 x] w fun e w' => e = .returned (.bool b) ∧ Frame [] w w' := by
  have HI := Lib.hid (fun w' (f : Frame [] w w') => idx_int U a c xs x w' (h.frame0 f) hl)
  have HB := Lib.hid hb
  clear h hb
  go_enter Tryz.func69, Tryz.ntmps69
  go_wp2_with fail
  refine (HI.out _ (by (repeat first | assumption | exact Frame.refl _ _ | refine Frame.trans1 ?_ (Frame.alloc _ _ _) | refine Frame.trans1 ?_ (Frame.drew _ _) | refine Frame.trans1 ?_ (Frame.drewN _ _ _)))).mono ?_
  rintro e w3 ⟨i, rfl, hi, f3⟩
  have F3 := Lib.hid (And.intro hi f3)
  clear hi f3
  go_wp2_with fail
  go_ret
  have E : decide (0 ≤ i) = b := by
    cases b with
    | true => exact decide_eq_true (F3.out.1.2 (HB.out.1 rfl))
    | false => exact decide_eq_false (fun h => by have := HB.out.2 (F3.out.1.1 h); simp at this)
  exact ⟨by rw [← E]; rfl, (show Frame [] w _ from by (repeat first | assumption | exact Frame.refl _ _ | refine Frame.trans1 ?_ (Frame.alloc _ _ _) | refine Frame.trans1 ?_ (Frame.drew _ _) | refine Frame.trans1 ?_ (Frame.drewN _ _ _))).trans1 F3.out.2⟩
end Go.Proofs.YtjcajidgaejhoaaGreat

