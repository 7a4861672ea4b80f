/- slices.Index, slices.Contains at ints, texts, properties. graph's Without: its closure. A graph that a call makes for itself, beside blocks that it keeps. -/
import Derived.Test.YtolkmapdbilolaaMg26
import Derived.Test.YtolkmapdbilolaaMg19
import Derived.Test.YtolkmapdbilolaaMg17
namespace Go.Proofs.Ytolkmapdbilolaa
open Go.RowKit
set_option linter.unusedSimpArgs false
set_option linter.unusedVariables false

set_option maxHeartbeats 4000000 in
theorem idx_str (U : Nat → Prop) (a : Option Addr) (c : Nat) (xs : List ByteArray) (x : ByteArray) (w : World) (h : RF U w 1 encS a xs) (hl : xs.length ≤ 1000000) :
    Calls Try.prog 136 #[.slice a xs.length c, .string x] w (InEnd (x ∈ xs) w) := by
  have H := Lib.hid h
  clear h
  go_enter Try.func136, Try.ntmps136
  go_wp2_with fail
  have FR := Lib.hid (Frame.refl [] w)
  go_loopw [8] (fun i wr => ∃ k : Nat, k ≤ xs.length ∧ i = .int .i64 k ∧ Hid (Frame [] w wr ∧ ∀ j z, j < k → xs[j]? = some z → z ≠ x)) (fun i _ => xs.length - (intOf i).toNat)
  case atStart => exact ⟨0, Nat.zero_le _, rfl, Frame.refl _ _, fun j _ h => by omega⟩
  case round =>
    obtain ⟨k, hk, rfl, hR⟩ := hrel
    rename World => wr

    by_cases hlt : k < xs.length
    · have g1 : xs[k]? = some xs[k] := by simp [hlt]
      obtain ⟨b, off, rfl, -, q1⟩ := (H.out.frame0 (FR.out.trans1 hR.out.1)) k _ g1
      have x0 := q1 0 _ rfl
      simp only [Nat.add_zero, Nat.mul_one] at x0
      generalize xs[k] = y at *
      have G1 := Lib.hid g1
      clear g1 q1
      by_cases hxy : x = y
      · have hb := beq_toList_true hxy
        have HX := Lib.hid hxy
        clear hxy
        go_wp2_with fail
        go_ret
        exact ⟨k, rfl, ⟨fun _ => HX.out ▸ List.mem_of_getElem? G1.out, fun _ => by omega⟩, (FR.out.trans1 hR.out.1).trans1 (by (repeat first | assumption | exact Frame.refl _ _ | refine Frame.trans1 ?_ (Frame.alloc _ _ _) | refine Frame.trans1 ?_ (Frame.drew _ _) | refine Frame.trans1 ?_ (Frame.drewN _ _ _)))⟩
      · have hb := beq_toList_false hxy
        have HX := Lib.hid hxy
        clear hxy
        go_wp2_with fail
        go_roundw
        case rel => exact ⟨k + 1, by omega, by first | rfl | go_num, Lib.hid ⟨hR.out.1.trans1 (by (repeat first | assumption | exact Frame.refl _ _ | refine Frame.trans1 ?_ (Frame.alloc _ _ _) | refine Frame.trans1 ?_ (Frame.drew _ _) | refine Frame.trans1 ?_ (Frame.drewN _ _ _))), fun j z hj hz => by
          rcases Nat.lt_or_ge j k with h | h
          · exact hR.out.2 j z h hz
          · obtain rfl : j = k := by omega
            have := G1.out.symm.trans hz
            simp at this
            subst this
            exact fun e => HX.out e.symm⟩⟩
        case measure => first | (simp [intOf]; done) | (simp [intOf]; omega)
    · obtain rfl : k = xs.length := by omega
      go_wp2_with fail
      go_ret
      exact ⟨-1, rfl, ⟨fun h => by omega, fun h => by
        obtain ⟨j, hj, e⟩ := List.getElem_of_mem h
        exact absurd e (hR.out.2 j xs[j] hj (by simp))⟩, (FR.out.trans1 hR.out.1).trans1 (by (repeat first | assumption | exact Frame.refl _ _ | refine Frame.trans1 ?_ (Frame.alloc _ _ _) | refine Frame.trans1 ?_ (Frame.drew _ _) | refine Frame.trans1 ?_ (Frame.drewN _ _ _)))⟩
theorem con_str (U : Nat → Prop) (a : Option Addr) (c : Nat) (xs : List ByteArray) (x : ByteArray) (w : World) (h : RF U w 1 encS a xs) (hl : xs.length ≤ 1000000) (b : Bool) (hb : b = true ↔ x ∈ xs) :
    Calls Try.prog 97 #[.slice a xs.length c, .string x] w fun e w' => e = .returned (.bool b) ∧ Frame [] w w' := by
  have HI := Lib.hid (fun w' (f : Frame [] w w') => idx_str U a c xs x w' (h.frame0 f) hl)
  have HB := Lib.hid hb
  clear h hb
  go_enter Try.func97, Try.ntmps97
  go_wp2_with fail
  refine (HI.out _ (by (repeat first | assumption | exact Frame.refl _ _ | refine Frame.trans1 ?_ (Frame.alloc _ _ _) | refine Frame.trans1 ?_ (Frame.drew _ _) | refine Frame.trans1 ?_ (Frame.drewN _ _ _)))).mono ?_
  rintro e w3 ⟨i, rfl, hi, f3⟩
  have F3 := Lib.hid (And.intro hi f3)
  clear hi f3
  go_wp2_with fail
  go_ret
  have E : decide (0 ≤ i) = b := by
    cases b with
    | true => exact decide_eq_true (F3.out.1.2 (HB.out.1 rfl))
    | false => exact decide_eq_false (fun h => by have := HB.out.2 (F3.out.1.1 h); simp at this)
  exact ⟨by rw [← E]; rfl, (show Frame [] w _ from by (repeat first | assumption | exact Frame.refl _ _ | refine Frame.trans1 ?_ (Frame.alloc _ _ _) | refine Frame.trans1 ?_ (Frame.drew _ _) | refine Frame.trans1 ?_ (Frame.drewN _ _ _))).trans1 F3.out.2⟩
set_option maxHeartbeats 4000000 in
theorem idx_prop (U : Nat → Prop) (a : Option Addr) (c : Nat) (xs : List Pr) (x : Pr) (w : World) (h : RF U w 2 Pr.cs a xs) (hl : xs.length ≤ 1000000) :
    Calls Try.prog 137 #[.slice a xs.length c, .agg #[.string x.name, .string x.val]] w (InEnd (x ∈ xs) w) := by
  have H := Lib.hid h
  clear h
  go_enter Try.func137, Try.ntmps137
  go_wp2_with fail
  have fr := Frame.alloc [] w (.cells #[.string x.name, .string x.val] 129)
  have b1 := Blk.new w 129 #[.string x.name, .string x.val]
  generalize w.alloc (.cells #[.string x.name, .string x.val] 129) = wa at *
  generalize w.heap.size = zb at *
  have B1 := Lib.hid b1
  have FR := Lib.hid fr
  clear b1 fr
  go_loopw [8] (fun i wr => ∃ k : Nat, k ≤ xs.length ∧ i = .int .i64 k ∧ Hid (Frame [] wa wr ∧ ∀ j z, j < k → xs[j]? = some z → z ≠ x)) (fun i _ => xs.length - (intOf i).toNat)
  case atStart => exact ⟨0, Nat.zero_le _, rfl, Frame.refl _ _, fun j _ h => by omega⟩
  case round =>
    obtain ⟨k, hk, rfl, hR⟩ := hrel
    rename World => wr
    have z0 := (B1.out.frame hR.out.1 (by simp)).at 0 rfl
    have z1 := (B1.out.frame hR.out.1 (by simp)).at 1 rfl
    by_cases hlt : k < xs.length
    · have g1 : xs[k]? = some xs[k] := by simp [hlt]
      obtain ⟨b, off, rfl, -, q1⟩ := (H.out.frame0 (FR.out.trans1 hR.out.1)) k _ g1
      have x0 := q1 0 _ rfl
      have x1 := q1 1 _ rfl
      simp only [Nat.add_zero] at x0
      generalize xs[k] = y at *
      have G1 := Lib.hid g1
      clear g1 q1
      by_cases hxy : x = y
      · have Q' : Hid (∀ n, (binOp .eql 129 (.agg #[.string x.name, .string x.val]) (.agg #[.string y.name, .string y.val])).run Try.prog (wr.drewN n) = .ok (.bool true) (wr.drewN n)) := by
          show ∀ n, _
          intro n
          have := eql_prop x y (wr.drewN n)
          rw [decide_eq_true hxy] at this; exact this
        have HX := Lib.hid hxy
        clear hxy
        go_wp2_with fail
        refine wp_region_quiet_lit (by kernel_rfl) (by kernel_rfl) ?_
        iterate 5 (go_big_quiet_step (fail))
        go_big_quiet_want
        refine quiet_bin .eql 129 129 (.tmp 11) (.tmp 15) (.agg #[.string x.name, .string x.val]) (.agg #[.string y.name, .string y.val]) (.bool true) rfl rfl rfl (fun w => guard_prop _ _ _ _ _ w) ?_ ?_
        · rintro _ ⟨n, rfl⟩; exact Q'.out n
        go_big_quiet_on
        refine wpQuiet_nil ?_
        intro _ hw'
        obtain ⟨nq, hw'⟩ := hw'
        subst hw'
        go_wp2_with fail
        go_ret
        exact ⟨k, rfl, ⟨fun _ => HX.out ▸ List.mem_of_getElem? G1.out, fun _ => by omega⟩, (FR.out.trans1 hR.out.1).trans1 (Frame.drewN _ _ _)⟩
      · have Q' : Hid (∀ n, (binOp .eql 129 (.agg #[.string x.name, .string x.val]) (.agg #[.string y.name, .string y.val])).run Try.prog (wr.drewN n) = .ok (.bool false) (wr.drewN n)) := by
          show ∀ n, _
          intro n
          have := eql_prop x y (wr.drewN n)
          rw [decide_eq_false hxy] at this; exact this
        have HX := Lib.hid hxy
        clear hxy
        go_wp2_with fail
        refine wp_region_quiet_lit (by kernel_rfl) (by kernel_rfl) ?_
        iterate 5 (go_big_quiet_step (fail))
        go_big_quiet_want
        refine quiet_bin .eql 129 129 (.tmp 11) (.tmp 15) (.agg #[.string x.name, .string x.val]) (.agg #[.string y.name, .string y.val]) (.bool false) rfl rfl rfl (fun w => guard_prop _ _ _ _ _ w) ?_ ?_
        · rintro _ ⟨n, rfl⟩; exact Q'.out n
        go_big_quiet_on
        refine wpQuiet_nil ?_
        intro _ hw'
        obtain ⟨nq, hw'⟩ := hw'
        subst hw'
        go_wp2_with fail
        go_roundw
        case rel => exact ⟨k + 1, by omega, by first | rfl | go_num, Lib.hid ⟨hR.out.1.trans1 (Frame.drewN _ _ _), fun j z hj hz => by
          rcases Nat.lt_or_ge j k with h | h
          · exact hR.out.2 j z h hz
          · obtain rfl : j = k := by omega
            have := G1.out.symm.trans hz
            simp at this
            subst this
            exact fun e => HX.out e.symm⟩⟩
        case measure => first | (simp [intOf]; done) | (simp [intOf]; omega)
    · obtain rfl : k = xs.length := by omega
      go_wp2_with fail
      go_ret
      exact ⟨-1, rfl, ⟨fun h => by omega, fun h => by
        obtain ⟨j, hj, e⟩ := List.getElem_of_mem h
        exact absurd e (hR.out.2 j xs[j] hj (by simp))⟩, (FR.out.trans1 hR.out.1).trans1 (by (repeat first | assumption | exact Frame.refl _ _ | refine Frame.trans1 ?_ (Frame.alloc _ _ _) | refine Frame.trans1 ?_ (Frame.drew _ _) | refine Frame.trans1 ?_ (Frame.drewN _ _ _)))⟩
theorem con_prop (U : Nat → Prop) (a : Option Addr) (c : Nat) (xs : List Pr) (x : Pr) (w : World) (h : RF U w 2 Pr.cs a xs) (hl : xs.length ≤ 1000000) (b : Bool) (hb : b = true ↔ x ∈ xs) :
    Calls Try.prog 98 #[.slice a xs.length c, .agg #[.string x.name, .string x.val]] w fun e w' => e = .returned (.bool b) ∧ Frame [] w w' := by
  have HI := Lib.hid (fun w' (f : Frame [] w w') => idx_prop U a c xs x w' (h.frame0 f) hl)
  have HB := Lib.hid hb
  clear h hb
  go_enter Try.func98, Try.ntmps98
  go_wp2_with fail
  refine (HI.out _ (by (repeat first | assumption | exact Frame.refl _ _ | refine Frame.trans1 ?_ (Frame.alloc _ _ _) | refine Frame.trans1 ?_ (Frame.drew _ _) | refine Frame.trans1 ?_ (Frame.drewN _ _ _)))).mono ?_
  rintro e w3 ⟨i, rfl, hi, f3⟩
  have F3 := Lib.hid (And.intro hi f3)
  clear hi f3
  go_wp2_with fail
  go_ret
  have E : decide (0 ≤ i) = b := by
    cases b with
    | true => exact decide_eq_true (F3.out.1.2 (HB.out.1 rfl))
    | false => exact decide_eq_false (fun h => by have := HB.out.2 (F3.out.1.1 h); simp at this)
  exact ⟨by rw [← E]; rfl, (show Frame [] w _ from by (repeat first | assumption | exact Frame.refl _ _ | refine Frame.trans1 ?_ (Frame.alloc _ _ _) | refine Frame.trans1 ?_ (Frame.drew _ _) | refine Frame.trans1 ?_ (Frame.drewN _ _ _))).trans1 F3.out.2⟩
set_option maxHeartbeats 4000000 in
theorem idx_int (U : Nat → Prop) (a : Option Addr) (c : Nat) (xs : List Int) (x : Int) (w : World) (h : RF U w 1 encI a xs) (hl : xs.length ≤ 1000000) :
    Calls Try.prog 124 #[.slice a xs.length c, .int .i64 x] w (InEnd (x ∈ xs) w) := by
  have H := Lib.hid h
  clear h
  go_enter Try.func124, Try.ntmps124
  go_wp2_with fail
  have FR := Lib.hid (Frame.refl [] w)
  go_loopw [8] (fun i wr => ∃ k : Nat, k ≤ xs.length ∧ i = .int .i64 k ∧ Hid (Frame [] w wr ∧ ∀ j z, j < k → xs[j]? = some z → z ≠ x)) (fun i _ => xs.length - (intOf i).toNat)
  case atStart => exact ⟨0, Nat.zero_le _, rfl, Frame.refl _ _, fun j _ h => by omega⟩
  case round =>
    obtain ⟨k, hk, rfl, hR⟩ := hrel
    rename World => wr

    by_cases hlt : k < xs.length
    · have g1 : xs[k]? = some xs[k] := by simp [hlt]
      obtain ⟨b, off, rfl, -, q1⟩ := (H.out.frame0 (FR.out.trans1 hR.out.1)) k _ g1
      have x0 := q1 0 _ rfl
      simp only [Nat.add_zero, Nat.mul_one] at x0
      generalize xs[k] = y at *
      have G1 := Lib.hid g1
      clear g1 q1
      by_cases hxy : x = y
      · have hb : (x == y) = true := by simp [hxy]
        have HX := Lib.hid hxy
        clear hxy
        go_wp2_with fail
        go_ret
        exact ⟨k, rfl, ⟨fun _ => HX.out ▸ List.mem_of_getElem? G1.out, fun _ => by omega⟩, (FR.out.trans1 hR.out.1).trans1 (by (repeat first | assumption | exact Frame.refl _ _ | refine Frame.trans1 ?_ (Frame.alloc _ _ _) | refine Frame.trans1 ?_ (Frame.drew _ _) | refine Frame.trans1 ?_ (Frame.drewN _ _ _)))⟩
      · have hb : (x == y) = false := by simpa using hxy
        have HX := Lib.hid hxy
        clear hxy
        go_wp2_with fail
        go_roundw
        case rel => exact ⟨k + 1, by omega, by first | rfl | go_num, Lib.hid ⟨hR.out.1.trans1 (by (repeat first | assumption | exact Frame.refl _ _ | refine Frame.trans1 ?_ (Frame.alloc _ _ _) | refine Frame.trans1 ?_ (Frame.drew _ _) | refine Frame.trans1 ?_ (Frame.drewN _ _ _))), fun j z hj hz => by
          rcases Nat.lt_or_ge j k with h | h
          · exact hR.out.2 j z h hz
          · obtain rfl : j = k := by omega
            have := G1.out.symm.trans hz
            simp at this
            subst this
            exact fun e => HX.out e.symm⟩⟩
        case measure => first | (simp [intOf]; done) | (simp [intOf]; omega)
    · obtain rfl : k = xs.length := by omega
      go_wp2_with fail
      go_ret
      exact ⟨-1, rfl, ⟨fun h => by omega, fun h => by
        obtain ⟨j, hj, e⟩ := List.getElem_of_mem h
        exact absurd e (hR.out.2 j xs[j] hj (by simp))⟩, (FR.out.trans1 hR.out.1).trans1 (by (repeat first | assumption | exact Frame.refl _ _ | refine Frame.trans1 ?_ (Frame.alloc _ _ _) | refine Frame.trans1 ?_ (Frame.drew _ _) | refine Frame.trans1 ?_ (Frame.drewN _ _ _)))⟩
theorem con_int (U : Nat → Prop) (a : Option Addr) (c : Nat) (xs : List Int) (x : Int) (w : World) (h : RF U w 1 encI a xs) (hl : xs.length ≤ 1000000) (b : Bool) (hb : b = true ↔ x ∈ xs) :
    Calls Try.prog 77 #[.slice a xs.length c, .int .i64 x] w fun e w' => e = .returned (.bool b) ∧ Frame [] w w' := by
  have HI := Lib.hid (fun w' (f : Frame [] w w') => idx_int U a c xs x w' (h.frame0 f) hl)
  have HB := Lib.hid hb
  clear h hb
  go_enter Try.func77, Try.ntmps77
  go_wp2_with fail
  refine (HI.out _ (by (repeat first | assumption | exact Frame.refl _ _ | refine Frame.trans1 ?_ (Frame.alloc _ _ _) | refine Frame.trans1 ?_ (Frame.drew _ _) | refine Frame.trans1 ?_ (Frame.drewN _ _ _)))).mono ?_
  rintro e w3 ⟨i, rfl, hi, f3⟩
  have F3 := Lib.hid (And.intro hi f3)
  clear hi f3
  go_wp2_with fail
  go_ret
  have E : decide (0 ≤ i) = b := by
    cases b with
    | true => exact decide_eq_true (F3.out.1.2 (HB.out.1 rfl))
    | false => exact decide_eq_false (fun h => by have := HB.out.2 (F3.out.1.1 h); simp at this)
  exact ⟨by rw [← E]; rfl, (show Frame [] w _ from by (repeat first | assumption | exact Frame.refl _ _ | refine Frame.trans1 ?_ (Frame.alloc _ _ _) | refine Frame.trans1 ?_ (Frame.drew _ _) | refine Frame.trans1 ?_ (Frame.drewN _ _ _))).trans1 F3.out.2⟩
end Go.Proofs.Ytolkmapdbilolaa

namespace Go.Proofs.Ytolkmapdbilolaa
open Go.RowKit
set_option linter.unusedSimpArgs false
set_option linter.unusedVariables false

set_option maxHeartbeats 2000000 in
theorem without_fn (e : Ed) (tb : Nat) (ta : Option Addr) (tc : Nat) (ts : List Int) (w : World) (hc : w.cell? ⟨tb, 0, none⟩ = some (.slice ta ts.length tc)) (ht : RF (fun _ => True) w 1 encI ta ts) (hl : ts.length ≤ 1000000) :
    Calls Try.prog 76 #[.agg #[.int .i64 e.tok, .int .i64 e.src, .string e.lab, .int .i64 e.dst], .pointer (some ⟨tb, 0, none⟩)] w fun x w' => x = .returned (.bool (decide (e.tok ∈ ts))) ∧ Frame [] w w' := by
  have HC := Lib.hid (fun w' (f : Frame [] w w') => con_int (fun _ => True) ta tc ts e.tok w' (ht.frame0 f) hl (decide (e.tok ∈ ts)) (by simp))
  have CA : ∀ o, (w.alloc o).cell? ⟨tb, 0, none⟩ = some (.slice ta ts.length tc) := fun o => (Frame.alloc [] w o).cell hc (by simp)
  clear ht
  generalize decide (e.tok ∈ ts) = b at *
  go_enter Try.func76, Try.ntmps76
  go_wp2_with fail
  refine (HC.out _ (by (repeat first | assumption | exact Frame.refl _ _ | refine Frame.trans1 ?_ (Frame.alloc _ _ _) | refine Frame.trans1 ?_ (Frame.drew _ _) | refine Frame.trans1 ?_ (Frame.drewN _ _ _)))).mono ?_
  rintro e w3 ⟨rfl, f3⟩
  have F3 := Lib.hid f3
  clear f3
  go_wp2_with fail
  go_ret
  exact ⟨rfl, (Frame.alloc [] w _).trans1 F3.out⟩
end Go.Proofs.Ytolkmapdbilolaa

namespace Go.Proofs.Ytolkmapdbilolaa
open Go.RowKit
set_option linter.unusedSimpArgs false
set_option linter.unusedVariables false

/-- The blocks of K are as they were. -/
def KeptB (K : List Nat) (w w' : World) : Prop := ∀ b ∈ K, w'.heap[b]? = w.heap[b]?
theorem KeptB.refl (K : List Nat) (w : World) : KeptB K w w := fun _ _ => rfl
theorem KeptB.trans {K : List Nat} {a b c : World} (h : KeptB K a b) (k : KeptB K b c) : KeptB K a c := fun x hx => (k x hx).trans (h x hx)
theorem Blk.kept {K : List Nat} {w w' : World} {b T : Nat} {cs : Array Value} (h : Blk w b T cs) (k : KeptB K w w') (hb : b ∈ K) : Blk w' b T cs := (k b hb).trans h

theorem GSt.given {w : World} {pb : Nat} {F : List Nat} {ns : List Nd} {es : List Ed} {given : Int} (h : GSt w pb F ns es given) : w.cell? ⟨pb, 2, none⟩ = some (.int .i64 given) ∧ w.frozen? ⟨pb, 2, none⟩ = false := by
  obtain ⟨an, nc, ae, ec, G, H, hb, _⟩ := h
  exact ⟨hb.at 2 rfl, hb.frozen 2⟩
theorem GV.given {w : World} {pb : Nat} {F : List Nat} {ns : List Nv} {es : List Ed} {given : Int} (h : GV w pb F ns es given) : w.cell? ⟨pb, 2, none⟩ = some (.int .i64 given) ∧ w.frozen? ⟨pb, 2, none⟩ = false := by
  obtain ⟨rs, ⟨FG, h1, _⟩, _⟩ := h
  exact h1.given
theorem GV.setGiven {w : World} {pb : Nat} {F : List Nat} {ns : List Nv} {es : List Ed} {given : Int} (h : GV w pb F ns es given) (g' : Int) : GV (w.setCell ⟨pb, 2, none⟩ (.int .i64 g')) pb F ns es g' := by
  obtain ⟨rs, ⟨FG, h1, h2, h3, rfl⟩, rfl⟩ := h
  have fr : Frame [pb] w (w.setCell ⟨pb, 2, none⟩ (.int .i64 g')) := Frame.setCell _ _ _ (by simp)
  obtain ⟨an, nc, ae, ec, G, H, hb, sn, se, n1, n2, n3, rfl⟩ := h1
  obtain ⟨m1, m2, m3⟩ := List.nodup_append.1 h3
  refine ⟨rs, ⟨pb :: (G ++ H), ⟨an, nc, ae, ec, G, H, ?_, sn.frame fr (fun x hx hm => ?_), se.frame fr (fun x hx hm => ?_), n1, n2, n3, rfl⟩, fun r hr => Rn.ok_frame (h2 r hr) fr (fun x hx hm => ?_), h3, rfl⟩, rfl⟩
  · have := hb.set 2 (.int .i64 g')
    simpa using this
  · simp at hm; subst hm; exact n1 hx
  · simp at hm; subst hm; exact n2 hx
  · simp at hm
    exact m3 pb (by simp) x (List.mem_flatMap.2 ⟨r, hr, hx⟩) hm.symm

/-- A graph made behind w, apart from the blocks of K. -/
def VO (w : World) (K : List Nat) (pb : Nat) (ns : List Nv) (es : List Ed) (given : Int) (wr : World) : Prop :=
  ∃ F, GV wr pb F ns es given ∧ Frame [] w wr ∧ (∀ x ∈ F, w.heap.size ≤ x) ∧ ∀ x ∈ K, x < wr.heap.size ∧ x ∉ F
section
variable {w wr w' : World} {K : List Nat} {pb : Nat} {ns : List Nv} {es : List Ed} {given : Int}
theorem VO.frame (h : VO w K pb ns es given wr) : Frame [] w wr := by obtain ⟨_, _, f, _⟩ := h; exact f
theorem VO.own (h : VO w K pb ns es given wr) : VOwn w pb ns es given wr := by obtain ⟨F, a, b, c, _⟩ := h; exact ⟨F, a, b, c⟩
theorem VO.less (h : VO w K pb ns es given wr) {K' : List Nat} (hK : ∀ x ∈ K', x ∈ K) : VO w K' pb ns es given wr := by
  obtain ⟨F, a, b, c, d⟩ := h; exact ⟨F, a, b, c, fun x hx => d x (hK x hx)⟩
theorem VO.quiet (h : VO w K pb ns es given wr) (f : Frame [] wr w') : VO w K pb ns es given w' := by
  obtain ⟨F, a, b, c, d⟩ := h
  exact ⟨F, a.frame0 f, b.trans1 f, c, fun x hx => ⟨Nat.lt_of_lt_of_le (d x hx).1 f.size, (d x hx).2⟩⟩
theorem VO.alloc (h : VO w K pb ns es given wr) (o : Obj) : VO w (wr.heap.size :: K) pb ns es given (wr.alloc o) := by
  obtain ⟨F, a, b, c, d⟩ := h
  have f : Frame [] wr (wr.alloc o) := Frame.alloc _ _ _
  refine ⟨F, a.frame0 f, b.trans1 f, c, fun x hx => ?_⟩
  rcases List.mem_cons.1 hx with rfl | hx
  · exact ⟨by simp, fun hm => by have := a.lt _ hm; omega⟩
  · exact ⟨Nat.lt_of_lt_of_le (d x hx).1 f.size, (d x hx).2⟩
theorem VO.cell2 (h : VO w K pb ns es given wr) : wr.cell? ⟨pb, 2, none⟩ = some (.int .i64 given) ∧ wr.frozen? ⟨pb, 2, none⟩ = false := by obtain ⟨F, a, _⟩ := h; exact a.given
theorem VO.setGiven (h : VO w K pb ns es given wr) (g' : Int) : VO w K pb ns es g' (wr.setCell ⟨pb, 2, none⟩ (.int .i64 g')) ∧ KeptB K wr (wr.setCell ⟨pb, 2, none⟩ (.int .i64 g')) := by
  obtain ⟨F, a, b, c, d⟩ := h
  have hp := a.pb_mem
  have f : Frame [pb] wr (wr.setCell ⟨pb, 2, none⟩ (.int .i64 g')) := Frame.setCell _ _ _ (by simp)
  refine ⟨⟨F, a.setGiven g', b.trans f (fun x hx => ?_), c, fun x hx => ⟨Nat.lt_of_lt_of_le (d x hx).1 f.size, (d x hx).2⟩⟩, fun x hx => f.block x (d x hx).1 (fun hm => ?_)⟩
  · simp at hx; subst hx; exact .inr (c _ hp)
  · simp at hm; subst hm; exact (d _ hx).2 hp
theorem VO.next {F : List Nat} {ns' : List Nv} {es' : List Ed} {given' : Int} (b : Frame [] w wr) (c : ∀ x ∈ F, w.heap.size ≤ x) (d : ∀ x ∈ K, x < wr.heap.size ∧ x ∉ F) (h : GVEnd wr pb F ns' es' given' w') : VO w K pb ns' es' given' w' ∧ KeptB K wr w' := by
  obtain ⟨F', p, q, r⟩ := h
  refine ⟨⟨F', p, b.trans q (fun x hx => .inr (c x hx)), fun x hx => ?_, fun x hx => ⟨Nat.lt_of_lt_of_le (d x hx).1 q.size, fun hm => ?_⟩⟩, fun x hx => q.block x (d x hx).1 (d x hx).2⟩
  · rcases r x hx with h | h
    · exact c x h
    · have := b.size; omega
  · rcases r x hm with h | h
    · exact (d x hx).2 h
    · have := (d x hx).1; omega
theorem VO.addNode (h : VO w K pb ns es given wr) (g : GOk ns es given) (t : Int) :
    Calls Try.prog 28 #[.pointer (some ⟨pb, 0, none⟩), .int .i64 t] wr fun e w' => e = .returned (.int .i64 (vAddNode ns t).1) ∧ VO w K pb (vAddNode ns t).2 es given w' ∧ KeptB K wr w' := by
  obtain ⟨F, a, b, c, d⟩ := h
  exact (gv_addNode a g.v.up (by have := g.v.len; omega) t).mono fun e w' ⟨h1, h2⟩ => ⟨h1, VO.next b c d h2⟩
theorem VO.label (h : VO w K pb ns es given wr) (g : GOk ns es given) (t : Int) (s : ByteArray) (hs : s.size ≤ 9223372036854775807) :
    Calls Try.prog 36 #[.pointer (some ⟨pb, 0, none⟩), .int .i64 t, .string s] wr fun e w' => e = .returned (.int .i64 (vLabel ns t s).1) ∧ VO w K pb (vLabel ns t s).2 es given w' ∧ KeptB K wr w' := by
  obtain ⟨F, a, b, c, d⟩ := h
  exact (gv_label a g.v t s hs).mono fun e w' ⟨h1, h2⟩ => ⟨h1, VO.next b c d h2⟩
theorem VO.set (h : VO w K pb ns es given wr) (g : GOk ns es given) (t : Int) (s v : ByteArray) (hs : s.size ≤ 9223372036854775807) (hv : v.size ≤ 9223372036854775807) :
    Calls Try.prog 37 #[.pointer (some ⟨pb, 0, none⟩), .int .i64 t, .string s, .string v] wr fun e w' => e = .returned (.int .i64 (vSet ns t s v).1) ∧ VO w K pb (vSet ns t s v).2 es given w' ∧ KeptB K wr w' := by
  obtain ⟨F, a, b, c, d⟩ := h
  exact (gv_set a g.v t s v hs hv).mono fun e w' ⟨h1, h2⟩ => ⟨h1, VO.next b c d h2⟩
theorem VO.add (h : VO w K pb ns es given wr) (g : GOk ns es given) (x : Int) (s : ByteArray) (y : Int) (hs : s.size ≤ 9223372036854775807) :
    Calls Try.prog 29 #[.pointer (some ⟨pb, 0, none⟩), .int .i64 x, .string s, .int .i64 y] wr fun e w' => e = .returned (.tuple #[.int .i64 (vAdd ns es given x s y).1.1, .int .i64 (vAdd ns es given x s y).1.2]) ∧ VO w K pb ns (vAdd ns es given x s y).2.1 (vAdd ns es given x s y).2.2 w' ∧ KeptB K wr w' := by
  obtain ⟨F, a, b, c, d⟩ := h
  exact (gv_add a g.v g.e x s y hs).mono fun e w' ⟨h1, h2⟩ => ⟨h1, VO.next b c d h2⟩
end
end Go.Proofs.Ytolkmapdbilolaa

