/- anti.Subset. -/
import Derived.Test.YtojfemaamhampaaSrt5
namespace Go.Proofs.Ytojfemaamhampaa
open Go.RowKit Go.Sort
set_option linter.unusedSimpArgs false
set_option linter.unusedVariables false

theorem Sl.rdI {w : World} {a : Option Addr} {n c : Nat} {xs : List Int} {G : List Nat} (h : Sl w 3 1 Go.Proofs.Ytojfemaamhampaa.encI (.slice a n c) xs G) : RdI w a xs := by
  rcases id h with ⟨_, rfl, _⟩ | ⟨b, cap, hv, rfl, hr⟩
  · exact .inl rfl
  · injection hv with h1 _ _
    refine .inr ⟨b, 0, h1, hr.lt, fun k hk => ?_⟩
    rw [Nat.zero_add]
    exact hr.cell (by rw [encI_map]; simp [hk])
theorem bs_sl (a : Option Addr) (c : Nat) (zs : List Int) (x : Int) (w : World) (h : RdI w a zs) (hu : Up zs) (hl : zs.length ≤ 1000000) :
    Calls Try.prog 35 #[.slice a zs.length c, .int .i64 x] w fun e w' => ∃ p : Int, e = .returned (.tuple #[.int .i64 p, .bool (decide (x ∈ zs))]) ∧ Frame [] w w' := by
  rcases h with rfl | ⟨b, off, rfl, hb, hc⟩
  · refine (Try.slices_BinarySearch_int_empty a c x w).mono ?_
    rintro e w' ⟨rfl, rfl⟩
    exact ⟨0, by simp, Frame.refl _ _⟩
  · have := Try.slices_BinarySearch_int b off zs.length c zs x w (Nat.le_refl _) (by omega) (fun j hj => by
      rw [hc j hj]; simp [List.getD, hj]) (by rw [List.take_length]; exact hu.imp fun h => by omega)
    refine this.mono ?_
    rintro e w' ⟨rfl, q, rfl⟩
    rw [List.take_length]
    exact ⟨((zs.countP (fun y => decide (y < x)) : Nat) : Int), by simp, Frame.drewN _ _ _⟩
set_option maxRecDepth 100000 in
theorem asubset_any (a1 a2 : Option Addr) (c1 c2 : Nat) (xs ys : List Int) (w : World) (h1 : RdI w a1 xs) (h2 : RdI w a2 ys) (l1 : xs.length ≤ 1000000) (l2 : ys.length ≤ 1000000) :
    Calls Try.prog 11 #[.slice a1 xs.length c1, .slice a2 ys.length c2] w fun e w' => e = .returned (.bool (subB xs ys)) ∧ Frame [] w w' := by
  have A := Lib.hid (asorted_any a2 c2 ys w h2 l2)
  have H1 := Lib.hid h1
  have HR : Hid (∀ r, (r = true ↔ Sub xs ys) → r = subB xs ys) := fun r h => by
    cases r with
    | true => exact (subB_iff.2 (h.1 rfl)).symm
    | false => exact (subB_false.2 fun k => by cases h.2 k).symm
  have hsl : (srtI ys).length ≤ 1000000 := by
    have := Sub.len (srtI_up ys) (srtI_up ys) (Sub.refl _)
    have h3 := compact_len5 (ys.mergeSort fun x y => decide (x ≤ y))
    rw [srtI_compact] at h3
    have h4 : (ys.mergeSort fun x y => decide (x ≤ y)).length = ys.length := by simp
    omega
  have hm := srtI_mem ys
  have hup := srtI_up ys
  generalize srtI ys = zs at *
  generalize subB xs ys = r at *
  have HM := Lib.hid hm
  have HU := Lib.hid hup
  clear h1 h2 hm hup
  go_enter Try.func11, Try.ntmps11
  go_wp2_with fail
  refine A.out.mono ?_
  rintro e w1 ⟨a, c, G, rfl, s, f, g⟩
  have Z := Lib.hid s.rdI
  have F := Lib.hid f
  clear s f g
  go_wp2_with fail
  go_loopw [14] (fun i wr => ∃ k : Nat, k ≤ xs.length ∧ i = .int .i64 k ∧ Hid (Frame [] w1 wr ∧ ∀ j (h : j < xs.length), j < k → xs[j] ∈ ys)) (fun i _ => xs.length - (intOf i).toNat)
  case atStart => exact ⟨0, Nat.zero_le _, rfl, Frame.refl _ _, fun j _ h => by omega⟩
  case round =>
    obtain ⟨k, hk, rfl, hQ⟩ := hrel
    by_cases hlt : k < xs.length
    · obtain ⟨b, off, rfl, hc⟩ := (H1.out.frame (F.out.trans1 hQ.out.1)).at hlt
      generalize hx : xs[k] = x at hc
      have HX := Lib.hid hx
      clear hx
      have B := bs_sl a c zs x _ (Z.out.frame hQ.out.1) HU.out hsl
      have hmx := HM.out x
      by_cases hin : x ∈ zs
      · rw [decide_eq_true hin] at B
        have HI := Lib.hid (hmx.1 hin)
        have HB := Lib.hid B
        clear hin hmx B
        go_wp2_with fail
        refine HB.out.mono ?_
        rintro e w2 ⟨p, rfl, f2⟩
        have F2 := Lib.hid f2
        clear f2
        go_wp2_with fail
        go_roundw
        case rel => exact ⟨k + 1, by omega, by first | rfl | go_num, hQ.out.1.trans1 F2.out, fun j hj hjk => by
          rcases Nat.lt_or_ge j k with h | h
          · exact hQ.out.2 j hj h
          · obtain rfl : j = k := by omega
            rw [HX.out]; exact HI.out⟩
        case measure => first | (simp [intOf]; done) | (simp [intOf]; omega)
      · rw [decide_eq_false hin] at B
        have HI := Lib.hid (fun h => hin (hmx.2 h))
        have HB := Lib.hid B
        clear hin hmx B
        go_wp2_with fail
        refine HB.out.mono ?_
        rintro e w2 ⟨p, rfl, f2⟩
        have F2 := Lib.hid f2
        clear f2
        go_wp2_with fail
        go_ret
        exact ⟨by
          rw [← HR.out false ⟨(fun e => by cases e), fun hs => by
            have := hs xs[k] (List.getElem_mem hlt)
            rw [HX.out] at this
            exact absurd this HI.out⟩]
          rfl, F.out.trans1 (hQ.out.1.trans1 F2.out)⟩
    · obtain rfl : k = xs.length := by omega
      go_wp2_with fail
      go_ret
      exact ⟨by
        rw [← HR.out true ⟨fun _ z hz => by
          obtain ⟨j, hj, rfl⟩ := List.getElem_of_mem hz
          exact hQ.out.2 j hj hj, fun _ => rfl⟩]
        rfl, F.out.trans1 hQ.out.1⟩
end Go.Proofs.Ytojfemaamhampaa
