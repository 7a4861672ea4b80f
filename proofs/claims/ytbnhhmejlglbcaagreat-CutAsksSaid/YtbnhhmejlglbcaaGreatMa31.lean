/- anti.Sorted. slices.DeleteFunc at numbers; cut's without. cut.Least, cut.Empty. -/
import Derived.Test.YtbnhhmejlglbcaaGreatMa29
import Derived.Test.YtbnhhmejlglbcaaGreatMa10
import Derived.Test.YtbnhhmejlglbcaaGreatMa30
import Derived.Test.YtbnhhmejlglbcaaGreatMa02
import Derived.Test.YtbnhhmejlglbcaaGreatMa24
namespace Go.Proofs.YtbnhhmejlglbcaaGreat
open Go.RowKit Go.Sort
set_option linter.unusedSimpArgs false
set_option linter.unusedVariables false

theorem encI_map (xs : List Int) : xs.flatMap Go.Proofs.YtbnhhmejlglbcaaGreat.encI = xs.map (Value.int .i64) := by
  induction xs with
  | nil => rfl
  | cons a t ih => rw [List.flatMap_cons, ih]; rfl
theorem fresh_owned {w w' : World} {xs : List Int} {v' : Value} (h : w'.ownsRow w.heap.size 3 1 v' xs.length (xs.map (Value.int .i64))) (hn : v' ≠ .slice none 0 0) (hb : Go.RowKit.Below w.heap.size w w') : FreshEnd 3 1 Go.Proofs.YtbnhhmejlglbcaaGreat.encI xs w (.returned v') w' := by
  obtain ⟨h1, h2⟩ := h
  rcases h2 with ⟨e, _⟩ | ⟨g, cap, cur, rfl, hg, hb2, hc, hm, hs, ht⟩
  · exact absurd e hn
  · obtain ⟨b1, b2, b3, b4, b5⟩ := hb
    refine ⟨some ⟨g, 0, none⟩, cap, [g], rfl, .inr ⟨g, cap, rfl, rfl, ?_⟩, ⟨b1, b2, b3, b4, fun k hk _ => b5 k hk⟩, fun x hx => ?_⟩
    · rw [encI_map]
      exact ⟨h1, .inr ⟨g, cap, cur, rfl, Nat.zero_le _, hb2, hc, hm, hs, ht⟩⟩
    · obtain rfl : x = g := by simpa using hx
      exact hg
theorem cloneR (a : Option Addr) (c : Nat) (xs : List Int) (w : World) (h : RdI w a xs) (hl : xs.length ≤ 1000000) :
    Calls Tryz.prog 88 #[.slice a xs.length c] w (FreshEnd 3 1 Go.Proofs.YtbnhhmejlglbcaaGreat.encI xs w) := by
  rcases h with rfl | ⟨b, off, rfl, hb, hc⟩
  · cases a with
    | none =>
      refine (Tryz.slices_Clone_int_nil 0 c w).mono ?_
      rintro e w' ⟨rfl, rfl⟩
      exact ⟨none, 0, [], rfl, Sl.nil _ _ _ _, Frame.refl _ _, by simp⟩
    | some a =>
      refine (Tryz.slices_Clone_int_zero a c w).mono ?_
      rintro e w' ⟨v', rfl, h1, h2, h3⟩
      exact fresh_owned (xs := []) h1 h2 h3
  · have := Tryz.slices_Clone_int b off xs.length c xs w (Nat.le_refl _) (by omega) (fun j hj => by
      rw [hc j hj]; simp [List.getD, hj])
    refine this.mono ?_
    rintro e w' ⟨v', rfl, h1, h2, h3⟩
    rw [List.take_length] at h1
    exact fresh_owned h1 h2 h3
theorem put_slm {w : World} {b cap n m : Nat} {xs ys : List Int} {os : Array Obj} (h : RowAt w b 3 1 xs.length cap (xs.flatMap Go.Proofs.YtbnhhmejlglbcaaGreat.encI)) (hl : ys.length = xs.length) (hm : m ≤ ys.length) :
    Sl (grow (putRow (Value.int .i64) (Sort.ahead w n) b 0 ys.toArray) os) 3 1 Go.Proofs.YtbnhhmejlglbcaaGreat.encI (.slice (some ⟨b, 0, none⟩) m cap) (ys.take m) [b] := by
  obtain ⟨cs, h1, h2, h3, h4, h5⟩ := h.blk
  have hlm : (ys.take m).length = m := by simp; omega
  refine .inr ⟨b, cap, by rw [hlm], rfl, RowAt.of_blk (put_blk h1) (by omega) h3 (by simpa [putCells] using h4) ?_⟩
  have := putCells_take ys.toArray cs (by simp; omega)
  rw [hlm, Nat.mul_one]
  have h9 : (putCells (Value.int .i64) 0 ys.toArray cs).toList.take m = ((putCells (Value.int .i64) 0 ys.toArray cs).toList.take ys.toArray.size).take m := by
    rw [List.take_take, Nat.min_eq_left (by simpa using hm)]
  rw [h9, this, encI_map, encI_map, List.map_take]
theorem compact_len5 (zs : List Int) : (Lib.compact zs).length ≤ zs.length := by
  unfold Lib.compact Lib.compactUpTo
  rw [List.length_map]
  have := List.length_filter_le (Lib.keeps zs.toArray) (List.range zs.length)
  simpa using this
theorem compact_sl (v : Value) (xs : List Int) (G : List Nat) (w : World) (h : Sl w 3 1 Go.Proofs.YtbnhhmejlglbcaaGreat.encI v xs G) (hl : xs.length ≤ 1000000) :
    Calls Tryz.prog 126 #[v] w fun e w' => ∃ a c, e = .returned (.slice a (Lib.compact xs).length c) ∧ Sl w' 3 1 Go.Proofs.YtbnhhmejlglbcaaGreat.encI (.slice a (Lib.compact xs).length c) (Lib.compact xs) G ∧ Frame G w w' := by
  rcases id h with ⟨rfl, rfl, rfl⟩ | ⟨b, cap, rfl, rfl, hr⟩
  · refine (Tryz.slices_Compact_int_empty none 0 w).mono ?_
    rintro e w' ⟨he, rfl⟩
    exact ⟨none, 0, he, Sl.nil _ _ _ _, Frame.refl _ _⟩
  · obtain ⟨cs, h1, h2, h3, h4, h5⟩ := hr.blk
    have hc := Tryz.slices_Compact_int b 0 cap xs w (holds_sl hr) (by omega) h2
    have hcl := compact_len5 xs
    refine hc.mono ?_
    rintro e w' ⟨he, n, rfl⟩
    have := put_slm (n := n) (os := #[]) (m := (Lib.compact xs).length) hr (ys := Lib.compact xs ++ List.replicate (xs.length - (Lib.compact xs).length) 0) (by simp; omega) (by simp)
    rw [grow_empty, List.take_left] at this
    have f := put_frame (w := w) (b := b) (n := n) (d := (Lib.compact xs ++ List.replicate (xs.length - (Lib.compact xs).length) 0).toArray) (os := #[])
    rw [grow_empty] at f
    exact ⟨some ⟨b, 0, none⟩, cap, he, this, f⟩
set_option maxRecDepth 100000 in
theorem asorted_any (a : Option Addr) (c : Nat) (ls : List Int) (w : World) (h : RdI w a ls) (hl : ls.length ≤ 1000000) :
    Calls Tryz.prog 87 #[.slice a ls.length c] w (FreshEnd 3 1 Go.Proofs.YtbnhhmejlglbcaaGreat.encI (srtI ls) w) := by
  have A := Lib.hid (cloneR a c ls w h hl)
  have E := Lib.hid (srtI_compact ls)
  generalize hs : (ls.mergeSort fun x y => decide (x ≤ y)) = ss at E
  have HS := Lib.hid hs
  have hss : ss.length ≤ 1000000 := by rw [← hs]; simpa using hl
  clear h hs
  go_enter Tryz.func87, Tryz.ntmps87
  go_wp2_with fail
  refine A.out.mono ?_
  rintro e w1 ⟨a1, c1, G1, rfl, s1, f1, g1⟩
  have S1 := Lib.hid s1
  have F1 := Lib.hid f1
  have G := Lib.hid g1
  clear s1 f1 g1
  go_wp2_with fail
  refine (sort_sl _ ls G1 w1 S1.out hl).mono ?_
  rintro e w2 ⟨rfl, s2, f2⟩
  rw [HS.out] at s2
  have S2 := Lib.hid s2
  have F2 := Lib.hid f2
  clear s2 f2
  go_wp2_with fail
  refine (compact_sl _ ss G1 w2 S2.out hss).mono ?_
  rintro e w3 ⟨a3, c3, rfl, s3, f3⟩
  rw [E.out] at s3
  have S3 := Lib.hid s3
  have F3 := Lib.hid f3
  clear s3 f3
  go_wp2_with fail
  go_ret
  refine ⟨a3, c3, G1, by rw [E.out]; rfl, S3.out, ?_, G.out⟩
  have f := (F1.out.mono (by simp)).trans1 (F2.out.trans1 F3.out)
  exact ⟨f.os, f.tape, f.output, f.size, fun k hk _ => f.block k hk fun hm => by
    have := G.out k hm; omega⟩
end Go.Proofs.YtbnhhmejlglbcaaGreat

namespace Go.Proofs.YtbnhhmejlglbcaaGreat
open Go.RowKit
set_option linter.unusedSimpArgs false
set_option linter.unusedVariables false

theorem zero_int (w : World) : (zeroValue 3).run Tryz.prog w = .ok (.int .i64 0) w := by
  obtain ⟨i0, h2, h3, h4, h5⟩ := info_parts infoInt
  simp [zeroValue, typeInfo, h2, h3]
theorem rowAt_set {w : World} {b e sz n cap : Nat} {xs : List Value} (h : RowAt w b e sz n cap xs) (i : Nat) (v : Value) : RowAt (w.setCell ⟨b, i, none⟩ v) b e sz n cap (xs.set i v) := by
  obtain ⟨cs, h1, h2, h3, h4, h5⟩ := h.blk
  exact RowAt.of_blk (h1.set i v) h2 h3 (by simpa using h4) (by rw [Array.toList_setIfInBounds, List.take_set, h5])
/-- What stays. -/
def keepI (p : Int → Bool) (xs : List Int) : List Int := xs.filter fun e => !p e
theorem keepI_in {p : Int → Bool} {xs : List Int} {k : Nat} {e : Int} (h : xs[k]? = some e) (hm : p e = true) : keepI p (xs.take (k + 1)) = keepI p (xs.take k) := by
  rw [List.take_add_one, h]; simp [keepI, List.filter_append, hm]
theorem keepI_out {p : Int → Bool} {xs : List Int} {k : Nat} {e : Int} (h : xs[k]? = some e) (hm : p e = false) : keepI p (xs.take (k + 1)) = keepI p (xs.take k) ++ [e] := by
  rw [List.take_add_one, h]; simp [keepI, List.filter_append, hm]
def MidI (p : Int → Bool) (xs zs : List Int) (i j : Nat) : Prop := zs.length = xs.length ∧ i < j ∧ j ≤ xs.length ∧ zs.take i = keepI p (xs.take j) ∧ zs.drop j = xs.drop j
theorem MidI.at {p : Int → Bool} {xs zs : List Int} {i j : Nat} (h : MidI p xs zs i j) (hj : j < xs.length) : zs[j]? = some xs[j] := by
  have := congrArg (fun l => l[0]?) h.2.2.2.2
  simpa [List.getElem?_drop, hj] using this
theorem MidI.skip {p : Int → Bool} {xs zs : List Int} {i j : Nat} (h : MidI p xs zs i j) (hj : j < xs.length) (hp : p xs[j] = true) : MidI p xs zs i (j + 1) := by
  obtain ⟨h1, h2, h3, h4, h5⟩ := h
  refine ⟨h1, by omega, hj, by rw [keepI_in (by simp [hj]) hp]; exact h4, ?_⟩
  have := congrArg (List.drop 1) h5
  simpa [List.drop_drop] using this
theorem MidI.keep {p : Int → Bool} {xs zs : List Int} {i j : Nat} (h : MidI p xs zs i j) (hj : j < xs.length) (hp : p xs[j] = false) : MidI p xs (zs.set i xs[j]) (i + 1) (j + 1) := by
  obtain ⟨h1, h2, h3, h4, h5⟩ := h
  refine ⟨by simpa using h1, by omega, hj, ?_, ?_⟩
  · rw [keepI_out (e := xs[j]) (by simp [hj]) hp, ← h4, List.take_set, List.set_eq_take_append_cons_drop, if_pos (by simp; omega), List.take_take, List.drop_of_length_le (by simp; omega), Nat.min_eq_left (by omega)]
  · have := congrArg (List.drop 1) h5
    rw [List.drop_set_of_lt (by omega)]
    simpa [List.drop_drop] using this
theorem idxI_split (p : Int → Bool) (xs : List Int) : (idxI p xs = -1 ∧ keepI p xs = xs) ∨ ∃ k : Nat, idxI p xs = k ∧ k < xs.length ∧ MidI p xs xs k (k + 1) := by
  by_cases h : ∃ k, ∃ hk : k < xs.length, p xs[k] = true ∧ ∀ j (hj : j < xs.length), j < k → p xs[j] = false
  · obtain ⟨k, hk, h1, h2⟩ := h
    refine .inr ⟨k, idxI_at hk (fun j hj => h2 j (by omega) hj) h1, hk, rfl, by omega, hk, ?_, rfl⟩
    rw [keepI_in (e := xs[k]) (by simp [hk]) h1]
    unfold keepI
    rw [List.filter_eq_self.2]
    intro e he
    obtain ⟨j, hj, rfl⟩ := List.getElem_of_mem he
    have hj2 : j < k ∧ j < xs.length := by simp at hj; omega
    have := h2 j hj2.2 hj2.1
    simp [this]
  · have hn : ∀ j (hj : j < xs.length), p xs[j] = false := by
      intro j
      induction j using Nat.strongRecOn with
      | _ j ih =>
        intro hj
        cases hpj : p xs[j] with
        | false => rfl
        | true => exact absurd ⟨j, hj, hpj, fun i hi hl => ih i hl hi⟩ h
    refine .inl ⟨idxI_none hn, ?_⟩
    unfold keepI
    rw [List.filter_eq_self.2]
    intro e he
    obtain ⟨j, hj, rfl⟩ := List.getElem_of_mem he
    simp [hn j hj]
theorem clear_ints {wr : World} {b n cap i : Nat} {zs : List Int} (hr : RowAt wr b 3 1 n cap (zs.flatMap encI)) (hz : zs.length = n) (hi : i < n) : ∃ w', (∀ ty, (Builtin.clear_ #[50] ty #[.slice (some ⟨b, i, none⟩) (n - i) (cap - i)]).run Tryz.prog wr = .ok (.tuple #[]) w') ∧ RowAt w' b 3 1 i cap ((zs.take i).flatMap encI) ∧ Frame [b] wr w' := by
  obtain ⟨cs, hb, hn, hcm, hcs, htk⟩ := hr.blk
  obtain ⟨ZS, hZS⟩ : ∃ ZS, (Builtin.zeroCells (Value.int .i64 0).cells (n - i)).toList = ZS := ⟨_, rfl⟩
  have hc4 : (Value.int .i64 0).cells = #[.int .i64 0] := by kernel_rfl
  have hlen : ZS.length = n - i := by rw [← hZS, hc4]; simp [Builtin.zeroCells]
  have hone : ∀ v ∈ ZS, v.oneCell' = true := by
    intro v hv
    rw [← hZS, hc4] at hv
    simp only [Builtin.zeroCells, Array.toList_map, List.mem_map] at hv
    obtain ⟨j, -, rfl⟩ := hv
    have h5 : j % (#[Value.int .i64 0] : Array Value).size = 0 := Nat.mod_one j
    rw [h5]
    rfl
  have hfit : i + ZS.length ≤ cs.size := by rw [hlen, hcs]; omega
  refine ⟨wr.setCells b i ZS, fun ty => run_clear_k wr _ _ ty _ _ Tryz.underlying50 zero_int b i (n - i) _ (by omega) hZS hone (fun j hj => hb.isSome (by omega)) (fun j hj => hb.frozen _), ?_, Frame.setCells _ _ _ _⟩
  refine RowAt.of_blk (Blk.setCells hb hfit) (by omega) hcm ?_ ?_
  · rw [List.size_toArray, over_len (by simpa using hfit)]; simpa using hcs
  · show (over cs.toList i ZS).take (i * 1) = _
    unfold over
    rw [List.append_assoc, List.take_append_of_le_length (by simp; omega), Nat.mul_one, List.take_take, Nat.min_self]
    have : cs.toList.take i = (cs.toList.take (n * 1)).take i := by rw [List.take_take]; congr 1; omega
    rw [this, htk]
    conv => lhs; rw [← List.take_append_drop i zs, List.flatMap_append]
    have hfl : ((zs.take i).flatMap encI).length = i := by rw [flat_len (sz := 1) encI_len, List.length_take, hz]; omega
    rw [List.take_append_of_le_length (by rw [hfl]; exact Nat.le_refl _), List.take_of_length_le (by rw [hfl]; exact Nat.le_refl _)]
theorem set_flatI {zs : List Int} {i : Nat} (z : Int) : (zs.flatMap encI).set i (.int .i64 z) = (zs.set i z).flatMap encI := by
  rw [encI_map, encI_map, List.map_set]

set_option maxHeartbeats 8000000 in
set_option maxRecDepth 100000 in
theorem delFunc_int (b cap : Nat) (xs : List Int) (K : Nat) (caps : Array Value) (p : Int → Bool) (w : World) (hx : RowAt w b 3 1 xs.length cap (xs.flatMap encI)) (hl : xs.length ≤ 1000000) (hK : Entered K)
    (hp : ∀ w', Frame [b] w w' → ∀ e : Int, Calls Tryz.prog K (#[.int .i64 e] ++ caps) w' fun x w'' => x = .returned (.bool (p e)) ∧ Frame [] w' w'') :
    Calls Tryz.prog 127 #[.slice (some ⟨b, 0, none⟩) xs.length cap, .func (.func K) #[] caps] w fun e w' => e = .returned (.slice (some ⟨b, 0, none⟩) (keepI p xs).length cap) ∧ RowAt w' b 3 1 (keepI p xs).length cap ((keepI p xs).flatMap encI) ∧ Frame [b] w w' := by
  have hrd : RdI w (some ⟨b, 0, none⟩) xs := .inr ⟨b, 0, rfl, hx.lt, fun k hk => by rw [Nat.zero_add]; exact hx.cell (by rw [encI_map]; simp [hk])⟩
  have HI := Lib.hid (fun w' (f : Frame [] w w') => indexFunc_int (some ⟨b, 0, none⟩) cap xs K caps p w' (hrd.frame f) (by omega) ⟨hK, fun w'' f' e => hp w'' ((f.mono (by simp)).trans1 (f'.mono (by simp))) e⟩)
  have HX := Lib.hid hx
  have HP := Lib.hid hp
  have hb := hx.lt
  have hcap : xs.length ≤ cap ∧ cap ≤ 9223372036854775807 := by
    obtain ⟨cs, h1, h2, h3, _⟩ := hx.blk
    exact ⟨h2, by unfold maxLen at h3; omega⟩
  clear hx hp hrd
  rcases idxI_split p xs with ⟨h1, h2⟩ | ⟨k, h1, hk, hM⟩
  · rw [h1] at HI
    rw [h2]
    clear h1 h2
    go_enter Tryz.func127, Tryz.ntmps127
    go_wp2_with fail
    refine (HI.out _ (by (repeat first | assumption | exact Frame.refl _ _ | refine Frame.trans1 ?_ (Frame.alloc _ _ _) | refine Frame.trans1 ?_ (Frame.drew _ _) | refine Frame.trans1 ?_ (Frame.drewN _ _ _)))).mono ?_
    rintro e w2 ⟨rfl, f2⟩
    have F2 := Lib.hid f2
    clear f2
    go_wp2_with fail
    go_ret
    exact ⟨rfl, HX.out.frame F2.out (by simp), F2.out.mono (by simp)⟩
  rw [h1] at HI
  have HM := Lib.hid hM
  clear h1 hM
  go_enter Tryz.func127, Tryz.ntmps127
  go_wp2_with fail
  refine (HI.out _ (by (repeat first | assumption | exact Frame.refl _ _ | refine Frame.trans1 ?_ (Frame.alloc _ _ _) | refine Frame.trans1 ?_ (Frame.drew _ _) | refine Frame.trans1 ?_ (Frame.drewN _ _ _)))).mono ?_
  rintro e w2 ⟨rfl, f2⟩
  have F2 := Lib.hid f2
  clear f2
  go_wp2_with fail
  go_loopw [5, 6, 7] (fun iv jv _ wr => ∃ (i j : Nat) (zs : List Int), iv = .int .i64 i ∧ jv = .int .i64 j ∧ j ≤ xs.length ∧ i < j ∧ Hid (MidI p xs zs i j ∧ RowAt wr b 3 1 xs.length cap (zs.flatMap encI) ∧ Frame [b] w wr)) (fun _ j _ _ => xs.length - (intOf j).toNat)
  case atStart => exact ⟨k, k + 1, xs, rfl, by first | rfl | go_num, hk, by omega, HM.out, HX.out.frame F2.out (by simp), F2.out.mono (by simp)⟩
  case round =>
    obtain ⟨i, j, zs, rfl, rfl, hj, hij, hR⟩ := hrel
    rename World => wr
    by_cases hlt : j < xs.length
    · have gj := hR.out.1.at hlt
      have hzi : i < zs.length := by rw [hR.out.1.1]; omega
      have gi : zs[i]? = some zs[i] := by simp [hzi]
      have MS := Lib.hid (hR.out.1.skip hlt)
      have MK := Lib.hid (hR.out.1.keep hlt)
      generalize xs[j] = x at *
      generalize zs[i] = y at *
      have d0 := hR.out.2.1.cell (flat_get (sz := 1) encI_len gj (j := 0) rfl)
      simp only [Nat.add_zero, Nat.mul_one] at d0
      have hcall := hK (#[.int .i64 x] ++ caps)
      have GI := Lib.hid gi
      clear gj gi
      go_wp2_with fail
      refine (HP.out _ (hR.out.2.2) x).mono ?_
      rintro e w3 ⟨rfl, f3⟩
      have row3 := hR.out.2.1.frame f3 (by simp)
      have s0 := row3.cell (flat_get (sz := 1) encI_len GI.out (j := 0) rfl)
      simp only [Nat.add_zero, Nat.mul_one] at s0
      have r0 := row3.frozen i
      have ROW := Lib.hid row3
      have FA := Lib.hid (hR.out.2.2.trans0 f3)
      clear d0 row3 f3
      cases hpx : p x with
      | true =>
        go_wp2_with fail
        go_roundw
        case rel => refine ⟨_, _, _, _, _, _, _, _, _, _, _, _, _, _, _, _, _, _, _, _, _, _, _, ?_, rfl⟩; exact ⟨i, j + 1, zs, by first | rfl | go_num, by first | rfl | go_num, by omega, by omega, MS.out hpx, ROW.out, FA.out⟩
        case measure => first | (simp [intOf]; done) | (simp [intOf]; omega)
      | false =>
        go_wp2_with fail
        go_roundw
        case rel =>
          refine ⟨_, _, _, _, _, _, _, _, _, _, _, _, _, _, _, _, _, _, _, _, _, _, _, ?_, rfl⟩
          refine ⟨i + 1, j + 1, zs.set i x, by first | rfl | go_num, by first | rfl | go_num, by omega, by omega, MK.out hpx, ?_, FA.out.trans1 (Frame.setCell _ _ _ (by simp))⟩
          have := rowAt_set ROW.out i (.int .i64 x)
          rw [set_flatI x] at this
          exact this
        case measure => first | (simp [intOf]; done) | (simp [intOf]; omega)
    · obtain rfl : j = xs.length := by omega
      obtain ⟨wc, hcl, hrc, hfc⟩ := clear_ints hR.out.2.1 hR.out.1.1 hij
      have RC := Lib.hid hrc
      have FC := Lib.hid (hR.out.2.2.trans1 hfc)
      have hkl : i = (keepI p xs).length := by
        have := congrArg List.length hR.out.1.2.2.2.1
        rw [List.take_length] at this
        rw [← this, List.length_take, hR.out.1.1]
        omega
      have hkt : Hid (zs.take i = keepI p xs) := by
        show _ = _
        have := hR.out.1.2.2.2.1
        rw [List.take_length] at this
        exact this
      have HKL := Lib.hid hkl
      clear hrc hfc hkl
      go_wp2_with fail
      go_ret
      refine ⟨by rw [← HKL.out]; first | rfl | (simp; done), ?_, FC.out⟩
      have := RC.out
      rw [hkt.out] at this
      rw [← HKL.out]
      exact this
/-- .. over a row that may be nil. -/
theorem delFunc_isl (a : Option Addr) (n cap : Nat) (xs : List Int) (G : List Nat) (K : Nat) (caps : Array Value) (p : Int → Bool) (w : World) (hx : Sl w 3 1 encI (.slice a n cap) xs G) (hl : xs.length ≤ 1000000) (hK : Entered K)
    (hp : ∀ w', Frame G w w' → ∀ e : Int, Calls Tryz.prog K (#[.int .i64 e] ++ caps) w' fun x w'' => x = .returned (.bool (p e)) ∧ Frame [] w' w'') :
    Calls Tryz.prog 127 #[.slice a n cap, .func (.func K) #[] caps] w fun e w' => e = .returned (.slice a (keepI p xs).length cap) ∧ Sl w' 3 1 encI (.slice a (keepI p xs).length cap) (keepI p xs) G ∧ Frame G w w' := by
  have hx0 := hx
  rcases hx with ⟨h1, h2, h3⟩ | ⟨b, cap', h1, h2, h3⟩
  · injection h1 with e1 e2 e3
    subst e1 e2 e3 h2 h3
    have HI := Lib.hid (fun w' (f : Frame [] w w') => indexFunc_int none 0 [] K caps p w' (.inl rfl) (by simp) ⟨hK, fun w'' f' e => hp w'' (f.trans1 f') e⟩)
    have HX := Lib.hid hx0
    rw [show idxI p [] = -1 from rfl] at HI
    clear hp hx0
    go_enter Tryz.func127, Tryz.ntmps127
    go_wp2_with fail
    refine (HI.out _ (by (repeat first | assumption | exact Frame.refl _ _ | refine Frame.trans1 ?_ (Frame.alloc _ _ _) | refine Frame.trans1 ?_ (Frame.drew _ _) | refine Frame.trans1 ?_ (Frame.drewN _ _ _)))).mono ?_
    rintro e w2 ⟨rfl, f2⟩
    have F2 := Lib.hid f2
    clear f2
    go_wp2_with fail
    go_ret
    exact ⟨rfl, HX.out.frame0 F2.out, F2.out⟩
  · injection h1 with e1 e2 e3
    subst e1 e2 e3 h2
    refine (delFunc_int b cap xs K caps p w h3 hl hK hp).mono ?_
    rintro e w' ⟨rfl, r, f⟩
    exact ⟨rfl, .inr ⟨b, cap, rfl, rfl, r⟩, f⟩
theorem entered_cutwithout1 : Entered 128 := by intro args w; simp [go_sem]
theorem cutwithout1_any (k n : Int) (nb : Nat) (w : World) (h : Blk w nb 3 #[.int .i64 n]) :
    Calls Tryz.prog 128 #[.int .i64 k, .pointer (some ⟨nb, 0, none⟩)] w fun x w' => x = .returned (.bool (k == n)) ∧ w' = w := by
  have c0 := h.at 0 rfl
  go_enter Tryz.func128, Tryz.ntmps128
  go_wp2_with fail
  go_ret
  exact ⟨rfl, rfl⟩
/-- Numbers but one. -/
def butI (n : Int) (xs : List Int) : List Int := keepI (fun k => k == n) xs
theorem cutwithout_any (a : Option Addr) (c : Nat) (xs : List Int) (n : Int) (w : World) (h : RdI w a xs) (hl : xs.length ≤ 1000000) :
    Calls Tryz.prog 89 #[.slice a xs.length c, .int .i64 n] w (FreshEnd 3 1 encI (butI n xs) w) := by
  have hmf := run_makeFunc
  have CL := Lib.hid (fun w' (f : Frame [] w w') => cloneR a c xs w' (h.frame f) hl)
  clear h
  go_enter Tryz.func89, Tryz.ntmps89
  have B0 := Lib.hid (Blk.new w 3 #[.int .i64 n])
  have F0 := Lib.hid (Frame.alloc [] w (.cells #[.int .i64 n] 3))
  go_wp2_with fail
  refine (CL.out _ F0.out).mono ?_
  rintro e w2 ⟨a2, c2, G2, rfl, s2, f2, n2⟩
  have hnw : ∀ x ∈ G2, w.heap.size < x := fun x hx => by have h1 := n2 x hx; rw [World.size_alloc] at h1; omega
  have DF := Lib.hid (delFunc_isl a2 xs.length c2 xs G2 128 #[.pointer (some ⟨w.heap.size, 0, none⟩)] (fun k => k == n) w2 s2 hl entered_cutwithout1 (fun w' f e => (cutwithout1_any e n w.heap.size w' ((B0.out.frame f2 (by simp)).frame f (fun hm => by have := hnw _ hm; omega))).mono fun x w'' ⟨h1, h2⟩ => ⟨h1, h2 ▸ Frame.refl _ _⟩))
  have F2 := Lib.hid (And.intro (F0.out.trans1 f2) hnw)
  clear s2 f2 n2 hnw
  go_wp2_with fail
  refine DF.out.mono ?_
  rintro e w3 ⟨rfl, s3, f3⟩
  have E := Lib.hid (And.intro s3 f3)
  clear s3 f3 DF
  go_wp2_with fail
  go_ret
  exact ⟨a2, c2, G2, rfl, E.out.1, F2.out.1.trans E.out.2 (fun x hx => .inr (by have := F2.out.2 x hx; omega)), fun x hx => by have := F2.out.2 x hx; omega⟩
end Go.Proofs.YtbnhhmejlglbcaaGreat

namespace Go.Proofs.YtbnhhmejlglbcaaGreat
open Go.RowKit
set_option linter.unusedSimpArgs false
set_option linter.unusedVariables false

/-- One token less, where that is enough. -/
def lessC (l : List Gt) (root : Nat) (acc : List Int) (t : Int) : List Int := if truth l root (butI t acc) = true then butI t acc else acc
def leastV (l : List Gt) (root : Nat) (ts : List Int) : List Int := if truth l root (srtI ts) = true then (srtI ts).foldl (lessC l root) (srtI ts) else []
theorem butI_len (n : Int) (xs : List Int) : (butI n xs).length ≤ xs.length := List.length_filter_le _ _
theorem lessC_len (l : List Gt) (root : Nat) (acc : List Int) (t : Int) : (lessC l root acc t).length ≤ acc.length := by
  unfold lessC; split
  · exact butI_len _ _
  · exact Nat.le_refl _
theorem lessC_next {l : List Gt} {root : Nat} {S acc : List Int} {k : Nat} {t : Int} (h : S[k]? = some t) : (S.take (k + 1)).foldl (lessC l root) acc = lessC l root ((S.take k).foldl (lessC l root) acc) t := by
  rw [take_one h, List.foldl_append]; rfl
theorem sl_cap {α : Type} {w : World} {e sz : Nat} {enc : α → List Value} {a : Option Addr} {n c : Nat} {xs : List α} {G : List Nat} (h : Sl w e sz enc (.slice a n c) xs G) : n ≤ c ∧ c ≤ maxLen := by
  rcases h with ⟨h1, _⟩ | ⟨b, cap, h1, _, h3⟩
  · injection h1 with _ e1 e2
    subst e1 e2
    exact ⟨Nat.le_refl _, by unfold maxLen; omega⟩
  · injection h1 with _ e1 e2
    subst e1 e2
    obtain ⟨cs, _, h4, h5, _⟩ := h3.blk
    exact ⟨h4, h5⟩
def RowEndI (xs : List Int) (w : World) (e : Ending) (w' : World) : Prop := ∃ a c, e = .returned (.slice a xs.length c) ∧ RdI w' a xs ∧ Frame [] w w' ∧ xs.length ≤ c ∧ c ≤ maxLen
theorem foldl_len (l : List Gt) (root : Nat) : ∀ (S acc : List Int), (S.foldl (lessC l root) acc).length ≤ acc.length
  | [], acc => Nat.le_refl _
  | t :: S, acc => by rw [List.foldl_cons]; exact Nat.le_trans (foldl_len l root S _) (lessC_len l root acc t)

set_option maxRecDepth 100000 in
set_option maxHeartbeats 4000000 in
theorem cutLeast_any (pb : Nat) (F : List Nat) (l : List Gt) (left : Int) (hI : Inv l) (root : Nat) (hr : root < l.length) (hlen : l.length ≤ 100000)
    (ta : Option Addr) (tc : Nat) (ts : List Int) (w : World) (h : St w pb F l left) (ht : RdI w ta ts) (htl : ts.length ≤ 1000) :
    Calls Tryz.prog 41 #[.pointer (some ⟨pb, 0, none⟩), .int .i64 root, .slice ta ts.length tc] w (RowEndI (leastV l root ts) w) := by
  have AS := Lib.hid (fun w' (f : Frame [] w w') => asorted_any ta tc ts w' (ht.frame f) (by omega))
  have TR := Lib.hid (fun w' (f : Frame [] w w') a c xs (hx : RdI w' a xs) (hl : xs.length ≤ 1000000) => truth_any pb F l left hI root hr hlen a c xs w' (h.frame0 f) hx hl)
  have hSl : (srtI ts).length ≤ 1000 := by
    have := compact_len5 (ts.mergeSort fun x y => decide (x ≤ y))
    rw [List.length_mergeSort] at this
    rw [← srtI_compact ts] at *
    omega
  have HV : Hid (leastV l root ts = if truth l root (srtI ts) = true then (srtI ts).foldl (lessC l root) (srtI ts) else []) := rfl
  generalize srtI ts = S at *
  clear h ht
  go_enter Tryz.func41, Tryz.ntmps41
  go_wp2_with fail
  refine (AS.out _ (Frame.refl _ _)).mono ?_
  rintro e w1 ⟨a1, c1, G1, rfl, s1, f1, -⟩
  have R1 := Lib.hid (And.intro (sl_rdI s1) f1)
  have C1 := Lib.hid (sl_cap s1)
  have T1 := Lib.hid (TR.out w1 f1 a1 c1 S (sl_rdI s1) (by omega))
  clear s1 f1 AS
  generalize hb : truth l root S = b at *
  have HB := Lib.hid hb
  clear hb
  go_wp2_with fail
  refine T1.out.mono ?_
  rintro e w2 ⟨rfl, f2⟩
  have R2 := Lib.hid (And.intro (R1.out.1.frame f2) (R1.out.2.trans1 f2))
  clear f2 R1 T1
  cases b with
  | false =>
    go_wp2_with fail
    go_ret
    exact ⟨none, 0, by rw [HV.out]; rfl, by rw [HV.out]; exact .inl rfl, R2.out.2, by rw [HV.out]; simp, by unfold maxLen; omega⟩
  | true =>
    go_wp2_with fail
    refine (cloneR a1 c1 S w2 R2.out.1 (by omega)).mono ?_
    rintro e w3 ⟨a3, c3, G3, rfl, s3, f3, -⟩
    have R3 := Lib.hid (And.intro (sl_rdI s3) (And.intro (R2.out.1.frame f3) (R2.out.2.trans1 f3)))
    clear s3 f3 R2
    go_wp2_with fail
    go_loopw [7, 9, 10, 21] (fun u _ _ i wr => ∃ (k : Nat) (acc : List Int) (a : Option Addr) (c : Nat), k ≤ S.length ∧ i = .int .i64 k ∧ u = .slice a acc.length c ∧ acc.length ≤ 1000 ∧ Hid (acc = (S.take k).foldl (lessC l root) S ∧ RdI wr a acc ∧ Frame [] w3 wr ∧ acc.length ≤ c ∧ c ≤ maxLen)) (fun _ _ _ i _ => (S.length - intOf i).toNat)
    case atStart => exact ⟨0, S, a1, c1, Nat.zero_le _, rfl, rfl, hSl, Lib.hid ⟨rfl, R3.out.2.1, Frame.refl _ _, C1.out⟩⟩
    case round =>
      rename World => wr
      obtain ⟨k, acc, a, c, hk, rfl, rfl, hal, hR⟩ := hrel
      by_cases hlt : k < S.length
      · have hj : S[k]? = some S[k] := by simp [hlt]
        obtain ⟨b9, off, rfl, x0⟩ : ∃ b off, a3 = some ⟨b, off, none⟩ ∧ wr.cell? ⟨b, off + k, none⟩ = some (.int .i64 S[k]) := by
          rcases R3.out.1.frame hR.out.2.2.1 with h | ⟨b, off, h1, _, h3⟩
          · subst h; simp at hlt
          · exact ⟨b, off, h1, h3 k hlt⟩
        generalize S[k] = x at *
        have CW := Lib.hid (cutwithout_any a c acc x wr hR.out.2.1 (by omega))
        have HJ := Lib.hid (And.intro hj hR.out.1)
        have hbl := butI_len x acc
        have HL : Hid (lessC l root acc x = if truth l root (butI x acc) = true then butI x acc else acc) := rfl
        generalize butI x acc = nx at *
        clear hj
        go_wp2_with fail
        refine CW.out.mono ?_
        rintro e w5 ⟨a5, c5, G5, rfl, s5, f5, -⟩
        have C5 := Lib.hid (sl_cap s5)
        have R5 := Lib.hid (And.intro (sl_rdI s5) (And.intro (hR.out.2.1.frame f5) (hR.out.2.2.1.trans1 f5)))
        have T5 := Lib.hid (TR.out w5 (R3.out.2.2.trans1 R5.out.2.2) a5 c5 nx R5.out.1 (by omega))
        generalize hd : truth l root nx = d at *
        have HD := Lib.hid hd
        clear s5 f5 CW hd
        go_wp2_with fail
        refine T5.out.mono ?_
        rintro e w6 ⟨rfl, f6⟩
        have R6 := Lib.hid (And.intro (R5.out.1.frame f6) (And.intro (R5.out.2.1.frame f6) (R5.out.2.2.trans1 f6)))
        clear f6 R5 T5
        cases d with
        | true =>
          go_wp2_with fail
          go_roundw
          case rel => exact ⟨k + 1, nx, a5, c5, by omega, by first | rfl | go_num, rfl, by omega, Lib.hid ⟨by rw [lessC_next HJ.out.1, ← HJ.out.2, HL.out]; rfl, R6.out.1, R6.out.2.2, C5.out⟩⟩
          case measure => first | (simp [intOf]; done) | (simp [intOf]; omega)
        | false =>
          go_wp2_with fail
          go_roundw
          case rel => exact ⟨k + 1, acc, a, c, by omega, by first | rfl | go_num, rfl, by omega, Lib.hid ⟨by rw [lessC_next HJ.out.1, ← HJ.out.2, HL.out]; rfl, R6.out.2.1, R6.out.2.2, hR.out.2.2.2⟩⟩
          case measure => first | (simp [intOf]; done) | (simp [intOf]; omega)
      · obtain rfl : k = S.length := by omega
        have HE : Hid (acc = leastV l root ts) := by
          show acc = _
          have := hR.out.1
          rw [List.take_length] at this
          rw [HV.out, this]; rfl
        have E := Lib.hid (And.intro hR.out.2.1 (And.intro (R3.out.2.2.trans1 hR.out.2.2.1) hR.out.2.2.2))
        clear hR
        go_wp2_with fail
        go_ret
        exact ⟨a, c, by rw [← HE.out]; rfl, by rw [← HE.out]; exact E.out.1, E.out.2.1, by rw [← HE.out]; exact E.out.2.2⟩
theorem cutEmpty_any (pb : Nat) (F : List Nat) (l : List Gt) (left : Int) (hI : Inv l) (root : Nat) (hr : root < l.length) (hlen : l.length ≤ 100000) (w : World) (h : St w pb F l left) :
    Calls Tryz.prog 38 #[.pointer (some ⟨pb, 0, none⟩), .int .i64 root] w fun e w' => e = .returned (.bool (truth l root [])) ∧ Frame [] w w' := by
  have T := Lib.hid (truth_any pb F l left hI root hr hlen none 0 [] w h (.inl rfl) (by simp))
  clear h
  go_enter Tryz.func38, Tryz.ntmps38
  go_wp2_with fail
  refine T.out.mono ?_
  rintro e w1 ⟨rfl, f1⟩
  go_wp2_with fail
  go_ret
  exact ⟨rfl, f1⟩
end Go.Proofs.YtbnhhmejlglbcaaGreat

