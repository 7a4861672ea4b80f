/- slices.DeleteFunc at edges. -/
import Derived.Test.YtjcajidgaejhoaaGreatMi27
import Derived.Test.YtjcajidgaejhoaaGreatMi12
import Derived.Test.YtjcajidgaejhoaaGreatMi10
namespace Go.Proofs.YtjcajidgaejhoaaGreat
open Go.RowKit
set_option linter.unusedSimpArgs false
set_option linter.unusedVariables false

theorem set4_list (PA PB : List Value) (x0 x1 x2 x3 y0 y1 y2 y3 : Value) (m : Nat) (hm : PA.length = m * 4) :
    (((((PA ++ x0 :: x1 :: x2 :: x3 :: PB).set (m * 4) y0).set (m * 4 + 1) y1).set (m * 4 + 2) y2).set (m * 4 + 3) y3) = PA ++ y0 :: y1 :: y2 :: y3 :: PB := by
  have e4 : m * 4 = PA.length + 0 := by omega
  rw [e4]
  simp [List.set_append]
theorem set_flatE {zs : List Ed} {k : Nat} (hk : k < zs.length) (z : Ed) : (((((zs.flatMap Ed.cs).set (k * 4) (.int .i64 z.tok)).set (k * 4 + 1) (.int .i64 z.src)).set (k * 4 + 2) (.string z.lab)).set (k * 4 + 3) (.int .i64 z.dst)) = (zs.set k z).flatMap Ed.cs := by
  have e : zs = zs.take k ++ zs[k] :: zs.drop (k + 1) := by rw [List.getElem_cons_drop, List.take_append_drop]
  have e2 : zs.set k z = zs.take k ++ z :: zs.drop (k + 1) := by
    rw [List.set_eq_take_append_cons_drop, if_pos hk]
  rw [e2]
  have hl : ((zs.take k).flatMap Ed.cs).length = k * 4 := by rw [flat_len ed_len]; simp; omega
  have := set4_list ((zs.take k).flatMap Ed.cs) ((zs.drop (k + 1)).flatMap Ed.cs) (.int .i64 zs[k].tok) (.int .i64 zs[k].src) (.string zs[k].lab) (.int .i64 zs[k].dst) (.int .i64 z.tok) (.int .i64 z.src) (.string z.lab) (.int .i64 z.dst) k hl
  have e3 : zs.flatMap Ed.cs = (zs.take k).flatMap Ed.cs ++ .int .i64 zs[k].tok :: .int .i64 zs[k].src :: .string zs[k].lab :: .int .i64 zs[k].dst :: (zs.drop (k + 1)).flatMap Ed.cs := by
    conv => lhs; rw [e]
    simp only [List.flatMap_append, List.flatMap_cons, Ed.cs, List.cons_append, List.nil_append]
  rw [e3, this]
  simp only [List.flatMap_append, List.flatMap_cons, Ed.cs, List.cons_append, List.nil_append]
/-- What stays. -/
def keepE (p : Ed → Bool) (xs : List Ed) : List Ed := xs.filter fun e => !p e
theorem keepE_in {p : Ed → Bool} {xs : List Ed} {k : Nat} {e : Ed} (h : xs[k]? = some e) (hm : p e = true) : keepE p (xs.take (k + 1)) = keepE p (xs.take k) := by
  rw [take_one' h]; simp [keepE, List.filter_append, hm]
theorem keepE_out {p : Ed → Bool} {xs : List Ed} {k : Nat} {e : Ed} (h : xs[k]? = some e) (hm : p e = false) : keepE p (xs.take (k + 1)) = keepE p (xs.take k) ++ [e] := by
  rw [take_one' h]; simp [keepE, List.filter_append, hm]
/-- The row in the middle: i kept, from j on as it was. -/
def Mid (p : Ed → Bool) (xs zs : List Ed) (i j : Nat) : Prop := zs.length = xs.length ∧ i < j ∧ j ≤ xs.length ∧ zs.take i = keepE p (xs.take j) ∧ zs.drop j = xs.drop j
theorem Mid.at {p : Ed → Bool} {xs zs : List Ed} {i j : Nat} (h : Mid p xs zs i j) (hj : j < xs.length) : zs[j]? = some xs[j] := by
  have := congrArg (fun l => l[0]?) h.2.2.2.2
  simpa [List.getElem?_drop, hj] using this
theorem Mid.skip {p : Ed → Bool} {xs zs : List Ed} {i j : Nat} (h : Mid p xs zs i j) (hj : j < xs.length) (hp : p xs[j] = true) : Mid p xs zs i (j + 1) := by
  obtain ⟨h1, h2, h3, h4, h5⟩ := h
  refine ⟨h1, by omega, hj, by rw [keepE_in (by simp [hj]) hp]; exact h4, ?_⟩
  have := congrArg (List.drop 1) h5
  simpa [List.drop_drop] using this
theorem Mid.keep {p : Ed → Bool} {xs zs : List Ed} {i j : Nat} (h : Mid p xs zs i j) (hj : j < xs.length) (hp : p xs[j] = false) : Mid p xs (zs.set i xs[j]) (i + 1) (j + 1) := by
  obtain ⟨h1, h2, h3, h4, h5⟩ := h
  refine ⟨by simpa using h1, by omega, hj, ?_, ?_⟩
  · rw [keepE_out (e := xs[j]) (by simp [hj]) hp, ← h4, List.take_set, List.set_eq_take_append_cons_drop, if_pos (by simp; omega), List.take_take, List.drop_of_length_le (by simp; omega), Nat.min_eq_left (by omega)]
  · have := congrArg (List.drop 1) h5
    rw [List.drop_set_of_lt (by omega)]
    simpa [List.drop_drop] using this
theorem idxE_split (p : Ed → Bool) (xs : List Ed) : (idxE p xs = -1 ∧ keepE p xs = xs) ∨ ∃ k : Nat, idxE p xs = k ∧ k < xs.length ∧ Mid p xs xs k (k + 1) := by
  by_cases h : ∃ k, ∃ hk : k < xs.length, p xs[k] = true ∧ ∀ j (hj : j < k), p xs[j] = false
  · obtain ⟨k, hk, h1, h2⟩ := h
    refine .inr ⟨k, idxE_at hk h2 h1, hk, rfl, by omega, hk, ?_, rfl⟩
    rw [keepE_in (e := xs[k]) (by simp [hk]) h1]
    unfold keepE
    rw [List.filter_eq_self.2]
    intro e he
    obtain ⟨j, hj, rfl⟩ := List.getElem_of_mem he
    have hj2 : j < k ∧ j < xs.length := by simp at hj; omega
    have := h2 j hj2.1
    simp [this]
  · have hn : ∀ j (hj : j < xs.length), p xs[j] = false := by
      intro j
      induction j using Nat.strongRecOn with
      | _ j ih =>
        intro hj
        cases hpj : p xs[j] with
        | false => rfl
        | true => exact absurd ⟨j, hj, hpj, fun i hi => ih i hi (by omega)⟩ h
    refine .inl ⟨idxE_none hn, ?_⟩
    unfold keepE
    rw [List.filter_eq_self.2]
    intro e he
    obtain ⟨j, hj, rfl⟩ := List.getElem_of_mem he
    simp [hn j hj]

theorem clear_edges {wr : World} {b n cap i : Nat} {zs : List Ed} (hr : RowAt wr b 44 4 n cap (zs.flatMap Ed.cs)) (hz : zs.length = n) (hi : i < n) : ∃ w', (∀ ty, (Builtin.clear_ #[23] ty #[.slice (some ⟨b, i * 4, none⟩) (n - i) (cap - i)]).run Tryz.prog wr = .ok (.tuple #[]) w') ∧ RowAt w' b 44 4 i cap ((zs.take i).flatMap Ed.cs) ∧ Frame [b] wr w' := by
  obtain ⟨cs, hb, hn, hcm, hcs, htk⟩ := hr.blk
  obtain ⟨ZS, hZS⟩ : ∃ ZS, (Builtin.zeroCells (Value.agg #[.int .i64 0, .int .i64 0, .string ⟨#[]⟩, .int .i64 0]).cells (n - i)).toList = ZS := ⟨_, rfl⟩
  have hc4 : (Value.agg #[.int .i64 0, .int .i64 0, .string ⟨#[]⟩, .int .i64 0]).cells = #[.int .i64 0, .int .i64 0, .string ⟨#[]⟩, .int .i64 0] := by kernel_rfl
  have hlen : ZS.length = (n - i) * 4 := by rw [← hZS, hc4]; simp [Builtin.zeroCells]
  have hone : ∀ v ∈ ZS, v.oneCell' = true := by
    intro v hv
    rw [← hZS, hc4] at hv
    simp only [Builtin.zeroCells, Array.toList_map, List.mem_map] at hv
    obtain ⟨j, -, rfl⟩ := hv
    have h4 : j % 4 < 4 := Nat.mod_lt _ (by omega)
    have h5 : j % (#[Value.int .i64 0, .int .i64 0, .string ⟨#[]⟩, .int .i64 0] : Array Value).size = j % 4 := rfl
    rw [h5]
    generalize j % 4 = m at h4
    match m, h4 with
    | 0, _ => rfl
    | 1, _ => rfl
    | 2, _ => rfl
    | 3, _ => rfl
  have hfit : i * 4 + ZS.length ≤ cs.size := by rw [hlen, hcs]; omega
  refine ⟨wr.setCells b (i * 4) ZS, fun ty => run_clear_k wr _ _ ty _ _ Tryz.underlying23 zero_del_edge b (i * 4) (n - i) _ (by omega) hZS hone (fun j hj => hb.isSome (by omega)) (fun j hj => hb.frozen _), ?_, Frame.setCells _ _ _ _⟩
  refine RowAt.of_blk (Blk.setCells hb hfit) (by omega) hcm ?_ ?_
  · rw [List.size_toArray, over_len (by simpa using hfit)]; simpa using hcs
  · show (over cs.toList (i * 4) ZS).take (i * 4) = _
    unfold over
    rw [List.append_assoc, List.take_append_of_le_length (by simp; omega), List.take_take, Nat.min_self]
    have : cs.toList.take (i * 4) = (cs.toList.take (n * 4)).take (i * 4) := by rw [List.take_take]; congr 1; omega
    rw [this, htk]
    conv => lhs; rw [← List.take_append_drop i zs, List.flatMap_append]
    rw [List.take_append_of_le_length (by rw [flat_len ed_len, List.length_take, hz, Nat.min_eq_left (by omega)]; exact Nat.le_refl _), List.take_of_length_le (by rw [flat_len ed_len, List.length_take, hz, Nat.min_eq_left (by omega)]; exact Nat.le_refl _)]

set_option maxHeartbeats 8000000 in
set_option maxRecDepth 100000 in
theorem delFunc_edge (b cap : Nat) (xs : List Ed) (K : Nat) (caps : Array Value) (p : Ed → Bool) (w : World) (hx : RowAt w b 44 4 xs.length cap (xs.flatMap Ed.cs)) (hl : xs.length ≤ 1000000) (hK : Entered K)
    (hp : ∀ w', Frame [b] w w' → ∀ e : Ed, Calls Tryz.prog K (#[.agg #[.int .i64 e.tok, .int .i64 e.src, .string e.lab, .int .i64 e.dst]] ++ caps) w' fun x w'' => x = .returned (.bool (p e)) ∧ Frame [] w' w'') :
    Calls Tryz.prog 67 #[.slice (some ⟨b, 0, none⟩) xs.length cap, .func (.func K) #[] caps] w fun e w' => e = .returned (.slice (some ⟨b, 0, none⟩) (keepE p xs).length cap) ∧ RowAt w' b 44 4 (keepE p xs).length cap ((keepE p xs).flatMap Ed.cs) ∧ Frame [b] w w' := by
  have HI := Lib.hid (fun w' (f : Frame [] w w') => indexFunc_edge (some ⟨b, 0, none⟩) cap xs [b] K caps p w' ((show Sl w 44 4 Ed.cs (.slice (some ⟨b, 0, none⟩) xs.length cap) xs [b] from .inr ⟨b, cap, rfl, rfl, hx⟩).frame0 f) (by omega) ⟨hK, fun w'' f' e => hp w'' ((f.mono (by simp)).trans1 (f'.mono (by simp))) e⟩)
  have HX := Lib.hid hx
  have HP := Lib.hid hp
  have hb := hx.lt
  have hcap : xs.length ≤ cap ∧ cap ≤ 9223372036854775807 := by
    obtain ⟨cs, h1, h2, h3, _⟩ := hx.blk
    exact ⟨h2, by unfold maxLen at h3; omega⟩
  clear hx hp
  rcases idxE_split p xs with ⟨h1, h2⟩ | ⟨k, h1, hk, hM⟩
  · rw [h1] at HI
    rw [h2]
    clear h1 h2
    go_enter Tryz.func67, Tryz.ntmps67
    go_wp2_with fail
    refine (HI.out _ (by (repeat first | assumption | exact Frame.refl _ _ | refine Frame.trans1 ?_ (Frame.alloc _ _ _) | refine Frame.trans1 ?_ (Frame.drew _ _) | refine Frame.trans1 ?_ (Frame.drewN _ _ _)))).mono ?_
    rintro e w2 ⟨rfl, f2⟩
    have F2 := Lib.hid f2
    clear f2
    go_wp2_with fail
    go_ret
    exact ⟨rfl, HX.out.frame F2.out (by simp), F2.out.mono (by simp)⟩
  rw [h1] at HI
  have HM := Lib.hid hM
  clear h1 hM
  go_enter Tryz.func67, Tryz.ntmps67
  go_wp2_with fail
  refine (HI.out _ (by (repeat first | assumption | exact Frame.refl _ _ | refine Frame.trans1 ?_ (Frame.alloc _ _ _) | refine Frame.trans1 ?_ (Frame.drew _ _) | refine Frame.trans1 ?_ (Frame.drewN _ _ _)))).mono ?_
  rintro e w2 ⟨rfl, f2⟩
  have F2 := Lib.hid f2
  clear f2
  go_wp2_with fail
  go_loopw [5, 6] (fun iv jv wr => ∃ (i j : Nat) (zs : List Ed), iv = .int .i64 i ∧ jv = .int .i64 j ∧ j ≤ xs.length ∧ i < j ∧ Hid (Mid p xs zs i j ∧ RowAt wr b 44 4 xs.length cap (zs.flatMap Ed.cs) ∧ Frame [b] w wr)) (fun _ j _ => xs.length - (intOf j).toNat)
  case atStart => exact ⟨k, k + 1, xs, rfl, by first | rfl | go_num, hk, by omega, HM.out, HX.out.frame F2.out (by simp), F2.out.mono (by simp)⟩
  case round =>
    obtain ⟨i, j, zs, rfl, rfl, hj, hij, hR⟩ := hrel
    rename World => wr
    by_cases hlt : j < xs.length
    · have gj := hR.out.1.at hlt
      have hzi : i < zs.length := by rw [hR.out.1.1]; omega
      have gi : zs[i]? = some zs[i] := by simp [hzi]
      have MS := Lib.hid (hR.out.1.skip hlt)
      have MK := Lib.hid (hR.out.1.keep hlt)
      generalize xs[j] = x at *
      generalize zs[i] = y at *
      have d0 := hR.out.2.1.cell (flat_get ed_len gj (j := 0) rfl)
      have d1 := hR.out.2.1.cell (flat_get ed_len gj (j := 1) rfl)
      have d2 := hR.out.2.1.cell (flat_get ed_len gj (j := 2) rfl)
      have d3 := hR.out.2.1.cell (flat_get ed_len gj (j := 3) rfl)
      simp only [Nat.add_zero] at d0
      have hcall := hK (#[.agg #[.int .i64 x.tok, .int .i64 x.src, .string x.lab, .int .i64 x.dst]] ++ caps)
      have GI := Lib.hid gi
      clear gj gi
      go_wp2_with fail
      refine (HP.out _ (hR.out.2.2.trans1 (Frame.alloc _ _ _)) x).mono ?_
      rintro e w3 ⟨rfl, f3⟩
      have fa : Frame [] wr w3 := (Frame.alloc _ _ _).trans1 f3
      have bt := (Blk.new wr 44 #[.int .i64 x.tok, .int .i64 x.src, .string x.lab, .int .i64 x.dst]).frame f3 (by simp)
      have row3 := hR.out.2.1.frame fa (by simp)
      have t0 := bt.at 0 rfl
      have t1 := bt.at 1 rfl
      have t2 := bt.at 2 rfl
      have t3 := bt.at 3 rfl
      have s0 := row3.cell (flat_get ed_len GI.out (j := 0) rfl)
      have s1 := row3.cell (flat_get ed_len GI.out (j := 1) rfl)
      have s2 := row3.cell (flat_get ed_len GI.out (j := 2) rfl)
      have s3 := row3.cell (flat_get ed_len GI.out (j := 3) rfl)
      simp only [Nat.add_zero] at s0
      have r0 := row3.frozen (i * 4)
      have r1 := row3.frozen (i * 4 + 1)
      have r2 := row3.frozen (i * 4 + 2)
      have r3 := row3.frozen (i * 4 + 3)
      have ROW := Lib.hid row3
      have FA := Lib.hid (hR.out.2.2.trans0 fa)
      clear d0 d1 d2 d3 bt row3 f3 fa
      cases hpx : p x with
      | true =>
        go_wp2_with fail
        go_roundw
        case rel => refine ⟨_, _, _, _, _, _, _, _, _, _, _, _, _, _, _, _, _, _, _, _, _, _, _, ?_, rfl⟩; exact ⟨i, j + 1, zs, by first | rfl | go_num, by first | rfl | go_num, by omega, by omega, MS.out hpx, ROW.out, FA.out⟩
        case measure => first | (simp [intOf]; done) | (simp [intOf]; omega)
      | false =>
        go_wp2_with fail
        go_roundw
        case rel =>
          refine ⟨_, _, _, _, _, _, _, _, _, _, _, _, _, _, _, _, _, _, _, _, _, _, _, ?_, rfl⟩
          refine ⟨i + 1, j + 1, zs.set i x, by first | rfl | go_num, by first | rfl | go_num, by omega, by omega, MK.out hpx, ?_, (((FA.out.trans1 (Frame.setCell _ _ _ (by simp))).trans1 (Frame.setCell _ _ _ (by simp))).trans1 (Frame.setCell _ _ _ (by simp))).trans1 (Frame.setCell _ _ _ (by simp))⟩
          have := (((ROW.out.set (i * 4) (.int .i64 x.tok)).set (i * 4 + 1) (.int .i64 x.src)).set (i * 4 + 2) (.string x.lab)).set (i * 4 + 3) (.int .i64 x.dst)
          rw [set_flatE hzi x] at this
          exact this
        case measure => first | (simp [intOf]; done) | (simp [intOf]; omega)
    · obtain rfl : j = xs.length := by omega
      obtain ⟨wc, hcl, hrc, hfc⟩ := clear_edges hR.out.2.1 hR.out.1.1 hij
      have RC := Lib.hid hrc
      have FC := Lib.hid (hR.out.2.2.trans1 hfc)
      have hkl : i = (keepE p xs).length := by
        have := congrArg List.length hR.out.1.2.2.2.1
        rw [List.take_length] at this
        rw [← this, List.length_take, hR.out.1.1]
        omega
      have hkt : Hid (zs.take i = keepE p xs) := by
        show _ = _
        have := hR.out.1.2.2.2.1
        rw [List.take_length] at this
        exact this
      have HKL := Lib.hid hkl
      clear hrc hfc hkl
      go_wp2_with fail
      go_ret
      refine ⟨by rw [← HKL.out]; first | rfl | (simp; done), ?_, FC.out⟩
      have := RC.out
      rw [hkt.out] at this
      rw [← HKL.out]
      exact this
set_option maxHeartbeats 2000000 in
/-- .. over a row that may be nil. -/
theorem delFunc_sl (a : Option Addr) (n cap : Nat) (xs : List Ed) (G : List Nat) (K : Nat) (caps : Array Value) (p : Ed → Bool) (w : World) (hx : Sl w 44 4 Ed.cs (.slice a n cap) xs G) (hl : xs.length ≤ 1000000) (hK : Entered K)
    (hp : ∀ w', Frame G w w' → ∀ e : Ed, Calls Tryz.prog K (#[.agg #[.int .i64 e.tok, .int .i64 e.src, .string e.lab, .int .i64 e.dst]] ++ caps) w' fun x w'' => x = .returned (.bool (p e)) ∧ Frame [] w' w'') :
    Calls Tryz.prog 67 #[.slice a n cap, .func (.func K) #[] caps] w fun e w' => e = .returned (.slice a (keepE p xs).length cap) ∧ Sl w' 44 4 Ed.cs (.slice a (keepE p xs).length cap) (keepE p xs) G ∧ Frame G w w' := by
  have hx0 := hx
  rcases hx with ⟨h1, h2, h3⟩ | ⟨b, cap', h1, h2, h3⟩
  · injection h1 with e1 e2 e3
    subst e1 e2 e3 h2 h3
    have HI := Lib.hid (fun w' (f : Frame [] w w') => indexFunc_edge none 0 [] [] K caps p w' (hx0.frame0 f) (by simp) ⟨hK, fun w'' f' e => hp w'' (f.trans1 f') e⟩)
    have HX := Lib.hid hx0
    rw [show idxE p [] = -1 from rfl] at HI
    clear hp hx0
    go_enter Tryz.func67, Tryz.ntmps67
    go_wp2_with fail
    refine (HI.out _ (by (repeat first | assumption | exact Frame.refl _ _ | refine Frame.trans1 ?_ (Frame.alloc _ _ _) | refine Frame.trans1 ?_ (Frame.drew _ _) | refine Frame.trans1 ?_ (Frame.drewN _ _ _)))).mono ?_
    rintro e w2 ⟨rfl, f2⟩
    have F2 := Lib.hid f2
    clear f2
    go_wp2_with fail
    go_ret
    exact ⟨rfl, HX.out.frame0 F2.out, F2.out⟩
  · injection h1 with e1 e2 e3
    subst e1 e2 e3 h2
    refine (delFunc_edge b cap xs K caps p w h3 hl hK hp).mono ?_
    rintro e w' ⟨rfl, r, f⟩
    exact ⟨rfl, .inr ⟨b, cap, rfl, rfl, r⟩, f⟩
end Go.Proofs.YtjcajidgaejhoaaGreat

