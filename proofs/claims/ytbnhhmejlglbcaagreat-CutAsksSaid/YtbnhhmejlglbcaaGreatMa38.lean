/- The reference's Truth. -/
import Derived.Test.YtbnhhmejlglbcaaGreatMa24
import Derived.Test.YtbnhhmejlglbcaaGreatMa14
import Derived.Test.YtbnhhmejlglbcaaGreatMa37
namespace Go.Proofs.YtbnhhmejlglbcaaGreat
open Go.RowKit
set_option linter.unusedSimpArgs false
set_option linter.unusedVariables false

theorem MRow.put {w : World} {b n : Nat} {m : Nat → Bool} (h : MRow w b n m) {x : Nat} (hx : x < n) (v : Bool) : MRow (w.setCell ⟨b, x, none⟩ (.bool v)) b n (fun j => if j = x then v else m j) := by
  obtain ⟨cs, h1, h2, h3, h4, h5⟩ := RowAt.blk h
  refine RowAt.of_blk (h1.set _ _) h2 h3 (by simpa using h4) ?_
  rw [Array.toList_setIfInBounds, List.take_set, h5]
  apply List.ext_getElem
  · simp
  · intro i g1 g2
    simp only [List.getElem_set, List.getElem_map, List.getElem_range]
    by_cases e : x = i
    · subst e; simp
    · rw [if_neg e, if_neg (fun h => e h.symm)]
theorem rdI_one {w : World} {b : Nat} {x : Int} (h : Blk w b 3 #[.int .i64 x]) : RdI w (some ⟨b, 0, none⟩) [x] := .inr ⟨b, 0, rfl, h.lt, fun k hk => by
  have e : k = 0 := by simp at hk; exact hk
  subst e
  exact h.at 0 rfl⟩
/-- What is true so far. -/
def tm (l : List Gt) (ts : List Int) (t : Nat) : Nat → Bool := fun j => if j < t then worth rgB (fun t => decide (t ∈ ts)) l j else false
theorem tm_next {l : List Gt} {ts : List Int} {t : Nat} {v : Bool} (h : worth rgB (fun t => decide (t ∈ ts)) l t = v) : (fun j => if j = t then v else tm l ts t j) = tm l ts (t + 1) := by
  funext j
  unfold tm
  by_cases e : j = t
  · subst e; rw [if_pos rfl, if_pos (by omega), h]
  · rw [if_neg e]
    by_cases h2 : j < t
    · rw [if_pos h2, if_pos (by omega)]
    · rw [if_neg h2, if_neg (by omega)]
theorem tm_keep {l : List Gt} {ts : List Int} {t : Nat} (h : worth rgB (fun t => decide (t ∈ ts)) l t = false) : tm l ts t = tm l ts (t + 1) := by
  rw [← tm_next h]
  funext j
  by_cases e : j = t
  · subst e; rw [if_pos rfl]; unfold tm; rw [if_neg (by omega)]
  · rw [if_neg e]
theorem tm_at {l : List Gt} {ts : List Int} {t j : Nat} (h : j < t) : tm l ts t j = worth rgB (fun t => decide (t ∈ ts)) l j := if_pos h
/-- A gate in the reference's store, as the walk reads it. -/
theorem RSt.cells {w : World} {pb : Nat} {F : List Nat} {l : List Gt} {bud : Int} (h : RSt w pb F l bud) {k : Nat} {g : Gt} (hg : l[k]? = some g) :
    ∃ b c, w.cell? ⟨pb, 0, none⟩ = some (.slice (some ⟨b, 0, none⟩) l.length c) ∧ w.cell? ⟨b, k * 3, none⟩ = some (.int .i64 g.k) ∧ w.cell? ⟨b, k * 3 + 1, none⟩ = some (.int .i64 g.a) ∧ w.cell? ⟨b, k * 3 + 2, none⟩ = some (.int .i64 g.b) := by
  obtain ⟨a1, c1, G1, hb1, sl1, n1, -⟩ := h
  obtain ⟨b9, cap9, hq, -, hb9, hc⟩ := sl1.cell gt_len hg
  simp only [Value.slice.injEq] at hq
  obtain ⟨rfl, -, rfl⟩ := hq
  exact ⟨b9, c1, hb1.at 0 rfl, by simpa using hc 0 _ rfl, hc 1 _ rfl, hc 2 _ rfl⟩

set_option maxHeartbeats 4000000 in
set_option maxRecDepth 100000 in
theorem rtruth_any (pb : Nat) (F : List Nat) (l : List Gt) (bud : Int) (root : Nat) (w : World) (h : RSt w pb F l bud) (hI : Inv l) (hK : Knd l) (hr : root < l.length) (hlen : l.length ≤ 100000)
    (ta : Option Addr) (tc : Nat) (ts : List Int) (ht : RdI w ta ts) (htl : ts.length ≤ 1000000) :
    Calls Tryz.prog 39 #[.pointer (some ⟨pb, 0, none⟩), .int .i64 root, .slice ta ts.length tc] w fun e w' => e = .returned (.bool (truth l root ts)) ∧ Frame [] w w' := by
  have hri := ris_any h (root : Int)
  have hn : notG l.length (root : Int) = false := by simp [notG]; omega
  rw [hn] at hri
  have RI := Lib.hid hri
  have H := Lib.hid h
  have HI := Lib.hid hI
  have HK := Lib.hid hK
  have HT := Lib.hid ht
  have hmk := run_make_bools (root + 1) w (by omega)
  have hm0 : MRow (w.alloc (.cells (Array.replicate (root + 1) (Value.bool false)) 4)) w.heap.size (root + 1) (fun _ => false) := by have := MRow.new w (root + 1) (by omega); simpa using this
  have HM0 := Lib.hid hm0
  rw [show ((root + 1 : Nat) : Int) = (root : Int) + 1 from by omega] at hmk
  clear hri hn h hI hK hm0 ht
  go_enter Tryz.func39, Tryz.ntmps39
  go_wp2_with fail
  refine RI.out.mono ?_
  rintro e w ⟨rfl, rfl⟩
  clear RI
  go_wp2_with fail
  have hfa : Frame [] w (w.alloc (.cells (Array.replicate (root + 1) (Value.bool false)) 4)) := Frame.alloc _ _ _
  have hsz : w.heap.size < (w.alloc (.cells (Array.replicate (root + 1) (Value.bool false)) 4)).heap.size := by simp
  have R0 := Lib.hid (show Frame [] w (w.alloc (.cells (Array.replicate (root + 1) (Value.bool false)) 4)) ∧ MRow (w.alloc (.cells (Array.replicate (root + 1) (Value.bool false)) 4)) w.heap.size (root + 1) (tm l ts 0) from ⟨hfa, HM0.out⟩)
  clear HM0 hfa hmk
  generalize w.alloc (.cells (Array.replicate (root + 1) (Value.bool false)) 4) = wa at *
  have hsz : w.heap.size ≤ w.heap.size := Nat.le_refl _
  generalize hb : w.heap.size = b at *
  have HB := Lib.hid hb
  clear hb
  go_loopw [8] (fun i wr => ∃ t : Nat, t ≤ root + 1 ∧ i = .int .i64 t ∧ Hid (Frame [] w wr ∧ MRow wr b (root + 1) (tm l ts t))) (fun i _ => (root + 1 - intOf i).toNat)
  case atStart => exact ⟨0, Nat.zero_le _, rfl, R0⟩
  case round =>
    clear R0
    rename World => wr
    obtain ⟨t, ht, rfl, hR⟩ := hrel
    by_cases hlt : t ≤ root
    · have hle : decide ((t : Int) ≤ root) = true := decide_eq_true (by omega)
      have hg : l[t]? = some (l[t]'(by omega)) := by simp
      generalize l[t]'(by omega) = g at hg
      have hw := worth_at (R := rgB) (w := fun t => decide (t ∈ ts)) HI.out hg
      have hk := HK.out g (List.mem_of_getElem? hg)
      obtain ⟨gb9, gc9, c0, d0, d1, d2⟩ := (H.out.frame0 hR.out.1).cells hg
      obtain ⟨gk, ga, gb⟩ := g
      simp only at d0 d1 d2 hk
      have HG := Lib.hid hg
      have r0 := hR.out.2.frozen t
      have r1 := hR.out.2.at (j := t) (by omega)
      have hbl := hR.out.2.lt
      have stf : ∀ (w9 w8 : World) (v : Bool), worth rgB (fun t => decide (t ∈ ts)) l t = v → Frame [] wr w9 → Frame [] (w9.setCell ⟨b, t, none⟩ (.bool v)) w8 → Frame [] w w8 ∧ MRow w8 b (root + 1) (tm l ts (t + 1)) := fun w9 w8 v hv f f8 => by
        refine ⟨((hR.out.1.trans1 f).trans (Frame.setCell (S := [b]) _ _ _ (by simp)) (fun x hx => by simp at hx; subst hx; exact .inr (by have := HB.out; omega))).trans1 f8, ?_⟩
        rw [← tm_next hv]
        exact ((hR.out.2.frame f (by simp)).put (by omega) v).frame f8 (by simp)
      have ST := Lib.hid stf
      clear hg stf
      have h6 : gk = 1 ∨ gk = 2 ∨ gk = 3 ∨ gk = 4 ∨ gk = 5 ∨ gk = 6 := by omega
      clear hk
      unfold gval at hw
      rcases h6 with rfl | rfl | rfl | rfl | rfl | rfl
      · simp only [rgB, Int.reduceEq, if_false, if_true] at hw
        have HW := Lib.hid hw
        clear hw
        go_wp2_with fail
        go_roundw
        case rel => exact ⟨t + 1, by omega, by first | rfl | go_num, Lib.hid ⟨hR.out.1.trans1 (by (repeat first | assumption | exact Frame.refl _ _ | refine Frame.trans1 ?_ (Frame.alloc _ _ _) | refine Frame.trans1 ?_ (Frame.drew _ _) | refine Frame.trans1 ?_ (Frame.drewN _ _ _))), by rw [← tm_keep HW.out]; exact hR.out.2.frame (Frame.alloc [] _ _) (by simp)⟩⟩
        case measure => first | (simp [intOf]; done) | (simp [intOf]; omega)
      · simp only [rgB, Int.reduceEq, if_false, if_true] at hw
        have HW := Lib.hid hw
        clear hw
        go_wp2_with fail
        go_roundw
        case rel => exact ⟨t + 1, by omega, by first | rfl | go_num, Lib.hid (ST.out wr _ _ HW.out (Frame.refl _ _) (by (repeat first | assumption | exact Frame.refl _ _ | refine Frame.trans1 ?_ (Frame.alloc _ _ _) | refine Frame.trans1 ?_ (Frame.drew _ _) | refine Frame.trans1 ?_ (Frame.drewN _ _ _))))⟩
        case measure => first | (simp [intOf]; done) | (simp [intOf]; omega)
      · simp only [rgB, Int.reduceEq, if_false, if_true] at hw
        have HW := Lib.hid hw
        clear hw
        have fS : Frame [] wr ((wr.alloc (.cells #[.int .i64 3, .int .i64 ga, .int .i64 gb] 109)).alloc (.cells #[.int .i64 ga] 3)) := (Frame.alloc [] _ _).trans1 (Frame.alloc [] _ _)
        have bS : Blk ((wr.alloc (.cells #[.int .i64 3, .int .i64 ga, .int .i64 gb] 109)).alloc (.cells #[.int .i64 ga] 3)) (wr.heap.size + 1) 3 #[.int .i64 ga] := by
          have := Blk.new (wr.alloc (.cells #[.int .i64 3, .int .i64 ga, .int .i64 gb] 109)) 3 #[.int .i64 ga]
          simpa using this
        have HS := Lib.hid (subset_any (some ⟨wr.heap.size + 1, 0, none⟩) ta 1 tc [ga] ts _ (rdI_one bS) (HT.out.frame (hR.out.1.trans1 fS)) (by simp) (by omega))
        clear fS bS
        go_wp2_with fail
        refine HS.out.mono ?_
        rintro e w5 ⟨v, rfl, hv, f5⟩
        have hd : decide (ga ∈ ts) = v := by
          cases v
          · exact decide_eq_false (fun h => by have := hv.mpr (by simpa using h); simp at this)
          · exact decide_eq_true (by simpa using hv.mp rfl)
        have F5 : Hid (Frame [] wr w5) := (show Frame [] wr _ from by (repeat first | assumption | exact Frame.refl _ _ | refine Frame.trans1 ?_ (Frame.alloc _ _ _) | refine Frame.trans1 ?_ (Frame.drew _ _) | refine Frame.trans1 ?_ (Frame.drewN _ _ _))).trans1 f5
        have HV := Lib.hid (HW.out.trans hd)
        have y0 := (hR.out.2.frame F5.out (by simp)).frozen t
        have y1 := (hR.out.2.frame F5.out (by simp)).at (j := t) (by omega)
        clear f5 hd hv HS HW
        go_wp2_with fail
        go_roundw
        case rel => exact ⟨t + 1, by omega, by first | rfl | go_num, Lib.hid (ST.out w5 _ _ HV.out F5.out (by (repeat first | assumption | exact Frame.refl _ _ | refine Frame.trans1 ?_ (Frame.alloc _ _ _) | refine Frame.trans1 ?_ (Frame.drew _ _) | refine Frame.trans1 ?_ (Frame.drewN _ _ _))))⟩
        case measure => first | (simp [intOf]; done) | (simp [intOf]; omega)
      · simp only [rgB, Int.reduceEq, if_false, if_true] at hw
        obtain ⟨aa, ha, ha1, ha2⟩ := wf_nat HI.out HG.out (by simp)
        obtain ⟨bb, hb, hb1, hb2⟩ := wf_nat2 HI.out HG.out (by simp)
        simp only at ha hb
        subst ha hb
        rw [Int.toNat_natCast, Int.toNat_natCast] at hw
        have q1 := hR.out.2.at (j := aa) (by omega)
        have q2 := hR.out.2.at (j := bb) (by omega)
        rw [tm_at ha1] at q1
        rw [tm_at hb1] at q2
        cases va : worth rgB (fun t => decide (t ∈ ts)) l aa with
        | true =>
          simp only [rgB] at va
          rw [va] at hw
          rw [show worth rgB (fun t => decide (t ∈ ts)) l aa = true from va] at q1
          clear va
          cases vb : worth rgB (fun t => decide (t ∈ ts)) l bb with
          | true =>
            simp only [rgB] at vb
            rw [vb] at hw
            rw [show worth rgB (fun t => decide (t ∈ ts)) l bb = _ from vb] at q2
            clear vb
            simp only [Bool.or_true, Bool.true_or, Bool.or_false, Bool.false_or, Bool.and_true, Bool.true_and, Bool.and_false, Bool.false_and, Bool.or_self, Bool.and_self] at hw
            have HW := Lib.hid hw
            clear hw
            go_wp2_with fail
            go_roundw
            case rel => exact ⟨t + 1, by omega, by first | rfl | go_num, Lib.hid (ST.out wr _ _ HW.out (Frame.refl _ _) (by (repeat first | assumption | exact Frame.refl _ _ | refine Frame.trans1 ?_ (Frame.alloc _ _ _) | refine Frame.trans1 ?_ (Frame.drew _ _) | refine Frame.trans1 ?_ (Frame.drewN _ _ _))))⟩
            case measure => first | (simp [intOf]; done) | (simp [intOf]; omega)
          | false =>
            simp only [rgB] at vb
            rw [vb] at hw
            rw [show worth rgB (fun t => decide (t ∈ ts)) l bb = _ from vb] at q2
            clear vb
            simp only [Bool.or_true, Bool.true_or, Bool.or_false, Bool.false_or, Bool.and_true, Bool.true_and, Bool.and_false, Bool.false_and, Bool.or_self, Bool.and_self] at hw
            have HW := Lib.hid hw
            clear hw
            go_wp2_with fail
            go_roundw
            case rel => exact ⟨t + 1, by omega, by first | rfl | go_num, Lib.hid (ST.out wr _ _ HW.out (Frame.refl _ _) (by (repeat first | assumption | exact Frame.refl _ _ | refine Frame.trans1 ?_ (Frame.alloc _ _ _) | refine Frame.trans1 ?_ (Frame.drew _ _) | refine Frame.trans1 ?_ (Frame.drewN _ _ _))))⟩
            case measure => first | (simp [intOf]; done) | (simp [intOf]; omega)
        | false =>
          simp only [rgB] at va
          rw [va] at hw
          rw [show worth rgB (fun t => decide (t ∈ ts)) l aa = false from va] at q1
          clear va
          cases vb : worth rgB (fun t => decide (t ∈ ts)) l bb with
          | true =>
            simp only [rgB] at vb
            rw [vb] at hw
            rw [show worth rgB (fun t => decide (t ∈ ts)) l bb = _ from vb] at q2
            clear vb
            simp only [Bool.or_true, Bool.true_or, Bool.or_false, Bool.false_or, Bool.and_true, Bool.true_and, Bool.and_false, Bool.false_and, Bool.or_self, Bool.and_self] at hw
            have HW := Lib.hid hw
            clear hw
            go_wp2_with fail
            go_roundw
            case rel => exact ⟨t + 1, by omega, by first | rfl | go_num, Lib.hid (ST.out wr _ _ HW.out (Frame.refl _ _) (by (repeat first | assumption | exact Frame.refl _ _ | refine Frame.trans1 ?_ (Frame.alloc _ _ _) | refine Frame.trans1 ?_ (Frame.drew _ _) | refine Frame.trans1 ?_ (Frame.drewN _ _ _))))⟩
            case measure => first | (simp [intOf]; done) | (simp [intOf]; omega)
          | false =>
            simp only [rgB] at vb
            rw [vb] at hw
            rw [show worth rgB (fun t => decide (t ∈ ts)) l bb = _ from vb] at q2
            clear vb
            simp only [Bool.or_true, Bool.true_or, Bool.or_false, Bool.false_or, Bool.and_true, Bool.true_and, Bool.and_false, Bool.false_and, Bool.or_self, Bool.and_self] at hw
            have HW := Lib.hid hw
            clear hw
            go_wp2_with fail
            go_roundw
            case rel => exact ⟨t + 1, by omega, by first | rfl | go_num, Lib.hid (ST.out wr _ _ HW.out (Frame.refl _ _) (by (repeat first | assumption | exact Frame.refl _ _ | refine Frame.trans1 ?_ (Frame.alloc _ _ _) | refine Frame.trans1 ?_ (Frame.drew _ _) | refine Frame.trans1 ?_ (Frame.drewN _ _ _))))⟩
            case measure => first | (simp [intOf]; done) | (simp [intOf]; omega)
      · simp only [rgB, Int.reduceEq, if_false, if_true] at hw
        obtain ⟨aa, ha, ha1, ha2⟩ := wf_nat HI.out HG.out (by simp)
        obtain ⟨bb, hb, hb1, hb2⟩ := wf_nat2 HI.out HG.out (by simp)
        simp only at ha hb
        subst ha hb
        rw [Int.toNat_natCast, Int.toNat_natCast] at hw
        have q1 := hR.out.2.at (j := aa) (by omega)
        have q2 := hR.out.2.at (j := bb) (by omega)
        rw [tm_at ha1] at q1
        rw [tm_at hb1] at q2
        cases va : worth rgB (fun t => decide (t ∈ ts)) l aa with
        | true =>
          simp only [rgB] at va
          rw [va] at hw
          rw [show worth rgB (fun t => decide (t ∈ ts)) l aa = true from va] at q1
          clear va
          cases vb : worth rgB (fun t => decide (t ∈ ts)) l bb with
          | true =>
            simp only [rgB] at vb
            rw [vb] at hw
            rw [show worth rgB (fun t => decide (t ∈ ts)) l bb = _ from vb] at q2
            clear vb
            simp only [Bool.or_true, Bool.true_or, Bool.or_false, Bool.false_or, Bool.and_true, Bool.true_and, Bool.and_false, Bool.false_and, Bool.or_self, Bool.and_self] at hw
            have HW := Lib.hid hw
            clear hw
            go_wp2_with fail
            go_roundw
            case rel => exact ⟨t + 1, by omega, by first | rfl | go_num, Lib.hid (ST.out wr _ _ HW.out (Frame.refl _ _) (by (repeat first | assumption | exact Frame.refl _ _ | refine Frame.trans1 ?_ (Frame.alloc _ _ _) | refine Frame.trans1 ?_ (Frame.drew _ _) | refine Frame.trans1 ?_ (Frame.drewN _ _ _))))⟩
            case measure => first | (simp [intOf]; done) | (simp [intOf]; omega)
          | false =>
            simp only [rgB] at vb
            rw [vb] at hw
            rw [show worth rgB (fun t => decide (t ∈ ts)) l bb = _ from vb] at q2
            clear vb
            simp only [Bool.or_true, Bool.true_or, Bool.or_false, Bool.false_or, Bool.and_true, Bool.true_and, Bool.and_false, Bool.false_and, Bool.or_self, Bool.and_self] at hw
            have HW := Lib.hid hw
            clear hw
            go_wp2_with fail
            go_roundw
            case rel => exact ⟨t + 1, by omega, by first | rfl | go_num, Lib.hid (ST.out wr _ _ HW.out (Frame.refl _ _) (by (repeat first | assumption | exact Frame.refl _ _ | refine Frame.trans1 ?_ (Frame.alloc _ _ _) | refine Frame.trans1 ?_ (Frame.drew _ _) | refine Frame.trans1 ?_ (Frame.drewN _ _ _))))⟩
            case measure => first | (simp [intOf]; done) | (simp [intOf]; omega)
        | false =>
          simp only [rgB] at va
          rw [va] at hw
          rw [show worth rgB (fun t => decide (t ∈ ts)) l aa = false from va] at q1
          clear va
          cases vb : worth rgB (fun t => decide (t ∈ ts)) l bb with
          | true =>
            simp only [rgB] at vb
            rw [vb] at hw
            rw [show worth rgB (fun t => decide (t ∈ ts)) l bb = _ from vb] at q2
            clear vb
            simp only [Bool.or_true, Bool.true_or, Bool.or_false, Bool.false_or, Bool.and_true, Bool.true_and, Bool.and_false, Bool.false_and, Bool.or_self, Bool.and_self] at hw
            have HW := Lib.hid hw
            clear hw
            go_wp2_with fail
            go_roundw
            case rel => exact ⟨t + 1, by omega, by first | rfl | go_num, Lib.hid (ST.out wr _ _ HW.out (Frame.refl _ _) (by (repeat first | assumption | exact Frame.refl _ _ | refine Frame.trans1 ?_ (Frame.alloc _ _ _) | refine Frame.trans1 ?_ (Frame.drew _ _) | refine Frame.trans1 ?_ (Frame.drewN _ _ _))))⟩
            case measure => first | (simp [intOf]; done) | (simp [intOf]; omega)
          | false =>
            simp only [rgB] at vb
            rw [vb] at hw
            rw [show worth rgB (fun t => decide (t ∈ ts)) l bb = _ from vb] at q2
            clear vb
            simp only [Bool.or_true, Bool.true_or, Bool.or_false, Bool.false_or, Bool.and_true, Bool.true_and, Bool.and_false, Bool.false_and, Bool.or_self, Bool.and_self] at hw
            have HW := Lib.hid hw
            clear hw
            go_wp2_with fail
            go_roundw
            case rel => exact ⟨t + 1, by omega, by first | rfl | go_num, Lib.hid (ST.out wr _ _ HW.out (Frame.refl _ _) (by (repeat first | assumption | exact Frame.refl _ _ | refine Frame.trans1 ?_ (Frame.alloc _ _ _) | refine Frame.trans1 ?_ (Frame.drew _ _) | refine Frame.trans1 ?_ (Frame.drewN _ _ _))))⟩
            case measure => first | (simp [intOf]; done) | (simp [intOf]; omega)
      · simp only [rgB, Int.reduceEq, if_false, if_true] at hw
        have HW := Lib.hid hw
        clear hw
        go_wp2_with fail
        go_roundw
        case rel => exact ⟨t + 1, by omega, by first | rfl | go_num, Lib.hid (ST.out wr _ _ HW.out (Frame.refl _ _) (by (repeat first | assumption | exact Frame.refl _ _ | refine Frame.trans1 ?_ (Frame.alloc _ _ _) | refine Frame.trans1 ?_ (Frame.drew _ _) | refine Frame.trans1 ?_ (Frame.drewN _ _ _))))⟩
        case measure => first | (simp [intOf]; done) | (simp [intOf]; omega)
    · obtain rfl : t = root + 1 := by omega
      have hle : decide (((root + 1 : Nat) : Int) ≤ root) = false := decide_eq_false (by omega)
      have r0 := hR.out.2.at (j := root) (by omega)
      rw [tm_at (by omega)] at r0
      have F := Lib.hid hR.out.1
      go_wp2_with fail
      go_ret
      exact ⟨rfl, F.out⟩
end Go.Proofs.YtbnhhmejlglbcaaGreat

