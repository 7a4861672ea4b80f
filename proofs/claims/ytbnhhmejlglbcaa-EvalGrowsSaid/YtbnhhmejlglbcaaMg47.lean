/- The reference's Truth. tansylaw14.big. -/
import Derived.Test.YtbnhhmejlglbcaaMg22
import Derived.Test.YtbnhhmejlglbcaaMg14
import Derived.Test.YtbnhhmejlglbcaaMg46
import Derived.Test.YtbnhhmejlglbcaaMg45
import Derived.Test.YtbnhhmejlglbcaaMg33
namespace Go.Proofs.Ytbnhhmejlglbcaa
open Go.RowKit
set_option linter.unusedSimpArgs false
set_option linter.unusedVariables false

theorem MRow.put {w : World} {b n : Nat} {m : Nat → Bool} (h : MRow w b n m) {x : Nat} (hx : x < n) (v : Bool) : MRow (w.setCell ⟨b, x, none⟩ (.bool v)) b n (fun j => if j = x then v else m j) := by
  obtain ⟨cs, h1, h2, h3, h4, h5⟩ := RowAt.blk h
  refine RowAt.of_blk (h1.set _ _) h2 h3 (by simpa using h4) ?_
  rw [Array.toList_setIfInBounds, List.take_set, h5]
  apply List.ext_getElem
  · simp
  · intro i g1 g2
    simp only [List.getElem_set, List.getElem_map, List.getElem_range]
    by_cases e : x = i
    · subst e; simp
    · rw [if_neg e, if_neg (fun h => e h.symm)]
theorem rdI_one {w : World} {b : Nat} {x : Int} (h : Blk w b 3 #[.int .i64 x]) : RdI w (some ⟨b, 0, none⟩) [x] := .inr ⟨b, 0, rfl, h.lt, fun k hk => by
  have e : k = 0 := by simp at hk; exact hk
  subst e
  exact h.at 0 rfl⟩
/-- What is true so far. -/
def tm (l : List Gt) (ts : List Int) (t : Nat) : Nat → Bool := fun j => if j < t then worth rgB (fun t => decide (t ∈ ts)) l j else false
theorem tm_next {l : List Gt} {ts : List Int} {t : Nat} {v : Bool} (h : worth rgB (fun t => decide (t ∈ ts)) l t = v) : (fun j => if j = t then v else tm l ts t j) = tm l ts (t + 1) := by
  funext j
  unfold tm
  by_cases e : j = t
  · subst e; rw [if_pos rfl, if_pos (by omega), h]
  · rw [if_neg e]
    by_cases h2 : j < t
    · rw [if_pos h2, if_pos (by omega)]
    · rw [if_neg h2, if_neg (by omega)]
theorem tm_keep {l : List Gt} {ts : List Int} {t : Nat} (h : worth rgB (fun t => decide (t ∈ ts)) l t = false) : tm l ts t = tm l ts (t + 1) := by
  rw [← tm_next h]
  funext j
  by_cases e : j = t
  · subst e; rw [if_pos rfl]; unfold tm; rw [if_neg (by omega)]
  · rw [if_neg e]
theorem tm_at {l : List Gt} {ts : List Int} {t j : Nat} (h : j < t) : tm l ts t j = worth rgB (fun t => decide (t ∈ ts)) l j := if_pos h
/-- A gate in the reference's store, as the walk reads it. -/
theorem RSt.cells {w : World} {pb : Nat} {F : List Nat} {l : List Gt} {bud : Int} (h : RSt w pb F l bud) {k : Nat} {g : Gt} (hg : l[k]? = some g) :
    ∃ b c, w.cell? ⟨pb, 0, none⟩ = some (.slice (some ⟨b, 0, none⟩) l.length c) ∧ w.cell? ⟨b, k * 3, none⟩ = some (.int .i64 g.k) ∧ w.cell? ⟨b, k * 3 + 1, none⟩ = some (.int .i64 g.a) ∧ w.cell? ⟨b, k * 3 + 2, none⟩ = some (.int .i64 g.b) := by
  obtain ⟨a1, c1, G1, hb1, sl1, n1, -⟩ := h
  obtain ⟨b9, cap9, hq, -, hb9, hc⟩ := sl1.cell gt_len hg
  simp only [Value.slice.injEq] at hq
  obtain ⟨rfl, -, rfl⟩ := hq
  exact ⟨b9, c1, hb1.at 0 rfl, by simpa using hc 0 _ rfl, hc 1 _ rfl, hc 2 _ rfl⟩

end Go.Proofs.Ytbnhhmejlglbcaa

namespace Go.Proofs.Ytbnhhmejlglbcaa
open Go.RowKit
set_option linter.unusedSimpArgs false
set_option linter.unusedVariables false

/-- How deep, so far. -/
def dm (l : List Gt) (t : Nat) : Nat → Int := fun j => if j < t then (deepV l j : Int) else 0
theorem dm_next {l : List Gt} {t : Nat} {v : Int} (h : (deepV l t : Int) = v) : (fun j => if j = t then v else dm l t j) = dm l (t + 1) := by
  funext j
  unfold dm
  by_cases e : j = t
  · subst e; rw [if_pos rfl, if_pos (by omega), h]
  · rw [if_neg e]
    by_cases h2 : j < t
    · rw [if_pos h2, if_pos (by omega)]
    · rw [if_neg h2, if_neg (by omega)]
theorem dm_keep {l : List Gt} {t : Nat} (h : deepV l t = 0) : dm l t = dm l (t + 1) := by
  rw [← dm_next (v := 0) (by rw [h]; rfl)]
  funext j
  by_cases e : j = t
  · subst e; rw [if_pos rfl]; unfold dm; rw [if_neg (by omega)]
  · rw [if_neg e]
theorem dm_at {l : List Gt} {t j : Nat} (h : j < t) : dm l t j = deepV l j := if_pos h
theorem deep_le {l : List Gt} (hI : Inv l) : ∀ k, deepV l k ≤ k := by
  intro k
  induction k using Nat.strongRecOn with
  | _ k ih =>
    cases hg : l[k]? with
    | none => unfold deepV worth; rw [worthF, hg]; exact Nat.zero_le _
    | some g =>
      unfold deepV
      rw [worth_at hI hg]
      unfold gval
      by_cases h2 : g.k = 2
      · rw [if_pos h2]; exact Nat.zero_le _
      rw [if_neg h2]
      by_cases h3 : g.k = 3
      · rw [if_pos h3]; exact Nat.zero_le _
      rw [if_neg h3]
      by_cases h4 : g.k = 4
      · obtain ⟨a, ha, ha1, _⟩ := wf_nat hI hg (by omega)
        obtain ⟨b, hb, hb1, _⟩ := wf_nat2 hI hg (.inl h4)
        rw [if_pos h4, ha, hb, Int.toNat_natCast, Int.toNat_natCast]
        have := ih a ha1; have := ih b hb1
        show max (deepV l a) (deepV l b) ≤ k
        omega
      rw [if_neg h4]
      by_cases h5 : g.k = 5
      · obtain ⟨a, ha, ha1, _⟩ := wf_nat hI hg (by omega)
        obtain ⟨b, hb, hb1, _⟩ := wf_nat2 hI hg (.inr h5)
        rw [if_pos h5, ha, hb, Int.toNat_natCast, Int.toNat_natCast]
        have := ih a ha1; have := ih b hb1
        show max (deepV l a) (deepV l b) + 1 ≤ k
        omega
      rw [if_neg h5]
      by_cases h6 : g.k = 6
      · obtain ⟨a, ha, ha1, _⟩ := wf_nat hI hg (by omega)
        rw [if_pos h6, ha, Int.toNat_natCast]
        have := ih a ha1
        show deepV l a ≤ k
        omega
      rw [if_neg h6]; exact Nat.zero_le _
theorem bigV_yes {l : List Gt} {t : Nat} (ht : t < l.length) (h : 5 < deepV l t) : bigV l = true := by
  unfold bigV
  rw [List.any_eq_true]
  exact ⟨t, List.mem_range.mpr ht, by simpa using h⟩
theorem bigV_all {l : List Gt} (h : ∀ t, t < l.length → ¬ 5 < deepV l t) : bigV l = false := by
  unfold bigV
  rw [List.any_eq_false]
  intro t ht
  simpa using h t (List.mem_range.mp ht)

theorem no_next {l : List Gt} {t : Nat} (h : ∀ j, j < t → ¬ 5 < deepV l j) (h2 : ¬ 5 < deepV l t) : ∀ j, j < t + 1 → ¬ 5 < deepV l j := fun j hj => by
  rcases Nat.lt_or_ge j t with h3 | h3
  · exact h j h3
  · have : j = t := by omega
    rw [this]; exact h2

set_option maxHeartbeats 4000000 in
set_option maxRecDepth 100000 in
theorem big_any (pb : Nat) (F : List Nat) (l : List Gt) (bud : Int) (w : World) (h : RSt w pb F l bud) (hI : Inv l) (hK : Knd l) (hlen : l.length ≤ 100000) :
    Calls Try.prog 6 #[.pointer (some ⟨pb, 0, none⟩)] w fun e w' => e = .returned (.bool (bigV l)) ∧ Frame [] w w' := by
  obtain ⟨ra, rc, rG, rb1, -, -, -⟩ := id h
  have z0 := framed_cell (rb1.at 0 rfl)
  have z1 := rb1.at 0 rfl
  have H := Lib.hid h
  have HI := Lib.hid hI
  have HK := Lib.hid hK
  have DL := Lib.hid (fun k => deep_le hI k)
  obtain ⟨r, hr⟩ : ∃ r, bigV l = r := ⟨_, rfl⟩
  rw [hr]
  have HR := Lib.hid hr
  have hmk := run_make_ints l.length w (by omega)
  have hm0 : IRow (w.alloc (.cells (Array.replicate l.length (Value.int .i64 0)) 3)) w.heap.size l.length (dm l 0) := by
    have := IRow.new w l.length (by omega)
    have e : dm l 0 = fun _ => 0 := by funext j; unfold dm; rw [if_neg (by omega)]
    rw [e]; exact this
  have HM0 := Lib.hid hm0
  clear h hI hK hr hm0 rb1
  go_enter Try.func6, Try.ntmps6
  go_wp2_with fail
  have R0 := Lib.hid (show Frame [] w (w.alloc (.cells (Array.replicate l.length (Value.int .i64 0)) 3)) ∧ IRow (w.alloc (.cells (Array.replicate l.length (Value.int .i64 0)) 3)) w.heap.size l.length (dm l 0) from ⟨Frame.alloc _ _ _, HM0.out⟩)
  clear HM0 hmk z0 z1
  generalize w.alloc (.cells (Array.replicate l.length (Value.int .i64 0)) 3) = wa at *
  obtain ⟨b, hb⟩ : ∃ b, w.heap.size = b := ⟨_, rfl⟩
  rw [hb] at R0 ⊢
  have HB := Lib.hid hb
  clear hb
  go_loopw [4, 5, 46, 63] (fun i _ _ _ wr => ∃ t : Nat, t ≤ l.length ∧ i = .int .i64 t ∧ Hid ((∀ j, j < t → ¬ 5 < deepV l j) ∧ Frame [] w wr ∧ IRow wr b l.length (dm l t))) (fun i _ _ _ _ => (l.length - intOf i).toNat)
  case atStart => exact ⟨0, Nat.zero_le _, rfl, Lib.hid ⟨fun j h => by omega, R0.out⟩⟩
  case round =>
    clear R0
    rename World => wr
    obtain ⟨t, ht, rfl, hR⟩ := hrel
    obtain ⟨ra2, rc2, rG2, rb2, -, -, -⟩ := H.out.frame0 hR.out.2.1
    have zz := rb2.at 0 rfl
    clear rb2
    by_cases hlt : t < l.length
    · have hle : decide ((t : Int) < l.length) = true := decide_eq_true (by omega)
      have hg : l[t]? = some (l[t]'hlt) := List.getElem?_eq_getElem hlt
      generalize l[t]'hlt = g at hg
      have hw := worth_at (R := rgD) (w := fun _ => 0) HI.out hg
      have hk := HK.out g (List.mem_of_getElem? hg)
      obtain ⟨gb9, gc9, c0, d0, d1, d2⟩ := (H.out.frame0 hR.out.2.1).cells hg
      obtain ⟨gk, ga, gb⟩ := g
      simp only at d0 d1 d2 hk
      have HG := Lib.hid hg
      have NO := Lib.hid hR.out.1
      have r0 := hR.out.2.2.frozen t
      have r1 := hR.out.2.2.at (j := t) hlt
      have hbl := hR.out.2.2.lt
      have e0 : dm l t t = 0 := by unfold dm; rw [if_neg (by omega)]
      rw [e0] at r1
      have fG : Frame [] wr (wr.alloc (.cells #[.int .i64 gk, .int .i64 ga, .int .i64 gb] 61)) := Frame.alloc _ _ _
      have h6 : gk = 1 ∨ gk = 2 ∨ gk = 3 ∨ gk = 4 ∨ gk = 5 ∨ gk = 6 := by omega
      clear hg hk e0 zz
      unfold gval at hw
      rcases h6 with rfl | rfl | rfl | rfl | rfl | rfl
      · have hd : deepV l t = 0 := by unfold deepV; rw [hw]; rfl
        have HD := Lib.hid hd
        clear hw hd
        have r1a := fG.cell r1 (by simp)
        go_wp2_with fail
        go_roundw
        case rel => exact ⟨t + 1, by omega, by first | trivial | rfl | go_num, Lib.hid ⟨no_next NO.out (by rw [HD.out]; decide), hR.out.2.1.trans1 (by (repeat first | assumption | exact Frame.refl _ _ | refine Frame.trans1 ?_ (Frame.alloc _ _ _) | refine Frame.trans1 ?_ (Frame.drew _ _) | refine Frame.trans1 ?_ (Frame.drewN _ _ _))), by rw [← dm_keep HD.out]; exact hR.out.2.2.frame fG (by simp)⟩⟩
        case measure => first | (simp [intOf]; done) | (simp [intOf]; omega)
      · have hd : deepV l t = 0 := by unfold deepV; rw [hw]; rfl
        have HD := Lib.hid hd
        clear hw hd
        have r1a := fG.cell r1 (by simp)
        go_wp2_with fail
        go_roundw
        case rel => exact ⟨t + 1, by omega, by first | trivial | rfl | go_num, Lib.hid ⟨no_next NO.out (by rw [HD.out]; decide), hR.out.2.1.trans1 (by (repeat first | assumption | exact Frame.refl _ _ | refine Frame.trans1 ?_ (Frame.alloc _ _ _) | refine Frame.trans1 ?_ (Frame.drew _ _) | refine Frame.trans1 ?_ (Frame.drewN _ _ _))), by rw [← dm_keep HD.out]; exact hR.out.2.2.frame fG (by simp)⟩⟩
        case measure => first | (simp [intOf]; done) | (simp [intOf]; omega)
      · have hd : deepV l t = 0 := by unfold deepV; rw [hw]; rfl
        have HD := Lib.hid hd
        clear hw hd
        have r1a := fG.cell r1 (by simp)
        go_wp2_with fail
        go_roundw
        case rel => exact ⟨t + 1, by omega, by first | trivial | rfl | go_num, Lib.hid ⟨no_next NO.out (by rw [HD.out]; decide), hR.out.2.1.trans1 (by (repeat first | assumption | exact Frame.refl _ _ | refine Frame.trans1 ?_ (Frame.alloc _ _ _) | refine Frame.trans1 ?_ (Frame.drew _ _) | refine Frame.trans1 ?_ (Frame.drewN _ _ _))), by rw [← dm_keep HD.out]; exact hR.out.2.2.frame fG (by simp)⟩⟩
        case measure => first | (simp [intOf]; done) | (simp [intOf]; omega)
      · obtain ⟨aa, ha, ha1, ha2⟩ := wf_nat HI.out HG.out (by simp)
        obtain ⟨bb, hb, hb1, hb2⟩ := wf_nat2 HI.out HG.out (by simp)
        simp only at ha hb
        subst ha hb
        have hd : deepV l t = max (deepV l aa) (deepV l bb) := by unfold deepV; rw [hw]; rfl
        have hda := DL.out aa
        have hdb9 := DL.out bb
        have q1 := fG.cell (hR.out.2.2.at (j := aa) (by omega)) (by simp)
        rw [dm_at ha1] at q1
        have q2 := fG.cell (hR.out.2.2.at (j := bb) (by omega)) (by simp)
        rw [dm_at hb1] at q2
        generalize deepV l aa = da at *
        generalize deepV l bb = db9 at *
        have HD := Lib.hid hd
        have r1a := fG.cell r1 (by simp)
        have r0a : (wr.alloc (.cells #[.int .i64 4, .int .i64 aa, .int .i64 bb] 61)).frozen? ⟨b, t, none⟩ = false := (hR.out.2.2.frame fG (by simp)).frozen t
        have HF := Lib.hid hR.out.2.1
        have STF : Hid (∀ w9, Frame [] (wr.setCell ⟨b, t, none⟩ (.int .i64 (max (da : Int) (db9 : Int)))) w9 → Frame [] w w9 ∧ IRow w9 b l.length (dm l (t + 1))) := fun w9 f => ⟨(hR.out.2.1.trans (Frame.setCell (S := [b]) _ _ _ (by simp)) (fun x hx => by simp at hx; subst hx; exact .inr (Nat.le_of_eq HB.out))).trans1 f, by rw [← dm_next (l := l) (t := t) (v := max (da : Int) (db9 : Int)) (by have := HD.out; omega)]; exact (hR.out.2.2.put hlt _).frame f (by simp)⟩
        have hdb : deepV l t ≤ t := DL.out t
        clear hw hR hd
        by_cases hbig : 5 < deepV l t
        · have db : decide ((5 : Int) < (max (da : Int) (db9 : Int))) = true := decide_eq_true (by rw [HD.out] at hbig; omega)
          have e : true = r := by rw [← HR.out]; exact (bigV_yes hlt hbig).symm
          subst e
          clear hbig
          go_wp2_with fail
          go_region
          go_wp2_with fail
          go_ret
          exact ⟨rfl, (STF.out _ (by (repeat first | assumption | exact Frame.refl _ _ | refine Frame.trans1 ?_ (Frame.alloc _ _ _) | refine Frame.trans1 ?_ (Frame.drew _ _) | refine Frame.trans1 ?_ (Frame.drewN _ _ _)))).1⟩
        · have db : decide ((5 : Int) < (max (da : Int) (db9 : Int))) = false := decide_eq_false (by rw [HD.out] at hbig; omega)
          have HBG := Lib.hid hbig
          clear hbig
          go_wp2_with fail
          go_region
          go_wp2_with fail
          go_roundw
          case rel => exact ⟨t + 1, by omega, by first | trivial | rfl | go_num, Lib.hid ⟨no_next NO.out HBG.out, STF.out _ (by (repeat first | assumption | exact Frame.refl _ _ | refine Frame.trans1 ?_ (Frame.alloc _ _ _) | refine Frame.trans1 ?_ (Frame.drew _ _) | refine Frame.trans1 ?_ (Frame.drewN _ _ _)))⟩⟩
          case measure => first | (simp [intOf]; done) | (simp [intOf]; omega)
      · obtain ⟨aa, ha, ha1, ha2⟩ := wf_nat HI.out HG.out (by simp)
        obtain ⟨bb, hb, hb1, hb2⟩ := wf_nat2 HI.out HG.out (by simp)
        simp only at ha hb
        subst ha hb
        have hd : deepV l t = max (deepV l aa) (deepV l bb) + 1 := by unfold deepV; rw [hw]; rfl
        have hda := DL.out aa
        have hdb9 := DL.out bb
        have q1 := fG.cell (hR.out.2.2.at (j := aa) (by omega)) (by simp)
        rw [dm_at ha1] at q1
        have q2 := fG.cell (hR.out.2.2.at (j := bb) (by omega)) (by simp)
        rw [dm_at hb1] at q2
        generalize deepV l aa = da at *
        generalize deepV l bb = db9 at *
        have HD := Lib.hid hd
        have r1a := fG.cell r1 (by simp)
        have r0a : (wr.alloc (.cells #[.int .i64 5, .int .i64 aa, .int .i64 bb] 61)).frozen? ⟨b, t, none⟩ = false := (hR.out.2.2.frame fG (by simp)).frozen t
        have HF := Lib.hid hR.out.2.1
        have STF : Hid (∀ w9, Frame [] (wr.setCell ⟨b, t, none⟩ (.int .i64 (max (da : Int) (db9 : Int) + 1))) w9 → Frame [] w w9 ∧ IRow w9 b l.length (dm l (t + 1))) := fun w9 f => ⟨(hR.out.2.1.trans (Frame.setCell (S := [b]) _ _ _ (by simp)) (fun x hx => by simp at hx; subst hx; exact .inr (Nat.le_of_eq HB.out))).trans1 f, by rw [← dm_next (l := l) (t := t) (v := max (da : Int) (db9 : Int) + 1) (by have := HD.out; omega)]; exact (hR.out.2.2.put hlt _).frame f (by simp)⟩
        have hdb : deepV l t ≤ t := DL.out t
        clear hw hR hd
        by_cases hbig : 5 < deepV l t
        · have db : decide ((5 : Int) < (max (da : Int) (db9 : Int) + 1)) = true := decide_eq_true (by rw [HD.out] at hbig; omega)
          have e : true = r := by rw [← HR.out]; exact (bigV_yes hlt hbig).symm
          subst e
          clear hbig
          go_wp2_with fail
          go_region
          go_wp2_with fail
          go_ret
          exact ⟨rfl, (STF.out _ (by (repeat first | assumption | exact Frame.refl _ _ | refine Frame.trans1 ?_ (Frame.alloc _ _ _) | refine Frame.trans1 ?_ (Frame.drew _ _) | refine Frame.trans1 ?_ (Frame.drewN _ _ _)))).1⟩
        · have db : decide ((5 : Int) < (max (da : Int) (db9 : Int) + 1)) = false := decide_eq_false (by rw [HD.out] at hbig; omega)
          have HBG := Lib.hid hbig
          clear hbig
          go_wp2_with fail
          go_region
          go_wp2_with fail
          go_roundw
          case rel => exact ⟨t + 1, by omega, by first | trivial | rfl | go_num, Lib.hid ⟨no_next NO.out HBG.out, STF.out _ (by (repeat first | assumption | exact Frame.refl _ _ | refine Frame.trans1 ?_ (Frame.alloc _ _ _) | refine Frame.trans1 ?_ (Frame.drew _ _) | refine Frame.trans1 ?_ (Frame.drewN _ _ _)))⟩⟩
          case measure => first | (simp [intOf]; done) | (simp [intOf]; omega)
      · obtain ⟨aa, ha, ha1, ha2⟩ := wf_nat HI.out HG.out (by simp)
        simp only at ha
        subst ha
        have hd : deepV l t = deepV l aa := by unfold deepV; rw [hw]; rfl
        have hda := DL.out aa
        have q1 := fG.cell (hR.out.2.2.at (j := aa) (by omega)) (by simp)
        rw [dm_at ha1] at q1
        generalize deepV l aa = da at *
        have HD := Lib.hid hd
        have r1a := fG.cell r1 (by simp)
        have r0a : (wr.alloc (.cells #[.int .i64 6, .int .i64 aa, .int .i64 gb] 61)).frozen? ⟨b, t, none⟩ = false := (hR.out.2.2.frame fG (by simp)).frozen t
        have HF := Lib.hid hR.out.2.1
        have STF : Hid (∀ w9, Frame [] (wr.setCell ⟨b, t, none⟩ (.int .i64 ((da : Int)))) w9 → Frame [] w w9 ∧ IRow w9 b l.length (dm l (t + 1))) := fun w9 f => ⟨(hR.out.2.1.trans (Frame.setCell (S := [b]) _ _ _ (by simp)) (fun x hx => by simp at hx; subst hx; exact .inr (Nat.le_of_eq HB.out))).trans1 f, by rw [← dm_next (l := l) (t := t) (v := (da : Int)) (by have := HD.out; omega)]; exact (hR.out.2.2.put hlt _).frame f (by simp)⟩
        have hdb : deepV l t ≤ t := DL.out t
        clear hw hR hd
        by_cases hbig : 5 < deepV l t
        · have db : decide ((5 : Int) < ((da : Int))) = true := decide_eq_true (by rw [HD.out] at hbig; omega)
          have e : true = r := by rw [← HR.out]; exact (bigV_yes hlt hbig).symm
          subst e
          clear hbig
          go_wp2_with fail
          go_wp2_with fail
          go_ret
          exact ⟨rfl, (STF.out _ (by (repeat first | assumption | exact Frame.refl _ _ | refine Frame.trans1 ?_ (Frame.alloc _ _ _) | refine Frame.trans1 ?_ (Frame.drew _ _) | refine Frame.trans1 ?_ (Frame.drewN _ _ _)))).1⟩
        · have db : decide ((5 : Int) < ((da : Int))) = false := decide_eq_false (by rw [HD.out] at hbig; omega)
          have HBG := Lib.hid hbig
          clear hbig
          go_wp2_with fail
          go_wp2_with fail
          go_roundw
          case rel => exact ⟨t + 1, by omega, by first | trivial | rfl | go_num, Lib.hid ⟨no_next NO.out HBG.out, STF.out _ (by (repeat first | assumption | exact Frame.refl _ _ | refine Frame.trans1 ?_ (Frame.alloc _ _ _) | refine Frame.trans1 ?_ (Frame.drew _ _) | refine Frame.trans1 ?_ (Frame.drewN _ _ _)))⟩⟩
          case measure => first | (simp [intOf]; done) | (simp [intOf]; omega)
    · obtain rfl : t = l.length := by omega
      have hle : decide ((l.length : Int) < l.length) = false := decide_eq_false (by omega)
      have e : false = r := by rw [← HR.out]; exact (bigV_all (fun j hj => hR.out.1 j hj)).symm
      subst e
      have FE := Lib.hid hR.out.2.1
      clear hR
      go_wp2_with fail
      go_ret
      exact ⟨rfl, FE.out⟩
end Go.Proofs.Ytbnhhmejlglbcaa

