/- slices.Reverse, slices.Sort on a row of one's own. circ: Reach, walked. -/
import Derived.Test.YtbnhhmejlglbcaaMg01
import Derived.Shelf.Sort.Plain
import Derived.Test.YtbnhhmejlglbcaaShelf
import Derived.Test.YtbnhhmejlglbcaaMg08
namespace Go.Proofs.Ytbnhhmejlglbcaa
open Go.RowKit Go.Sort
set_option linter.unusedSimpArgs false
set_option linter.unusedVariables false

theorem putCells_take (d : Array Int) (cs : Array Value) (h : d.size ≤ cs.size) : (putCells (Value.int .i64) 0 d cs).toList.take d.size = d.toList.flatMap Go.Proofs.Ytbnhhmejlglbcaa.encI := by
  have e : d.toList.flatMap Go.Proofs.Ytbnhhmejlglbcaa.encI = d.toList.map (Value.int .i64) := by
    generalize d.toList = dl
    induction dl with
    | nil => rfl
    | cons a t ih => rw [List.flatMap_cons, ih]; rfl
  rw [e]
  apply List.ext_getElem
  · simp [putCells]; omega
  · intro i h1 h2
    have hi : i < d.size := by simpa using h2
    simp [putCells, hi]
theorem put_blk {w : World} {b T n : Nat} {cs : Array Value} {d : Array Int} {os : Array Obj} (h : Blk w b T cs) : Blk (grow (putRow (Value.int .i64) (Sort.ahead w n) b 0 d) os) b T (putCells (Value.int .i64) 0 d cs) := by
  have hlt := h.lt
  unfold Blk at *
  show ((putRow (Value.int .i64) (Sort.ahead w n) b 0 d).heap ++ os)[b]? = _
  rw [Array.getElem?_append_left (by simpa [Sort.ahead] using hlt)]
  simp [putRow, mapBlock, Sort.ahead, h, Array.getElem?_modify, onCells]
theorem put_frame {w : World} {b n : Nat} {d : Array Int} {os : Array Obj} : Frame [b] w (grow (putRow (Value.int .i64) (Sort.ahead w n) b 0 d) os) := by
  refine ⟨rfl, rfl, rfl, ?_, fun k hk hS => ?_⟩
  · show w.heap.size ≤ ((putRow (Value.int .i64) (Sort.ahead w n) b 0 d).heap ++ os).size
    rw [Array.size_append, size_putRow]
    exact Nat.le_add_right _ _
  · have hb : ¬ b = k := fun e => hS (by simp [e])
    show ((putRow (Value.int .i64) (Sort.ahead w n) b 0 d).heap ++ os)[k]? = _
    rw [Array.getElem?_append_left (by simpa [Sort.ahead] using hk)]
    simp [putRow, mapBlock, Sort.ahead, Array.getElem?_modify, hb]
theorem put_sl {w : World} {b cap n : Nat} {xs ys : List Int} {os : Array Obj} (h : RowAt w b 3 1 xs.length cap (xs.flatMap Go.Proofs.Ytbnhhmejlglbcaa.encI)) (hl : ys.length = xs.length) :
    Sl (grow (putRow (Value.int .i64) (Sort.ahead w n) b 0 ys.toArray) os) 3 1 Go.Proofs.Ytbnhhmejlglbcaa.encI (.slice (some ⟨b, 0, none⟩) xs.length cap) ys [b] := by
  obtain ⟨cs, h1, h2, h3, h4, h5⟩ := h.blk
  refine .inr ⟨b, cap, by rw [hl], rfl, RowAt.of_blk (put_blk h1) (by omega) h3 (by simpa [putCells] using h4) ?_⟩
  have := putCells_take ys.toArray cs (by simp; omega)
  simpa using this
theorem holds_sl {w : World} {b cap : Nat} {xs : List Int} (h : RowAt w b 3 1 xs.length cap (xs.flatMap Go.Proofs.Ytbnhhmejlglbcaa.encI)) : Holds (Value.int .i64) w b 0 xs.toArray := by
  intro j hj
  have hj' : j < xs.length := by simpa using hj
  refine ⟨?_, h.frozen _⟩
  rw [Nat.zero_add]
  refine h.cell ?_
  have := flat_get (sz := 1) Go.Proofs.Ytbnhhmejlglbcaa.encI_len (xs := xs) (k := j) (x := xs[j]) (by simp [hj']) (j := 0) (u := .int .i64 xs[j]) rfl
  rw [Nat.mul_one, Nat.add_zero] at this
  rw [this]
  simp [hj']
theorem reverse_sl (v : Value) (xs : List Int) (G : List Nat) (w : World) (h : Sl w 3 1 Go.Proofs.Ytbnhhmejlglbcaa.encI v xs G) (hl : xs.length ≤ 1000000) :
    Calls Try.prog 48 #[v] w fun e w' => e = .returned (.tuple #[]) ∧ Sl w' 3 1 Go.Proofs.Ytbnhhmejlglbcaa.encI v xs.reverse G ∧ Frame G w w' := by
  rcases id h with ⟨rfl, rfl, rfl⟩ | ⟨b, cap, rfl, rfl, hr⟩
  · refine (Try.slices_Reverse_int_empty none 0 w).mono ?_
    rintro e w' ⟨he, rfl⟩
    exact ⟨he, Sl.nil _ _ _ _, Frame.refl _ _⟩
  · refine (Try.slices_Reverse_int b 0 cap xs w (holds_sl hr) (by omega)).mono ?_
    rintro e w' ⟨he, n, rfl⟩
    have := put_sl (n := n) (os := #[]) (ys := xs.reverse) hr (by simp)
    rw [grow_empty] at this
    have f := put_frame (w := w) (b := b) (n := n) (d := xs.reverse.toArray) (os := #[])
    rw [grow_empty] at f
    exact ⟨he, this, f⟩
end Go.Proofs.Ytbnhhmejlglbcaa

namespace Go.Proofs.Ytbnhhmejlglbcaa
open Go.RowKit
set_option linter.unusedSimpArgs false
set_option linter.unusedVariables false

/-- What is gathered from above, behind so many rounds. -/
def outs (l : List Gt) (root t : Nat) : List Int := (((List.range' t (root + 1 - t)).filter (reachM l root)).reverse).map fun (j : Nat) => (j : Int)
theorem outs_top (l : List Gt) (root : Nat) : outs l root (root + 1) = [] := by simp [outs]
theorem outs_yes {l : List Gt} {root k : Nat} (hk : k ≤ root) (h : reachM l root k = true) : outs l root k = outs l root (k + 1) ++ [(k : Int)] := by
  unfold outs
  rw [show root + 1 - k = (root + 1 - (k + 1)) + 1 by omega, List.range'_succ, List.filter_cons_of_pos h]
  simp
theorem outs_no {l : List Gt} {root k : Nat} (hk : k ≤ root) (h : reachM l root k = false) : outs l root k = outs l root (k + 1) := by
  unfold outs
  rw [show root + 1 - k = (root + 1 - (k + 1)) + 1 by omega, List.range'_succ, List.filter_cons_of_neg (by simp [h])]
theorem outs_all (l : List Gt) (root : Nat) : (outs l root 0).reverse = (reach l root).map fun (j : Nat) => (j : Int) := by
  unfold outs reach
  rw [List.map_reverse, List.reverse_reverse, List.range_eq_range', Nat.sub_zero]
theorem outs_len (l : List Gt) (root t : Nat) : (outs l root t).length ≤ root + 1 := by
  unfold outs
  simp only [List.length_map, List.length_reverse]
  exact Nat.le_trans (List.length_filter_le _ _) (by simp)

/-- The state of the loop. -/
structure Rch (w : World) (l : List Gt) (root b n : Nat) (t : Nat) (m : Nat → Bool) (v : Value) (wr : World) : Prop where
  frame : Frame [] w wr
  row : MRow wr b n m
  fresh : w.heap.size ≤ b
  out : ∃ G, Sl wr 3 1 encI v (outs l root t) G ∧ b ∉ G ∧ ∀ x ∈ G, w.heap.size ≤ x
  md : down l t m = reachM l root
theorem Rch.isM {w : World} {l : List Gt} {root b n k : Nat} {m : Nat → Bool} {v : Value} {wr : World} (h : Rch w l root b n (k + 1) m v wr) (hI : Inv l) : reachM l root k = m k := by
  rw [← h.md]; exact down_ge hI m (Nat.le_refl _)

theorem Rch.next {w : World} {l : List Gt} {root b n k : Nat} {m m' : Nat → Bool} {v : Value} {wr w4 w9 : World} {G : List Nat} {v' : Value} {b' : Nat} (h : Rch w l root b n (k + 1) m v wr) (hG : b ∉ G ∧ ∀ x ∈ G, w.heap.size ≤ x) (f4 : Frame G wr w4) (sl : Sl w4 3 1 encI v' (outs l root (k + 1) ++ [(k : Int)]) [b']) (hb : w.heap.size ≤ b' ∧ b' ≠ b) (hk : k ≤ root) (hm : reachM l root k = true) (fx : Frame [b] w4 w9) (row : MRow w9 b n m') (md : down l k m' = reachM l root) : Rch w l root b n k m' v' w9 := by
  refine ⟨(h.frame.trans f4 (fun x hx => .inr (hG.2 x hx))).trans fx (fun x hx => .inr (by have := h.fresh; simp at hx; omega)), row, h.fresh, ⟨[b'], by rw [outs_yes hk hm]; exact sl.frame fx (by simp [hb.2]), by simp [Ne.symm hb.2], by simp [hb.1]⟩, md⟩

theorem newb {w wr : World} {o : Obj} {b b' : Nat} {G : List Nat} (h : b ∉ G ∧ ∀ x ∈ G, w.heap.size ≤ x) (hb : b < wr.heap.size) (hw : w.heap.size ≤ b) (h4 : b' ∈ G ∨ b' = (wr.alloc o).heap.size) : w.heap.size ≤ b' ∧ b' ≠ b := by
  rcases h4 with h4 | h4
  · exact ⟨h.2 _ h4, fun e => h.1 (e ▸ h4)⟩
  · have : (wr.alloc o).heap.size = wr.heap.size + 1 := Array.size_push ..
    omega

set_option maxHeartbeats 4000000 in
set_option maxRecDepth 100000 in
theorem reach_any (pb : Nat) (F : List Nat) (l : List Gt) (left : Int) (root : Nat) (w : World) (h : St w pb F l left) (hI : Inv l) (hr : root < l.length) (hlen : l.length ≤ 1000000) :
    Calls Try.prog 28 #[.pointer (some ⟨pb, 0, none⟩), .int .i64 root] w fun e w' => ∃ v G, e = .returned v ∧ Sl w' 3 1 encI v ((reach l root).map fun (j : Nat) => (j : Int)) G ∧ Frame [] w w' ∧ ∀ x ∈ G, w.heap.size ≤ x := by
  have hA : areG l.length [(root : Int)] = true := by simp [areG, notG]; omega
  have HA := Lib.hid hA
  have H := Lib.hid h
  have HI := Lib.hid hI
  have hmk := run_make_bools (root + 1)
  have MK := Lib.hid hmk
  clear hA h hI hmk
  go_enter Try.func28, Try.ntmps28
  go_wp2_with fail
  have fr : Frame [] w (w.alloc (.cells #[.int .i64 root] 3)) := Frame.alloc _ _ _
  refine (is_any (some ⟨pb, 0, none⟩) l.length _ 1 [(root : Int)] _ (RdI.one w root 3) (by simp) (H.out.frame0 fr).lens).mono ?_
  rw [HA.out]
  rintro e w1 ⟨rfl, f1⟩
  have F1 := Lib.hid (fr.trans1 f1)
  clear fr f1
  have hmk : (Instr.makeSlice 97 (.int .i64 ((root : Int) + 1)) (.int .i64 ((root : Int) + 1))).run Try.prog w1 = .ok (.slice (some ⟨w1.heap.size, 0, none⟩) (root + 1) (root + 1)) (w1.alloc (.cells (List.replicate (root + 1) (Value.bool false)).toArray 4)) := by
    have := MK.out w1 (by omega)
    simpa using this
  go_wp2_with fail
  have hm0 : MRow (w1.alloc (.cells ((Array.replicate (root + 1) (Value.bool false)).setIfInBounds root (Value.bool true)) 4)) w1.heap.size (root + 1) (fun j => decide (j = root)) := by
    have := (MRow.new w1 (root + 1) (by omega)).set (x := root) (by omega)
    rw [World.setCell_alloc_at _ _ _ _ _ rfl] at this
    have e : upd (fun _ => false) root = fun j => decide (j = root) := by
      funext j; unfold upd; by_cases h : j = root <;> simp [h]
    rw [e] at this
    simpa using this
  have hfa : Frame [] w (w1.alloc (.cells ((Array.replicate (root + 1) (Value.bool false)).setIfInBounds root (Value.bool true)) 4)) := F1.out.trans1 (Frame.alloc _ _ _)
  have hsz := F1.out.size
  generalize w1.alloc (.cells ((Array.replicate (root + 1) (Value.bool false)).setIfInBounds root (Value.bool true)) 4) = wa at *
  generalize w1.heap.size = b at *
  have R0 := Lib.hid (show Rch w l root b (root + 1) (root + 1) (fun j => decide (j = root)) (.slice none 0 0) wa from ⟨hfa, hm0, hsz, ⟨[], by rw [outs_top]; exact Sl.nil _ _ _ _, by simp, by simp⟩, rfl⟩)
  clear hm0 hfa hsz hmk MK F1
  go_loopw [4, 6] (fun v i wr => ∃ (t : Nat) (m : Nat → Bool) (i0 : Int), t ≤ root + 1 ∧ i = .int .i64 i0 ∧ i0 = (t : Int) - 1 ∧ Hid (Rch w l root b (root + 1) t m v wr)) (fun _ i _ => (intOf i + 1).toNat)
  case atStart => exact ⟨root + 1, _, _, Nat.le_refl _, rfl, by omega, R0⟩
  case round =>
    obtain ⟨t, m, i0, ht, rfl, hi0, hR⟩ := hrel
    cases t with
    | zero =>
      obtain rfl : i0 = -1 := by omega
      obtain ⟨G, sl, hbG, hG⟩ := hR.out.out
      have hrv := reverse_sl _ _ G wr sl (by have := outs_len l root 0; omega)
      rw [outs_all] at hrv
      have RV := Lib.hid hrv
      have HF := Lib.hid (And.intro hR.out.frame hG)
      clear hrv sl hbG hG hR hi0
      go_wp2_with fail
      refine RV.out.mono ?_
      rintro e w5 ⟨rfl, s5, f5⟩
      have S5 := Lib.hid (And.intro s5 f5)
      clear s5 f5
      go_wp2_with fail
      go_ret
      exact ⟨_, G, rfl, S5.out.1, HF.out.1.trans S5.out.2 (fun x hx => .inr (HF.out.2 x hx)), HF.out.2⟩
    | succ k =>
      obtain rfl : i0 = (k : Int) := by omega
      have hkr : k ≤ root := by omega
      have hM := hR.out.isM HI.out
      have hmc := hR.out.row.at (j := k) (by omega)
      clear hi0
      cases hmk : m k with
      | false =>
        rw [hmk] at hmc hM
        have HM := Lib.hid (And.intro hM hmk)
        clear hM hmk
        go_wp2_with fail
        go_roundw
        case rel =>
          refine ⟨k, m, (k : Int) - 1, by omega, rfl, rfl, ?_⟩
          obtain ⟨a1, a2, a3, ⟨G, b1, b2, b3⟩, a5⟩ := hR.out
          refine ⟨a1, a2, a3, ⟨G, by rw [outs_no hkr HM.out.1]; exact b1, b2, b3⟩, ?_⟩
          rw [← a5]
          have e : marks l k m = m := by
            unfold marks; split
            · rfl
            · simp [HM.out.2]
          conv => rhs; unfold down
          rw [e]
        case measure => first | (simp [intOf]; done) | (simp [intOf]; omega)
      | true =>
        rw [hmk] at hmc hM
        have HM := Lib.hid (And.intro hM hmk)
        clear hM hmk
        obtain ⟨G, sl, hbG, hG⟩ := hR.out.out
        obtain ⟨vA, vc, hv⟩ := sl.form
        subst hv
        generalize hol : (outs l root (k + 1)).length = ol at *
        have hol' : ol ≤ root + 1 := by rw [← hol]; exact outs_len l root (k + 1)
        have SL := Lib.hid sl
        have HB := Lib.hid (And.intro hbG hG)
        have HOL := Lib.hid hol
        clear sl hbG hG hol
        have hgk : l[k]? = some (l[k]'(by omega)) := by simp
        generalize hge : l[k]'(by omega) = g at *
        have HGK := Lib.hid hgk
        clear hge
        obtain ⟨g0, g1, g2⟩ := gates_at hgk
        have ROWB := Lib.hid hR.out.row
        obtain ⟨lb, lcap, mb, kb, hFe, h1, h2, -⟩ := H.out.frame0 hR.out.frame
        have hbn := hR.out.row.lt
        have hbG : b ∉ G := HB.out.1
        have hpb : pb < w.heap.size := H.out.lt _ (by rw [hFe]; simp)
        have hlb : lb < w.heap.size := H.out.lt _ (by rw [hFe]; simp)
        have hpbG : pb ∉ G := fun hx => absurd (HB.out.2 _ hx) (by omega)
        have hlbG : lb ∉ G := fun hx => absurd (HB.out.2 _ hx) (by omega)
        have hwb := hR.out.fresh
        have hpbb : pb ≠ b := by omega
        have hlbb : lb ≠ b := by omega
        have ST := Lib.hid (And.intro h1 (And.intro h2 (And.intro g0 (And.intro g1 g2))))
        have HS := Lib.hid (And.intro hpb (And.intro hlb hFe))
        clear h1 h2 g0 g1 g2 hgk hpb hlb hFe
        obtain ⟨gk, ga, gb⟩ := g
        simp only at ST
        by_cases k4 : gk = 4
        · subst k4
          obtain ⟨aa, rfl, ha, ha1⟩ := wf_nat HI.out HGK.out (by simp)
          obtain ⟨bb, rfl, hb, hb1⟩ := wf_nat2 HI.out HGK.out (by simp)
          go_wp2_with (at_builtin; refine wpList_append_sl _ rfl (.tmp 29) (.tmp 31) 23 rfl 3 1 8 _ encI Try.underlying23 infoInt rfl (by omega) (.slice vA ol vc) (outs l root (k + 1)) G rfl (SL.out.frame0 (by (repeat first | assumption | exact Frame.refl _ _ | refine Frame.trans1 ?_ (Frame.alloc _ _ _) | refine Frame.trans1 ?_ (Frame.drew _ _) | refine Frame.trans1 ?_ (Frame.drewN _ _ _)))) _ 1 1 [(k : Int)] _ rfl (Blk.new _ _ _) rfl rfl encI_len encI_one (by omega) (by have := outs_len l root (k + 1); omega) (by omega) ?_; intro b' cap' w4 sl4 f4 hb4; clear hmc; have f4w : Frame G wr w4 := (show Frame G wr _ from by (repeat first | assumption | exact Frame.refl _ _ | refine Frame.trans1 ?_ (Frame.alloc _ _ _) | refine Frame.trans1 ?_ (Frame.drew _ _) | refine Frame.trans1 ?_ (Frame.drewN _ _ _))).trans1 f4; have hb4' := newb HB.out hbn hwb hb4; have c0 := (ST.out.1.frame f4w hpbG).at 0 rfl; have d0 := (ST.out.2.1.frame f4w hlbG).cell ST.out.2.2.1; have d1 := (ST.out.2.1.frame f4w hlbG).cell ST.out.2.2.2.1; have d2 := (ST.out.2.1.frame f4w hlbG).cell ST.out.2.2.2.2; have row4 := ROWB.out.frame f4w hbG; have hb4l := row4.lt; have r1 : ∀ o, (w4.alloc o).frozen? ⟨b, bb, none⟩ = false := fun o => (row4.frame (Frame.alloc [] w4 o) (by simp)).frozen bb; have r2 : (w4.setCell ⟨b, bb, none⟩ (.bool true)).frozen? ⟨b, aa, none⟩ = false := (row4.set (x := bb) (by omega)).frozen aa; have r3 : ∀ o, (w4.alloc o).cell? ⟨b, bb, none⟩ = some (.bool (m bb)) := fun o => (row4.frame (Frame.alloc [] w4 o) (by simp)).at (by omega); have r4 : (w4.setCell ⟨b, bb, none⟩ (.bool true)).cell? ⟨b, aa, none⟩ = some (.bool (upd m bb aa)) := (row4.set (x := bb) (by omega)).at (by omega); have R4 := Lib.hid (And.intro row4 (And.intro sl4 (And.intro f4w hb4'))); clear row4 sl4 f4w f4 hb4 hb4')
          go_roundw
          case rel =>
            refine ⟨k, upd (upd m bb) aa, (k : Int) - 1, by omega, rfl, rfl, ?_⟩
            refine hR.out.next HB.out R4.out.2.2.1 R4.out.2.1 R4.out.2.2.2 hkr HM.out.1 (((Frame.setCell w4 _ _ (by simp)).trans1 (Frame.setCell _ _ _ (by simp))).trans0 (Frame.alloc [] _ _)) (((R4.out.1.set (x := bb) (by omega)).set (x := aa) (by omega)).frame (Frame.alloc [] _ _) (by simp)) ?_
            rw [← hR.out.md]
            conv => rhs; unfold down
            congr 1
            simp [marks, HGK.out, HM.out.2]
          case measure => first | (simp [intOf]; done) | (simp [intOf]; omega)
        by_cases k5 : gk = 5
        · subst k5
          clear k4
          obtain ⟨aa, rfl, ha, ha1⟩ := wf_nat HI.out HGK.out (by simp)
          obtain ⟨bb, rfl, hb, hb1⟩ := wf_nat2 HI.out HGK.out (by simp)
          go_wp2_with (at_builtin; refine wpList_append_sl _ rfl (.tmp 29) (.tmp 31) 23 rfl 3 1 8 _ encI Try.underlying23 infoInt rfl (by omega) (.slice vA ol vc) (outs l root (k + 1)) G rfl (SL.out.frame0 (by (repeat first | assumption | exact Frame.refl _ _ | refine Frame.trans1 ?_ (Frame.alloc _ _ _) | refine Frame.trans1 ?_ (Frame.drew _ _) | refine Frame.trans1 ?_ (Frame.drewN _ _ _)))) _ 1 1 [(k : Int)] _ rfl (Blk.new _ _ _) rfl rfl encI_len encI_one (by omega) (by have := outs_len l root (k + 1); omega) (by omega) ?_; intro b' cap' w4 sl4 f4 hb4; clear hmc; have f4w : Frame G wr w4 := (show Frame G wr _ from by (repeat first | assumption | exact Frame.refl _ _ | refine Frame.trans1 ?_ (Frame.alloc _ _ _) | refine Frame.trans1 ?_ (Frame.drew _ _) | refine Frame.trans1 ?_ (Frame.drewN _ _ _))).trans1 f4; have hb4' := newb HB.out hbn hwb hb4; have c0 := (ST.out.1.frame f4w hpbG).at 0 rfl; have d0 := (ST.out.2.1.frame f4w hlbG).cell ST.out.2.2.1; have d1 := (ST.out.2.1.frame f4w hlbG).cell ST.out.2.2.2.1; have d2 := (ST.out.2.1.frame f4w hlbG).cell ST.out.2.2.2.2; have row4 := ROWB.out.frame f4w hbG; have hb4l := row4.lt; have r1 : ∀ o, (w4.alloc o).frozen? ⟨b, bb, none⟩ = false := fun o => (row4.frame (Frame.alloc [] w4 o) (by simp)).frozen bb; have r2 : (w4.setCell ⟨b, bb, none⟩ (.bool true)).frozen? ⟨b, aa, none⟩ = false := (row4.set (x := bb) (by omega)).frozen aa; have r3 : ∀ o, (w4.alloc o).cell? ⟨b, bb, none⟩ = some (.bool (m bb)) := fun o => (row4.frame (Frame.alloc [] w4 o) (by simp)).at (by omega); have r4 : (w4.setCell ⟨b, bb, none⟩ (.bool true)).cell? ⟨b, aa, none⟩ = some (.bool (upd m bb aa)) := (row4.set (x := bb) (by omega)).at (by omega); have R4 := Lib.hid (And.intro row4 (And.intro sl4 (And.intro f4w hb4'))); clear row4 sl4 f4w f4 hb4 hb4')
          go_roundw
          case rel =>
            refine ⟨k, upd (upd m bb) aa, (k : Int) - 1, by omega, rfl, rfl, ?_⟩
            refine hR.out.next HB.out R4.out.2.2.1 R4.out.2.1 R4.out.2.2.2 hkr HM.out.1 (((Frame.setCell w4 _ _ (by simp)).trans1 (Frame.setCell _ _ _ (by simp))).trans0 (Frame.alloc [] _ _)) (((R4.out.1.set (x := bb) (by omega)).set (x := aa) (by omega)).frame (Frame.alloc [] _ _) (by simp)) ?_
            rw [← hR.out.md]
            conv => rhs; unfold down
            congr 1
            simp [marks, HGK.out, HM.out.2]
          case measure => first | (simp [intOf]; done) | (simp [intOf]; omega)
        by_cases k6 : gk = 6
        · subst k6
          clear k4 k5
          obtain ⟨aa, rfl, ha, ha1⟩ := wf_nat HI.out HGK.out (by simp)
          go_wp2_with (at_builtin; refine wpList_append_sl _ rfl (.tmp 29) (.tmp 31) 23 rfl 3 1 8 _ encI Try.underlying23 infoInt rfl (by omega) (.slice vA ol vc) (outs l root (k + 1)) G rfl (SL.out.frame0 (by (repeat first | assumption | exact Frame.refl _ _ | refine Frame.trans1 ?_ (Frame.alloc _ _ _) | refine Frame.trans1 ?_ (Frame.drew _ _) | refine Frame.trans1 ?_ (Frame.drewN _ _ _)))) _ 1 1 [(k : Int)] _ rfl (Blk.new _ _ _) rfl rfl encI_len encI_one (by omega) (by have := outs_len l root (k + 1); omega) (by omega) ?_; intro b' cap' w4 sl4 f4 hb4; clear hmc; have f4w : Frame G wr w4 := (show Frame G wr _ from by (repeat first | assumption | exact Frame.refl _ _ | refine Frame.trans1 ?_ (Frame.alloc _ _ _) | refine Frame.trans1 ?_ (Frame.drew _ _) | refine Frame.trans1 ?_ (Frame.drewN _ _ _))).trans1 f4; have hb4' := newb HB.out hbn hwb hb4; have c0 := (ST.out.1.frame f4w hpbG).at 0 rfl; have d0 := (ST.out.2.1.frame f4w hlbG).cell ST.out.2.2.1; have d1 := (ST.out.2.1.frame f4w hlbG).cell ST.out.2.2.2.1; have d2 := (ST.out.2.1.frame f4w hlbG).cell ST.out.2.2.2.2; have row4 := ROWB.out.frame f4w hbG; have hb4l := row4.lt; have r1 : ∀ o, (w4.alloc o).frozen? ⟨b, aa, none⟩ = false := fun o => (row4.frame (Frame.alloc [] w4 o) (by simp)).frozen aa; have r3 : ∀ o, (w4.alloc o).cell? ⟨b, aa, none⟩ = some (.bool (m aa)) := fun o => (row4.frame (Frame.alloc [] w4 o) (by simp)).at (by omega); have R4 := Lib.hid (And.intro row4 (And.intro sl4 (And.intro f4w hb4'))); clear row4 sl4 f4w f4 hb4 hb4')
          go_roundw
          case rel =>
            refine ⟨k, upd m aa, (k : Int) - 1, by omega, rfl, rfl, ?_⟩
            refine hR.out.next HB.out R4.out.2.2.1 R4.out.2.1 R4.out.2.2.2 hkr HM.out.1 ((Frame.setCell w4 _ _ (by simp)).trans0 (Frame.alloc [] _ _)) ((R4.out.1.set (x := aa) (by omega)).frame (Frame.alloc [] _ _) (by simp)) ?_
            rw [← hR.out.md]
            conv => rhs; unfold down
            congr 1
            simp [marks, HGK.out, HM.out.2]
          case measure => first | (simp [intOf]; done) | (simp [intOf]; omega)
        · have KK := Lib.hid (And.intro k4 (And.intro k5 k6))
          have q4 : (gk == 4) = false := by simp [k4]
          have q5 : (gk == 5) = false := by simp [k5]
          have q6 : (gk == 6) = false := by simp [k6]
          clear k4 k5 k6
          go_wp2_with (at_builtin; refine wpList_append_sl _ rfl (.tmp 29) (.tmp 31) 23 rfl 3 1 8 _ encI Try.underlying23 infoInt rfl (by omega) (.slice vA ol vc) (outs l root (k + 1)) G rfl (SL.out.frame0 (by (repeat first | assumption | exact Frame.refl _ _ | refine Frame.trans1 ?_ (Frame.alloc _ _ _) | refine Frame.trans1 ?_ (Frame.drew _ _) | refine Frame.trans1 ?_ (Frame.drewN _ _ _)))) _ 1 1 [(k : Int)] _ rfl (Blk.new _ _ _) rfl rfl encI_len encI_one (by omega) (by have := outs_len l root (k + 1); omega) (by omega) ?_; intro b' cap' w4 sl4 f4 hb4; clear hmc; have f4w : Frame G wr w4 := (show Frame G wr _ from by (repeat first | assumption | exact Frame.refl _ _ | refine Frame.trans1 ?_ (Frame.alloc _ _ _) | refine Frame.trans1 ?_ (Frame.drew _ _) | refine Frame.trans1 ?_ (Frame.drewN _ _ _))).trans1 f4; have hb4' := newb HB.out hbn hwb hb4; have c0 := (ST.out.1.frame f4w hpbG).at 0 rfl; have d0 := (ST.out.2.1.frame f4w hlbG).cell ST.out.2.2.1; have d1 := (ST.out.2.1.frame f4w hlbG).cell ST.out.2.2.2.1; have d2 := (ST.out.2.1.frame f4w hlbG).cell ST.out.2.2.2.2; have row4 := ROWB.out.frame f4w hbG; have hb4l := row4.lt; have R4 := Lib.hid (And.intro row4 (And.intro sl4 (And.intro f4w hb4'))); clear row4 sl4 f4w f4 hb4 hb4')
          go_roundw
          case rel =>
            refine ⟨k, m, (k : Int) - 1, by omega, rfl, rfl, ?_⟩
            refine hR.out.next HB.out R4.out.2.2.1 R4.out.2.1 R4.out.2.2.2 hkr HM.out.1 (Frame.alloc _ _ _) (R4.out.1.frame (Frame.alloc [] w4 _) (by simp)) ?_
            rw [← hR.out.md]
            conv => rhs; unfold down
            congr 1
            simp [marks, HGK.out, HM.out.2, KK.out.1, KK.out.2.1, KK.out.2.2]
          case measure => first | (simp [intOf]; done) | (simp [intOf]; omega)
end Go.Proofs.Ytbnhhmejlglbcaa

