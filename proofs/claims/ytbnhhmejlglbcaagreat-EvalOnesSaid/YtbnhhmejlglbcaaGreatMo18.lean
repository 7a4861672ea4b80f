/- The reference's Reach, walked. -/
import Derived.Test.YtbnhhmejlglbcaaGreatMo16
import Derived.Test.YtbnhhmejlglbcaaGreatMo17
namespace Go.Proofs.YtbnhhmejlglbcaaGreat
open Go.RowKit
set_option linter.unusedSimpArgs false
set_option linter.unusedVariables false

theorem upd_comm (m : Nat → Bool) (a b : Nat) : upd (upd m a) b = upd (upd m b) a := by
  funext j; unfold upd; by_cases h1 : j = a <;> by_cases h2 : j = b <;> simp [h1, h2]
/-- One gate's marks, as the reference makes them. -/
theorem marks_no {l : List Gt} {k : Nat} {m : Nat → Bool} (h : m k = false) : marks l k m = m := by
  unfold marks; split
  · rfl
  · simp [h]
theorem marks_low {l : List Gt} {k : Nat} {g : Gt} {m : Nat → Bool} (hg : l[k]? = some g) (h : ¬ 4 ≤ g.k) : marks l k m = m := by
  unfold marks; rw [hg]; simp only
  split
  · rw [if_neg (by omega), if_neg (by omega)]
  · rfl
theorem marks_six {l : List Gt} {k aa : Nat} {g : Gt} {m : Nat → Bool} (hg : l[k]? = some g) (h : g.k = 6) (ha : g.a = aa) (hm : m k = true) : marks l k m = upd m aa := by
  unfold marks; rw [hg]; simp [h, hm, ha]
theorem marks_two {l : List Gt} {k aa bb : Nat} {g : Gt} {m : Nat → Bool} (hg : l[k]? = some g) (h : g.k = 4 ∨ g.k = 5) (ha : g.a = aa) (hb : g.b = bb) (hm : m k = true) : marks l k m = upd (upd m aa) bb := by
  unfold marks; rw [hg]; simp only [hm, if_true, if_pos h, ha, hb, Int.toNat_natCast]
  exact upd_comm _ _ _
/-- What is gathered from below. -/
def ups (l : List Gt) (root t : Nat) : List Int := ((List.range t).filter (reachM l root)).map fun (j : Nat) => (j : Int)
theorem ups_yes {l : List Gt} {root k : Nat} (h : reachM l root k = true) : ups l root (k + 1) = ups l root k ++ [(k : Int)] := by
  simp [ups, List.range_succ, List.filter_append, h]
theorem ups_no {l : List Gt} {root k : Nat} (h : reachM l root k = false) : ups l root (k + 1) = ups l root k := by
  simp [ups, List.range_succ, List.filter_append, h]
theorem ups_len (l : List Gt) (root t : Nat) : (ups l root t).length ≤ t := by
  unfold ups; rw [List.length_map]; exact Nat.le_trans (List.length_filter_le _ _) (by simp)
/-- The state of the marks. -/
structure Rcr (w : World) (l : List Gt) (root b : Nat) (t : Nat) (m : Nat → Bool) (wr : World) : Prop where
  frame : Frame [] w wr
  row : MRow wr b l.length m
  fresh : w.heap.size ≤ b
  md : down l t m = reachM l root
theorem Rcr.next {w : World} {l : List Gt} {root b k : Nat} {m m' : Nat → Bool} {wr w9 : World} (h : Rcr w l root b (k + 1) m wr) (fx : Frame [b] wr w9) (row : MRow w9 b l.length m') (md : marks l k m = m') : Rcr w l root b k m' w9 :=
  ⟨h.frame.trans fx (fun x hx => .inr (by have := h.fresh; simp at hx; omega)), row, h.fresh, by rw [← h.md, ← md]; rfl⟩

set_option maxHeartbeats 4000000 in
set_option maxRecDepth 100000 in
theorem rreach_any (pb : Nat) (F : List Nat) (l : List Gt) (bud : Int) (root : Nat) (w : World) (h : RSt w pb F l bud) (hI : Inv l) (hK : Knd l) (hr : root < l.length) (hlen : l.length ≤ 1000000) :
    Calls Tryz.prog 86 #[.pointer (some ⟨pb, 0, none⟩), .int .i64 root] w fun e w' => ∃ v G, e = .returned v ∧ Sl w' 3 1 encI v ((reach l root).map fun (j : Nat) => (j : Int)) G ∧ Frame [] w w' ∧ ∀ x ∈ G, w.heap.size ≤ x := by
  have hri := ris_any h (root : Int)
  have hn : notG l.length (root : Int) = false := by simp [notG]; omega
  rw [hn] at hri
  have RI := Lib.hid hri
  obtain ⟨a, c, G0, hb, sl0, n0, hFe⟩ := id h
  have c0 := hb.at 0 rfl
  have H := Lib.hid h
  have HI := Lib.hid hI
  have HK := Lib.hid hK
  have hmk := run_make_bools l.length w hlen
  have hm0 : MRow (w.alloc (.cells ((Array.replicate l.length (Value.bool false)).setIfInBounds root (Value.bool true)) 4)) w.heap.size l.length (fun j => decide (j = root)) := by
    have := (MRow.new w l.length (by omega)).set (x := root) (by omega)
    rw [World.setCell_alloc_at _ _ _ _ _ rfl] at this
    have e : upd (fun _ => false) root = fun j => decide (j = root) := by
      funext j; unfold upd; by_cases h : j = root <;> simp [h]
    rw [e] at this
    simpa using this
  have HM0 := Lib.hid hm0
  clear hri hn h hI hK hb sl0 n0 hFe hm0
  go_enter Tryz.func86, Tryz.ntmps86
  go_wp2_with fail
  refine RI.out.mono ?_
  rintro e w ⟨rfl, rfl⟩
  clear RI
  go_wp2_with fail
  have hfa : Frame [] w (w.alloc (.cells ((Array.replicate l.length (Value.bool false)).setIfInBounds root (Value.bool true)) 4)) := Frame.alloc _ _ _
  generalize w.alloc (.cells ((Array.replicate l.length (Value.bool false)).setIfInBounds root (Value.bool true)) 4) = wa at *
  have hsz : w.heap.size ≤ w.heap.size := Nat.le_refl _
  have R0 := Lib.hid (show Rcr w l root w.heap.size (root + 1) (fun j => decide (j = root)) wa from ⟨hfa, HM0.out, Nat.le_refl _, rfl⟩)
  clear HM0 hfa c0 hmk
  generalize w.heap.size = b at *
  go_loopw [6] (fun i wr => ∃ (t : Nat) (m : Nat → Bool) (i0 : Int), t ≤ root + 1 ∧ i = .int .i64 i0 ∧ i0 = (t : Int) - 1 ∧ Hid (Rcr w l root b t m wr)) (fun i _ => (intOf i + 1).toNat)
  case atStart => exact ⟨root + 1, _, _, Nat.le_refl _, rfl, by omega, R0⟩
  case round =>
    clear R0
    obtain ⟨t, m, i0, ht, rfl, hi0, hR⟩ := hrel
    cases t with
    | zero =>
      obtain rfl : i0 = -1 := by omega
      obtain rfl : m = reachM l root := hR.out.md
      clear hi0 ht
      go_wp2_with fail
      go_loopw [8, 9] (fun v i w5 => ∃ t : Nat, t ≤ root + 1 ∧ i = .int .i64 t ∧ Hid (Frame [] wr w5 ∧ ∃ G, Sl w5 3 1 encI v (ups l root t) G ∧ ∀ x ∈ G, wr.heap.size ≤ x)) (fun _ i _ => (root + 1 - intOf i).toNat)
      case atStart => exact ⟨0, Nat.zero_le _, rfl, Lib.hid ⟨Frame.refl _ _, [], by simpa [ups] using Sl.nil _ _ _ _, by simp⟩⟩
      case round =>
        obtain ⟨t, ht, rfl, hS⟩ := hrel
        by_cases hlt : t ≤ root
        · have hbw := hR.out.row.lt
          obtain ⟨fr, G, sl, hG⟩ := hS.out
          have r0 := (hR.out.row.frame fr (by simp)).at (j := t) (by omega)
          obtain ⟨vA, vc, hv⟩ := sl.form
          subst hv
          have hol := ups_len l root t
          generalize hoe : (ups l root t).length = ol at *
          have SL := Lib.hid (And.intro sl (And.intro fr hG))
          clear sl fr hG hoe
          cases hmk : reachM l root t with
          | true =>
            rw [hmk] at r0
            have MK := Lib.hid hmk
            clear hmk
            go_wp2_with (at_builtin; refine wpList_append_sl _ rfl (.tmp 64) (.tmp 66) 50 rfl 3 1 8 _ encI Tryz.underlying50 infoInt rfl (by omega) (.slice vA ol vc) (ups l root t) G rfl (SL.out.1.frame0 (by (repeat first | assumption | exact Frame.refl _ _ | refine Frame.trans1 ?_ (Frame.alloc _ _ _) | refine Frame.trans1 ?_ (Frame.drew _ _) | refine Frame.trans1 ?_ (Frame.drewN _ _ _)))) _ 1 1 [(t : Int)] _ rfl (Blk.new _ _ _) rfl rfl encI_len encI_one (by omega) (by have := ups_len l root t; omega) (by omega) ?_; intro b' cap' w4 sl4 f4 hb4; have f4w : Frame G _ w4 := (Frame.alloc G _ _).trans1 f4; have R4 := Lib.hid (And.intro sl4 (And.intro f4w hb4)); clear sl4 f4w f4 hb4)
            go_roundw
            case rel =>
              refine ⟨t + 1, by omega, rfl, Lib.hid ⟨SL.out.2.1.trans R4.out.2.1 (fun x hx => .inr (SL.out.2.2 x hx)), [b'], by rw [ups_yes MK.out]; exact R4.out.1, ?_⟩⟩
              intro x hx
              simp at hx
              subst hx
              rcases R4.out.2.2 with hb | hb
              · exact SL.out.2.2 _ hb
              · rw [hb]
                exact Nat.le_trans SL.out.2.1.size (by rw [show ∀ (a : World) o, (a.alloc o).heap.size = a.heap.size + 1 from fun _ _ => Array.size_push ..]; omega)
            case measure => first | (simp [intOf]; done) | (simp [intOf]; omega)
          | false =>
            rw [hmk] at r0
            have MK := Lib.hid hmk
            clear hmk
            go_wp2_with fail
            go_roundw
            case rel => exact ⟨t + 1, by omega, rfl, Lib.hid ⟨SL.out.2.1, G, by rw [ups_no MK.out]; exact SL.out.1, SL.out.2.2⟩⟩
            case measure => first | (simp [intOf]; done) | (simp [intOf]; omega)
        · obtain rfl : t = root + 1 := by omega
          obtain ⟨fr, G, sl, hG⟩ := hS.out
          have HF := Lib.hid (And.intro sl (And.intro (hR.out.frame.trans fr (by simp)) (And.intro hR.out.frame.size hG)))
          clear sl fr hG
          go_wp2_with fail
          go_ret
          exact ⟨_, G, rfl, HF.out.1, HF.out.2.1, fun x hx => Nat.le_trans HF.out.2.2.1 (HF.out.2.2.2 x hx)⟩
    | succ k =>
      obtain rfl : i0 = (k : Int) := by omega
      have hkr : k ≤ root := by omega
      have hg : l[k]? = some (l[k]'(by omega)) := by simp
      generalize l[k]'(by omega) = g at hg
      have F0 := hR.out.frame
      obtain ⟨a1, c1, G1, hb1, sl1, n1, -⟩ := H.out.frame0 F0
      obtain ⟨b9, cap9, hq, -, hb9, hc⟩ := sl1.cell gt_len hg
      simp only [Value.slice.injEq] at hq
      obtain ⟨rfl, -, rfl⟩ := hq
      have c0 := hb1.at 0 rfl
      obtain ⟨gk, ga, gb⟩ := g
      have d0 := hc 0 _ rfl
      have d1 := hc 1 _ rfl
      have d2 := hc 2 _ rfl
      simp only [Nat.add_zero] at d0
      have r0 := hR.out.row.at (j := k) (by omega)
      have hbl := hR.out.row.lt
      have HG := Lib.hid hg
      clear hi0 hb1 sl1 n1 hc F0 hg
      cases hmk : m k with
      | false =>
        rw [hmk] at r0
        have MK := Lib.hid hmk
        clear hmk
        go_wp2_with fail
        go_roundw
        case rel =>
          exact ⟨k, m, (k : Int) - 1, by omega, rfl, rfl, Lib.hid (hR.out.next (Frame.alloc _ _ _) (hR.out.row.frame (Frame.alloc [] _ _) (by simp)) (marks_no MK.out))⟩
        case measure => first | (simp [intOf]; done) | (simp [intOf]; omega)
      | true =>
        rw [hmk] at r0
        have MK := Lib.hid hmk
        clear hmk
        by_cases h4 : 4 ≤ gk
        · obtain ⟨aa, ha, ha1, ha2⟩ := wf_nat HI.out HG.out (by simpa using h4)
          simp only at ha
          subst ha
          have r1 : wr.frozen? ⟨b, aa, none⟩ = false := hR.out.row.frozen aa
          have r2 : wr.cell? ⟨b, aa, none⟩ = some (.bool (m aa)) := hR.out.row.at (by omega)
          by_cases h6 : gk = 6
          · subst h6
            clear h4
            go_wp2_with fail
            go_roundw
            case rel =>
              exact ⟨k, upd m aa, (k : Int) - 1, by omega, rfl, rfl, Lib.hid (hR.out.next ((Frame.setCell wr _ _ (by simp)).trans0 (Frame.alloc [] _ _)) ((hR.out.row.set (x := aa) (by omega)).frame (Frame.alloc [] _ _) (by simp)) (marks_six HG.out rfl rfl MK.out))⟩
            case measure => first | (simp [intOf]; done) | (simp [intOf]; omega)
          · have h45 : gk = 4 ∨ gk = 5 := by
              have := (HK.out _ (List.mem_of_getElem? HG.out)).2
              simp only at this
              omega
            obtain ⟨bb, hb, hb1, hb2⟩ := wf_nat2 HI.out HG.out (by simpa using h45)
            simp only at hb
            subst hb
            have q6 : (gk == 6) = false := by simp [h6]
            have H45 := Lib.hid h45
            clear h6 h45
            have r3 : (wr.setCell ⟨b, aa, none⟩ (.bool true)).frozen? ⟨b, bb, none⟩ = false := (hR.out.row.set (x := aa) (by omega)).frozen bb
            have r4 : (wr.setCell ⟨b, aa, none⟩ (.bool true)).cell? ⟨b, bb, none⟩ = some (.bool (upd m aa bb)) := (hR.out.row.set (x := aa) (by omega)).at (by omega)
            go_wp2_with fail
            go_roundw
            case rel =>
              exact ⟨k, upd (upd m aa) bb, (k : Int) - 1, by omega, rfl, rfl, Lib.hid (hR.out.next (((Frame.setCell wr _ _ (by simp)).trans1 (Frame.setCell _ _ _ (by simp))).trans0 (Frame.alloc [] _ _)) (((hR.out.row.set (x := aa) (by omega)).set (x := bb) (by omega)).frame (Frame.alloc [] _ _) (by simp)) (marks_two HG.out H45.out rfl rfl MK.out))⟩
            case measure => first | (simp [intOf]; done) | (simp [intOf]; omega)
        · have H4 := Lib.hid h4
          go_wp2_with fail
          go_roundw
          case rel =>
            exact ⟨k, m, (k : Int) - 1, by omega, rfl, rfl, Lib.hid (hR.out.next (Frame.alloc _ _ _) (hR.out.row.frame (Frame.alloc [] _ _) (by simp)) (marks_low HG.out H4.out))⟩
          case measure => first | (simp [intOf]; done) | (simp [intOf]; omega)
end Go.Proofs.YtbnhhmejlglbcaaGreat

