/- tansyref10.May: may it be a graph? (printed by gen_may.py) -/
import Derived.Test.YtjcajidgaejhoaaGreatMi18
import Derived.Test.YtjcajidgaejhoaaGreatMi19
namespace Go.Proofs.YtjcajidgaejhoaaGreat
open Go.RowKit
set_option linter.unusedSimpArgs false
set_option linter.unusedVariables false

def OkN (ns : List Nv) (j : Nat) : Prop := ∀ n, ns[j]? = some n → SoundN n ∧ ∀ m, 0 < j → ns[j - 1]? = some m → m.1 < n.1
def OkE (x : Gx) (j : Nat) : Prop := ∀ e, x.es[j]? = some e → 1 ≤ e.tok ∧ e.tok < x.next ∧ (∀ f, 0 < j → x.es[j - 1]? = some f → f.tok < e.tok) ∧ namedB e.lab = true ∧ 0 ≤ placeV x.ns e.src ∧ 0 ≤ placeV x.ns e.dst
/-- May it be a graph? -/
def MayX (x : Gx) : Prop := x.ns.length ≤ 12 ∧ x.es.length ≤ 60 ∧ 1 ≤ x.next ∧ x.next ≤ 1099511627777 ∧ (∀ j, OkN x.ns j) ∧ ∀ j, OkE x j
/-- No text of a graph is too long for a machine. -/
def StrX (x : Gx) : Prop := (∀ n ∈ x.ns, StrN n) ∧ ∀ e ∈ x.es, e.lab.size ≤ 9223372036854775807
theorem okN_all {ns : List Nv} (h : ∀ j, j < ns.length → OkN ns j) : ∀ j, OkN ns j := fun j => by
  rcases Nat.lt_or_ge j ns.length with h1 | h1
  · exact h j h1
  · intro s hs; rw [List.getElem?_eq_none h1] at hs; cases hs
theorem okE_all {x : Gx} (h : ∀ j, j < x.es.length → OkE x j) : ∀ j, OkE x j := fun j => by
  rcases Nat.lt_or_ge j x.es.length with h1 | h1
  · exact h j h1
  · intro s hs; rw [List.getElem?_eq_none h1] at hs; cases hs

set_option maxHeartbeats 16000000 in
set_option maxRecDepth 100000 in
theorem may_any (U : Nat → Prop) (v : Value) (x : Gx) (w : World) (h : RG U w v x) (hs : x.Short) (hst : StrX x) :
    Calls Tryz.prog 7 #[v] w (Ans (MayX x) w) := by
  obtain ⟨an, nc, ae, ec, rfl, h1, h2⟩ := h
  obtain ⟨ns, es, nx⟩ := x
  obtain ⟨l1, l2, l3, l4⟩ := hs
  simp only at h1 h2 l1 l2 l3 l4
  have H1 := Lib.hid h1
  have H2 := Lib.hid h2
  have HC := Lib.hid (And.intro l3 (And.intro l4 hst))
  clear h1 h2 l3 l4 hst
  by_cases hbad : 12 < ns.length
  · have hb : decide ((12 : Int) < ns.length) = true := by simp; omega
    have HI := Lib.hid hbad
    clear hbad
    go_enter Tryz.func7, Tryz.ntmps7
    go_wp2_with fail
    go_ret
    exact Ans.mkF (fun e => by have h := HI.out; obtain ⟨e1, e2, e3, e4, -⟩ := e; simp only at e1 e2 e3 e4; omega) (by (repeat first | assumption | exact Frame.refl _ _ | refine Frame.trans1 ?_ (Frame.alloc _ _ _) | refine Frame.trans1 ?_ (Frame.drew _ _) | refine Frame.trans1 ?_ (Frame.drewN _ _ _)))
  have c1 : decide ((12 : Int) < ns.length) = false := by simp; omega
  have d1 : ns.length ≤ 12 := by omega
  clear hbad
  by_cases hbad : 60 < es.length
  · have hb : decide ((60 : Int) < es.length) = true := by simp; omega
    have HI := Lib.hid hbad
    clear hbad
    go_enter Tryz.func7, Tryz.ntmps7
    go_wp2_with fail
    go_ret
    exact Ans.mkF (fun e => by have h := HI.out; obtain ⟨e1, e2, e3, e4, -⟩ := e; simp only at e1 e2 e3 e4; omega) (by (repeat first | assumption | exact Frame.refl _ _ | refine Frame.trans1 ?_ (Frame.alloc _ _ _) | refine Frame.trans1 ?_ (Frame.drew _ _) | refine Frame.trans1 ?_ (Frame.drewN _ _ _)))
  have c2 : decide ((60 : Int) < es.length) = false := by simp; omega
  have d2 : es.length ≤ 60 := by omega
  clear hbad
  by_cases hbad : nx < 1
  · have hb : decide (nx < 1) = true := by simpa using hbad
    have HI := Lib.hid hbad
    clear hbad
    go_enter Tryz.func7, Tryz.ntmps7
    go_wp2_with fail
    go_ret
    exact Ans.mkF (fun e => by have h := HI.out; obtain ⟨e1, e2, e3, e4, -⟩ := e; simp only at e1 e2 e3 e4; omega) (by (repeat first | assumption | exact Frame.refl _ _ | refine Frame.trans1 ?_ (Frame.alloc _ _ _) | refine Frame.trans1 ?_ (Frame.drew _ _) | refine Frame.trans1 ?_ (Frame.drewN _ _ _)))
  have c3 : decide (nx < 1) = false := by simpa using hbad
  have d3 : 1 ≤ nx := by omega
  clear hbad
  by_cases hbad : 1099511627777 < nx
  · have hb : decide (1099511627777 < nx) = true := by simpa using hbad
    have HI := Lib.hid hbad
    clear hbad
    go_enter Tryz.func7, Tryz.ntmps7
    go_wp2_with fail
    go_ret
    exact Ans.mkF (fun e => by have h := HI.out; obtain ⟨e1, e2, e3, e4, -⟩ := e; simp only at e1 e2 e3 e4; omega) (by (repeat first | assumption | exact Frame.refl _ _ | refine Frame.trans1 ?_ (Frame.alloc _ _ _) | refine Frame.trans1 ?_ (Frame.drew _ _) | refine Frame.trans1 ?_ (Frame.drewN _ _ _)))
  have c4 : decide (1099511627777 < nx) = false := by simpa using hbad
  have d4 : nx ≤ 1099511627777 := by omega
  clear hbad
  have HD : Hid (ns.length ≤ 12 ∧ es.length ≤ 60 ∧ 1 ≤ nx ∧ nx ≤ 1099511627777) := by show _ ∧ _; omega
  go_enter Tryz.func7, Tryz.ntmps7
  go_wp2_with fail
  clear c1 c2 c3 c4
  have fr : Frame [] w (w.alloc (.cells #[.slice an ns.length nc, .slice ae es.length ec, .int .i64 nx] 25)) := Frame.alloc _ _ _
  have b0 := Blk.new w 25 #[.slice an ns.length nc, .slice ae es.length ec, .int .i64 nx]
  generalize w.alloc (.cells #[.slice an ns.length nc, .slice ae es.length ec, .int .i64 nx] 25) = wa at *
  have B := Lib.hid b0
  have FR := Lib.hid fr
  clear b0 fr
  go_loopw [3] (fun i wr => ∃ k : Nat, k ≤ ns.length ∧ i = .int .i64 k ∧ Hid (Frame [] wa wr ∧ ∀ j, j < k → OkN ns j)) (fun i _ => ns.length - (intOf i).toNat)
  case atStart => exact ⟨0, Nat.zero_le _, rfl, Frame.refl _ _, fun j h => by omega⟩
  case round =>
    obtain ⟨k, hk, rfl, hR⟩ := hrel
    have z0 := (B.out.frame hR.out.1 (by simp)).at 0 rfl
    by_cases hlt : k < ns.length
    · have g1 : ns[k]? = some ns[k] := by simp [hlt]
      have hst := HC.out.2.2.1 _ (List.getElem_mem hlt)
      have hc1 := HC.out.1 _ (List.getElem_mem hlt)
      have hc2 := HC.out.2.1 _ (List.getElem_mem hlt)
      have hF := FR.out.trans1 hR.out.1
      obtain ⟨p1, o1, la, lc, pa, pc, hla, -, x0, x1, x2, rl, rp⟩ := (H1.out.frame0 hF) k _ g1
      have hprev : ∀ t : Nv, 0 < k → ns[k - 1]? = some t → wr.cell? ⟨p1, o1 + (k - 1) * 3, none⟩ = some (.int .i64 t.1) := fun t h0 ht => by
        obtain ⟨p2, o2, _, _, _, _, hla2, -, q2, -⟩ := (H1.out.frame0 hF) (k - 1) _ ht
        rw [hla] at hla2
        simp at hla2
        obtain ⟨rfl, rfl⟩ := hla2
        exact q2
      subst hla
      have HPV := Lib.hid hprev
      clear hprev
      generalize ns[k] = n at *
      obtain ⟨i, ls, ps⟩ := n
      simp only at x0 x1 x2 rl rp hc1 hc2
      have G1 := Lib.hid g1
      have HF := Lib.hid hF
      have HSN := Lib.hid (fun w' (f : Frame [] wr w') => sound_any U i la pa lc pc ls ps w' (rl.frame0 f) (rp.frame0 f) hc1 hc2 hst)
      have X0 := framed_cell x0
      have X1 := framed_cell x1
      have X2 := framed_cell x2
      have Z0 := framed_cell z0
      clear g1 hF rl rp hst hc1 hc2
      by_cases hsn : SoundN (i, ls, ps)
      case neg =>
        have HN := Lib.hid (fun w' (f : Frame [] wr w') => (Ans.no (HSN.out w' f) hsn))
        have HI := Lib.hid hsn
        clear hsn HSN
        go_wp2_with fail
        refine wp_region_framed (by kernel_rfl) (by kernel_rfl) ?_
        repeat (go_big_quiet_step ((go_at_call 30; exact framed_of (HN.out _ (FramedBy.h _)))))
        refine wpQuiet_nil ?_
        intro w6 hw
        have f6 := framed_out hw
        clear hw
        all_goals
          go_wp2_with fail
          go_ret
          exact Ans.mkF (fun e => HI.out (e.2.2.2.2.1 k _ G1.out).1) (HF.out.trans1 f6)
      have HN := Lib.hid (fun w' (f : Frame [] wr w') => (Ans.yes (HSN.out w' f) hsn))
      have HI := Lib.hid hsn
      clear hsn HSN
      by_cases h0 : 0 < k
      case neg =>
        have hk1 : decide (0 < (k : Int)) = false := by simp; omega
        go_wp2_with fail
        refine wp_region_framed (by kernel_rfl) (by kernel_rfl) ?_
        repeat (go_big_quiet_step ((go_at_call 30; exact framed_of (HN.out _ (FramedBy.h _)))))
        refine wpQuiet_nil ?_
        intro w6 hw
        have f6 := framed_out hw
        clear hw
        all_goals
          go_wp2_with fail
          go_roundw
          case rel => exact ⟨k + 1, by omega, by first | rfl | go_num, Lib.hid ⟨hR.out.1.trans1 f6, ok_step hR.out.2 (fun s' hs' => by have := G1.out.symm.trans hs'; simp at this; subst this; exact ⟨HI.out, fun t' h _ => absurd h (by omega)⟩)⟩⟩
          case measure => first | (simp [intOf]; done) | (simp [intOf]; omega)
      have hk1 : decide (0 < (k : Int)) = true := by simp; omega
      have hlt1 : k - 1 < ns.length := by omega
      have g2 : ns[k - 1]? = some ns[k - 1] := by simp [hlt1]
      generalize ns[k - 1] = t at *
      have y0 := HPV.out t h0 g2
      obtain ⟨i2, ls2, ps2⟩ := t
      simp only at y0
      have G2 := Lib.hid g2
      clear g2
      obtain ⟨m, rfl⟩ : ∃ m, k = m + 1 := ⟨k - 1, by omega⟩
      simp only [Nat.add_sub_cancel] at y0 G2
      have e1 : IntKind.i64.wrap (((m + 1 : Nat) : Int) - 1) = (m : Int) := by rw [show (((m + 1 : Nat) : Int) - 1) = (m : Int) from by omega]; exact IntWalk.i64_in _ (by omega)
      have hm0 : (0 : Int) ≤ ((m + 1 : Nat) : Int) - 1 := by omega
      have Y0 := framed_cell y0
      by_cases hle : i ≤ i2
      · have hd : decide (i ≤ i2) = true := by simpa using hle
        go_wp2_with fail
        refine wp_region_framed (by kernel_rfl) (by kernel_rfl) ?_
        repeat (go_big_quiet_step ((go_at_call 30; exact framed_of (HN.out _ (FramedBy.h _)))))
        refine wpQuiet_nil ?_
        intro w6 hw
        have f6 := framed_out hw
        clear hw
        all_goals
          go_wp2_with fail
          go_ret
          exact Ans.mkF (fun e => by have := (e.2.2.2.2.1 (m + 1) _ G1.out).2 _ (by omega) G2.out; simp only at this; omega) (HF.out.trans1 f6)
      · have hd : decide (i ≤ i2) = false := by simpa using hle
        go_wp2_with fail
        refine wp_region_framed (by kernel_rfl) (by kernel_rfl) ?_
        repeat (go_big_quiet_step ((go_at_call 30; exact framed_of (HN.out _ (FramedBy.h _)))))
        refine wpQuiet_nil ?_
        intro w6 hw
        have f6 := framed_out hw
        clear hw
        all_goals
          go_wp2_with fail
          go_roundw
          case rel => exact ⟨(m + 1) + 1, by omega, by first | rfl | go_num, Lib.hid ⟨hR.out.1.trans1 f6, ok_step hR.out.2 (fun s' hs' => by have := G1.out.symm.trans hs'; simp at this; subst this; exact ⟨HI.out, fun t' _ ht' => by have := G2.out.symm.trans ht'; simp at this; subst this; simp only; omega⟩)⟩⟩
          case measure => first | (simp [intOf]; done) | (simp [intOf]; omega)
    · obtain rfl : k = ns.length := by omega
      have HNN := Lib.hid (okN_all hR.out.2)
      have HF := Lib.hid hR.out.1
      clear hR
      rename World => w5
      go_wp2_with fail
      clear z0
      go_loopw [4] (fun i wr => ∃ k : Nat, k ≤ es.length ∧ i = .int .i64 k ∧ Hid (Frame [] wa wr ∧ ∀ j, j < k → OkE ⟨ns, es, nx⟩ j)) (fun i _ => es.length - (intOf i).toNat)
      case atStart => exact ⟨0, Nat.zero_le _, rfl, HF.out, fun j h => by omega⟩
      case round =>
        obtain ⟨k, hk, rfl, hR⟩ := hrel
        have z1 := (B.out.frame hR.out.1 (by simp)).at 1 rfl
        by_cases hlt : k < es.length
        · have g1 : es[k]? = some es[k] := by simp [hlt]
          have hsz := HC.out.2.2.2 _ (List.getElem_mem hlt)
          have hF := FR.out.trans1 hR.out.1
          obtain ⟨p1, o1, hla, -, q1⟩ := (H2.out.frame0 hF) k _ g1
          have x0 := q1 0 _ rfl
          have x1 := q1 1 _ rfl
          have x2 := q1 2 _ rfl
          have x3 := q1 3 _ rfl
          simp only [Nat.add_zero] at x0
          have hprev : ∀ t : Ed, 0 < k → es[k - 1]? = some t → wr.cell? ⟨p1, o1 + (k - 1) * 4, none⟩ = some (.int .i64 t.tok) := fun t h0 ht => by
            obtain ⟨p2, o2, hla2, -, q2⟩ := (H2.out.frame0 hF) (k - 1) _ ht
            rw [hla] at hla2
            simp at hla2
            obtain ⟨rfl, rfl⟩ := hla2
            have := q2 0 _ rfl
            simpa using this
          subst hla
          have HPV := Lib.hid hprev
          clear hprev q1
          generalize es[k] = ed at *
          obtain ⟨tk, sr, lb, ds⟩ := ed
          simp only at x0 x1 x2 x3 hsz
          have G1 := Lib.hid g1
          have HF2 := Lib.hid hF
          clear g1 hF
          go_wp2_with fail
          have fe : Frame [] wr (wr.alloc (.cells #[.int .i64 tk, .int .i64 sr, .string lb, .int .i64 ds] 44)) := Frame.alloc _ _ _
          have be := Blk.new wr 44 #[.int .i64 tk, .int .i64 sr, .string lb, .int .i64 ds]
          generalize wr.alloc (.cells #[.int .i64 tk, .int .i64 sr, .string lb, .int .i64 ds] 44) = wz at *
          have FE := Lib.hid fe
          have bg := B.out.frame (hR.out.1.trans1 fe) (by simp)
          have E0 := framed_cell (be.at 0 rfl)
          have E1 := framed_cell (be.at 1 rfl)
          have E2 := framed_cell (be.at 2 rfl)
          have E3 := framed_cell (be.at 3 rfl)
          have Z0 := framed_cell (bg.at 0 rfl)
          have Z1 := framed_cell (bg.at 1 rfl)
          have Z2 := framed_cell (bg.at 2 rfl)
          have HP : Hid (∀ (t : Int) (w' : World), Frame [] wz w' → Calls Tryz.prog 32 #[.agg #[.slice an ns.length nc, .slice (some ⟨p1, o1, none⟩) es.length ec, .int .i64 nx], .int .i64 t] w' fun e w'' => e = .returned (.int .i64 (placeV ns t)) ∧ Frame [] w' w'') := by
            show ∀ t w', _
            exact fun t w' f => place_any U an (some ⟨p1, o1, none⟩) nc es.length ec ns nx t w' (((H1.out.frame0 HF2.out).frame0 FE.out).frame0 f) l1
          have hwe : ∀ f : Frame [] wr wz, True := fun _ => trivial
          clear fe be bg x0 x1 x2 x3 z1 hwe
          by_cases ha : tk < 1
          case pos =>
            have hb : decide (tk < 1) = true := by simpa using ha
            refine wp_region_framed (by kernel_rfl) (by kernel_rfl) ?_
            repeat (go_big_quiet_step (fail))
            refine wpQuiet_nil ?_
            intro w6 hw
            have f6 := framed_out hw
            clear hw
            go_wp2_with fail
            go_ret
            exact Ans.mkF (fun e => by have := (e.2.2.2.2.2 k _ G1.out).1; simp only at this; omega) (HF2.out.trans1 (FE.out.trans1 f6))
          have hb : decide (tk < 1) = false := by simpa using ha
          by_cases hc : nx ≤ tk
          case pos =>
            have hd : decide (nx ≤ tk) = true := by simpa using hc
            refine wp_region_framed (by kernel_rfl) (by kernel_rfl) ?_
            repeat (go_big_quiet_step (fail))
            refine wpQuiet_nil ?_
            intro w6 hw
            have f6 := framed_out hw
            clear hw
            go_wp2_with fail
            go_ret
            exact Ans.mkF (fun e => by have := (e.2.2.2.2.2 k _ G1.out).2.1; simp only at this; omega) (HF2.out.trans1 (FE.out.trans1 f6))
          have hd : decide (nx ≤ tk) = false := by simpa using hc
          by_cases h0 : 0 < k
          case neg =>
            have hk1 : decide (0 < (k : Int)) = false := by simp; omega
            by_cases hn : namedB lb = true
            case neg =>
              have hn : namedB lb = false := by simpa using hn
              have HN := Lib.hid hn
              refine wp_region_framed (by kernel_rfl) (by kernel_rfl) ?_
              repeat (go_big_quiet_step (((first | (go_at_call 31; exact framed_same (rname_any _ _ (by assumption))) | (go_at_call 32; exact framed_of (HP.out _ _ (FramedBy.h _)))))))
              refine wpQuiet_nil ?_
              intro w6 hw
              have f6 := framed_out hw
              clear hw
              go_wp2_with fail
              go_ret
              exact Ans.mkF (fun e => by have := (e.2.2.2.2.2 k _ G1.out).2.2.2.1; simp only at this; rw [HN.out] at this; cases this) (HF2.out.trans1 (FE.out.trans1 f6))
            have HN := Lib.hid hn
            by_cases hp : placeV ns sr < 0
            case pos =>
              have hp1 : decide (placeV ns sr < 0) = true := by simpa using hp
              refine wp_region_framed (by kernel_rfl) (by kernel_rfl) ?_
              repeat (go_big_quiet_step (((first | (go_at_call 31; exact framed_same (rname_any _ _ (by assumption))) | (go_at_call 32; exact framed_of (HP.out _ _ (FramedBy.h _)))))))
              refine wpQuiet_nil ?_
              intro w6 hw
              have f6 := framed_out hw
              clear hw
              go_wp2_with fail
              go_ret
              exact Ans.mkF (fun e => by have := (e.2.2.2.2.2 k _ G1.out).2.2.2.2.1; simp only at this; omega) (HF2.out.trans1 (FE.out.trans1 f6))
            have hp1 : decide (placeV ns sr < 0) = false := by simpa using hp
            by_cases hq : placeV ns ds < 0
            case pos =>
              have hq1 : decide (placeV ns ds < 0) = true := by simpa using hq
              refine wp_region_framed (by kernel_rfl) (by kernel_rfl) ?_
              repeat (go_big_quiet_step (((first | (go_at_call 31; exact framed_same (rname_any _ _ (by assumption))) | (go_at_call 32; exact framed_of (HP.out _ _ (FramedBy.h _)))))))
              refine wpQuiet_nil ?_
              intro w6 hw
              have f6 := framed_out hw
              clear hw
              go_wp2_with fail
              go_ret
              exact Ans.mkF (fun e => by have := (e.2.2.2.2.2 k _ G1.out).2.2.2.2.2; simp only at this; omega) (HF2.out.trans1 (FE.out.trans1 f6))
            have hq1 : decide (placeV ns ds < 0) = false := by simpa using hq
            have HA : Hid (1 ≤ tk ∧ tk < nx ∧ 0 ≤ placeV ns sr ∧ 0 ≤ placeV ns ds) := by show _ ∧ _; omega
            refine wp_region_framed (by kernel_rfl) (by kernel_rfl) ?_
            repeat (go_big_quiet_step (((first | (go_at_call 31; exact framed_same (rname_any _ _ (by assumption))) | (go_at_call 32; exact framed_of (HP.out _ _ (FramedBy.h _)))))))
            refine wpQuiet_nil ?_
            intro w6 hw
            have f6 := framed_out hw
            clear hw
            go_wp2_with fail
            go_roundw
            case rel => exact ⟨k + 1, by omega, by first | rfl | go_num, Lib.hid ⟨hR.out.1.trans1 (FE.out.trans1 f6), ok_step hR.out.2 (fun s' hs' => by have := G1.out.symm.trans hs'; simp at this; subst this; exact ⟨HA.out.1, HA.out.2.1, fun t h _ => absurd h (by omega), HN.out, HA.out.2.2.1, HA.out.2.2.2⟩)⟩⟩
            case measure => first | (simp [intOf]; done) | (simp [intOf]; omega)
          have hk1 : decide (0 < (k : Int)) = true := by simp; omega
          have hlt1 : k - 1 < es.length := by omega
          have g2 : es[k - 1]? = some es[k - 1] := by simp [hlt1]
          generalize es[k - 1] = t at *
          have y0 := HPV.out t h0 g2
          obtain ⟨tk2, sr2, lb2, ds2⟩ := t
          simp only at y0
          have G2 := Lib.hid g2
          clear g2
          obtain ⟨m, rfl⟩ : ∃ m, k = m + 1 := ⟨k - 1, by omega⟩
          simp only [Nat.add_sub_cancel] at y0 G2
          have e1 : IntKind.i64.wrap (((m + 1 : Nat) : Int) - 1) = (m : Int) := by rw [show (((m + 1 : Nat) : Int) - 1) = (m : Int) from by omega]; exact IntWalk.i64_in _ (by omega)
          have hm0 : (0 : Int) ≤ ((m + 1 : Nat) : Int) - 1 := by omega
          have Y0 := framed_cell (FE.out.cell y0 (by simp))
          clear y0
          by_cases hle : tk ≤ tk2
          case pos =>
            have hdd : decide (tk ≤ tk2) = true := by simpa using hle
            refine wp_region_framed (by kernel_rfl) (by kernel_rfl) ?_
            repeat (go_big_quiet_step (fail))
            refine wpQuiet_nil ?_
            intro w6 hw
            have f6 := framed_out hw
            clear hw
            go_wp2_with fail
            go_ret
            exact Ans.mkF (fun e => by have := (e.2.2.2.2.2 (m + 1) _ G1.out).2.2.1 _ (by omega) G2.out; simp only at this; omega) (HF2.out.trans1 (FE.out.trans1 f6))
          have hdd : decide (tk ≤ tk2) = false := by simpa using hle
          have HLE : Hid (tk2 < tk) := by show tk2 < tk; omega
          by_cases hn : namedB lb = true
          case neg =>
            have hn : namedB lb = false := by simpa using hn
            have HN := Lib.hid hn
            refine wp_region_framed (by kernel_rfl) (by kernel_rfl) ?_
            repeat (go_big_quiet_step (((first | (go_at_call 31; exact framed_same (rname_any _ _ (by assumption))) | (go_at_call 32; exact framed_of (HP.out _ _ (FramedBy.h _)))))))
            refine wpQuiet_nil ?_
            intro w6 hw
            have f6 := framed_out hw
            clear hw
            go_wp2_with fail
            go_ret
            exact Ans.mkF (fun e => by have := (e.2.2.2.2.2 (m + 1) _ G1.out).2.2.2.1; simp only at this; rw [HN.out] at this; cases this) (HF2.out.trans1 (FE.out.trans1 f6))
          have HN := Lib.hid hn
          by_cases hp : placeV ns sr < 0
          case pos =>
            have hp1 : decide (placeV ns sr < 0) = true := by simpa using hp
            refine wp_region_framed (by kernel_rfl) (by kernel_rfl) ?_
            repeat (go_big_quiet_step (((first | (go_at_call 31; exact framed_same (rname_any _ _ (by assumption))) | (go_at_call 32; exact framed_of (HP.out _ _ (FramedBy.h _)))))))
            refine wpQuiet_nil ?_
            intro w6 hw
            have f6 := framed_out hw
            clear hw
            go_wp2_with fail
            go_ret
            exact Ans.mkF (fun e => by have := (e.2.2.2.2.2 (m + 1) _ G1.out).2.2.2.2.1; simp only at this; omega) (HF2.out.trans1 (FE.out.trans1 f6))
          have hp1 : decide (placeV ns sr < 0) = false := by simpa using hp
          by_cases hq : placeV ns ds < 0
          case pos =>
            have hq1 : decide (placeV ns ds < 0) = true := by simpa using hq
            refine wp_region_framed (by kernel_rfl) (by kernel_rfl) ?_
            repeat (go_big_quiet_step (((first | (go_at_call 31; exact framed_same (rname_any _ _ (by assumption))) | (go_at_call 32; exact framed_of (HP.out _ _ (FramedBy.h _)))))))
            refine wpQuiet_nil ?_
            intro w6 hw
            have f6 := framed_out hw
            clear hw
            go_wp2_with fail
            go_ret
            exact Ans.mkF (fun e => by have := (e.2.2.2.2.2 (m + 1) _ G1.out).2.2.2.2.2; simp only at this; omega) (HF2.out.trans1 (FE.out.trans1 f6))
          have hq1 : decide (placeV ns ds < 0) = false := by simpa using hq
          have HA : Hid (1 ≤ tk ∧ tk < nx ∧ 0 ≤ placeV ns sr ∧ 0 ≤ placeV ns ds) := by show _ ∧ _; omega
          refine wp_region_framed (by kernel_rfl) (by kernel_rfl) ?_
          repeat (go_big_quiet_step (((first | (go_at_call 31; exact framed_same (rname_any _ _ (by assumption))) | (go_at_call 32; exact framed_of (HP.out _ _ (FramedBy.h _)))))))
          refine wpQuiet_nil ?_
          intro w6 hw
          have f6 := framed_out hw
          clear hw
          go_wp2_with fail
          go_roundw
          case rel => exact ⟨(m + 1) + 1, by omega, by first | rfl | go_num, Lib.hid ⟨hR.out.1.trans1 (FE.out.trans1 f6), ok_step hR.out.2 (fun s' hs' => by have := G1.out.symm.trans hs'; simp at this; subst this; exact ⟨HA.out.1, HA.out.2.1, fun t' _ ht' => by have := G2.out.symm.trans ht'; simp at this; subst this; exact HLE.out, HN.out, HA.out.2.2.1, HA.out.2.2.2⟩)⟩⟩
          case measure => first | (simp [intOf]; done) | (simp [intOf]; omega)
        · obtain rfl : k = es.length := by omega
          have HEE := Lib.hid (okE_all (x := ⟨ns, es, nx⟩) hR.out.2)
          go_wp2_with fail
          go_ret
          exact Ans.mkT ⟨HD.out.1, HD.out.2.1, HD.out.2.2.1, HD.out.2.2.2, HNN.out, HEE.out⟩ (FR.out.trans1 (hR.out.1.trans1 (by (repeat first | assumption | exact Frame.refl _ _ | refine Frame.trans1 ?_ (Frame.alloc _ _ _) | refine Frame.trans1 ?_ (Frame.drew _ _) | refine Frame.trans1 ?_ (Frame.drewN _ _ _)))))
end Go.Proofs.YtjcajidgaejhoaaGreat

