/- tansyref10.soundNode: may a node be one of a graph's? (printed by gen_sound.py) -/
import Derived.Test.YtjcajidgaejhoaaGreatMi17
import Derived.IntWalk
namespace Go.Proofs.YtjcajidgaejhoaaGreat
open Go.RowKit
set_option linter.unusedSimpArgs false
set_option linter.unusedVariables false

theorem rname_of {s : ByteArray} {b : Bool} (h : namedB s = b) (w : World) (hs : s.size ≤ 9223372036854775807) : Calls Tryz.prog 31 #[.string s] w fun e w' => e = .returned (.bool b) ∧ w' = w := by
  have := rname_any s w hs; rw [h] at this; exact this
/-- No text of a node is too long for a machine. -/
def StrN (n : Nv) : Prop := (∀ s ∈ n.2.1, s.size ≤ 9223372036854775807) ∧ ∀ p ∈ n.2.2, p.name.size ≤ 9223372036854775807 ∧ p.val.size ≤ 9223372036854775807
def OkL (ls : List ByteArray) (j : Nat) : Prop := ∀ s, ls[j]? = some s → namedB s = true ∧ ∀ t, 0 < j → ls[j - 1]? = some t → ltS t s = true
def OkP (ps : List Pr) (j : Nat) : Prop := ∀ p, ps[j]? = some p → namedB p.name = true ∧ namedB p.val = true ∧ ∀ q, 0 < j → ps[j - 1]? = some q → ltS q.name p.name = true
/-- May a node be? -/
def SoundN (n : Nv) : Prop := (1 ≤ n.1 ∧ n.1 ≤ 1000) ∧ n.2.1.length ≤ 8 ∧ n.2.2.length ≤ 8 ∧ (∀ j, OkL n.2.1 j) ∧ ∀ j, OkP n.2.2 j
theorem ok_step {P : Nat → Prop} {k : Nat} (h : ∀ j, j < k → P j) (hk : P k) : ∀ j, j < k + 1 → P j := fun j hj => by
  rcases Nat.lt_or_ge j k with h1 | h1
  · exact h j h1
  · obtain rfl : j = k := by omega
    exact hk
theorem okL_all {ls : List ByteArray} (h : ∀ j, j < ls.length → OkL ls j) : ∀ j, OkL ls j := fun j => by
  rcases Nat.lt_or_ge j ls.length with h1 | h1
  · exact h j h1
  · intro s hs; rw [List.getElem?_eq_none h1] at hs; cases hs
theorem okP_all {ps : List Pr} (h : ∀ j, j < ps.length → OkP ps j) : ∀ j, OkP ps j := fun j => by
  rcases Nat.lt_or_ge j ps.length with h1 | h1
  · exact h j h1
  · intro s hs; rw [List.getElem?_eq_none h1] at hs; cases hs
/-- Three ways for a text behind another one. -/
theorem str_ways (t s : ByteArray) : ltS t s = true ∧ Op.bytesLess s.toList t.toList = false ∧ (s.toList == t.toList) = false ∨ ltS t s = false ∧ Op.bytesLess s.toList t.toList = true ∨ ltS t s = false ∧ Op.bytesLess s.toList t.toList = false ∧ (s.toList == t.toList) = true := by
  cases h : ltS t s with
  | true =>
    left
    refine ⟨rfl, ltS_asymm h, beq_toList_false fun e => ?_⟩
    subst e
    rw [ltS_irrefl] at h; cases h
  | false =>
    right
    cases h2 : ltS s t with
    | true => left; exact ⟨rfl, h2⟩
    | false =>
      right
      refine ⟨rfl, h2, beq_toList_true ?_⟩
      exact (ltS_eq h h2).symm

set_option maxHeartbeats 8000000 in
set_option maxRecDepth 100000 in
theorem sound_any (U : Nat → Prop) (i : Int) (la pa : Option Addr) (lc pc : Nat) (ls : List ByteArray) (ps : List Pr) (w : World) (h1 : RF U w 1 encS la ls) (h2 : RF U w 2 Pr.cs pa ps) (ll : ls.length ≤ 1000000) (lp : ps.length ≤ 1000000) (hst : StrN (i, ls, ps)) :
    Calls Tryz.prog 30 #[.agg #[.int .i64 i, .slice la ls.length lc, .slice pa ps.length pc]] w (Ans (SoundN (i, ls, ps)) w) := by
  have H1 := Lib.hid h1
  have H2 := Lib.hid h2
  have HS := Lib.hid hst
  have HSP := Lib.hid hst.2
  clear h1 h2 hst
  by_cases hbad : i < 1
  · have hb : decide (i < 1) = true := by simpa using hbad
    have HI := Lib.hid hbad
    clear hbad
    go_enter Tryz.func30, Tryz.ntmps30
    go_wp2_with fail
    go_ret
    exact Ans.mkF (fun e => by have h := HI.out; obtain ⟨e1, e2, e3, -, -⟩ := e; simp only at e1 e2 e3; omega) (by (repeat first | assumption | exact Frame.refl _ _ | refine Frame.trans1 ?_ (Frame.alloc _ _ _) | refine Frame.trans1 ?_ (Frame.drew _ _) | refine Frame.trans1 ?_ (Frame.drewN _ _ _)))
  have c1 : decide (i < 1) = false := by simpa using hbad
  have d1 : ¬ i < 1 := hbad
  clear hbad
  by_cases hbad : 1000 < i
  · have hb : decide (1000 < i) = true := by simpa using hbad
    have HI := Lib.hid hbad
    clear hbad
    go_enter Tryz.func30, Tryz.ntmps30
    go_wp2_with fail
    go_ret
    exact Ans.mkF (fun e => by have h := HI.out; obtain ⟨e1, e2, e3, -, -⟩ := e; simp only at e1 e2 e3; omega) (by (repeat first | assumption | exact Frame.refl _ _ | refine Frame.trans1 ?_ (Frame.alloc _ _ _) | refine Frame.trans1 ?_ (Frame.drew _ _) | refine Frame.trans1 ?_ (Frame.drewN _ _ _)))
  have c2 : decide (1000 < i) = false := by simpa using hbad
  have d2 : ¬ 1000 < i := hbad
  clear hbad
  by_cases hbad : 8 < ls.length
  · have hb : decide ((8 : Int) < ls.length) = true := by simp; omega
    have HI := Lib.hid hbad
    clear hbad
    go_enter Tryz.func30, Tryz.ntmps30
    go_wp2_with fail
    go_ret
    exact Ans.mkF (fun e => by have h := HI.out; obtain ⟨e1, e2, e3, -, -⟩ := e; simp only at e1 e2 e3; omega) (by (repeat first | assumption | exact Frame.refl _ _ | refine Frame.trans1 ?_ (Frame.alloc _ _ _) | refine Frame.trans1 ?_ (Frame.drew _ _) | refine Frame.trans1 ?_ (Frame.drewN _ _ _)))
  have c3 : decide ((8 : Int) < ls.length) = false := by simp; omega
  have d3 : ¬ 8 < ls.length := hbad
  clear hbad
  by_cases hbad : 8 < ps.length
  · have hb : decide ((8 : Int) < ps.length) = true := by simp; omega
    have HI := Lib.hid hbad
    clear hbad
    go_enter Tryz.func30, Tryz.ntmps30
    go_wp2_with fail
    go_ret
    exact Ans.mkF (fun e => by have h := HI.out; obtain ⟨e1, e2, e3, -, -⟩ := e; simp only at e1 e2 e3; omega) (by (repeat first | assumption | exact Frame.refl _ _ | refine Frame.trans1 ?_ (Frame.alloc _ _ _) | refine Frame.trans1 ?_ (Frame.drew _ _) | refine Frame.trans1 ?_ (Frame.drewN _ _ _)))
  have c4 : decide ((8 : Int) < ps.length) = false := by simp; omega
  have d4 : ¬ 8 < ps.length := hbad
  clear hbad
  have HD : Hid ((1 ≤ i ∧ i ≤ 1000) ∧ ls.length ≤ 8 ∧ ps.length ≤ 8) := by show _ ∧ _; omega
  go_enter Tryz.func30, Tryz.ntmps30
  go_wp2_with fail
  clear c1 c2 c3 c4 d1 d2
  have fr : Frame [] w (w.alloc (.cells #[.int .i64 i, .slice la ls.length lc, .slice pa ps.length pc] 41)) := Frame.alloc _ _ _
  have b0 := Blk.new w 41 #[.int .i64 i, .slice la ls.length lc, .slice pa ps.length pc]
  generalize w.alloc (.cells #[.int .i64 i, .slice la ls.length lc, .slice pa ps.length pc] 41) = wa at *
  have B := Lib.hid b0
  have FR := Lib.hid fr
  clear b0 fr
  go_loopw [3] (fun i wr => ∃ k : Nat, k ≤ ls.length ∧ i = .int .i64 k ∧ Hid (Frame [] wa wr ∧ ∀ j, j < k → OkL ls j)) (fun i _ => ls.length - (intOf i).toNat)
  case atStart => exact ⟨0, Nat.zero_le _, rfl, Frame.refl _ _, fun j h => by omega⟩
  case round =>
    obtain ⟨k, hk, rfl, hR⟩ := hrel
    have z1 := (B.out.frame hR.out.1 (by simp)).at 1 rfl
    by_cases hlt : k < ls.length
    · have g1 : ls[k]? = some ls[k] := by simp [hlt]
      have hsz := HS.out.1 _ (List.getElem_mem hlt)
      have hF := FR.out.trans1 hR.out.1
      obtain ⟨p1, o1, hla, -, q1⟩ := (H1.out.frame0 hF) k _ g1
      have x0 := q1 0 _ rfl
      simp only [Nat.add_zero, Nat.mul_one] at x0
      have hprev : ∀ t, 0 < k → ls[k - 1]? = some t → wr.cell? ⟨p1, o1 + (k - 1), none⟩ = some (.string t) := fun t h0 ht => by
        obtain ⟨p2, o2, hla2, -, q2⟩ := (H1.out.frame0 hF) (k - 1) _ ht
        rw [hla] at hla2
        simp at hla2
        obtain ⟨rfl, rfl⟩ := hla2
        have := q2 0 _ rfl
        simpa using this
      subst hla
      have HPV := Lib.hid hprev
      clear q1 hprev
      generalize ls[k] = s at *
      have G1 := Lib.hid g1
      have HF := Lib.hid hF
      clear g1 hF
      cases hn : namedB s with
      | false =>
        have HN := Lib.hid (fun w => rname_of hn w hsz)
        have HB := Lib.hid hn
        clear hn
        go_wp2_with fail
        go_quiet ((go_at_call 31; exact Calls.quiet_of_same (HN.out _)))
        go_wp2_with fail
        go_ret
        exact Ans.mkF (fun e => by have := e.2.2.2.1 k s G1.out; rw [HB.out] at this; exact absurd this.1 (by simp)) (HF.out.trans1 (Frame.drewN _ _ _))
      | true =>
        have HN := Lib.hid (fun w => rname_of hn w hsz)
        have HB := Lib.hid hn
        clear hn
        by_cases h0 : 0 < k
        · have hk1 : decide (0 < (k : Int)) = true := by simp; omega
          have hlt1 : k - 1 < ls.length := by omega
          have g2 : ls[k - 1]? = some ls[k - 1] := by simp [hlt1]
          generalize ls[k - 1] = t at *
          have y0 := HPV.out t h0 g2
          have G2 := Lib.hid g2
          clear g2
          obtain ⟨m, rfl⟩ : ∃ m, k = m + 1 := ⟨k - 1, by omega⟩
          simp only [Nat.add_sub_cancel] at y0 G2
          have e1 : IntKind.i64.wrap (((m + 1 : Nat) : Int) - 1) = (m : Int) := by rw [show (((m + 1 : Nat) : Int) - 1) = (m : Int) from by omega]; exact IntWalk.i64_in _ (by omega)
          have hm0 : (0 : Int) ≤ ((m + 1 : Nat) : Int) - 1 := by omega
          rcases str_ways t s with ⟨c1, c2, c3⟩ | ⟨c1, c2⟩ | ⟨c1, c2, c3⟩
          · have HC := Lib.hid c1
            clear c1
            go_wp2_with fail
            go_quiet ((go_at_call 31; exact Calls.quiet_of_same (HN.out _)))
            go_wp2_with fail
            go_roundw
            case rel => exact ⟨(m + 1) + 1, by omega, by first | rfl | go_num, Lib.hid ⟨hR.out.1.trans1 (Frame.drewN _ _ _), ok_step hR.out.2 (fun s' hs' => by have := G1.out.symm.trans hs'; simp at this; subst this; exact ⟨HB.out, fun t' _ ht' => by have := G2.out.symm.trans ht'; simp at this; subst this; exact HC.out⟩)⟩⟩
            case measure => first | (simp [intOf]; done) | (simp [intOf]; omega)
          · have HC := Lib.hid c1
            clear c1
            go_wp2_with fail
            go_quiet ((go_at_call 31; exact Calls.quiet_of_same (HN.out _)))
            go_wp2_with fail
            go_ret
            exact Ans.mkF (fun e => by have := (e.2.2.2.1 (m + 1) s G1.out).2 t (by omega) G2.out; rw [HC.out] at this; cases this) (HF.out.trans1 (Frame.drewN _ _ _))
          · have HC := Lib.hid c1
            clear c1
            go_wp2_with fail
            go_quiet ((go_at_call 31; exact Calls.quiet_of_same (HN.out _)))
            go_wp2_with fail
            go_ret
            exact Ans.mkF (fun e => by have := (e.2.2.2.1 (m + 1) s G1.out).2 t (by omega) G2.out; rw [HC.out] at this; cases this) (HF.out.trans1 (Frame.drewN _ _ _))
        · have hk1 : decide (0 < (k : Int)) = false := by simp; omega
          go_wp2_with fail
          go_quiet ((go_at_call 31; exact Calls.quiet_of_same (HN.out _)))
          go_wp2_with fail
          go_roundw
          case rel => exact ⟨k + 1, by omega, by first | rfl | go_num, Lib.hid ⟨hR.out.1.trans1 (Frame.drewN _ _ _), ok_step hR.out.2 (fun s' hs' => by have := G1.out.symm.trans hs'; simp at this; subst this; exact ⟨HB.out, fun t' h _ => absurd h (by omega)⟩)⟩⟩
          case measure => first | (simp [intOf]; done) | (simp [intOf]; omega)
    · obtain rfl : k = ls.length := by omega
      have HLL := Lib.hid (okL_all hR.out.2)
      have HF := Lib.hid hR.out.1
      clear hR HS
      rename World => w5
      go_wp2_with fail
      clear z1
      go_loopw [4] (fun i wr => ∃ k : Nat, k ≤ ps.length ∧ i = .int .i64 k ∧ Hid (Frame [] wa wr ∧ ∀ j, j < k → OkP ps j)) (fun i _ => ps.length - (intOf i).toNat)
      case atStart => exact ⟨0, Nat.zero_le _, rfl, HF.out, fun j h => by omega⟩
      case round =>
        obtain ⟨k, hk, rfl, hR⟩ := hrel
        have z1 := (B.out.frame hR.out.1 (by simp)).at 2 rfl
        by_cases hlt : k < ps.length
        · have g1 : ps[k]? = some ps[k] := by simp [hlt]
          have hsz := HSP.out _ (List.getElem_mem hlt)
          have hF := FR.out.trans1 hR.out.1
          obtain ⟨p1, o1, hla, -, q1⟩ := (H2.out.frame0 hF) k _ g1
          have x0 := q1 0 _ rfl
          have x1 := q1 1 _ rfl
          simp only [Nat.add_zero] at x0
          have hprev : ∀ t, 0 < k → ps[k - 1]? = some t → wr.cell? ⟨p1, o1 + (k - 1) * 2, none⟩ = some (.string t.name) := fun t h0 ht => by
            obtain ⟨p2, o2, hla2, -, q2⟩ := (H2.out.frame0 hF) (k - 1) _ ht
            rw [hla] at hla2
            simp at hla2
            obtain ⟨rfl, rfl⟩ := hla2
            have := q2 0 _ rfl
            simpa using this
          subst hla
          have HPV := Lib.hid hprev
          clear q1 hprev
          generalize ps[k] = p at *
          obtain ⟨s, v⟩ := p
          simp only at x0 x1 hsz
          obtain ⟨hsz1, hsz2⟩ := hsz
          have G1 := Lib.hid g1
          have HF2 := Lib.hid hF
          clear g1 hF
          cases hn : namedB s with
          | false =>
            have HB := Lib.hid hn
            go_wp2_with fail
            go_quiet ((go_at_call 31; exact Calls.quiet_of_same (rname_any _ _ (by assumption))))
            go_wp2_with fail
            go_ret
            exact Ans.mkF (fun e => by have := e.2.2.2.2 k _ G1.out; rw [HB.out] at this; exact absurd this.1 (by simp)) (HF2.out.trans1 (Frame.drewN _ _ _))
          | true =>
            have HB := Lib.hid hn
            cases hm : namedB v with
            | false =>
              have HC := Lib.hid hm
              go_wp2_with fail
              go_quiet ((go_at_call 31; exact Calls.quiet_of_same (rname_any _ _ (by assumption))))
              go_wp2_with fail
              go_ret
              exact Ans.mkF (fun e => by have := (e.2.2.2.2 k _ G1.out).2.1; rw [HC.out] at this; exact absurd this (by simp)) (HF2.out.trans1 (Frame.drewN _ _ _))
            | true =>
              have HBM := Lib.hid hm
              by_cases h0 : 0 < k
              · have hk1 : decide (0 < (k : Int)) = true := by simp; omega
                have hlt1 : k - 1 < ps.length := by omega
                have g2 : ps[k - 1]? = some ps[k - 1] := by simp [hlt1]
                generalize ps[k - 1] = q at *
                have y0 := HPV.out q h0 g2
                obtain ⟨t, tv⟩ := q
                simp only at y0
                have G2 := Lib.hid g2
                clear g2
                obtain ⟨m, rfl⟩ : ∃ m, k = m + 1 := ⟨k - 1, by omega⟩
                simp only [Nat.add_sub_cancel] at y0 G2
                have e1 : IntKind.i64.wrap (((m + 1 : Nat) : Int) - 1) = (m : Int) := by rw [show (((m + 1 : Nat) : Int) - 1) = (m : Int) from by omega]; exact IntWalk.i64_in _ (by omega)
                have hm0 : (0 : Int) ≤ ((m + 1 : Nat) : Int) - 1 := by omega
                rcases str_ways t s with ⟨c1, c2, c3⟩ | ⟨c1, c2⟩ | ⟨c1, c2, c3⟩
                · have HC := Lib.hid c1
                  clear c1
                  go_wp2_with fail
                  go_quiet ((go_at_call 31; exact Calls.quiet_of_same (rname_any _ _ (by assumption))))
                  go_wp2_with fail
                  go_roundw
                  case rel => exact ⟨(m + 1) + 1, by omega, by first | rfl | go_num, Lib.hid ⟨hR.out.1.trans1 (Frame.drewN _ _ _), ok_step hR.out.2 (fun s' hs' => by have := G1.out.symm.trans hs'; simp at this; subst this; exact ⟨HB.out, HBM.out, fun t' _ ht' => by have := G2.out.symm.trans ht'; simp at this; subst this; exact HC.out⟩)⟩⟩
                  case measure => first | (simp [intOf]; done) | (simp [intOf]; omega)
                · have HC := Lib.hid c1
                  clear c1
                  go_wp2_with fail
                  go_quiet ((go_at_call 31; exact Calls.quiet_of_same (rname_any _ _ (by assumption))))
                  go_wp2_with fail
                  go_ret
                  exact Ans.mkF (fun e => by have := (e.2.2.2.2 (m + 1) _ G1.out).2.2 _ (by omega) G2.out; rw [HC.out] at this; cases this) (HF2.out.trans1 (Frame.drewN _ _ _))
                · have HC := Lib.hid c1
                  clear c1
                  go_wp2_with fail
                  go_quiet ((go_at_call 31; exact Calls.quiet_of_same (rname_any _ _ (by assumption))))
                  go_wp2_with fail
                  go_ret
                  exact Ans.mkF (fun e => by have := (e.2.2.2.2 (m + 1) _ G1.out).2.2 _ (by omega) G2.out; rw [HC.out] at this; cases this) (HF2.out.trans1 (Frame.drewN _ _ _))
              · have hk1 : decide (0 < (k : Int)) = false := by simp; omega
                go_wp2_with fail
                go_quiet ((go_at_call 31; exact Calls.quiet_of_same (rname_any _ _ (by assumption))))
                go_wp2_with fail
                go_roundw
                case rel => exact ⟨k + 1, by omega, by first | rfl | go_num, Lib.hid ⟨hR.out.1.trans1 (Frame.drewN _ _ _), ok_step hR.out.2 (fun s' hs' => by have := G1.out.symm.trans hs'; simp at this; subst this; exact ⟨HB.out, HBM.out, fun t' h _ => absurd h (by omega)⟩)⟩⟩
                case measure => first | (simp [intOf]; done) | (simp [intOf]; omega)
        · obtain rfl : k = ps.length := by omega
          have HPP := Lib.hid (okP_all hR.out.2)
          go_wp2_with fail
          go_ret
          exact Ans.mkT ⟨HD.out.1, HD.out.2.1, HD.out.2.2, HLL.out, HPP.out⟩ (FR.out.trans1 (hR.out.1.trans1 (by (repeat first | assumption | exact Frame.refl _ _ | refine Frame.trans1 ?_ (Frame.alloc _ _ _) | refine Frame.trans1 ?_ (Frame.drew _ _) | refine Frame.trans1 ?_ (Frame.drewN _ _ _)))))
end Go.Proofs.YtjcajidgaejhoaaGreat

