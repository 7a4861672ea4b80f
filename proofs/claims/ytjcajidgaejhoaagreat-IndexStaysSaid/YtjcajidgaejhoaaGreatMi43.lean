/- tansyalike.Chain: three nodes in a row. tansyref22.Ints: are two rows of ints one? (printed by gen_ints2.py) tansylaw12.awake. -/
import Derived.Test.YtjcajidgaejhoaaGreatMi29
import Derived.Test.YtjcajidgaejhoaaGreatMi30
import Derived.Test.YtjcajidgaejhoaaGreatMi15
import Derived.BigQuiet
import Derived.Test.YtjcajidgaejhoaaGreatMi40
namespace Go.Proofs.YtjcajidgaejhoaaGreat
open Go.RowKit
set_option linter.unusedSimpArgs false
set_option linter.unusedVariables false

/-- The reference's graph, made by the call for itself. -/
def RGo (w : World) (rb : Nat) (ns : List Nv) (es : List Ed) (next : Int) (wr : World) : Prop := ∃ D, RGv wr rb D ns es next ∧ Frame [] w wr ∧ w.heap.size ≤ rb ∧ ∀ x ∈ D, w.heap.size ≤ x
theorem RGo.step {w wr w' : World} {rb : Nat} {D : List Nat} {ns' : List Nv} {es' : List Ed} {next' : Int} (f : Frame [] w wr) (n1 : w.heap.size ≤ rb) (n2 : ∀ x ∈ D, w.heap.size ≤ x) (h : RGEnd wr rb D ns' es' next' w') : RGo w rb ns' es' next' w' := by
  obtain ⟨D', a, b, c⟩ := h
  refine ⟨D', a, f.trans b (fun x hx => by simp at hx; subst hx; exact .inr n1), n1, fun x hx => ?_⟩
  rcases c x hx with h | h
  · exact n2 x h
  · exact Nat.le_trans f.size h
theorem RGo.quiet {w wr w' : World} {rb : Nat} {ns : List Nv} {es : List Ed} {next : Int} (h : RGo w rb ns es next wr) (f : Frame [] wr w') : RGo w rb ns es next w' := by
  obtain ⟨D, a, b, c, d⟩ := h
  exact ⟨D, a.frame0 f, b.trans1 f, c, d⟩
def txA : ByteArray := ⟨#[97]⟩
def chN (k : Nat) : List Nv := (List.range k).map fun (j : Nat) => ((j : Int) + 1, [], [])
def chE (k : Nat) : List Ed := (List.range k).map fun (j : Nat) => ⟨(j : Int) + 1, (j : Int) + 1, txA, (j : Int) + 2⟩
theorem chN_step (k : Nat) (h : k < 3) : vAddNode (chN k) ((k : Int) + 1) = (0, chN (k + 1)) := by
  rcases (by omega : k = 0 ∨ k = 1 ∨ k = 2) with rfl | rfl | rfl <;> decide +kernel
theorem chE_step (k : Nat) (h : k < 2) : vAdd (chN 3) (chE k) k ((k : Int) + 1) txA ((k : Int) + 1 + 1) = (((k : Int) + 1, 0), chE (k + 1), (k : Int) + 1) := by
  rcases (by omega : k = 0 ∨ k = 1) with rfl | rfl <;> decide +kernel
theorem chN_ok (k : Nat) (h : k ≤ 3) : VOk (chN k) := by
  induction k with
  | zero => exact VOk.nil
  | succ k ih =>
    have := (ih (by omega)).addNode ((k : Int) + 1)
    rw [chN_step k (by omega)] at this
    exact this

set_option maxHeartbeats 8000000 in
set_option maxRecDepth 100000 in
theorem chain3 (w : World) : Calls Tryz.prog 33 #[.int .i64 3, .bool false] w fun e w' => ∃ v, e = .returned v ∧ RG (fun b => b < w'.heap.size) w' v ⟨chN 3, chE 2, 3⟩ ∧ Frame [] w w' := by
  go_enter Tryz.func33, Tryz.ntmps33
  go_wp2_with fail
  have b0 := Blk.new w 25 #[.slice none 0 0, .slice none 0 0, .int .i64 0]
  have f0 := Frame.alloc [] w (.cells #[.slice none 0 0, .slice none 0 0, .int .i64 0] 25)
  generalize w.alloc (.cells #[.slice none 0 0, .slice none 0 0, .int .i64 0] 25) = wa at *
  have B0 := Lib.hid b0
  have F0 := Lib.hid f0
  clear b0 f0
  refine (rgnew_any _).mono ?_
  rintro e w1 ⟨rb, rfl, g1, f1, n1⟩
  have G0 : Hid (RGo wa rb [] [] 1 w1) := Lib.hid (by obtain ⟨zs, h, h2⟩ := g1; exact ⟨[], ⟨zs, h, h2⟩, f1, n1, by simp⟩)
  clear g1 f1 n1
  go_wp2_with fail
  go_loopw [6] (fun i wr => ∃ k : Nat, k ≤ 3 ∧ i = .int .i64 ((k : Int) + 1) ∧ Hid (RGo wa rb (chN k) [] 1 wr)) (fun i _ => 4 - (intOf i).toNat)
  case atStart => exact ⟨0, by omega, by first | rfl | go_num, G0.out⟩
  case round =>
    obtain ⟨k, hk, rfl, hR⟩ := hrel
    clear G0
    by_cases hlt : k < 3
    · obtain ⟨D, g1, f1, n1, n2⟩ := hR.out
      have hc := rg_addNode g1 (chN_ok k (by omega)) ((k : Int) + 1)
      rw [chN_step k hlt] at hc
      have HC := Lib.hid (hc.mono fun e w' h => (⟨h.1, RGo.step f1 n1 n2 h.2⟩ : e = .returned (.int .i64 0) ∧ RGo wa rb (chN (k + 1)) [] 1 w'))
      have hle : decide ((k : Int) + 1 ≤ 3) = true := by simp; omega
      clear hc g1 f1 n1 n2 hR
      go_wp2_with fail
      refine HC.out.mono ?_
      rintro e w2 ⟨rfl, o2⟩
      have O2 := Lib.hid o2
      clear o2 HC
      go_wp2_with fail
      go_roundw
      case rel => exact ⟨k + 1, by omega, by first | rfl | go_num, O2⟩
      case measure => first | (simp [intOf]; done) | (simp [intOf]; omega)
    · obtain rfl : k = 3 := by omega
      go_wp2_with fail
      go_loopw [7] (fun i wr => ∃ k : Nat, k ≤ 2 ∧ i = .int .i64 ((k : Int) + 1) ∧ Hid (RGo wa rb (chN 3) (chE k) ((k : Int) + 1) wr)) (fun i _ => 3 - (intOf i).toNat)
      case atStart => exact ⟨0, by omega, by first | rfl | go_num, hR.out⟩
      case round =>
        rename World => wq
        obtain ⟨k, hk, rfl, hR⟩ := hrel
        by_cases hlt : k < 2
        · obtain ⟨D, g1, f1, n1, n2⟩ := hR.out
          have hc := rg_add g1 (by decide) (by unfold chE; simp; omega) (by omega) (by omega) ((k : Int) + 1) txA ((k : Int) + 1 + 1) (by decide)
          rw [chE_step k hlt] at hc
          have HC := Lib.hid (hc.mono fun e w' h => (⟨h.1, RGo.step f1 n1 n2 h.2⟩ : e = .returned (.tuple #[.int .i64 ((k : Int) + 1), .int .i64 0]) ∧ RGo wa rb (chN 3) (chE (k + 1)) ((k : Int) + 1 + 1) w'))
          clear hc g1 f1 n1 n2 hR
          go_wp2_with fail
          refine HC.out.mono ?_
          rintro e w2 ⟨rfl, o2⟩
          have O2 := Lib.hid o2
          clear o2 HC
          go_wp2_with fail
          go_roundw
          case rel => exact ⟨_, _, _, _, _, _, _, _, _, _, _, ⟨k + 1, by omega, by first | rfl | go_num, by simpa using O2⟩, rfl⟩
          case measure => first | (simp [intOf]; done) | (simp [intOf]; omega)
        · obtain rfl : k = 2 := by omega
          obtain ⟨D, g1, f1, n1, n2⟩ := hR.out
          obtain ⟨an, nc, ae, ec, hb, hn, he⟩ : ∃ an nc ae ec, Blk wq rb 101 #[.slice an (chN 3).length nc, .slice ae (chE 2).length ec, .int .i64 3] ∧ RN (fun b => wa.heap.size ≤ b) wq an (chN 3) ∧ RF (fun b => wa.heap.size ≤ b) wq 4 Ed.cs ae (chE 2) := by
            obtain ⟨zs, ⟨-, -, h3, an, nc, ae, ec, h4, h5, h6, -⟩, h7⟩ := g1
            have hl : zs.length = (chN 3).length := by rw [← h7, List.length_map]
            rw [hl] at h4
            refine ⟨an, nc, ae, ec, h4, ?_, h6.mono n2⟩
            rw [← h7]
            exact (rn_of_zn h5 h3).mono n2
          have b9 := B0.out.frame f1 (by simp)
          have y0 := hb.at 0 rfl
          have y1 := hb.at 1 rfl
          have y2 := hb.at 2 rfl
          have z0 := b9.at 0 rfl
          have z1 := b9.at 1 rfl
          have z2 := b9.at 2 rfl
          have r0 := b9.frozen 0
          have r1 := b9.frozen 1
          have r2 := b9.frozen 2
          have HN := Lib.hid (And.intro hn he)
          have B9 := Lib.hid (And.intro b9 (F0.out.trans1 f1))
          clear hb hn he g1 n2 b9 f1 hR
          have hl3 : (chN 3).length = 3 := rfl
          have hl2 : (chE 2).length = 2 := rfl
          rw [hl3] at y0
          rw [hl2] at y1
          go_wp2_with fail
          have hlt := B0.out.lt
          have hwq := B9.out.1.lt
          have fs : Frame [w.heap.size] wq (((wq.setCell ⟨w.heap.size, 0, none⟩ (.slice an 3 nc)).setCell ⟨w.heap.size, 1, none⟩ (.slice ae 2 ec)).setCell ⟨w.heap.size, 2, none⟩ (.int .i64 3)) := (Frame.setCell _ ⟨w.heap.size, 0, none⟩ _ (by simp)).trans1 ((Frame.setCell _ ⟨w.heap.size, 1, none⟩ _ (by simp)).trans1 (Frame.setCell _ ⟨w.heap.size, 2, none⟩ _ (by simp)))
          have hU : ∀ b, wa.heap.size ≤ b → b ∉ [w.heap.size] := fun b hb hm => by simp at hm; omega
          refine bodyPost_ret (v := .agg #[.slice an 3 nc, .slice ae 2 ec, .int .i64 3]) ?_ rfl ⟨_, rfl, ⟨an, nc, ae, ec, rfl, ?_, ?_⟩, B9.out.2.trans fs (fun x hx => by simp at hx; subst hx; exact .inr (Nat.le_refl _))⟩
          · have b3 := ((B9.out.1.set 0 (.slice an 3 nc)).set 1 (.slice ae 2 ec)).set 2 (.int .i64 3)
            have x0 := b3.at 0 rfl
            have x1 := b3.at 1 rfl
            have x2 := b3.at 2 rfl
            simp [results, Tryz.results33, go_sem, x0, x1, x2]
          · exact (HN.out.1.frame fs hU).in_heap.mono (fun b hb => hb.2)
          · exact ((HN.out.2.frame fs hU).in_heap (fun x => by rw [ed_len]; omega)).mono (fun b hb => hb.2)
end Go.Proofs.YtjcajidgaejhoaaGreat

namespace Go.Proofs.YtjcajidgaejhoaaGreat
open Go.RowKit
set_option linter.unusedSimpArgs false
set_option linter.unusedVariables false

set_option maxHeartbeats 4000000 in
set_option maxRecDepth 100000 in
theorem ints_any (U1 U2 : Nat → Prop) (a1 a2 : Option Addr) (c1 c2 : Nat) (xs ys : List Int) (w : World) (h1 : RF U1 w 1 encI a1 xs) (h2 : RF U2 w 1 encI a2 ys) (l1 : xs.length ≤ 1000000) (l2 : ys.length ≤ 1000000) :
    Calls Tryz.prog 12 #[.slice a1 xs.length c1, .slice a2 ys.length c2] w (Ans (xs = ys) w) := by
  have H1 := Lib.hid h1
  have H2 := Lib.hid h2
  clear h1 h2
  by_cases hlen : xs.length = ys.length
  · have HL := Lib.hid hlen
    have hle : ys.length ≤ xs.length := by omega
    have hge : xs.length ≤ ys.length := by omega
    have hn : ((xs.length : Int) != (ys.length : Int)) = false := by simp [hlen]
    clear hlen
    go_enter Tryz.func12, Tryz.ntmps12
    go_wp2_with fail
    go_loopw [5] (fun i wr => ∃ k : Nat, k ≤ xs.length ∧ i = .int .i64 k ∧ Hid (Frame [] w wr ∧ ∀ j, j < k → xs[j]? = ys[j]?)) (fun i _ => xs.length - (intOf i).toNat)
    case atStart => exact ⟨0, Nat.zero_le _, rfl, Frame.refl _ _, fun j h => by omega⟩
    case round =>
      obtain ⟨k, hk, rfl, hR⟩ := hrel
      by_cases hlt : k < xs.length
      · have g1 : xs[k]? = some xs[k] := by simp [hlt]
        have hlt2 : k < ys.length := by omega
        have g2 : ys[k]? = some ys[k] := by simp [hlt2]
        obtain ⟨b1, o1, rfl, -, q1⟩ := (H1.out.frame0 hR.out.1) k _ g1
        obtain ⟨b2, o2, rfl, -, q2⟩ := (H2.out.frame0 hR.out.1) k _ g2
        have d1 := q1 0 _ rfl
        have d2 := q2 0 _ rfl
        simp only [Nat.add_zero, Nat.mul_one] at d1 d2
        generalize xs[k] = x at *
        generalize ys[k] = y at *
        have G1 := Lib.hid g1
        have G2 := Lib.hid g2
        clear q1 q2 g1 g2
        by_cases hxy : x = y
        · have hb : (x != y) = false := by simp [hxy]
          have HX := Lib.hid hxy
          clear hxy
          go_wp2_with fail
          go_quiet (fail)
          go_wp2_with fail
          go_roundw
          case rel => exact ⟨k + 1, by omega, by first | rfl | go_num, Lib.hid ⟨hR.out.1.trans1 (by (repeat first | assumption | exact Frame.refl _ _ | refine Frame.trans1 ?_ (Frame.alloc _ _ _) | refine Frame.trans1 ?_ (Frame.drew _ _) | refine Frame.trans1 ?_ (Frame.drewN _ _ _))), fun j hj => by
            rcases Nat.lt_or_ge j k with h | h
            · exact hR.out.2 j h
            · obtain rfl : j = k := by omega
              rw [G1.out, G2.out, HX.out]⟩⟩
          case measure => first | (simp [intOf]; done) | (simp [intOf]; omega)
        · have hb : (x != y) = true := by simp [hxy]
          have HX := Lib.hid hxy
          clear hxy
          go_wp2_with fail
          go_quiet (fail)
          go_wp2_with fail
          go_ret
          refine Ans.mkF (fun e => ?_) (hR.out.1.trans1 (by (repeat first | assumption | exact Frame.refl _ _ | refine Frame.trans1 ?_ (Frame.alloc _ _ _) | refine Frame.trans1 ?_ (Frame.drew _ _) | refine Frame.trans1 ?_ (Frame.drewN _ _ _))))
          subst e
          have := G1.out.symm.trans G2.out
          simp at this
          exact HX.out this
      · obtain rfl : k = xs.length := by omega
        go_wp2_with fail
        go_ret
        refine Ans.mkT (List.ext_getElem? fun j => ?_) (hR.out.1.trans1 (by (repeat first | assumption | exact Frame.refl _ _ | refine Frame.trans1 ?_ (Frame.alloc _ _ _) | refine Frame.trans1 ?_ (Frame.drew _ _) | refine Frame.trans1 ?_ (Frame.drewN _ _ _))))
        rcases Nat.lt_or_ge j xs.length with h | h
        · exact hR.out.2 j h
        · rw [List.getElem?_eq_none h, List.getElem?_eq_none (by omega)]
  · have hn : ((xs.length : Int) != (ys.length : Int)) = true := by simp; omega
    have HL := Lib.hid hlen
    clear hlen
    go_enter Tryz.func12, Tryz.ntmps12
    go_wp2_with fail
    go_ret
    exact Ans.mkF (fun e => HL.out (by rw [e])) (Frame.refl _ _)
end Go.Proofs.YtjcajidgaejhoaaGreat

namespace Go.Proofs.YtjcajidgaejhoaaGreat
open Go.RowKit
set_option linter.unusedSimpArgs false
set_option linter.unusedVariables false

theorem ch_gok : GOk (chN 3) (chE 2) (3 - 1) := by
  have h1 : GOk (chN 3) [] 0 := by
    have a := (GOk.nil.addNode 1)
    rw [show (1 : Int) = ((0 : Nat) : Int) + 1 from rfl, show ([] : List Nv) = chN 0 from rfl, chN_step 0 (by omega)] at a
    have b := a.addNode 2
    rw [show (2 : Int) = ((1 : Nat) : Int) + 1 from rfl] at b
    simp only at b
    rw [chN_step 1 (by omega)] at b
    have c := b.addNode 3
    rw [show (3 : Int) = ((2 : Nat) : Int) + 1 from rfl] at c
    simp only at c
    rw [chN_step 2 (by omega)] at c
    exact c
  have h2 := h1.add 1 txA 2
  have e2 := chE_step 0 (by omega)
  have h2 : GOk (chN 3) (chE 1) 1 := by
    have e : vAdd (chN 3) [] 0 1 txA 2 = ((1, 0), chE 1, 1) := e2
    rw [e] at h2; exact h2
  have h3 := h2.add 2 txA 3
  have e3 := chE_step 1 (by omega)
  have e : vAdd (chN 3) (chE 1) 1 2 txA 3 = ((2, 0), chE 2, 2) := e3
  rw [e] at h3; exact h3

set_option maxHeartbeats 8000000 in
set_option maxRecDepth 100000 in
theorem awake12 (w : World) : Calls Tryz.prog 8 #[] w fun e w' => e = .returned (.bool true) ∧ Frame [] w w' := by
  go_enter Tryz.func8, Tryz.ntmps8
  go_wp2_with fail
  refine (chain3 w).mono ?_
  rintro e w1 ⟨v, rfl, rg, f1⟩
  have hof := of_any _ v ⟨chN 3, chE 2, 3⟩ w1 rg (GOk.short ch_gok _) (by
    have hs : ∀ s, namedB s = true → s.size ≤ 9223372036854775807 := fun s hs => by simp [namedB] at hs; omega
    exact ⟨fun n hn => ⟨fun s h1 => hs s ((ch_gok.nd n hn).2.1 s h1), fun p hp => ⟨hs _ ((ch_gok.nd n hn).2.2 p hp).1, hs _ ((ch_gok.nd n hn).2.2 p hp).2⟩⟩, fun e he => hs _ (ch_gok.ed e he).1⟩)
  have HOF := Lib.hid hof
  have F1 := Lib.hid f1
  clear hof rg f1
  go_wp2_with fail
  refine HOF.out.mono ?_
  rintro e w2 (⟨hno, -⟩ | ⟨-, pb, rfl, o2⟩)
  · exact absurd (GOk.may (x := ⟨chN 3, chE 2, 3⟩) ch_gok) hno
  have O2 := Lib.hid o2
  clear o2 HOF
  go_wp2_with fail
  refine (inew_any O2.out ch_gok).mono ?_
  rintro e w3 ⟨xb, rfl, ix, f3⟩
  have F3 := Lib.hid ((F1.out.trans1 (VOwn.frame O2.out)).trans1 f3)
  have hl2 : (chE 2).length ≤ 1000000 := by decide
  have IX3 := Lib.hid ix
  clear ix f3 O2
  have HC : Hid (∀ w', Frame [] w3 w' → Calls Tryz.prog 19 #[.pointer (some ⟨xb, 0, none⟩), .string ⟨#[97]⟩] w' fun e w'' => e = .returned (.int .i64 2) ∧ Frame [] w' w'') := by
    show ∀ w', _
    intro w' f
    have := icount_any (IX3.out.frame0 f) hl2 txA
    rw [show ((chE 2).filter (labP txA)).length = 2 by decide +kernel] at this
    exact this
  have HO : Hid (∀ w', Frame [] w3 w' → Calls Tryz.prog 16 #[.pointer (some ⟨xb, 0, none⟩), .int .i64 2, .string ⟨#[97]⟩, .bool true] w' fun e w'' => ∃ a c, e = .returned (.slice a 1 c) ∧ Frame [] w' w'') := by
    show ∀ w', _
    intro w' f
    refine (iout_any (IX3.out.frame0 f) hl2 2 txA true).mono ?_
    rintro e w'' ⟨a, c, G, rfl, -, f, -⟩
    rw [show ((chE 2).filter (outP 2 txA true)).length = 1 by decide +kernel]
    exact ⟨a, c, rfl, f⟩
  have HI : Hid (∀ w', Frame [] w3 w' → Calls Tryz.prog 13 #[.pointer (some ⟨xb, 0, none⟩)] w' (FreshEnd 3 1 encI [1, 2, 3] w')) := by
    show ∀ w', _
    intro w' f
    have := ids_any (IX3.out.frame0 f) (by decide)
    rw [show (chN 3).map (·.1) = [1, 2, 3] by decide +kernel] at this
    exact this
  have HS : Hid (∀ w' a c bk, RF (fun _ => True) w' 1 encI a [1, 2, 3] → Blk w' bk 3 #[.int .i64 1, .int .i64 2, .int .i64 3] → Calls Tryz.prog 12 #[.slice a 3 c, .slice (some ⟨bk, 0, none⟩) 3 3] w' fun e w'' => e = .returned (.bool true) ∧ Frame [] w' w'') := by
    show ∀ w' a c bk, _
    intro w' a c bk h k
    refine Ans.yes (ints_any (fun _ => True) (fun _ => True) a (some ⟨bk, 0, none⟩) c 3 [1, 2, 3] [1, 2, 3] w' h (fun k' x hx => ⟨bk, 0, rfl, trivial, fun j u hu => ?_⟩) (by simp) (by simp)) rfl
    rw [k.cell]
    rcases (show k' = 0 ∨ k' = 1 ∨ k' = 2 ∨ 3 ≤ k' by omega) with rfl | rfl | rfl | h3
    · simp at hx; subst hx
      cases j with
      | zero => simp [encI] at hu; subst hu; rfl
      | succ j => simp [encI] at hu
    · simp at hx; subst hx
      cases j with
      | zero => simp [encI] at hu; subst hu; rfl
      | succ j => simp [encI] at hu
    · simp at hx; subst hx
      cases j with
      | zero => simp [encI] at hu; subst hu; rfl
      | succ j => simp [encI] at hu
    · rw [List.getElem?_eq_none (by simpa using h3)] at hx; cases hx
  clear IX3
  go_wp2_with fail
  refine (HC.out _ (by (repeat first | assumption | exact Frame.refl _ _ | refine Frame.trans1 ?_ (Frame.alloc _ _ _) | refine Frame.trans1 ?_ (Frame.drew _ _) | refine Frame.trans1 ?_ (Frame.drewN _ _ _)))).mono ?_
  rintro e w4 ⟨rfl, f4⟩
  go_wp2_with fail
  refine (HO.out _ (by (repeat first | assumption | exact Frame.refl _ _ | refine Frame.trans1 ?_ (Frame.alloc _ _ _) | refine Frame.trans1 ?_ (Frame.drew _ _) | refine Frame.trans1 ?_ (Frame.drewN _ _ _)))).mono ?_
  rintro e w5 ⟨a5, c5, rfl, f5⟩
  have F5 : Frame [] w3 w5 := f4.trans1 f5
  clear f4 f5
  go_wp2_with fail
  refine (HI.out _ (by (repeat first | assumption | exact Frame.refl _ _ | refine Frame.trans1 ?_ (Frame.alloc _ _ _) | refine Frame.trans1 ?_ (Frame.drew _ _) | refine Frame.trans1 ?_ (Frame.drewN _ _ _)))).mono ?_
  rintro e w6 ⟨a6, c6, G6, rfl, s6, f6, -⟩
  have R6 := Lib.hid (s6.rf encI_len (U := fun _ => True) (fun _ _ => trivial))
  have F6 := F5.trans1 f6
  clear s6 f6 F5
  go_wp2_with fail
  refine (HS.out _ _ _ _ (R6.out.frame0 (by (repeat first | assumption | exact Frame.refl _ _ | refine Frame.trans1 ?_ (Frame.alloc _ _ _) | refine Frame.trans1 ?_ (Frame.drew _ _) | refine Frame.trans1 ?_ (Frame.drewN _ _ _)))) (Blk.fresh rfl)).mono ?_
  rintro e w7 ⟨rfl, f7⟩
  have F7 := (F6.trans1 (show Frame [] w6 _ from by (repeat first | assumption | exact Frame.refl _ _ | refine Frame.trans1 ?_ (Frame.alloc _ _ _) | refine Frame.trans1 ?_ (Frame.drew _ _) | refine Frame.trans1 ?_ (Frame.drewN _ _ _)))).trans1 f7
  go_wp2_with fail
  go_ret
  exact ⟨rfl, F3.out.trans1 F7⟩
end Go.Proofs.YtjcajidgaejhoaaGreat

