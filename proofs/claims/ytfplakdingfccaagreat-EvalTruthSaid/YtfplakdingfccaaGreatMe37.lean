/- slices.Index, slices.Contains at numbers. eval.check, where weights may be; eval.Without. -/
import Derived.Test.YtfplakdingfccaaGreatMe10
import Derived.Test.YtfplakdingfccaaGreatMe36
import Derived.Test.YtfplakdingfccaaGreatMe23
namespace Go.Proofs.YtfplakdingfccaaGreat
open Go.RowKit
set_option linter.unusedSimpArgs false
set_option linter.unusedVariables false

def InEndI (P : Prop) (w : World) (e : Ending) (w' : World) : Prop := ∃ i : Int, e = .returned (.int .i64 i) ∧ (0 ≤ i ↔ P) ∧ Frame [] w w'
set_option maxHeartbeats 4000000 in
theorem idxConI (a : Option Addr) (c : Nat) (xs : List Int) (x : Int) (w : World) (h : RdI w a xs) (hl : xs.length ≤ 1000000) :
    Calls Tryz.prog 104 #[.slice a xs.length c, .int .i64 x] w (InEndI (x ∈ xs) w) := by
  have H := Lib.hid h
  clear h
  go_enter Tryz.func104, Tryz.ntmps104
  go_wp2_with fail
  have FR := Lib.hid (Frame.refl [] w)
  go_loopw [8] (fun i wr => ∃ k : Nat, k ≤ xs.length ∧ i = .int .i64 k ∧ Hid (Frame [] w wr ∧ ∀ j z, j < k → xs[j]? = some z → z ≠ x)) (fun i _ => xs.length - (intOf i).toNat)
  case atStart => exact ⟨0, Nat.zero_le _, rfl, Frame.refl _ _, fun j _ h => by omega⟩
  case round =>
    obtain ⟨k, hk, rfl, hR⟩ := hrel
    rename World => wr

    by_cases hlt : k < xs.length
    · have g1 : xs[k]? = some xs[k] := by simp [hlt]
      obtain ⟨b, off, rfl, x0⟩ : ∃ b off, a = some ⟨b, off, none⟩ ∧ wr.cell? ⟨b, off + k, none⟩ = some (.int .i64 xs[k]) := by
        rcases H.out.frame (FR.out.trans1 hR.out.1) with h | ⟨b, off, h1, _, h3⟩
        · subst h; simp at hlt
        · exact ⟨b, off, h1, h3 k hlt⟩
      generalize xs[k] = y at *
      have G1 := Lib.hid g1
      clear g1
      by_cases hxy : x = y
      · have hb : (x == y) = true := by simp [hxy]
        have HX := Lib.hid hxy
        clear hxy
        go_wp2_with fail
        go_ret
        exact ⟨k, rfl, ⟨fun _ => HX.out ▸ List.mem_of_getElem? G1.out, fun _ => by omega⟩, (FR.out.trans1 hR.out.1).trans1 (by (repeat first | assumption | exact Frame.refl _ _ | refine Frame.trans1 ?_ (Frame.alloc _ _ _) | refine Frame.trans1 ?_ (Frame.drew _ _) | refine Frame.trans1 ?_ (Frame.drewN _ _ _)))⟩
      · have hb : (x == y) = false := by simpa using hxy
        have HX := Lib.hid hxy
        clear hxy
        go_wp2_with fail
        go_roundw
        case rel => exact ⟨k + 1, by omega, by first | rfl | go_num, Lib.hid ⟨hR.out.1.trans1 (by (repeat first | assumption | exact Frame.refl _ _ | refine Frame.trans1 ?_ (Frame.alloc _ _ _) | refine Frame.trans1 ?_ (Frame.drew _ _) | refine Frame.trans1 ?_ (Frame.drewN _ _ _))), fun j z hj hz => by
          rcases Nat.lt_or_ge j k with h | h
          · exact hR.out.2 j z h hz
          · have : j = k := by omega
            subst this
            rw [G1.out] at hz
            cases hz
            exact fun e => HX.out e.symm⟩⟩
        case measure => first | (simp [intOf]; done) | (simp [intOf]; omega)
    · obtain rfl : k = xs.length := by omega
      go_wp2_with fail
      go_ret
      exact ⟨-1, rfl, ⟨fun h => absurd h (by omega), fun hm => by
        obtain ⟨j, hj, e⟩ := List.mem_iff_getElem.mp hm
        exact absurd e (hR.out.2 j xs[j] hj (by simp))⟩, (FR.out.trans1 hR.out.1).trans1 (by (repeat first | assumption | exact Frame.refl _ _ | refine Frame.trans1 ?_ (Frame.alloc _ _ _) | refine Frame.trans1 ?_ (Frame.drew _ _) | refine Frame.trans1 ?_ (Frame.drewN _ _ _)))⟩
theorem conI (a : Option Addr) (c : Nat) (xs : List Int) (x : Int) (w : World) (h : RdI w a xs) (hl : xs.length ≤ 1000000) (b : Bool) (hb : b = true ↔ x ∈ xs) :
    Calls Tryz.prog 67 #[.slice a xs.length c, .int .i64 x] w fun e w' => e = .returned (.bool b) ∧ Frame [] w w' := by
  have HI := Lib.hid (fun w' (f : Frame [] w w') => idxConI a c xs x w' (h.frame f) hl)
  have HB := Lib.hid hb
  clear h hb
  go_enter Tryz.func67, Tryz.ntmps67
  go_wp2_with fail
  refine (HI.out _ (by (repeat first | assumption | exact Frame.refl _ _ | refine Frame.trans1 ?_ (Frame.alloc _ _ _) | refine Frame.trans1 ?_ (Frame.drew _ _) | refine Frame.trans1 ?_ (Frame.drewN _ _ _)))).mono ?_
  rintro e w3 ⟨i, rfl, hi, f3⟩
  have F3 := Lib.hid (And.intro hi f3)
  clear hi f3
  go_wp2_with fail
  go_ret
  have E : decide (0 ≤ i) = b := by
    cases b with
    | true => exact decide_eq_true (F3.out.1.2 (HB.out.1 rfl))
    | false => exact decide_eq_false (fun h => by have := HB.out.2 (F3.out.1.1 h); simp at this)
  exact ⟨by rw [← E]; rfl, (show Frame [] w _ from by (repeat first | assumption | exact Frame.refl _ _ | refine Frame.trans1 ?_ (Frame.alloc _ _ _) | refine Frame.trans1 ?_ (Frame.drew _ _) | refine Frame.trans1 ?_ (Frame.drewN _ _ _))).trans1 F3.out.2⟩
end Go.Proofs.YtfplakdingfccaaGreat

namespace Go.Proofs.YtfplakdingfccaaGreat
open Go.RowKit
set_option linter.unusedSimpArgs false
set_option linter.unusedVariables false

set_option maxRecDepth 100000 in
set_option maxHeartbeats 4000000 in
theorem check_ok {V : Type} {n : Int} {R : Rg V} {Is : World → Value → V → Prop} {Pl Tm : V → V → Prop} {Sr : V → Prop} (hS : SemOk n R Is Pl Tm Sr)
    (a : Option Addr) (cap : Nat) (ws : List Wg) (w : World) (hl : ws.length ≤ 1000000) (hw : WRd (fun _ => True) w a ws)
    (hm : ∀ x ∈ ws, x.sem = n → ∀ w', Frame [] w w' → Calls Tryz.prog 91 #[x.val] w' fun e w'' => e = .returned (.int .i64 0) ∧ Frame [] w' w'') :
    Calls Tryz.prog 53 #[.slice a ws.length cap, .int .i64 n] w fun e w' => e = .returned (.int .i64 0) ∧ Frame [] w w' := by
  have hst := fun (w : World) (a : Addr) (q : Nat) (m : Mode) => run_store Tryz.prog w a (.float .f64 q) m rfl
  have S := Lib.hid hS
  have HW := Lib.hid hw
  have HM := Lib.hid hm
  clear hS hw hm
  go_enter Tryz.func53, Tryz.ntmps53
  go_wp2_with fail
  refine (S.out.zero _).mono ?_
  rintro e w1 ⟨z, rfl, iz, f1⟩
  obtain ⟨zi, za, zl, zc, zv, zf, rfl⟩ := S.out.form iz
  have F1 := Lib.hid (f1.trans1 (Frame.alloc [] w1 (.cells #[.int .i64 n, .bool zi, .slice za zl zc, .int .i64 zv, .float .f64 zf] 37)))
  clear f1 iz
  go_upto_region 4 with fail
  generalize w1.alloc (.cells #[.int .i64 n, .bool zi, .slice za zl zc, .int .i64 zv, .float .f64 zf] 37) = w2 at *
  go_wp2_with fail
  go_loopw [8, 9, 20] (fun _ _ i wr => ∃ t : Nat, t ≤ ws.length ∧ i = .int .i64 t ∧ Hid (Frame [] w wr)) (fun _ _ i _ => (ws.length - intOf i).toNat)
  case atStart => exact ⟨0, Nat.zero_le _, rfl, F1⟩
  case round =>
    rename World => wr
    obtain ⟨t, ht, rfl, hR⟩ := hrel
    by_cases hlt : t < ws.length
    · have hx : ws[t]? = some ws[t] := List.getElem?_eq_getElem hlt
      obtain ⟨b, off, rfl, -, hc⟩ := HW.out t _ hx
      have hxm : ws[t] ∈ ws := List.getElem_mem hlt
      generalize ws[t] = x at *
      have x0 := hR.out.cell (hc 0 _ rfl) (by simp)
      have x1 := hR.out.cell (hc 1 _ rfl) (by simp)
      have x2 := hR.out.cell (hc 2 _ rfl) (by simp)
      have x3 := hR.out.cell (hc 3 _ rfl) (by simp)
      have x4 := hR.out.cell (hc 4 _ rfl) (by simp)
      have x5 := hR.out.cell (hc 5 _ rfl) (by simp)
      simp only [Nat.add_zero] at x0
      have HXM := Lib.hid hxm
      clear hc hx hxm
      obtain ⟨tk, sm, yi, ya, yl, yc, yv, yf⟩ := x
      have FW := Lib.hid (hR.out.trans1 (Frame.alloc [] wr (.cells #[.int .i64 tk, .int .i64 sm, .bool yi, .slice ya yl yc, .int .i64 yv, .float .f64 yf] 39)))
      by_cases hs : sm = n
      · subst hs
        have CM := Lib.hid (HM.out _ HXM.out rfl _ FW.out)
        go_wp2_with fail
        refine CM.out.mono ?_
        rintro e w5 ⟨rfl, f5⟩
        have F5 := Lib.hid (FW.out.trans1 f5)
        clear f5 CM
        go_wp2_with fail
        go_roundw
        case rel => exact ⟨t + 1, by omega, by first | rfl | go_num, F5⟩
        case measure => first | (simp [intOf]; done) | (simp [intOf]; omega)
      · have hb : (sm == n) = false := by simpa using hs
        have hb2 : (sm != n) = true := by simp [bne, hb]
        clear hs
        go_wp2_with fail
        go_roundw
        case rel => exact ⟨t + 1, by omega, by first | rfl | go_num, FW⟩
        case measure => first | (simp [intOf]; done) | (simp [intOf]; omega)
    · obtain rfl : t = ws.length := by omega
      go_wp2_with fail
      go_ret
      exact ⟨rfl, hR.out⟩

set_option maxRecDepth 100000 in
set_option maxHeartbeats 4000000 in
theorem evWithout_any {V : Type} {n : Int} {R : Rg V} {Is : World → Value → V → Prop} {Pl Tm : V → V → Prop} {Sr : V → Prop} (hS : SemOk n R Is Pl Tm Sr)
    (pb : Nat) (F : List Nat) (l : List Gt) (left : Int) (hI : Inv l) (root : Nat) (hr : root < l.length) (hlen : l.length ≤ 100000)
    (wa : Option Addr) (wn wc : Nat) (ta : Option Addr) (tn tc : Nat) (W : Int → V) (dead : Int → Bool) (w : World) (h : St w pb F l left)
    (hC : ∀ w', Frame [] w w' → Calls Tryz.prog 53 #[.slice wa wn wc, .int .i64 n] w' fun e w'' => e = .returned (.int .i64 0) ∧ Frame [] w' w'')
    (hW : ∀ w' t, Frame [] w w' → Calls Tryz.prog 56 #[.slice wa wn wc, .int .i64 n, .int .i64 t] w' fun e w'' => WEnd Is (W t) w' e w'')
    (hT : ∀ w' x, Frame [] w w' → Calls Tryz.prog 67 #[.slice ta tn tc, .int .i64 x] w' fun e w'' => e = .returned (.bool (dead x)) ∧ Frame [] w' w'')
    (hF : ∀ k ∈ reach l root, ∀ g, l[k]? = some g → FitG Pl Tm Sr (worth R (killed R W dead) l) g) :
    Calls Tryz.prog 16 #[.pointer (some ⟨pb, 0, none⟩), .int .i64 root, .int .i64 n, .slice wa wn wc, .slice ta tn tc] w fun e w' => VEnd Is (worth R (killed R W dead) l root) w e w' := by
  have hst := fun (w : World) (a : Addr) (q : Nat) (m : Mode) => run_store Tryz.prog w a (.float .f64 q) m rfl
  have S := Lib.hid hS
  have H := Lib.hid h
  have HC := Lib.hid hC
  have HW := Lib.hid hW
  have HT := Lib.hid hT
  have HF := Lib.hid hF
  have HI := Lib.hid hI
  have hg : l[root]? = some l[root] := List.getElem?_eq_getElem hr
  generalize l[root] = g at hg
  have HG := Lib.hid hg
  clear hS h hC hW hT hF hI hg
  obtain ⟨gk, ga, gb⟩ := g
  go_enter Tryz.func16, Tryz.ntmps16
  have hb10 := Blk.new w 37 #[.int .i64 0, .bool false, .slice none 0 0, .int .i64 0, .float .f64 0]
  have B0 := Lib.hid hb10
  have FA := Lib.hid (Frame.alloc [] w (.cells #[.int .i64 0, .bool false, .slice none 0 0, .int .i64 0, .float .f64 0] 37))
  clear hb10
  go_wp2_with fail
  refine (S.out.zero _).mono ?_
  rintro e w1 ⟨z, rfl, iz, f1⟩
  obtain ⟨zi, za, zl, zc, zv, zf, rfl⟩ := S.out.form iz
  have B1 := Lib.hid ((B0.out.frame f1 (by simp)).alloc (.cells #[.int .i64 n, .bool zi, .slice za zl zc, .int .i64 zv, .float .f64 zf] 37))
  have F1 := Lib.hid ((FA.out.trans1 f1).trans1 (Frame.alloc [] w1 (.cells #[.int .i64 n, .bool zi, .slice za zl zc, .int .i64 zv, .float .f64 zf] 37)))
  clear f1 iz B0 FA
  go_upto_region 4 with fail
  generalize w1.alloc (.cells #[.int .i64 n, .bool zi, .slice za zl zc, .int .i64 zv, .float .f64 zf] 37) = w2 at *
  have GA := Lib.hid (gate_get_any pb F l left root ⟨gk, ga, gb⟩ w2 (H.out.frame0 F1.out) HG.out)
  go_wp2_with fail
  refine GA.out.mono ?_
  rintro e w3 ⟨rfl, f3⟩
  have B3 := Lib.hid ((B1.out.frame f3 (by simp)).alloc (.cells #[.int .i64 gk, .int .i64 ga, .int .i64 gb] 98))
  have F3 := Lib.hid ((F1.out.trans1 f3).trans1 (Frame.alloc [] w3 (.cells #[.int .i64 gk, .int .i64 ga, .int .i64 gb] 98)))
  clear f3 GA B1 F1
  go_upto_region 7 with fail
  generalize w3.alloc (.cells #[.int .i64 gk, .int .i64 ga, .int .i64 gb] 98) = w4 at *
  go_wp2_with fail
  refine (HC.out _ F3.out).mono ?_
  rintro e w5 ⟨rfl, f5⟩
  have B5 := Lib.hid (B3.out.frame f5 (by simp))
  have F5 := Lib.hid (F3.out.trans1 f5)
  clear f5 B3 F3
  go_wp2_with fail
  refine (reach_any pb F l left root w5 (H.out.frame0 F5.out) HI.out hr (by omega)).mono ?_
  rintro e w6 ⟨v, G, rfl, s6, f6, -⟩
  obtain ⟨va, vcap, hv⟩ := s6.form
  subst hv
  rw [List.length_map] at s6 ⊢
  have B6 := Lib.hid (B5.out.frame f6 (by simp))
  have F6 := Lib.hid (F5.out.trans1 f6)
  have HRl : Hid ((reach l root).length ≤ 1000000) := by show _ ≤ _; have := List.length_filter_le (reachM l root) (List.range (root + 1)); unfold reach; simp at this; omega
  have GT := Lib.hid (gates_any S.out pb F l left HI.out (reach l root) (reach_closed HI.out hr) HRl.out va vcap G wa wn wc ta tn tc W dead w6 (H.out.frame0 F6.out) s6 (fun w' t f => HW.out w' t (F6.out.trans1 f)) (fun w' x f => HT.out w' x (F6.out.trans1 f)) HF.out)
  clear f6 s6 B5 F5
  generalize hRL : (reach l root).length = rl at *
  clear hRL
  go_wp2_with fail
  refine GT.out.mono ?_
  rintro e w7 ⟨mb, rfl, gm, f7⟩
  obtain ⟨u, isu, lk⟩ := gm.look (mem_reach.mpr ⟨Nat.le_refl root, reachM_root l root⟩)
  obtain ⟨ui, ua, ul, uc, uv, uf, rfl⟩ := S.out.form isu
  have la := lk w7 (Frame.refl _ _)
  have B7 := Lib.hid (B6.out.frame f7 (by simp))
  have F7 := Lib.hid (F6.out.trans1 f7)
  have ISU := Lib.hid isu
  have y0 := B7.out.at 0 rfl
  have y1 := B7.out.at 1 rfl
  have y2 := B7.out.at 2 rfl
  have y3 := B7.out.at 3 rfl
  have y4 := B7.out.at 4 rfl
  have z0 := B7.out.frozen
  clear gm lk isu f7 B6 F6 GT
  have hB9 := Lib.hid (putV B7.out (.int .i64 n) (.bool ui) (.slice ua ul uc) (.int .i64 uv) (.float .f64 uf))
  have hF9 := Lib.hid (putV_frame (w := w) (b := w.heap.size) (Nat.le_refl _) F7.out (.int .i64 n) (.bool ui) (.slice ua ul uc) (.int .i64 uv) (.float .f64 uf))
  have hG9 : Hid (Frame [w.heap.size] w7 (((((w7.setCell ⟨w.heap.size, 0, none⟩ (.int .i64 n)).setCell ⟨w.heap.size, 1, none⟩ (.bool ui)).setCell ⟨w.heap.size, 2, none⟩ (.slice ua ul uc)).setCell ⟨w.heap.size, 3, none⟩ (.int .i64 uv)).setCell ⟨w.heap.size, 4, none⟩ (.float .f64 uf))) := by
    show Frame _ _ _
    have st : ∀ {x : World} (f : Frame [w.heap.size] w7 x) (i : Nat) (v : Value), Frame [w.heap.size] w7 (x.setCell ⟨w.heap.size, i, none⟩ v) := fun f i v => f.trans1 (Frame.setCell (S := [w.heap.size]) _ _ _ (by simp))
    exact st (st (st (st (st (Frame.refl _ _) 0 _) 1 _) 2 _) 3 _) 4 _
  go_wp2_with fail
  refine bodyPost_ret (results_val2 rfl _ _ _ _ _ _ _ _ rfl hB9.out) rfl ?_
  exact ⟨_, rfl, S.out.keep _ _ _ _ ISU.out (KeepD.blk hG9.out B7.out (by decide)), hF9.out⟩
end Go.Proofs.YtfplakdingfccaaGreat

