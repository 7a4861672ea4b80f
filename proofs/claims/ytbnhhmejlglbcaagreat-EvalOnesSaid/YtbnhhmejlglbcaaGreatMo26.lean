/- eval.check, where weights may be; eval.Without. eval.Truth. -/
import Derived.Test.YtbnhhmejlglbcaaGreatMo24
import Derived.Test.YtbnhhmejlglbcaaGreatMo15
import Derived.Test.YtbnhhmejlglbcaaGreatMo25
import Derived.Test.YtbnhhmejlglbcaaGreatMo13
import Derived.Test.YtbnhhmejlglbcaaGreatMo16
import Derived.Deep.AppendLies
namespace Go.Proofs.YtbnhhmejlglbcaaGreat
open Go.RowKit
set_option linter.unusedSimpArgs false
set_option linter.unusedVariables false

set_option maxRecDepth 100000 in
set_option maxHeartbeats 4000000 in
theorem check_ok {V : Type} {n : Int} {R : Rg V} {Is : World → Value → V → Prop} {Pl Tm : V → V → Prop} {Sr : V → Prop} (hS : SemOk n R Is Pl Tm Sr)
    (a : Option Addr) (cap : Nat) (ws : List Wg) (w : World) (hl : ws.length ≤ 1000000) (hw : WRd (fun _ => True) w a ws)
    (hm : ∀ x ∈ ws, x.sem = n → ∀ w', Frame [] w w' → Calls Tryz.prog 108 #[x.val] w' fun e w'' => e = .returned (.int .i64 0) ∧ Frame [] w' w'') :
    Calls Tryz.prog 66 #[.slice a ws.length cap, .int .i64 n] w fun e w' => e = .returned (.int .i64 0) ∧ Frame [] w w' := by
  have hst := fun (w : World) (a : Addr) (q : Nat) (m : Mode) => run_store Tryz.prog w a (.float .f64 q) m rfl
  have S := Lib.hid hS
  have HW := Lib.hid hw
  have HM := Lib.hid hm
  clear hS hw hm
  go_enter Tryz.func66, Tryz.ntmps66
  go_wp2_with fail
  refine (S.out.zero _).mono ?_
  rintro e w1 ⟨z, rfl, iz, f1⟩
  obtain ⟨zi, za, zl, zc, zv, zf, rfl⟩ := S.out.form iz
  have F1 := Lib.hid (f1.trans1 (Frame.alloc [] w1 (.cells #[.int .i64 n, .bool zi, .slice za zl zc, .int .i64 zv, .float .f64 zf] 37)))
  clear f1 iz
  go_upto_region 4 with fail
  generalize w1.alloc (.cells #[.int .i64 n, .bool zi, .slice za zl zc, .int .i64 zv, .float .f64 zf] 37) = w2 at *
  go_wp2_with fail
  go_loopw [8, 9, 20] (fun _ _ i wr => ∃ t : Nat, t ≤ ws.length ∧ i = .int .i64 t ∧ Hid (Frame [] w wr)) (fun _ _ i _ => (ws.length - intOf i).toNat)
  case atStart => exact ⟨0, Nat.zero_le _, rfl, F1⟩
  case round =>
    rename World => wr
    obtain ⟨t, ht, rfl, hR⟩ := hrel
    by_cases hlt : t < ws.length
    · have hx : ws[t]? = some ws[t] := List.getElem?_eq_getElem hlt
      obtain ⟨b, off, rfl, -, hc⟩ := HW.out t _ hx
      have hxm : ws[t] ∈ ws := List.getElem_mem hlt
      generalize ws[t] = x at *
      have x0 := hR.out.cell (hc 0 _ rfl) (by simp)
      have x1 := hR.out.cell (hc 1 _ rfl) (by simp)
      have x2 := hR.out.cell (hc 2 _ rfl) (by simp)
      have x3 := hR.out.cell (hc 3 _ rfl) (by simp)
      have x4 := hR.out.cell (hc 4 _ rfl) (by simp)
      have x5 := hR.out.cell (hc 5 _ rfl) (by simp)
      simp only [Nat.add_zero] at x0
      have HXM := Lib.hid hxm
      clear hc hx hxm
      obtain ⟨tk, sm, yi, ya, yl, yc, yv, yf⟩ := x
      have FW := Lib.hid (hR.out.trans1 (Frame.alloc [] wr (.cells #[.int .i64 tk, .int .i64 sm, .bool yi, .slice ya yl yc, .int .i64 yv, .float .f64 yf] 39)))
      by_cases hs : sm = n
      · subst hs
        have CM := Lib.hid (HM.out _ HXM.out rfl _ FW.out)
        go_wp2_with fail
        refine CM.out.mono ?_
        rintro e w5 ⟨rfl, f5⟩
        have F5 := Lib.hid (FW.out.trans1 f5)
        clear f5 CM
        go_wp2_with fail
        go_roundw
        case rel => exact ⟨t + 1, by omega, by first | rfl | go_num, F5⟩
        case measure => first | (simp [intOf]; done) | (simp [intOf]; omega)
      · have hb : (sm == n) = false := by simpa using hs
        have hb2 : (sm != n) = true := by simp [bne, hb]
        clear hs
        go_wp2_with fail
        go_roundw
        case rel => exact ⟨t + 1, by omega, by first | rfl | go_num, FW⟩
        case measure => first | (simp [intOf]; done) | (simp [intOf]; omega)
    · obtain rfl : t = ws.length := by omega
      go_wp2_with fail
      go_ret
      exact ⟨rfl, hR.out⟩

set_option maxRecDepth 100000 in
set_option maxHeartbeats 4000000 in
theorem evWithout_any {V : Type} {n : Int} {R : Rg V} {Is : World → Value → V → Prop} {Pl Tm : V → V → Prop} {Sr : V → Prop} (hS : SemOk n R Is Pl Tm Sr)
    (pb : Nat) (F : List Nat) (l : List Gt) (left : Int) (hI : Inv l) (root : Nat) (hr : root < l.length) (hlen : l.length ≤ 100000)
    (wa : Option Addr) (wn wc : Nat) (ta : Option Addr) (tn tc : Nat) (W : Int → V) (dead : Int → Bool) (w : World) (h : St w pb F l left)
    (hC : ∀ w', Frame [] w w' → Calls Tryz.prog 66 #[.slice wa wn wc, .int .i64 n] w' fun e w'' => e = .returned (.int .i64 0) ∧ Frame [] w' w'')
    (hW : ∀ w' t, Frame [] w w' → Calls Tryz.prog 69 #[.slice wa wn wc, .int .i64 n, .int .i64 t] w' fun e w'' => WEnd Is (W t) w' e w'')
    (hT : ∀ w' x, Frame [] w w' → Calls Tryz.prog 79 #[.slice ta tn tc, .int .i64 x] w' fun e w'' => e = .returned (.bool (dead x)) ∧ Frame [] w' w'')
    (hF : ∀ k ∈ reach l root, ∀ g, l[k]? = some g → FitG Pl Tm Sr (worth R (killed R W dead) l) g) :
    Calls Tryz.prog 17 #[.pointer (some ⟨pb, 0, none⟩), .int .i64 root, .int .i64 n, .slice wa wn wc, .slice ta tn tc] w fun e w' => VEnd Is (worth R (killed R W dead) l root) w e w' := by
  have hst := fun (w : World) (a : Addr) (q : Nat) (m : Mode) => run_store Tryz.prog w a (.float .f64 q) m rfl
  have S := Lib.hid hS
  have H := Lib.hid h
  have HC := Lib.hid hC
  have HW := Lib.hid hW
  have HT := Lib.hid hT
  have HF := Lib.hid hF
  have HI := Lib.hid hI
  have hg : l[root]? = some l[root] := List.getElem?_eq_getElem hr
  generalize l[root] = g at hg
  have HG := Lib.hid hg
  clear hS h hC hW hT hF hI hg
  obtain ⟨gk, ga, gb⟩ := g
  go_enter Tryz.func17, Tryz.ntmps17
  have hb10 := Blk.new w 37 #[.int .i64 0, .bool false, .slice none 0 0, .int .i64 0, .float .f64 0]
  have B0 := Lib.hid hb10
  have FA := Lib.hid (Frame.alloc [] w (.cells #[.int .i64 0, .bool false, .slice none 0 0, .int .i64 0, .float .f64 0] 37))
  clear hb10
  go_wp2_with fail
  refine (S.out.zero _).mono ?_
  rintro e w1 ⟨z, rfl, iz, f1⟩
  obtain ⟨zi, za, zl, zc, zv, zf, rfl⟩ := S.out.form iz
  have B1 := Lib.hid ((B0.out.frame f1 (by simp)).alloc (.cells #[.int .i64 n, .bool zi, .slice za zl zc, .int .i64 zv, .float .f64 zf] 37))
  have F1 := Lib.hid ((FA.out.trans1 f1).trans1 (Frame.alloc [] w1 (.cells #[.int .i64 n, .bool zi, .slice za zl zc, .int .i64 zv, .float .f64 zf] 37)))
  clear f1 iz B0 FA
  go_upto_region 4 with fail
  generalize w1.alloc (.cells #[.int .i64 n, .bool zi, .slice za zl zc, .int .i64 zv, .float .f64 zf] 37) = w2 at *
  have GA := Lib.hid (gate_get_any pb F l left root ⟨gk, ga, gb⟩ w2 (H.out.frame0 F1.out) HG.out)
  go_wp2_with fail
  refine GA.out.mono ?_
  rintro e w3 ⟨rfl, f3⟩
  have B3 := Lib.hid ((B1.out.frame f3 (by simp)).alloc (.cells #[.int .i64 gk, .int .i64 ga, .int .i64 gb] 112))
  have F3 := Lib.hid ((F1.out.trans1 f3).trans1 (Frame.alloc [] w3 (.cells #[.int .i64 gk, .int .i64 ga, .int .i64 gb] 112)))
  clear f3 GA B1 F1
  go_upto_region 7 with fail
  generalize w3.alloc (.cells #[.int .i64 gk, .int .i64 ga, .int .i64 gb] 112) = w4 at *
  go_wp2_with fail
  refine (HC.out _ F3.out).mono ?_
  rintro e w5 ⟨rfl, f5⟩
  have B5 := Lib.hid (B3.out.frame f5 (by simp))
  have F5 := Lib.hid (F3.out.trans1 f5)
  clear f5 B3 F3
  go_wp2_with fail
  refine (reach_any pb F l left root w5 (H.out.frame0 F5.out) HI.out hr (by omega)).mono ?_
  rintro e w6 ⟨v, G, rfl, s6, f6, -⟩
  obtain ⟨va, vcap, hv⟩ := s6.form
  subst hv
  rw [List.length_map] at s6 ⊢
  have B6 := Lib.hid (B5.out.frame f6 (by simp))
  have F6 := Lib.hid (F5.out.trans1 f6)
  have HRl : Hid ((reach l root).length ≤ 1000000) := by show _ ≤ _; have := List.length_filter_le (reachM l root) (List.range (root + 1)); unfold reach; simp at this; omega
  have GT := Lib.hid (gates_any S.out pb F l left HI.out (reach l root) (reach_closed HI.out hr) HRl.out va vcap G wa wn wc ta tn tc W dead w6 (H.out.frame0 F6.out) s6 (fun w' t f => HW.out w' t (F6.out.trans1 f)) (fun w' x f => HT.out w' x (F6.out.trans1 f)) HF.out)
  clear f6 s6 B5 F5
  generalize hRL : (reach l root).length = rl at *
  clear hRL
  go_wp2_with fail
  refine GT.out.mono ?_
  rintro e w7 ⟨mb, rfl, gm, f7⟩
  obtain ⟨u, isu, lk⟩ := gm.look (mem_reach.mpr ⟨Nat.le_refl root, reachM_root l root⟩)
  obtain ⟨ui, ua, ul, uc, uv, uf, rfl⟩ := S.out.form isu
  have la := lk w7 (Frame.refl _ _)
  have B7 := Lib.hid (B6.out.frame f7 (by simp))
  have F7 := Lib.hid (F6.out.trans1 f7)
  have ISU := Lib.hid isu
  have y0 := B7.out.at 0 rfl
  have y1 := B7.out.at 1 rfl
  have y2 := B7.out.at 2 rfl
  have y3 := B7.out.at 3 rfl
  have y4 := B7.out.at 4 rfl
  have z0 := B7.out.frozen
  clear gm lk isu f7 B6 F6 GT
  have hB9 := Lib.hid (putV B7.out (.int .i64 n) (.bool ui) (.slice ua ul uc) (.int .i64 uv) (.float .f64 uf))
  have hF9 := Lib.hid (putV_frame (w := w) (b := w.heap.size) (Nat.le_refl _) F7.out (.int .i64 n) (.bool ui) (.slice ua ul uc) (.int .i64 uv) (.float .f64 uf))
  have hG9 : Hid (Frame [w.heap.size] w7 (((((w7.setCell ⟨w.heap.size, 0, none⟩ (.int .i64 n)).setCell ⟨w.heap.size, 1, none⟩ (.bool ui)).setCell ⟨w.heap.size, 2, none⟩ (.slice ua ul uc)).setCell ⟨w.heap.size, 3, none⟩ (.int .i64 uv)).setCell ⟨w.heap.size, 4, none⟩ (.float .f64 uf))) := by
    show Frame _ _ _
    have st : ∀ {x : World} (f : Frame [w.heap.size] w7 x) (i : Nat) (v : Value), Frame [w.heap.size] w7 (x.setCell ⟨w.heap.size, i, none⟩ v) := fun f i v => f.trans1 (Frame.setCell (S := [w.heap.size]) _ _ _ (by simp))
    exact st (st (st (st (st (Frame.refl _ _) 0 _) 1 _) 2 _) 3 _) 4 _
  go_wp2_with fail
  refine bodyPost_ret (results_val2 rfl _ _ _ _ _ _ _ _ rfl hB9.out) rfl ?_
  exact ⟨_, rfl, S.out.keep _ _ _ _ ISU.out (KeepD.blk hG9.out B7.out (by decide)), hF9.out⟩
end Go.Proofs.YtbnhhmejlglbcaaGreat

namespace Go.Proofs.YtbnhhmejlglbcaaGreat
open Go.RowKit
set_option linter.unusedSimpArgs false
set_option linter.unusedVariables false

theorem sl_rdI {w : World} {a : Option Addr} {n c : Nat} {xs : List Int} {G : List Nat} (h : Sl w 3 1 encI (.slice a n c) xs G) : RdI w a xs := by
  rcases h with ⟨_, h, _⟩ | ⟨b, cap, h1, rfl, h2⟩
  · exact .inl h
  · simp only [Value.slice.injEq] at h1
    obtain ⟨rfl, -, -⟩ := h1
    refine .inr ⟨b, 0, rfl, h2.lt, fun k hk => ?_⟩
    rw [Nat.zero_add]
    refine h2.cell ?_
    have := flat_get (enc := encI) (sz := 1) encI_len (xs := xs) (k := k) (x := xs[k]) (by simp [hk]) (j := 0) (u := .int .i64 xs[k]) rfl
    simpa using this
/-- No weights: each token is worth 1. -/
theorem weigh_nil {V : Type} {n : Int} {R : Rg V} {Is : World → Value → V → Prop} {Pl Tm : V → V → Prop} {Sr : V → Prop} (hS : SemOk n R Is Pl Tm Sr) (dec : Wg → V) (c : Nat) (tok : Int) (w : World) :
    Calls Tryz.prog 69 #[.slice none 0 c, .int .i64 n, .int .i64 tok] w fun e w' => WEnd Is R.o w e w' :=
  weigh_any hS dec none c [] tok w (by simp) (fun k x h => by simp at h) (fun x hx => by simp at hx)
theorem check_nil {V : Type} {n : Int} {R : Rg V} {Is : World → Value → V → Prop} {Pl Tm : V → V → Prop} {Sr : V → Prop} (hS : SemOk n R Is Pl Tm Sr) (c : Nat) (w : World) :
    Calls Tryz.prog 66 #[.slice none 0 c, .int .i64 n] w fun e w' => e = .returned (.int .i64 0) ∧ Frame [] w w' :=
  check_ok hS none c [] w (by simp) (fun k x h => by simp at h) (fun x hx => by simp at hx)
/-- Without weights. -/
theorem evWithout_nil {V : Type} {n : Int} {R : Rg V} {Is : World → Value → V → Prop} {Pl Tm : V → V → Prop} {Sr : V → Prop} (hS : SemOk n R Is Pl Tm Sr) (dec : Wg → V)
    (pb : Nat) (F : List Nat) (l : List Gt) (left : Int) (hI : Inv l) (root : Nat) (hr : root < l.length) (hlen : l.length ≤ 100000) (c : Nat)
    (ta : Option Addr) (tc : Nat) (ts : List Int) (w : World) (h : St w pb F l left) (ht : RdI w ta ts) (htl : ts.length ≤ 1000000)
    (hF : ∀ k ∈ reach l root, ∀ g, l[k]? = some g → FitG Pl Tm Sr (worth R (killed R (fun _ => R.o) fun t => decide (t ∈ ts)) l) g) :
    Calls Tryz.prog 17 #[.pointer (some ⟨pb, 0, none⟩), .int .i64 root, .int .i64 n, .slice none 0 c, .slice ta ts.length tc] w fun e w' => VEnd Is (worth R (killed R (fun _ => R.o) fun t => decide (t ∈ ts)) l root) w e w' :=
  evWithout_any hS pb F l left hI root hr hlen none 0 c ta ts.length tc (fun _ => R.o) (fun t => decide (t ∈ ts)) w h (fun w' _ => check_nil hS c w') (fun w' t _ => weigh_nil hS dec c t w')
    (fun w' x f => conI ta tc ts x w' (ht.frame f) htl (decide (x ∈ ts)) (by simp)) hF
/-- Truth, as gates' worth. -/
def truth (l : List Gt) (root : Nat) (ts : List Int) : Bool := worth rgB (fun t => decide (t ∈ ts)) l root
theorem mem_tk {l : List Gt} {js : List Nat} {j : Nat} {g : Gt} (hj : j ∈ js) (hg : l[j]? = some g) (h3 : g.k = 3) : g.a ∈ tk l js := by
  unfold tk
  rw [List.mem_map]
  exact ⟨j, List.mem_filter.mpr ⟨hj, by simp [hg, h3]⟩, by simp [hg]⟩
/-- What is left out are a gate's tokens that are not there. -/
theorem truth_without {l : List Gt} (hI : Inv l) {root : Nat} (hr : root < l.length) {ts T : List Int} (hT : ∀ t, t ∈ T ↔ t ∈ tk l (reach l root)) :
    worth rgB (killed rgB (fun _ => rgB.o) fun t => decide (t ∈ T.filter fun t => !decide (t ∈ ts))) l root = truth l root ts := by
  refine worth_congr hI (root := root) (fun k g hk hm hg h3 => ?_) root (Nat.le_refl _) (reachM_root l root)
  have : g.a ∈ T := (hT _).mpr (mem_tk (mem_reach.mpr ⟨hk, hm⟩) hg h3)
  unfold killed
  by_cases h : g.a ∈ ts <;> simp [rgB, h, this]

set_option maxRecDepth 100000 in
set_option maxHeartbeats 4000000 in
theorem truth_any (pb : Nat) (F : List Nat) (l : List Gt) (left : Int) (hI : Inv l) (root : Nat) (hr : root < l.length) (hlen : l.length ≤ 100000)
    (ta : Option Addr) (tc : Nat) (ts : List Int) (w : World) (h : St w pb F l left) (ht : RdI w ta ts) (htl : ts.length ≤ 1000000) :
    Calls Tryz.prog 26 #[.pointer (some ⟨pb, 0, none⟩), .int .i64 root, .slice ta ts.length tc] w fun e w' => e = .returned (.bool (truth l root ts)) ∧ Frame [] w w' := by
  have hst := fun (w : World) (a : Addr) (q : Nat) (m : Mode) => run_store Tryz.prog w a (.float .f64 q) m rfl
  have hTK := tokens_any pb F l left root w h hI hr (by omega)
  have hTm : ∀ t, t ∈ (tk l (reach l root)).mergeSort (fun x y => decide (x ≤ y)) ↔ t ∈ tk l (reach l root) := fun t => (List.mergeSort_perm _ _).mem_iff
  have hTl : ((tk l (reach l root)).mergeSort fun x y => decide (x ≤ y)).length ≤ 100000 := by
    rw [List.length_mergeSort]
    have h1 := tk_len l (reach l root)
    have h2 := reach_len l root
    omega
  generalize (tk l (reach l root)).mergeSort (fun x y => decide (x ≤ y)) = T at *
  have HTR := Lib.hid (truth_without hI hr (ts := ts) hTm)
  have TK := Lib.hid hTK
  have H := Lib.hid h
  have HI := Lib.hid hI
  have RT := Lib.hid ht
  have TM := Lib.hid hTm
  clear hTK h hI ht hTm
  go_enter Tryz.func26, Tryz.ntmps26
  go_wp2_with fail
  refine TK.out.mono ?_
  rintro e w1 ⟨v, G, rfl, s1, f1⟩
  obtain ⟨va, vcap, hv⟩ := s1.form
  subst hv
  have S1 := Lib.hid s1
  have F1 := Lib.hid f1
  clear s1 f1 TK
  go_wp2_with fail
  go_loopw [7, 9, 16] (fun u _ i wr => ∃ t : Nat, t ≤ T.length ∧ i = .int .i64 t ∧ Hid (Frame [] w1 wr ∧ ∃ G, Sl wr 3 1 encI u ((T.take t).filter fun t => !decide (t ∈ ts)) G ∧ ∀ x ∈ G, w1.heap.size ≤ x)) (fun _ _ i _ => (T.length - intOf i).toNat)
  case atStart => exact ⟨0, Nat.zero_le _, rfl, Lib.hid ⟨Frame.refl _ _, [], by simpa using Sl.nil _ _ _ _, by simp⟩⟩
  case round =>
    rename World => wr
    obtain ⟨t, htt, rfl, hR⟩ := hrel
    by_cases hlt : t < T.length
    · have hj : T[t]? = some (T[t]) := by simp [hlt]
      generalize T[t] = x at hj
      obtain ⟨fr, G2, sl, hG⟩ := hR.out
      obtain ⟨b9, cap9, hq, -, -, hc⟩ := (S1.out.frame0 fr).cell encI_len (k := t) (x := x) hj
      simp only [Value.slice.injEq] at hq
      obtain ⟨rfl, -, rfl⟩ := hq
      have r0 := hc 0 _ rfl
      simp only [Nat.mul_one, Nat.add_zero] at r0
      obtain ⟨vA, vc, hv⟩ := sl.form
      subst hv
      have hol : ((T.take t).filter fun t => !decide (t ∈ ts)).length ≤ t := by have := List.length_filter_le (fun t => !decide (t ∈ ts)) (T.take t); rw [List.length_take] at this; omega
      have hnx : (T.take (t + 1)).filter (fun t => !decide (t ∈ ts)) = ((T.take t).filter fun t => !decide (t ∈ ts)) ++ (if decide (x ∈ ts) = true then [] else [x]) := by
        rw [take_one hj, List.filter_append]
        by_cases hx : x ∈ ts <;> simp [hx]
      have CI := Lib.hid (conI ta tc ts x wr (RT.out.frame (F1.out.trans1 fr)) htl (decide (x ∈ ts)) (by simp))
      have HNX := Lib.hid hnx
      clear hnx hj hc
      generalize decide (x ∈ ts) = d at *
      generalize hol2 : (T.take t).filter (fun t => !decide (t ∈ ts)) = os at *
      have HOS := Lib.hid hol2
      have SL := Lib.hid (And.intro sl (And.intro fr hG))
      generalize hoe : os.length = ol at *
      have HOL := Lib.hid hoe
      clear hol2 hoe sl fr hG
      go_wp2_with fail
      refine CI.out.mono ?_
      rintro e w5 ⟨rfl, f5⟩
      have SL5 := Lib.hid (And.intro (SL.out.1.frame0 f5) (And.intro (SL.out.2.1.trans1 f5) SL.out.2.2))
      have hz5 := f5.size
      clear f5 SL CI
      cases d with
      | true =>
        go_wp2_with fail
        go_roundw
        case rel => exact ⟨t + 1, by omega, by first | rfl | go_num, Lib.hid ⟨SL5.out.2.1, _, by rw [HNX.out]; simpa [HOL.out] using SL5.out.1, SL5.out.2.2⟩⟩
        case measure => first | (simp [intOf]; done) | (simp [intOf]; omega)
      | false =>
        go_wp2_with (at_builtin; refine wpList_append_sl _ rfl (.tmp 24) (.tmp 26) 50 rfl 3 1 8 _ encI Tryz.underlying50 infoInt rfl (by omega) (.slice vA ol vc) os G2 rfl (SL5.out.1.frame0 (by (repeat first | assumption | exact Frame.refl _ _ | refine Frame.trans1 ?_ (Frame.alloc _ _ _) | refine Frame.trans1 ?_ (Frame.drew _ _) | refine Frame.trans1 ?_ (Frame.drewN _ _ _)))) _ 1 1 [x] _ rfl (Blk.new _ _ _) rfl rfl encI_len encI_one (by omega) (by have := HOL.out; omega) (by omega) ?_; intro b' cap' w7 sl7 f7 hb7; have f7w : Frame G2 w5 w7 := (show Frame G2 w5 _ from by (repeat first | assumption | exact Frame.refl _ _ | refine Frame.trans1 ?_ (Frame.alloc _ _ _) | refine Frame.trans1 ?_ (Frame.drew _ _) | refine Frame.trans1 ?_ (Frame.drewN _ _ _))).trans1 f7; have R7 := Lib.hid (And.intro sl7 (And.intro f7w hb7)); clear sl7 f7w f7 hb7)
        go_roundw
        case rel =>
          refine ⟨t + 1, by omega, by first | rfl | go_num, Lib.hid ⟨SL5.out.2.1.trans R7.out.2.1 (fun x hx => .inr (SL5.out.2.2 x hx)), [b'], by rw [HNX.out]; exact R7.out.1, ?_⟩⟩
          intro x hx
          simp at hx
          subst hx
          have hsz := SL5.out.2.1.size
          rcases R7.out.2.2 with hb | hb
          · exact SL5.out.2.2 _ hb
          · rw [hb, show ∀ (a : World) o, (a.alloc o).heap.size = a.heap.size + 1 from fun _ _ => Array.size_push ..]; omega
        case measure => first | (simp [intOf]; done) | (simp [intOf]; omega)
    · obtain rfl : t = T.length := by omega
      obtain ⟨fr, G2, sl, hG⟩ := hR.out
      rw [List.take_length] at sl
      obtain ⟨vA, vc, hv⟩ := sl.form
      subst hv
      have hol : (T.filter fun t => !decide (t ∈ ts)).length ≤ T.length := List.length_filter_le _ _
      have EW := Lib.hid (evWithout_nil semOk_bool (fun _ => true) pb F l left HI.out root hr hlen 0 vA vc (T.filter fun t => !decide (t ∈ ts)) wr (H.out.frame0 (F1.out.trans1 fr)) (sl_rdI sl) (by omega) (fun k _ g _ => ⟨fun _ => trivial, fun _ => trivial, fun _ => trivial⟩))
      generalize worth rgB (killed rgB (fun _ => rgB.o) fun t => decide (t ∈ T.filter fun t => !decide (t ∈ ts))) l root = r at *
      have FR := Lib.hid (F1.out.trans1 fr)
      generalize (T.filter fun t => !decide (t ∈ ts)).length = ol at *
      clear fr sl hG hR hol
      go_wp2_with fail
      refine EW.out.mono ?_
      rintro e w8 ⟨u, rfl, is8, f8⟩
      have F8 := Lib.hid (FR.out.trans1 f8)
      unfold IsB at is8
      subst is8
      clear f8 EW FR TM
      unfold vB
      cases r
      · go_wp2_with fail
        go_ret
        exact ⟨by rw [← HTR.out]; rfl, F8.out.trans1 (by (repeat first | assumption | exact Frame.refl _ _ | refine Frame.trans1 ?_ (Frame.alloc _ _ _) | refine Frame.trans1 ?_ (Frame.drew _ _) | refine Frame.trans1 ?_ (Frame.drewN _ _ _)))⟩
      · go_wp2_with fail
        go_ret
        exact ⟨by rw [← HTR.out]; rfl, F8.out.trans1 (by (repeat first | assumption | exact Frame.refl _ _ | refine Frame.trans1 ?_ (Frame.alloc _ _ _) | refine Frame.trans1 ?_ (Frame.drew _ _) | refine Frame.trans1 ?_ (Frame.drewN _ _ _)))⟩
end Go.Proofs.YtbnhhmejlglbcaaGreat

