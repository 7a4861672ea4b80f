/- eval.check, where weights may be; eval.Without. eval.Truth. -/
import Derived.Test.YtbnhhmejlglbcaaMg20
import Derived.Test.YtbnhhmejlglbcaaMg11
import Derived.Test.YtbnhhmejlglbcaaMg21
import Derived.Test.YtbnhhmejlglbcaaMg09
import Derived.Test.YtbnhhmejlglbcaaMg12
import Derived.Deep.AppendLies
namespace Go.Proofs.Ytbnhhmejlglbcaa
open Go.RowKit
set_option linter.unusedSimpArgs false
set_option linter.unusedVariables false

set_option maxRecDepth 100000 in
set_option maxHeartbeats 4000000 in
theorem check_ok {V : Type} {n : Int} {R : Rg V} {Is : World → Value → V → Prop} {Pl Tm : V → V → Prop} {Sr : V → Prop} (hS : SemOk n R Is Pl Tm Sr)
    (a : Option Addr) (cap : Nat) (ws : List Wg) (w : World) (hl : ws.length ≤ 1000000) (hw : WRd (fun _ => True) w a ws)
    (hm : ∀ x ∈ ws, x.sem = n → ∀ w', Frame [] w w' → Calls Try.prog 41 #[x.val] w' fun e w'' => e = .returned (.int .i64 0) ∧ Frame [] w' w'') :
    Calls Try.prog 26 #[.slice a ws.length cap, .int .i64 n] w fun e w' => e = .returned (.int .i64 0) ∧ Frame [] w w' := by
  have hst := fun (w : World) (a : Addr) (q : Nat) (m : Mode) => run_store Try.prog w a (.float .f64 q) m rfl
  have S := Lib.hid hS
  have HW := Lib.hid hw
  have HM := Lib.hid hm
  clear hS hw hm
  go_enter Try.func26, Try.ntmps26
  go_wp2_with fail
  refine (S.out.zero _).mono ?_
  rintro e w1 ⟨z, rfl, iz, f1⟩
  obtain ⟨zi, za, zl, zc, zv, zf, rfl⟩ := S.out.form iz
  have F1 := Lib.hid (f1.trans1 (Frame.alloc [] w1 (.cells #[.int .i64 n, .bool zi, .slice za zl zc, .int .i64 zv, .float .f64 zf] 39)))
  clear f1 iz
  go_upto_region 4 with fail
  generalize w1.alloc (.cells #[.int .i64 n, .bool zi, .slice za zl zc, .int .i64 zv, .float .f64 zf] 39) = w2 at *
  go_wp2_with fail
  go_loopw [8, 9, 20] (fun _ _ i wr => ∃ t : Nat, t ≤ ws.length ∧ i = .int .i64 t ∧ Hid (Frame [] w wr)) (fun _ _ i _ => (ws.length - intOf i).toNat)
  case atStart => exact ⟨0, Nat.zero_le _, rfl, F1⟩
  case round =>
    rename World => wr
    obtain ⟨t, ht, rfl, hR⟩ := hrel
    by_cases hlt : t < ws.length
    · have hx : ws[t]? = some ws[t] := List.getElem?_eq_getElem hlt
      obtain ⟨b, off, rfl, -, hc⟩ := HW.out t _ hx
      have hxm : ws[t] ∈ ws := List.getElem_mem hlt
      generalize ws[t] = x at *
      have x0 := hR.out.cell (hc 0 _ rfl) (by simp)
      have x1 := hR.out.cell (hc 1 _ rfl) (by simp)
      have x2 := hR.out.cell (hc 2 _ rfl) (by simp)
      have x3 := hR.out.cell (hc 3 _ rfl) (by simp)
      have x4 := hR.out.cell (hc 4 _ rfl) (by simp)
      have x5 := hR.out.cell (hc 5 _ rfl) (by simp)
      simp only [Nat.add_zero] at x0
      have HXM := Lib.hid hxm
      clear hc hx hxm
      obtain ⟨tk, sm, yi, ya, yl, yc, yv, yf⟩ := x
      have FW := Lib.hid (hR.out.trans1 (Frame.alloc [] wr (.cells #[.int .i64 tk, .int .i64 sm, .bool yi, .slice ya yl yc, .int .i64 yv, .float .f64 yf] 91)))
      by_cases hs : sm = n
      · subst hs
        have CM := Lib.hid (HM.out _ HXM.out rfl _ FW.out)
        go_wp2_with fail
        refine CM.out.mono ?_
        rintro e w5 ⟨rfl, f5⟩
        have F5 := Lib.hid (FW.out.trans1 f5)
        clear f5 CM
        go_wp2_with fail
        go_roundw
        case rel => exact ⟨t + 1, by omega, by first | rfl | go_num, F5⟩
        case measure => first | (simp [intOf]; done) | (simp [intOf]; omega)
      · have hb : (sm == n) = false := by simpa using hs
        have hb2 : (sm != n) = true := by simp [bne, hb]
        clear hs
        go_wp2_with fail
        go_roundw
        case rel => exact ⟨t + 1, by omega, by first | rfl | go_num, FW⟩
        case measure => first | (simp [intOf]; done) | (simp [intOf]; omega)
    · obtain rfl : t = ws.length := by omega
      go_wp2_with fail
      go_ret
      exact ⟨rfl, hR.out⟩

set_option maxRecDepth 100000 in
set_option maxHeartbeats 4000000 in
theorem evWithout_any {V : Type} {n : Int} {R : Rg V} {Is : World → Value → V → Prop} {Pl Tm : V → V → Prop} {Sr : V → Prop} (hS : SemOk n R Is Pl Tm Sr)
    (pb : Nat) (F : List Nat) (l : List Gt) (left : Int) (hI : Inv l) (root : Nat) (hr : root < l.length) (hlen : l.length ≤ 100000)
    (wa : Option Addr) (wn wc : Nat) (ta : Option Addr) (tn tc : Nat) (W : Int → V) (dead : Int → Bool) (w : World) (h : St w pb F l left)
    (hC : ∀ w', Frame [] w w' → Calls Try.prog 26 #[.slice wa wn wc, .int .i64 n] w' fun e w'' => e = .returned (.int .i64 0) ∧ Frame [] w' w'')
    (hW : ∀ w' t, Frame [] w w' → Calls Try.prog 44 #[.slice wa wn wc, .int .i64 n, .int .i64 t] w' fun e w'' => WEnd Is (W t) w' e w'')
    (hT : ∀ w' x, Frame [] w w' → Calls Try.prog 43 #[.slice ta tn tc, .int .i64 x] w' fun e w'' => e = .returned (.bool (dead x)) ∧ Frame [] w' w'')
    (hF : ∀ k ∈ reach l root, ∀ g, l[k]? = some g → FitG Pl Tm Sr (worth R (killed R W dead) l) g) :
    Calls Try.prog 9 #[.pointer (some ⟨pb, 0, none⟩), .int .i64 root, .int .i64 n, .slice wa wn wc, .slice ta tn tc] w fun e w' => VEnd Is (worth R (killed R W dead) l root) w e w' := by
  have hst := fun (w : World) (a : Addr) (q : Nat) (m : Mode) => run_store Try.prog w a (.float .f64 q) m rfl
  have S := Lib.hid hS
  have H := Lib.hid h
  have HC := Lib.hid hC
  have HW := Lib.hid hW
  have HT := Lib.hid hT
  have HF := Lib.hid hF
  have HI := Lib.hid hI
  have hg : l[root]? = some l[root] := List.getElem?_eq_getElem hr
  generalize l[root] = g at hg
  have HG := Lib.hid hg
  clear hS h hC hW hT hF hI hg
  obtain ⟨gk, ga, gb⟩ := g
  go_enter Try.func9, Try.ntmps9
  have hb10 := Blk.new w 39 #[.int .i64 0, .bool false, .slice none 0 0, .int .i64 0, .float .f64 0]
  have B0 := Lib.hid hb10
  have FA := Lib.hid (Frame.alloc [] w (.cells #[.int .i64 0, .bool false, .slice none 0 0, .int .i64 0, .float .f64 0] 39))
  clear hb10
  go_wp2_with fail
  refine (S.out.zero _).mono ?_
  rintro e w1 ⟨z, rfl, iz, f1⟩
  obtain ⟨zi, za, zl, zc, zv, zf, rfl⟩ := S.out.form iz
  have B1 := Lib.hid ((B0.out.frame f1 (by simp)).alloc (.cells #[.int .i64 n, .bool zi, .slice za zl zc, .int .i64 zv, .float .f64 zf] 39))
  have F1 := Lib.hid ((FA.out.trans1 f1).trans1 (Frame.alloc [] w1 (.cells #[.int .i64 n, .bool zi, .slice za zl zc, .int .i64 zv, .float .f64 zf] 39)))
  clear f1 iz B0 FA
  go_upto_region 4 with fail
  generalize w1.alloc (.cells #[.int .i64 n, .bool zi, .slice za zl zc, .int .i64 zv, .float .f64 zf] 39) = w2 at *
  have GA := Lib.hid (gate_get_any pb F l left root ⟨gk, ga, gb⟩ w2 (H.out.frame0 F1.out) HG.out)
  go_wp2_with fail
  refine GA.out.mono ?_
  rintro e w3 ⟨rfl, f3⟩
  have B3 := Lib.hid ((B1.out.frame f3 (by simp)).alloc (.cells #[.int .i64 gk, .int .i64 ga, .int .i64 gb] 64))
  have F3 := Lib.hid ((F1.out.trans1 f3).trans1 (Frame.alloc [] w3 (.cells #[.int .i64 gk, .int .i64 ga, .int .i64 gb] 64)))
  clear f3 GA B1 F1
  go_upto_region 7 with fail
  generalize w3.alloc (.cells #[.int .i64 gk, .int .i64 ga, .int .i64 gb] 64) = w4 at *
  go_wp2_with fail
  refine (HC.out _ F3.out).mono ?_
  rintro e w5 ⟨rfl, f5⟩
  have B5 := Lib.hid (B3.out.frame f5 (by simp))
  have F5 := Lib.hid (F3.out.trans1 f5)
  clear f5 B3 F3
  go_wp2_with fail
  refine (reach_any pb F l left root w5 (H.out.frame0 F5.out) HI.out hr (by omega)).mono ?_
  rintro e w6 ⟨v, G, rfl, s6, f6, -⟩
  obtain ⟨va, vcap, hv⟩ := s6.form
  subst hv
  rw [List.length_map] at s6 ⊢
  have B6 := Lib.hid (B5.out.frame f6 (by simp))
  have F6 := Lib.hid (F5.out.trans1 f6)
  have HRl : Hid ((reach l root).length ≤ 1000000) := by show _ ≤ _; have := List.length_filter_le (reachM l root) (List.range (root + 1)); unfold reach; simp at this; omega
  have GT := Lib.hid (gates_any S.out pb F l left HI.out (reach l root) (reach_closed HI.out hr) HRl.out va vcap G wa wn wc ta tn tc W dead w6 (H.out.frame0 F6.out) s6 (fun w' t f => HW.out w' t (F6.out.trans1 f)) (fun w' x f => HT.out w' x (F6.out.trans1 f)) HF.out)
  clear f6 s6 B5 F5
  generalize hRL : (reach l root).length = rl at *
  clear hRL
  go_wp2_with fail
  refine GT.out.mono ?_
  rintro e w7 ⟨mb, rfl, gm, f7⟩
  obtain ⟨u, isu, lk⟩ := gm.look (mem_reach.mpr ⟨Nat.le_refl root, reachM_root l root⟩)
  obtain ⟨ui, ua, ul, uc, uv, uf, rfl⟩ := S.out.form isu
  have la := lk w7 (Frame.refl _ _)
  have B7 := Lib.hid (B6.out.frame f7 (by simp))
  have F7 := Lib.hid (F6.out.trans1 f7)
  have ISU := Lib.hid isu
  have y0 := B7.out.at 0 rfl
  have y1 := B7.out.at 1 rfl
  have y2 := B7.out.at 2 rfl
  have y3 := B7.out.at 3 rfl
  have y4 := B7.out.at 4 rfl
  have z0 := B7.out.frozen
  clear gm lk isu f7 B6 F6 GT
  have hB9 := Lib.hid (putV B7.out (.int .i64 n) (.bool ui) (.slice ua ul uc) (.int .i64 uv) (.float .f64 uf))
  have hF9 := Lib.hid (putV_frame (w := w) (b := w.heap.size) (Nat.le_refl _) F7.out (.int .i64 n) (.bool ui) (.slice ua ul uc) (.int .i64 uv) (.float .f64 uf))
  have hG9 : Hid (Frame [w.heap.size] w7 (((((w7.setCell ⟨w.heap.size, 0, none⟩ (.int .i64 n)).setCell ⟨w.heap.size, 1, none⟩ (.bool ui)).setCell ⟨w.heap.size, 2, none⟩ (.slice ua ul uc)).setCell ⟨w.heap.size, 3, none⟩ (.int .i64 uv)).setCell ⟨w.heap.size, 4, none⟩ (.float .f64 uf))) := by
    show Frame _ _ _
    have st : ∀ {x : World} (f : Frame [w.heap.size] w7 x) (i : Nat) (v : Value), Frame [w.heap.size] w7 (x.setCell ⟨w.heap.size, i, none⟩ v) := fun f i v => f.trans1 (Frame.setCell (S := [w.heap.size]) _ _ _ (by simp))
    exact st (st (st (st (st (Frame.refl _ _) 0 _) 1 _) 2 _) 3 _) 4 _
  go_wp2_with fail
  refine bodyPost_ret (results_val2 rfl _ _ _ _ _ _ _ _ rfl hB9.out) rfl ?_
  exact ⟨_, rfl, S.out.keep _ _ _ _ ISU.out (KeepD.blk hG9.out B7.out (by decide)), hF9.out⟩
end Go.Proofs.Ytbnhhmejlglbcaa

namespace Go.Proofs.Ytbnhhmejlglbcaa
open Go.RowKit
set_option linter.unusedSimpArgs false
set_option linter.unusedVariables false

theorem sl_rdI {w : World} {a : Option Addr} {n c : Nat} {xs : List Int} {G : List Nat} (h : Sl w 3 1 encI (.slice a n c) xs G) : RdI w a xs := by
  rcases h with ⟨_, h, _⟩ | ⟨b, cap, h1, rfl, h2⟩
  · exact .inl h
  · simp only [Value.slice.injEq] at h1
    obtain ⟨rfl, -, -⟩ := h1
    refine .inr ⟨b, 0, rfl, h2.lt, fun k hk => ?_⟩
    rw [Nat.zero_add]
    refine h2.cell ?_
    have := flat_get (enc := encI) (sz := 1) encI_len (xs := xs) (k := k) (x := xs[k]) (by simp [hk]) (j := 0) (u := .int .i64 xs[k]) rfl
    simpa using this
/-- No weights: each token is worth 1. -/
theorem weigh_nil {V : Type} {n : Int} {R : Rg V} {Is : World → Value → V → Prop} {Pl Tm : V → V → Prop} {Sr : V → Prop} (hS : SemOk n R Is Pl Tm Sr) (dec : Wg → V) (c : Nat) (tok : Int) (w : World) :
    Calls Try.prog 44 #[.slice none 0 c, .int .i64 n, .int .i64 tok] w fun e w' => WEnd Is R.o w e w' :=
  weigh_any hS dec none c [] tok w (by simp) (fun k x h => by simp at h) (fun x hx => by simp at hx)
theorem check_nil {V : Type} {n : Int} {R : Rg V} {Is : World → Value → V → Prop} {Pl Tm : V → V → Prop} {Sr : V → Prop} (hS : SemOk n R Is Pl Tm Sr) (c : Nat) (w : World) :
    Calls Try.prog 26 #[.slice none 0 c, .int .i64 n] w fun e w' => e = .returned (.int .i64 0) ∧ Frame [] w w' :=
  check_ok hS none c [] w (by simp) (fun k x h => by simp at h) (fun x hx => by simp at hx)
/-- Without weights. -/
theorem evWithout_nil {V : Type} {n : Int} {R : Rg V} {Is : World → Value → V → Prop} {Pl Tm : V → V → Prop} {Sr : V → Prop} (hS : SemOk n R Is Pl Tm Sr) (dec : Wg → V)
    (pb : Nat) (F : List Nat) (l : List Gt) (left : Int) (hI : Inv l) (root : Nat) (hr : root < l.length) (hlen : l.length ≤ 100000) (c : Nat)
    (ta : Option Addr) (tc : Nat) (ts : List Int) (w : World) (h : St w pb F l left) (ht : RdI w ta ts) (htl : ts.length ≤ 1000000)
    (hF : ∀ k ∈ reach l root, ∀ g, l[k]? = some g → FitG Pl Tm Sr (worth R (killed R (fun _ => R.o) fun t => decide (t ∈ ts)) l) g) :
    Calls Try.prog 9 #[.pointer (some ⟨pb, 0, none⟩), .int .i64 root, .int .i64 n, .slice none 0 c, .slice ta ts.length tc] w fun e w' => VEnd Is (worth R (killed R (fun _ => R.o) fun t => decide (t ∈ ts)) l root) w e w' :=
  evWithout_any hS pb F l left hI root hr hlen none 0 c ta ts.length tc (fun _ => R.o) (fun t => decide (t ∈ ts)) w h (fun w' _ => check_nil hS c w') (fun w' t _ => weigh_nil hS dec c t w')
    (fun w' x f => conI ta tc ts x w' (ht.frame f) htl (decide (x ∈ ts)) (by simp)) hF
/-- Truth, as gates' worth. -/
def truth (l : List Gt) (root : Nat) (ts : List Int) : Bool := worth rgB (fun t => decide (t ∈ ts)) l root
theorem mem_tk {l : List Gt} {js : List Nat} {j : Nat} {g : Gt} (hj : j ∈ js) (hg : l[j]? = some g) (h3 : g.k = 3) : g.a ∈ tk l js := by
  unfold tk
  rw [List.mem_map]
  exact ⟨j, List.mem_filter.mpr ⟨hj, by simp [hg, h3]⟩, by simp [hg]⟩
/-- What is left out are a gate's tokens that are not there. -/
theorem truth_without {l : List Gt} (hI : Inv l) {root : Nat} (hr : root < l.length) {ts T : List Int} (hT : ∀ t, t ∈ T ↔ t ∈ tk l (reach l root)) :
    worth rgB (killed rgB (fun _ => rgB.o) fun t => decide (t ∈ T.filter fun t => !decide (t ∈ ts))) l root = truth l root ts := by
  refine worth_congr hI (root := root) (fun k g hk hm hg h3 => ?_) root (Nat.le_refl _) (reachM_root l root)
  have : g.a ∈ T := (hT _).mpr (mem_tk (mem_reach.mpr ⟨hk, hm⟩) hg h3)
  unfold killed
  by_cases h : g.a ∈ ts <;> simp [rgB, h, this]

end Go.Proofs.Ytbnhhmejlglbcaa

