/- slices.Backward over weights: the iterator. eval.weigh, in any semiring. -/
import Derived.RangeFuncNested
import Derived.RangeFuncBound
import Derived.RangeFuncCalls
import Derived.RangeFuncLeaves
import Derived.Shelf.Abstract
import Derived.Shelf.RegionOpen
import Derived.WalkKit
import Derived.OwnWalkIn
import Derived.TacticsInMore
import Derived.LoopNIn
import Derived.LoopIn
import Derived.IntWalk
import Derived.Test.YtbnhhmejlglbcaaMg19
namespace Go.Proofs.Ytbnhhmejlglbcaa
open Go.RowKit Go.Shelf
set_option linter.unusedSimpArgs false
set_option linter.unusedVariables false

/-- A weight: a token, a value. -/
structure Wg where
  tok : Int
  sem : Int
  inf : Bool
  sa : Option Addr
  sl : Nat
  sc : Nat
  lv : Int
  fl : Nat
  deriving Inhabited
def Wg.cs (x : Wg) : List Value := [.int .i64 x.tok, .int .i64 x.sem, .bool x.inf, .slice x.sa x.sl x.sc, .int .i64 x.lv, .float .f64 x.fl]
def Wg.v (x : Wg) : Value := .agg #[.int .i64 x.tok, .int .i64 x.sem, .bool x.inf, .slice x.sa x.sl x.sc, .int .i64 x.lv, .float .f64 x.fl]
def Wg.val (x : Wg) : Value := .agg #[.int .i64 x.sem, .bool x.inf, .slice x.sa x.sl x.sc, .int .i64 x.lv, .float .f64 x.fl]
/-- A row of weights, in blocks of which U holds. -/
def WRd (U : Nat → Prop) (w : World) (a : Option Addr) (ws : List Wg) : Prop := ∀ k x, ws[k]? = some x → ∃ b off, a = some ⟨b, off, none⟩ ∧ U b ∧ ∀ j u, x.cs[j]? = some u → w.cell? ⟨b, off + k * 6 + j, none⟩ = some u
/-- Blocks below N0 but Bo are as they were. -/
def KpO (Bo N0 : Nat) (W W' : World) : Prop := W.heap.size ≤ W'.heap.size ∧ ∀ k, k < N0 → k ≠ Bo → W'.heap[k]? = W.heap[k]?
theorem KpO.refl (Bo N0 : Nat) (W : World) : KpO Bo N0 W W := ⟨Nat.le_refl _, fun _ _ _ => rfl⟩
theorem KpO.trans {Bo N0 : Nat} {A B C : World} (h : KpO Bo N0 A B) (k : KpO Bo N0 B C) : KpO Bo N0 A C := ⟨Nat.le_trans h.1 k.1, fun i h1 h2 => (k.2 i h1 h2).trans (h.2 i h1 h2)⟩
theorem KpO.cell {Bo N0 : Nat} {A B : World} (h : KpO Bo N0 A B) {p : Addr} {v : Value} (hc : A.cell? p = some v) (h1 : p.block < N0) (h2 : p.block ≠ Bo) : B.cell? p = some v := (World.cell?_of_block (h.2 _ h1 h2)).trans hc
theorem WRd.kp {Bo N0 : Nat} {A B : World} {a : Option Addr} {ws : List Wg} (h : WRd (fun b => b < N0 ∧ b ≠ Bo) A a ws) (k : KpO Bo N0 A B) : WRd (fun b => b < N0 ∧ b ≠ Bo) B a ws := fun i x hx => by
  obtain ⟨b, off, h1, h2, h3⟩ := h i x hx
  exact ⟨b, off, h1, h2, fun j u hu => k.cell (h3 j u hu) h2.1 h2.2⟩
/-- What has come, k rounds on: from the end. -/
def downs (ws : List Wg) (k : Nat) : List (Fin ws.length) := (List.finRange ws.length).reverse.take k
theorem downs_succ {ws : List Wg} {k m : Nat} (hm : m < ws.length) (hk : k + m + 1 = ws.length) : downs ws (k + 1) = downs ws k ++ [⟨m, hm⟩] := by
  unfold downs
  rw [List.take_add_one, List.getElem?_eq_getElem (by simp; omega)]
  have : (List.finRange ws.length).reverse[k]'(by simp; omega) = ⟨m, hm⟩ := by
    rw [List.getElem_reverse]
    apply Fin.ext
    simp; omega
  rw [this]; rfl
theorem downs_length {ws : List Wg} {k : Nat} (h : k ≤ ws.length) : (downs ws k).length = k := by simp [downs, h]
theorem downs_map (ws : List Wg) (k : Nat) : (downs ws k).map (fun i => ws[i.val]) = ws.reverse.take k := by
  unfold downs
  rw [List.map_take, List.map_reverse]
  congr 2
  apply List.ext_getElem
  · simp
  · intro i h1 h2; simp

set_option maxRecDepth 100000 in
set_option maxHeartbeats 2000000 in
theorem backward1_in (F : Fence) (n : Nat) (hF : F.fn 88) (hro : F.round = none) (hn : 1 ≤ n) (l Bs Bo N0 : Nat) (a : Option Addr) (cap : Nat) (ws : List Wg) (hl : ws.length ≤ 1000000) (J Jx : List (Fin ws.length) → World → Prop) (hs1 : Bs < N0) (hs2 : Bs ≠ Bo)
    (hY : ∀ pre x W, J pre W → pre.length < ws.length → YieldAt F (n - 1) Try.prog l #[.int .i64 (x.val : Int), ws[x.val].v] W fun e W' =>
      (e = .returned (.bool true) ∧ J (pre ++ [x]) W' ∧ KpO Bo N0 W W') ∨ (e = .returned (.bool false) ∧ Jx (pre ++ [x]) W'))
    (W : World) (hBs : W.cell? ⟨Bs, 0, none⟩ = some (.slice a ws.length cap)) (hw : WRd (fun b => b < N0 ∧ b ≠ Bo) W a ws) (h0 : J [] W) :
    CallsIn F n Try.prog 88 #[.func (.yield l) #[] #[], .pointer (some ⟨Bs, 0, none⟩)] W fun e W' => (∃ v, e = .returned v) ∧
      ((∃ ys, ys = downs ws ws.length ∧ J ys W') ∨ (∃ pre, (∃ k, k ≤ ws.length ∧ pre = downs ws k) ∧ Jx pre W')) := by
  have e0 : IntKind.i64.wrap ((ws.length : Int) - 1) = (ws.length : Int) - 1 := IntWalk.i64_in _ (by omega)
  have HBS := Lib.hid hBs
  have HW := Lib.hid hw
  have HY := Lib.hid hY
  have H0 := Lib.hid h0
  clear hw hY h0
  refine callsIn_of_wp Try.func88 rfl hF ?_ hro
  simp only [Try.ntmps88, List.size_toArray, List.length_cons, List.length_nil, Nat.reduceAdd, Nat.reduceSub, Array.replicate_succ, Array.replicate_zero, List.push_toArray, List.append_toArray, List.nil_append, List.cons_append]
  gi_wp2
  clear hBs e0
  gi_loopw [3] (fun i wr => ∃ (m : Nat) (z : Int), m ≤ ws.length ∧ Hid (z = (m : Int) - 1) ∧ i = .int .i64 z ∧ Hid (J (downs ws (ws.length - m)) wr ∧ KpO Bo N0 W wr))
    (fun i _ => (intOf i + 1).toNat)
  case atStart => exact ⟨ws.length, _, Nat.le_refl _, Lib.hid rfl, rfl, Lib.hid ⟨by rw [Nat.sub_self]; exact H0.out, KpO.refl _ _ _⟩⟩
  case round =>
    rename World => wr
    obtain ⟨m, z, hm, hz, rfl, hR⟩ := hrel
    cases m with
    | zero =>
      obtain rfl : z = -1 := by have := hz.out; omega
      gi_wp2
      go_end0
      exact ⟨⟨_, rfl⟩, .inl ⟨_, rfl, by simpa using hR.out.1⟩⟩
    | succ m =>
      obtain rfl : z = (m : Int) := by have := hz.out; omega
      have hx : ws[m]? = some ws[m] := List.getElem?_eq_getElem (by omega)
      have hml : m < ws.length := by omega
      have hd : downs ws (ws.length - (m + 1) + 1) = downs ws (ws.length - (m + 1)) ++ [⟨m, hml⟩] := downs_succ hml (by omega)
      have HD := Lib.hid hd
      obtain ⟨b, off, rfl, hb, hc⟩ := (HW.out.kp hR.out.2) m _ hx
      obtain ⟨fn, tmps, assign, body, hy, hRr⟩ := HY.out _ ⟨m, hml⟩ wr hR.out.1 (by rw [downs_length (by omega)]; omega)
      have HRR := Lib.hid hRr
      simp only at hy
      generalize ws[m] = x at *
      have c0 := hc 0 _ rfl
      have c1 := hc 1 _ rfl
      have c2 := hc 2 _ rfl
      have c3 := hc 3 _ rfl
      have c4 := hc 4 _ rfl
      have c5 := hc 5 _ rfl
      simp only [Nat.add_zero] at c0
      have cb := hR.out.2.cell HBS.out hs1 hs2
      have e1 : IntKind.i64.wrap ((m : Int) - 1) = (m : Int) - 1 := IntWalk.i64_in _ (by omega)
      obtain ⟨tok, sem, inf, sa, sl, sc, lv, fl⟩ := x
      simp only [Wg.v] at hy
      clear hc hx hd hRr hz
      gi_wp2
      refine HRR.out.mono ?_
      rintro e W3 (⟨rfl, hJ3, hk3⟩ | ⟨rfl, hJx3⟩)
      · have E := Lib.hid (And.intro hJ3 hk3)
        clear hJ3 hk3 hy cb c0 c1 c2 c3 c4 c5
        gi_wp2
        go_roundw
        case rel => exact ⟨m, (m : Int) - 1, by omega, Lib.hid rfl, by first | rfl | go_num, Lib.hid ⟨by rw [show ws.length - m = ws.length - (m + 1) + 1 by omega, HD.out]; exact E.out.1, hR.out.2.trans E.out.2⟩⟩
        case measure => first | (simp [intOf]; done) | (simp [intOf]; omega)
      · have E := Lib.hid hJx3
        clear hJx3 hy cb c0 c1 c2 c3 c4 c5
        gi_wp2
        refine bodyPost_ret (results_none rfl _ _ _) rfl ?_
        exact ⟨⟨_, rfl⟩, .inr ⟨_, ⟨ws.length - (m + 1) + 1, by omega, rfl⟩, by rw [HD.out]; exact E.out⟩⟩
theorem backward_in (F : Fence) (n : Nat) (hF : F.fn 66) (hro : F.round = none) (a : Option Addr) (len cap : Nat) (w : World) :
    CallsIn F n Try.prog 66 #[.slice a len cap] w fun e w' => e = .returned (.func (.func 88) #[] #[.pointer (some ⟨w.heap.size, 0, none⟩)]) ∧ w' = w.alloc (.cells #[.slice a len cap] 62) := by
  refine callsIn_of_wp Try.func66 rfl hF ?_ hro
  simp only [Try.ntmps66, List.size_toArray, List.length_cons, List.length_nil, Nat.reduceAdd, Nat.reduceSub, Array.replicate_succ, Array.replicate_zero, List.push_toArray, List.append_toArray, List.nil_append, List.cons_append]
  gi_wp2
  go_ret
  exact ⟨rfl, rfl⟩
theorem backward_stops (F : Fence) (n : Nat) (hF : F.fn 88) (hro : F.round = none) (hn : 1 ≤ n) (Bs Bo N0 : Nat) (a : Option Addr) (cap : Nat) (ws : List Wg) (hl : ws.length ≤ 1000000) (w : World) (hN : N0 ≤ w.heap.size) (hs1 : Bs < N0) (hs2 : Bs ≠ Bo)
    (hc : w.cell? ⟨Bs, 0, none⟩ = some (.slice a ws.length cap)) (hw : WRd (fun b => b < N0 ∧ b ≠ Bo) w a ws) :
    SeqStopsK F n Try.prog 88 #[.pointer (some ⟨Bs, 0, none⟩)] (fun x : Fin ws.length => #[Value.int .i64 (x.val : Int), ws[x.val].v]) (KpO Bo N0) (fun ys => ys = downs ws ws.length)
      (fun pre => ∃ k, k ≤ ws.length ∧ pre = downs ws k) ws.length w := fun l J Jx W hW _ _ hY h0 => by
  have kp : KpO Bo N0 w W := ⟨hW.size, fun k h1 _ => hW.block k (by omega)⟩
  exact backward1_in F n hF hro hn l Bs Bo N0 a cap ws hl J Jx hs1 hs2 hY W (kp.cell hc hs1 hs2) (hw.kp kp) h0
end Go.Proofs.Ytbnhhmejlglbcaa

namespace Go.Proofs.Ytbnhhmejlglbcaa
open Go.RowKit Go.Shelf
set_option linter.unusedSimpArgs false
set_option linter.unusedVariables false

/-- Is it a weight of that token, in that semiring? -/
def hit (n tok : Int) (x : Wg) : Bool := (x.tok == tok) && (x.sem == n)
/-- What a token is worth: the last weight's value, 1 without any. -/
def weighV {V : Type} (R : Rg V) (dec : Wg → V) (n : Int) (ws : List Wg) (tok : Int) : V := match ws.reverse.find? (hit n tok) with | some x => R.t (dec x) R.o | none => R.o
theorem weigh_none {V : Type} {R : Rg V} {dec : Wg → V} {n tok : Int} {ws : List Wg} (h : ∀ i ∈ downs ws ws.length, hit n tok ws[i.val] = false) : weighV R dec n ws tok = R.o := by
  have : ws.reverse.find? (hit n tok) = none := by
    rw [List.find?_eq_none]
    intro x hx
    have e := downs_map ws ws.length
    rw [List.take_of_length_le (by simp)] at e
    rw [← e] at hx
    obtain ⟨i, hi, rfl⟩ := List.mem_map.mp hx
    simp [h i hi]
  rw [weighV, this]
theorem weigh_some {V : Type} {R : Rg V} {dec : Wg → V} {n tok : Int} {ws : List Wg} {k : Nat} {ini : List (Fin ws.length)} {last : Fin ws.length} (e : downs ws k = ini ++ [last]) (h : ∀ i ∈ ini, hit n tok ws[i.val] = false) (hl : hit n tok ws[last.val] = true) : weighV R dec n ws tok = R.t (dec ws[last.val]) R.o := by
  have : ws.reverse.find? (hit n tok) = some ws[last.val] := by
    have e2 := downs_map ws k
    rw [e, List.map_append] at e2
    rw [← List.take_append_drop k ws.reverse, ← e2, List.find?_append, List.find?_append]
    have : (List.map (fun i : Fin ws.length => ws[i.val]) ini).find? (hit n tok) = none := by
      rw [List.find?_eq_none]
      intro x hx
      obtain ⟨i, hi, rfl⟩ := List.mem_map.mp hx
      simp [h i hi]
    rw [this]
    simp [hl]
  rw [weighV, this]
/-! ### what the law's own blocks leave as it was -/
theorem KeepsFrom.of_frame {S : List Nat} {B : Nat} {W W' : World} (f : Frame S W W') (h : ∀ b ∈ S, ∃ T cs, Blk W b T cs) : KeepsFrom B W W' := ⟨f.size, fun k o hk h0 ho => by
  have hl := (Array.getElem?_eq_some_iff.1 h0).1
  refine (f.block k hl fun hm => ?_).trans h0
  obtain ⟨T, cs, hb⟩ := h k hm
  unfold Blk at hb
  rw [hb] at h0
  cases h0
  cases ho⟩
theorem KpO.of_frame {Bo N0 : Nat} {W W' : World} (f : Frame [Bo] W W') (hN : N0 ≤ W.heap.size) : KpO Bo N0 W W' := ⟨f.size, fun k h1 h2 => f.block k (by omega) (by simpa using h2)⟩
theorem KpO.of_frame0 {Bo N0 : Nat} {W W' : World} (f : Frame [] W W') (hN : N0 ≤ W.heap.size) : KpO Bo N0 W W' := ⟨f.size, fun k h1 h2 => f.block k (by omega) (by simp)⟩
theorem kpO_b {Bo N0 : Nat} {w : World} (hn : N0 ≤ w.heap.size) (W : World) (l : Nat) (o o' : Obj) (hl : w.heap.size ≤ l) (h : W.heap[l]? = some o) (_ : o.isCells = false) (_ : o.isWalk = false) : KpO Bo N0 W (W.putObj l o') :=
  ⟨(grownBy_putObj' W l o').size, fun k h1 _ => (grownBy_putObj' W l o').block k (by have := (Array.getElem?_eq_some_iff.1 h).1; omega) (by simp; omega)⟩
theorem frame_own {β : Type} (S : List Nat) (w3 : World) : OwnFrom w3.heap.size (fun (_ : β) W => Frame S w3 W) := fun _ W W' row hs hg hr =>
  ⟨hg.os.trans hs.os, hg.tape.trans hs.tape, hg.output.trans hs.output, Nat.le_trans hs.size hg.size, fun k hk hS => (hg.block k (Nat.lt_of_lt_of_le hk hs.size) (fun e => by have := (hr k e.symm).1; omega)).trans (hs.block k hk hS)⟩
theorem blk_own {β : Type} {w3 : World} (b : β → Nat) (T : β → Nat) (cs : β → Array Value) : OwnFrom w3.heap.size (fun s W => Blk W (b s) (T s) (cs s)) := fun s W W' row hs hg hr =>
  (grownBy_keeps_cells hg (fun r e => (hr r e).2) hs rfl).trans hs
theorem KeepD.grown {B : Nat} {W W' : World} {row : Option Nat} (hg : W.grownBy W' row) (hr : ∀ r, row = some r → B ≤ r ∧ ∃ o : Obj, W.heap[r]? = some o ∧ o.isCells = false) : KeepD W W' := fun k cs c h => grownBy_keeps_cells hg (fun r e => (hr r e).2) h rfl

theorem frame_putObj {W : World} {D : Nat} {o o' : Obj} (h : W.heap[D]? = some o) : Frame [D] W (W.putObj D o') := Frame.of_grown (grownBy_putObj' W D o') (fun k e => by cases e; simp)
theorem keepD_putObj {W : World} {D : Nat} {o' : Obj} (h : W.heap[D]? = some (.deferred (some []))) : KeepD W (W.putObj D o') := fun k cs c hk => (frame_putObj h).block k (Array.getElem?_eq_some_iff.1 hk).1 (by
  simp only [List.mem_singleton]
  rintro rfl
  rw [h] at hk; cases hk)
def WI {V : Type} (n tok : Int) (ws : List Wg) (w3 : World) (Bo : Nat) (o : Array Value) (pre : List (Fin ws.length)) (W : World) : Prop :=
  (∀ i ∈ pre, hit n tok ws[i.val] = false) ∧ Frame [Bo] w3 W ∧ Blk W Bo 39 o
def WX {V : Type} (Is : World → Value → V → Prop) (R : Rg V) (dec : Wg → V) (n tok : Int) (ws : List Wg) (w3 : World) (Bo : Nat) (c : Code) (pre : List (Fin ws.length)) (W : World) : Prop :=
  c = .exit 0 ∧ (∃ ini last, pre = ini ++ [last] ∧ (∀ i ∈ ini, hit n tok ws[i.val] = false) ∧ hit n tok ws[last.val] = true ∧
    ∃ v, Blk W Bo 39 v ∧ Is W (.agg v) (R.t (dec ws[last.val]) R.o)) ∧ Frame [Bo] w3 W
theorem wi_own {V : Type} {n tok : Int} {ws : List Wg} {w3 : World} {Bo : Nat} {o : Array Value} : OwnFrom w3.heap.size (WI (V := V) n tok ws w3 Bo o) := fun s W W' row hs hg hr =>
  ⟨hs.1, frame_own (β := Unit) [Bo] w3 () W W' row hs.2.1 hg hr, blk_own (β := Unit) (w3 := w3) (fun _ => Bo) (fun _ => 39) (fun _ => o) () W W' row hs.2.2 hg hr⟩
theorem wx_own {V : Type} {Is : World → Value → V → Prop} (kp : Kept Is) {R : Rg V} {dec : Wg → V} {n tok : Int} {ws : List Wg} {w3 : World} {Bo : Nat} (c : Code) : OwnFrom w3.heap.size (WX Is R dec n tok ws w3 Bo c) := fun s W W' row hs hg hr => by
  obtain ⟨h0, ⟨ini, last, h1, h2, h3, v, h4, h5⟩, h6⟩ := hs
  exact ⟨h0, ⟨ini, last, h1, h2, h3, v, blk_own (β := Unit) (w3 := w3) (fun _ => Bo) (fun _ => 39) (fun _ => v) () W W' row h4 hg hr, kp _ _ _ _ h5 (KeepD.grown hg hr)⟩, frame_own (β := Unit) [Bo] w3 () W W' row h6 hg hr⟩

set_option maxRecDepth 100000 in
set_option maxHeartbeats 4000000 in
theorem weigh_any {V : Type} {n : Int} {R : Rg V} {Is : World → Value → V → Prop} {Pl Tm : V → V → Prop} {Sr : V → Prop} (hS : SemOk n R Is Pl Tm Sr) (dec : Wg → V)
    (a : Option Addr) (cap : Nat) (ws : List Wg) (tok : Int) (w : World) (hl : ws.length ≤ 1000000) (hw : WRd (fun b => b < w.heap.size) w a ws)
    (hd : ∀ x ∈ ws, hit n tok x = true → Is w x.val (dec x) ∧ Tm (dec x) R.o) :
    Calls Try.prog 44 #[.slice a ws.length cap, .int .i64 n, .int .i64 tok] w fun e w' => WEnd Is (weighV R dec n ws tok) w e w' := by
  have S := Lib.hid hS
  have HW := Lib.hid hw
  have HD := Lib.hid hd
  clear hS hw hd
  have hst := fun (w : World) (a : Addr) (q : Nat) (m : Mode) => run_store Try.prog w a (.float .f64 q) m rfl
  refine (callsIn_wide (n := 9)).1 ?_
  refine callsIn_of_wp_marks Try.func44 rfl trivial ?_ rfl
  simp only [Try.ntmps44, List.size_toArray, List.length_cons, List.length_nil, Nat.reduceAdd, Nat.reduceSub, Array.replicate_succ, Array.replicate_zero, List.push_toArray, List.append_toArray, List.nil_append, List.cons_append]
  have fA : Hid (Frame [] w (((w.alloc (.cells #[.int .i64 n] 3)).alloc (.cells #[.int .i64 tok] 3)).alloc (.cells #[.int .i64 0, .bool false, .slice none 0 0, .int .i64 0, .float .f64 0] 39))) := by show Frame [] w _; (repeat first | assumption | exact Frame.refl _ _ | refine Frame.trans1 ?_ (Frame.alloc _ _ _) | refine Frame.trans1 ?_ (Frame.drew _ _) | refine Frame.trans1 ?_ (Frame.drewN _ _ _))
  have b4 := Lib.hid (((Blk.new w 3 #[.int .i64 n]).alloc (.cells #[.int .i64 tok] 3)).alloc (.cells #[.int .i64 0, .bool false, .slice none 0 0, .int .i64 0, .float .f64 0] 39))
  have b5 := ((Blk.new (w.alloc (.cells #[.int .i64 n] 3)) 3 #[.int .i64 tok]).alloc (.cells #[.int .i64 0, .bool false, .slice none 0 0, .int .i64 0, .float .f64 0] 39))
  have b6 := Blk.new ((w.alloc (.cells #[.int .i64 n] 3)).alloc (.cells #[.int .i64 tok] 3)) 39 #[.int .i64 0, .bool false, .slice none 0 0, .int .i64 0, .float .f64 0]
  simp only [World.size_alloc] at b5 b6
  have B5 := Lib.hid b5
  have B6 := Lib.hid b6
  clear b5 b6
  gi_wp2_with (refine ⟨trivial, ?_⟩; gi_at_call 42; refine (callsIn_wide.2 (S.out.one _)).mono ?_)
  generalize (((w.alloc (.cells #[.int .i64 n] 3)).alloc (.cells #[.int .i64 tok] 3)).alloc (.cells #[.int .i64 0, .bool false, .slice none 0 0, .int .i64 0, .float .f64 0] 39)) = wA at *
  rintro e w1 ⟨o, rfl, is1, f1⟩
  obtain ⟨oi, oa, ol, oc, ov, of_, rfl⟩ := S.out.form is1
  have IS1 := Lib.hid is1
  have F1 := Lib.hid (fA.out.trans1 f1)
  have C4 := Lib.hid (b4.out.frame f1 (by simp))
  have C5 := Lib.hid (B5.out.frame f1 (by simp))
  have C6 := Lib.hid (B6.out.frame f1 (by simp))
  clear is1 f1 fA b4 B5 B6
  gi_wp2_with (refine ⟨trivial, ?_⟩; gi_at_call 66; refine (backward_in Fence.wide 8 trivial rfl _ _ _ _).mono ?_; rintro e w' ⟨rfl, rfl⟩)
  have hf3 : Frame [] w1 ((w1.alloc (.cells #[.int .i64 n, .bool oi, .slice oa ol oc, .int .i64 ov, .float .f64 of_] 39)).alloc (.cells #[.slice a ws.length cap] 62)) := by (repeat first | assumption | exact Frame.refl _ _ | refine Frame.trans1 ?_ (Frame.alloc _ _ _) | refine Frame.trans1 ?_ (Frame.drew _ _) | refine Frame.trans1 ?_ (Frame.drewN _ _ _))
  have hbo := (Blk.new w1 39 #[.int .i64 n, .bool oi, .slice oa ol oc, .int .i64 ov, .float .f64 of_]).alloc (.cells #[.slice a ws.length cap] 62)
  have hbs := Blk.new (w1.alloc (.cells #[.int .i64 n, .bool oi, .slice oa ol oc, .int .i64 ov, .float .f64 of_] 39)) 62 #[.slice a ws.length cap]
  have hz : ((w1.alloc (.cells #[.int .i64 n, .bool oi, .slice oa ol oc, .int .i64 ov, .float .f64 of_] 39)).alloc (.cells #[.slice a ws.length cap] 62)).heap.size = w1.heap.size + 1 + 1 := by simp
  simp only [World.size_alloc] at hbs
  have hlo : w.heap.size + 1 + 1 < w1.heap.size := C6.out.lt
  obtain ⟨w3, hw3⟩ : ∃ w3, (w1.alloc (.cells #[.int .i64 n, .bool oi, .slice oa ol oc, .int .i64 ov, .float .f64 of_] 39)).alloc (.cells #[.slice a ws.length cap] 62) = w3 := ⟨_, rfl⟩
  rw [hw3] at hf3 hbo hbs hz ⊢
  clear hw3
  have F3 := Lib.hid (F1.out.trans1 hf3)
  have D4 := Lib.hid (C4.out.frame hf3 (by simp))
  have D5 := Lib.hid (C5.out.frame hf3 (by simp))
  have D6 := Lib.hid (C6.out.frame hf3 (by simp))
  have IS3 := Lib.hid (S.out.keep _ _ _ _ IS1.out (KeepD.of0 hf3))
  clear C4 C5 C6 IS1 F1 hf3
  generalize w1.heap.size = Bo at *
  have HW3 : Hid (WRd (fun b => b < Bo + 1 + 1 ∧ b ≠ Bo) w3 a ws) := by
    show WRd (fun b => b < Bo + 1 + 1 ∧ b ≠ Bo) w3 a ws
    intro k x hx
    obtain ⟨b, off, h1, h2, h3⟩ := HW.out k x hx
    exact ⟨b, off, h1, by omega, fun j u hu => F3.out.cell (h3 j u hu) (by simp)⟩
  refine wpIn_rangeFunc_ownH (n := 9) (w := w3) rfl (by omega) (gf := 88) (lb := #[.pointer (some ⟨Bo + 1, 0, none⟩)]) rfl trivial (enters_of Try.func88 (by kernel_rfl) rfl)
    (backward_stops Fence.wide 8 trivial rfl (by omega) (Bo + 1) Bo (Bo + 1 + 1) a cap ws hl w3 (by omega) (by omega) (by omega) (hbs.at 0 rfl) HW3.out) (fun h k => KpO.trans h k) (kpO_b (by omega)) (Below.refl _ _) (fun _ => rfl)
    (WI (V := V) n tok ws w3 Bo #[.int .i64 n, .bool oi, .slice oa ol oc, .int .i64 ov, .float .f64 of_]) (WX Is R dec n tok ws w3 Bo) wi_own (fun c => wx_own S.out.keep c)
    ⟨by simp, Frame.refl _ _, hbo⟩
    (fun x a' W => ∃ Bx, w3.heap.size ≤ Bx ∧ Blk W Bx 91 (ws[x.val].cs.toArray) ∧ a' = { tmps := #[.slice a ws.length cap, .int .i64 n, .int .i64 tok, undef, .pointer (some ⟨w.heap.size, 0, none⟩), .pointer (some ⟨w.heap.size + 1, 0, none⟩), .pointer (some ⟨w.heap.size + 1 + 1, 0, none⟩), .pointer (some ⟨Bo, 0, none⟩), .int .i64 0, undef, .pointer (some ⟨Bx, 0, none⟩), .tuple #[.agg #[.int .i64 n, .bool oi, .slice oa ol oc, .int .i64 ov, .float .f64 of_], .int .i64 0], .int .i64 n, .tuple #[.agg #[.int .i64 n, .bool oi, .slice oa ol oc, .int .i64 ov, .float .f64 of_], .int .i64 0], .agg #[.int .i64 n, .bool oi, .slice oa ol oc, .int .i64 ov, .float .f64 of_], .int .i64 0, .slice a ws.length cap, .func (.func 88) #[] #[.pointer (some ⟨Bo + 1, 0, none⟩)], .int .i64 (x.val : Int), ws[x.val].v, undef, undef, undef, undef, undef, undef, undef, undef, undef, undef, undef, undef, undef, undef, undef, undef, undef, undef, undef], defers := [] })
    (fun x a' _ X Y row hs hg hr => by obtain ⟨Bx, h1, h2, h3⟩ := hs; exact ⟨Bx, h1, blk_own (β := Unit) (w3 := w3) (fun _ => Bx) (fun _ => 91) (fun _ => ws[x.val].cs.toArray) () X Y row h2 hg hr, h3⟩)
    ?assign ?body ?done ?stop
  case assign =>
    have hsa := @Oper.semAt_some
    rintro l pre x W K ⟨i1, i2, i3⟩ hK
    have I := Lib.hid (And.intro i1 (And.intro i2 i3))
    clear i1 i2 i3
    generalize hx : ws[x.val] = y at *
    have HX := Lib.hid hx
    clear hx
    obtain ⟨tk, sm, yi, ya, yl, yc, yv, yf⟩ := y
    simp only [Wg.v, Wg.cs] at hK ⊢
    gi_wp2
    have fW : Frame [] W (W.alloc (.cells #[.int .i64 tk, .int .i64 sm, .bool yi, .slice ya yl yc, .int .i64 yv, .float .f64 yf] 91)) := Frame.alloc _ _ _
    have hsz := I.out.2.1.size
    refine hK _ _ (KeepsFrom.of_frame (S := []) fW (by simp)) (KpO.of_frame0 fW (by omega)) ⟨I.out.1, I.out.2.1.trans0 fW, I.out.2.2.frame fW (by simp)⟩ ⟨W.heap.size, hsz, Blk.new _ _ _, rfl⟩
  case body =>
    have hsa := @Oper.semAt_some
    rintro l pre x a' W hl0 ⟨r, hr⟩ ⟨i1, i2, i3⟩ ⟨Bx, hBx, bX, rfl⟩ hlt
    have c4 := (D4.out.frame i2 (by simp; omega)).at 0 rfl
    have c5 := (D5.out.frame i2 (by simp; omega)).at 0 rfl
    have hxm : ws[x.val] ∈ ws := List.getElem_mem x.2
    generalize hx : ws[x.val] = y at *
    have HX := Lib.hid hx
    clear hx
    have HM := Lib.hid hxm
    clear hxm
    obtain ⟨tk, sm, yi, ya, yl, yc, yv, yf⟩ := y
    simp only [Wg.v, Wg.cs] at bX ⊢
    have x0 := bX.at 0 rfl
    have x1 := bX.at 1 rfl
    have x2 := bX.at 2 rfl
    have x3 := bX.at 3 rfl
    have x4 := bX.at 4 rfl
    have x5 := bX.at 5 rfl
    have I := Lib.hid (And.intro i1 (And.intro i2 i3))
    clear i1 i2 i3 bX hlt
    by_cases ht : tk = tok
    · by_cases hs : sm = n
      · subst ht hs
        have hit1 : hit sm tk ws[x.val] = true := by rw [HX.out]; simp [hit]
        have o0 := I.out.2.2.at 0 rfl
        have o1 := I.out.2.2.at 1 rfl
        have o2 := I.out.2.2.at 2 rfl
        have o3 := I.out.2.2.at 3 rfl
        have o4 := I.out.2.2.at 4 rfl
        have kdW := (KeepD.of0 F3.out).trans (KeepD.blk I.out.2.1 hbo (by decide))
        have hDx := HD.out _ HM.out (by simp [hit])
        have CT := Lib.hid (S.out.times W _ _ _ _ (S.out.keep _ _ _ _ hDx.1 kdW) (S.out.keep _ _ _ _ IS3.out (KeepD.blk I.out.2.1 hbo (by decide))) hDx.2)
        have HIT := Lib.hid hit1
        clear hit1 kdW hDx
        gi_wp2_with (refine ⟨trivial, ?_⟩; gi_at_call 46; refine (CallsIn.inRound l (callsIn_wide.2 CT.out)).mono ?_)
        rintro e W2 ⟨u, rfl, isu, f2⟩
        obtain ⟨ui, ua, ul, uc, uv, uf, rfl⟩ := S.out.form isu
        have BO2 := Lib.hid (I.out.2.2.frame f2 (by simp))
        have y0 := BO2.out.at 0 rfl
        have y1 := BO2.out.at 1 rfl
        have y2 := BO2.out.at 2 rfl
        have y3 := BO2.out.at 3 rfl
        have y4 := BO2.out.at 4 rfl
        have z0 := BO2.out.frozen
        have E := Lib.hid (And.intro isu f2)
        clear isu f2
        gi_wp2
        have hB9 := putV BO2.out (.int .i64 sm) (.bool ui) (.slice ua ul uc) (.int .i64 uv) (.float .f64 uf)
        have hF9 : Frame [Bo] W2 (((((W2.setCell ⟨Bo, 0, none⟩ (.int .i64 sm)).setCell ⟨Bo, 1, none⟩ (.bool ui)).setCell ⟨Bo, 2, none⟩ (.slice ua ul uc)).setCell ⟨Bo, 3, none⟩ (.int .i64 uv)).setCell ⟨Bo, 4, none⟩ (.float .f64 uf)) := by
          have st : ∀ {x : World} (f : Frame [Bo] W2 x) (i : Nat) (v : Value), Frame [Bo] W2 (x.setCell ⟨Bo, i, none⟩ v) := fun f i v => f.trans1 (Frame.setCell (S := [Bo]) _ _ _ (by simp))
          exact st (st (st (st (st (Frame.refl _ _) 0 _) 1 _) 2 _) 3 _) 4 _
        generalize (((((W2.setCell ⟨Bo, 0, none⟩ (.int .i64 sm)).setCell ⟨Bo, 1, none⟩ (.bool ui)).setCell ⟨Bo, 2, none⟩ (.slice ua ul uc)).setCell ⟨Bo, 3, none⟩ (.int .i64 uv)).setCell ⟨Bo, 4, none⟩ (.float .f64 uf)) = w9 at *
        have f9 : Frame [Bo] W w9 := (E.out.2.mono (by simp)).trans1 hF9
        refine ⟨KeepsFrom.of_frame f9 (fun b hb => by simp at hb; subst hb; exact ⟨_, _, I.out.2.2⟩), rfl, ⟨pre, x, rfl, I.out.1, HIT.out, _, hB9, ?_⟩, I.out.2.1.trans1 f9⟩
        rw [HX.out]
        exact S.out.keep _ _ _ _ E.out.1 (KeepD.blk hF9 BO2.out (by decide))
      · have hb1 : (sm == n) = false := by simpa using hs
        have hit0 : hit n tok ws[x.val] = false := by rw [HX.out]; simp [hit, hb1]
        have HIT := Lib.hid hit0
        subst ht
        clear hit0 hs
        gi_wp2
        exact ⟨KeepsFrom.refl _ _, KpO.refl _ _ _, fun i hi => by
          rw [List.mem_append] at hi
          rcases hi with hi | hi
          · exact I.out.1 i hi
          · simp at hi; subst hi; exact HIT.out, I.out.2.1, I.out.2.2⟩
    · have hb1 : (tk == tok) = false := by simpa using ht
      have hit0 : hit n tok ws[x.val] = false := by rw [HX.out]; simp [hit, hb1]
      have HIT := Lib.hid hit0
      clear hit0 ht
      gi_wp2
      exact ⟨KeepsFrom.refl _ _, KpO.refl _ _ _, fun i hi => by
        rw [List.mem_append] at hi
        rcases hi with hi | hi
        · exact I.out.1 i hi
        · simp at hi; subst hi; exact HIT.out, I.out.2.1, I.out.2.2⟩
  case done =>
    rintro D ys W hD rfl ⟨i1, i2, i3⟩ hK
    have J := Lib.hid (And.intro i2 (And.intro i3 (S.out.keep _ _ _ _ IS3.out (KeepD.blk i2 hbo (by decide)))))
    have HN := Lib.hid (weigh_none (R := R) (dec := dec) i1)
    clear i1 i2 i3
    have B6 := Lib.hid (D6.out.frame J.out.1 (by simp; omega))
    have y0 := B6.out.at 0 rfl
    have y1 := B6.out.at 1 rfl
    have y2 := B6.out.at 2 rfl
    have y3 := B6.out.at 3 rfl
    have y4 := B6.out.at 4 rfl
    have z0 := B6.out.frozen
    have x0 := J.out.2.1.at 0 rfl
    have x1 := J.out.2.1.at 1 rfl
    have x2 := J.out.2.1.at 2 rfl
    have x3 := J.out.2.1.at 3 rfl
    have x4 := J.out.2.1.at 4 rfl
    have HK := Lib.hid hK
    clear hK
    gi_wp2
    have hB9 := putV B6.out (.int .i64 n) (.bool oi) (.slice oa ol oc) (.int .i64 ov) (.float .f64 of_)
    have hF9 : Frame [w.heap.size + 1 + 1] W (((((W.setCell ⟨w.heap.size + 1 + 1, 0, none⟩ (.int .i64 n)).setCell ⟨w.heap.size + 1 + 1, 1, none⟩ (.bool oi)).setCell ⟨w.heap.size + 1 + 1, 2, none⟩ (.slice oa ol oc)).setCell ⟨w.heap.size + 1 + 1, 3, none⟩ (.int .i64 ov)).setCell ⟨w.heap.size + 1 + 1, 4, none⟩ (.float .f64 of_)) := by
      have st : ∀ {x : World} (f : Frame [w.heap.size + 1 + 1] W x) (i : Nat) (v : Value), Frame [w.heap.size + 1 + 1] W (x.setCell ⟨w.heap.size + 1 + 1, i, none⟩ v) := fun f i v => f.trans1 (Frame.setCell (S := [w.heap.size + 1 + 1]) _ _ _ (by simp))
      exact st (st (st (st (st (Frame.refl _ _) 0 _) 1 _) 2 _) 3 _) 4 _
    have hne : D ≠ w.heap.size + 1 + 1 := by
      intro e; have h1 := B6.out; rw [← e] at h1; unfold Blk at h1; rw [HK.out] at h1; cases h1
    generalize (((((W.setCell ⟨w.heap.size + 1 + 1, 0, none⟩ (.int .i64 n)).setCell ⟨w.heap.size + 1 + 1, 1, none⟩ (.bool oi)).setCell ⟨w.heap.size + 1 + 1, 2, none⟩ (.slice oa ol oc)).setCell ⟨w.heap.size + 1 + 1, 3, none⟩ (.int .i64 ov)).setCell ⟨w.heap.size + 1 + 1, 4, none⟩ (.float .f64 of_)) = w9 at *
    have hK' : w9.heap[D]? = some (.deferred (some [])) := (hF9.block D (Array.getElem?_eq_some_iff.1 HK.out).1 (by simpa using hne)).trans HK.out
    have hP := frame_putObj (o' := .deferred none) hK'
    refine ⟨by simp, .inl ⟨_, _, rfl, run_takeDeferred hK', ?_⟩⟩
    have hB10 := hB9.frame hP (by simp; exact fun e => hne e.symm)
    refine ⟨_, results_val1 rfl _ _ _ _ _ _ _ _ rfl hB10, ?_⟩
    refine ⟨_, rfl, ?_, ((F3.out.trans J.out.1 (fun x hx => .inr (by simp at hx; omega))).trans hF9 (fun x hx => .inr (by simp at hx; omega))).trans hP (fun x hx => .inr (by simp at hx; subst hx; have := F3.out.size; omega))⟩
    rw [HN.out]
    exact S.out.keep _ _ _ _ (S.out.keep _ _ _ _ J.out.2.2 (KeepD.blk hF9 B6.out (by decide))) (keepD_putObj hK')
  case stop =>
    rintro D c pre W hD ⟨k, hk, rfl⟩ ⟨rfl, ⟨ini, last, e1, e2, e3, v, b, is⟩, i2⟩ hK
    obtain ⟨ui, ua, ul, uc, uv, uf, hv⟩ := S.out.form is
    simp only [Value.agg.injEq] at hv
    subst hv
    have J := Lib.hid (And.intro i2 (And.intro b is))
    have HN := Lib.hid (weigh_some (R := R) (dec := dec) e1 e2 e3)
    clear e1 e2 e3 b is i2
    have B6 := Lib.hid (D6.out.frame J.out.1 (by simp; omega))
    have y0 := B6.out.at 0 rfl
    have y1 := B6.out.at 1 rfl
    have y2 := B6.out.at 2 rfl
    have y3 := B6.out.at 3 rfl
    have y4 := B6.out.at 4 rfl
    have z0 := B6.out.frozen
    have x0 := J.out.2.1.at 0 rfl
    have x1 := J.out.2.1.at 1 rfl
    have x2 := J.out.2.1.at 2 rfl
    have x3 := J.out.2.1.at 3 rfl
    have x4 := J.out.2.1.at 4 rfl
    have HK := Lib.hid hK
    clear hK
    gi_wp2
    have hB9 := putV B6.out (.int .i64 n) (.bool ui) (.slice ua ul uc) (.int .i64 uv) (.float .f64 uf)
    have hF9 : Frame [w.heap.size + 1 + 1] W (((((W.setCell ⟨w.heap.size + 1 + 1, 0, none⟩ (.int .i64 n)).setCell ⟨w.heap.size + 1 + 1, 1, none⟩ (.bool ui)).setCell ⟨w.heap.size + 1 + 1, 2, none⟩ (.slice ua ul uc)).setCell ⟨w.heap.size + 1 + 1, 3, none⟩ (.int .i64 uv)).setCell ⟨w.heap.size + 1 + 1, 4, none⟩ (.float .f64 uf)) := by
      have st : ∀ {x : World} (f : Frame [w.heap.size + 1 + 1] W x) (i : Nat) (v : Value), Frame [w.heap.size + 1 + 1] W (x.setCell ⟨w.heap.size + 1 + 1, i, none⟩ v) := fun f i v => f.trans1 (Frame.setCell (S := [w.heap.size + 1 + 1]) _ _ _ (by simp))
      exact st (st (st (st (st (Frame.refl _ _) 0 _) 1 _) 2 _) 3 _) 4 _
    have hne : D ≠ w.heap.size + 1 + 1 := by
      intro e; have h1 := B6.out; rw [← e] at h1; unfold Blk at h1; rw [HK.out] at h1; cases h1
    generalize (((((W.setCell ⟨w.heap.size + 1 + 1, 0, none⟩ (.int .i64 n)).setCell ⟨w.heap.size + 1 + 1, 1, none⟩ (.bool ui)).setCell ⟨w.heap.size + 1 + 1, 2, none⟩ (.slice ua ul uc)).setCell ⟨w.heap.size + 1 + 1, 3, none⟩ (.int .i64 uv)).setCell ⟨w.heap.size + 1 + 1, 4, none⟩ (.float .f64 uf)) = w9 at *
    have hK' : w9.heap[D]? = some (.deferred (some [])) := (hF9.block D (Array.getElem?_eq_some_iff.1 HK.out).1 (by simpa using hne)).trans HK.out
    have hP := frame_putObj (o' := .deferred none) hK'
    refine ⟨by simp, .inl ⟨_, _, rfl, run_takeDeferred hK', ?_⟩⟩
    have hB10 := hB9.frame hP (by simp; exact fun e => hne e.symm)
    refine ⟨_, results_val1 rfl _ _ _ _ _ _ _ _ rfl hB10, ?_⟩
    refine ⟨_, rfl, ?_, ((F3.out.trans J.out.1 (fun x hx => .inr (by simp at hx; omega))).trans hF9 (fun x hx => .inr (by simp at hx; omega))).trans hP (fun x hx => .inr (by simp at hx; subst hx; have := F3.out.size; omega))⟩
    rw [HN.out]
    exact S.out.keep _ _ _ _ (S.out.keep _ _ _ _ J.out.2.2 (KeepD.blk hF9 B6.out (by decide))) (keepD_putObj hK')
end Go.Proofs.Ytbnhhmejlglbcaa

