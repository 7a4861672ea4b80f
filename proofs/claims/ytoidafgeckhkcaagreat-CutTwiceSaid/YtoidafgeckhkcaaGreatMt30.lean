/- slices.Backward over weights: the iterator. -/
import Derived.RangeFuncNested
import Derived.RangeFuncBound
import Derived.RangeFuncCalls
import Derived.RangeFuncLeaves
import Derived.Shelf.Abstract
import Derived.Shelf.RegionOpen
import Derived.WalkKit
import Derived.OwnWalkIn
import Derived.TacticsInMore
import Derived.LoopNIn
import Derived.LoopIn
import Derived.IntWalk
import Derived.Test.YtoidafgeckhkcaaGreatMt29
namespace Go.Proofs.YtoidafgeckhkcaaGreat
open Go.RowKit Go.Shelf
set_option linter.unusedSimpArgs false
set_option linter.unusedVariables false

/-- A weight: a token, a value. -/
structure Wg where
  tok : Int
  sem : Int
  inf : Bool
  sa : Option Addr
  sl : Nat
  sc : Nat
  lv : Int
  fl : Nat
  deriving Inhabited
def Wg.cs (x : Wg) : List Value := [.int .i64 x.tok, .int .i64 x.sem, .bool x.inf, .slice x.sa x.sl x.sc, .int .i64 x.lv, .float .f64 x.fl]
def Wg.v (x : Wg) : Value := .agg #[.int .i64 x.tok, .int .i64 x.sem, .bool x.inf, .slice x.sa x.sl x.sc, .int .i64 x.lv, .float .f64 x.fl]
def Wg.val (x : Wg) : Value := .agg #[.int .i64 x.sem, .bool x.inf, .slice x.sa x.sl x.sc, .int .i64 x.lv, .float .f64 x.fl]
/-- A row of weights, in blocks of which U holds. -/
def WRd (U : Nat → Prop) (w : World) (a : Option Addr) (ws : List Wg) : Prop := ∀ k x, ws[k]? = some x → ∃ b off, a = some ⟨b, off, none⟩ ∧ U b ∧ ∀ j u, x.cs[j]? = some u → w.cell? ⟨b, off + k * 6 + j, none⟩ = some u
/-- Blocks below N0 but Bo are as they were. -/
def KpO (Bo N0 : Nat) (W W' : World) : Prop := W.heap.size ≤ W'.heap.size ∧ ∀ k, k < N0 → k ≠ Bo → W'.heap[k]? = W.heap[k]?
theorem KpO.refl (Bo N0 : Nat) (W : World) : KpO Bo N0 W W := ⟨Nat.le_refl _, fun _ _ _ => rfl⟩
theorem KpO.trans {Bo N0 : Nat} {A B C : World} (h : KpO Bo N0 A B) (k : KpO Bo N0 B C) : KpO Bo N0 A C := ⟨Nat.le_trans h.1 k.1, fun i h1 h2 => (k.2 i h1 h2).trans (h.2 i h1 h2)⟩
theorem KpO.cell {Bo N0 : Nat} {A B : World} (h : KpO Bo N0 A B) {p : Addr} {v : Value} (hc : A.cell? p = some v) (h1 : p.block < N0) (h2 : p.block ≠ Bo) : B.cell? p = some v := (World.cell?_of_block (h.2 _ h1 h2)).trans hc
theorem WRd.kp {Bo N0 : Nat} {A B : World} {a : Option Addr} {ws : List Wg} (h : WRd (fun b => b < N0 ∧ b ≠ Bo) A a ws) (k : KpO Bo N0 A B) : WRd (fun b => b < N0 ∧ b ≠ Bo) B a ws := fun i x hx => by
  obtain ⟨b, off, h1, h2, h3⟩ := h i x hx
  exact ⟨b, off, h1, h2, fun j u hu => k.cell (h3 j u hu) h2.1 h2.2⟩
/-- What has come, k rounds on: from the end. -/
def downs (ws : List Wg) (k : Nat) : List (Fin ws.length) := (List.finRange ws.length).reverse.take k
theorem downs_succ {ws : List Wg} {k m : Nat} (hm : m < ws.length) (hk : k + m + 1 = ws.length) : downs ws (k + 1) = downs ws k ++ [⟨m, hm⟩] := by
  unfold downs
  rw [List.take_add_one, List.getElem?_eq_getElem (by simp; omega)]
  have : (List.finRange ws.length).reverse[k]'(by simp; omega) = ⟨m, hm⟩ := by
    rw [List.getElem_reverse]
    apply Fin.ext
    simp; omega
  rw [this]; rfl
theorem downs_length {ws : List Wg} {k : Nat} (h : k ≤ ws.length) : (downs ws k).length = k := by simp [downs, h]
theorem downs_map (ws : List Wg) (k : Nat) : (downs ws k).map (fun i => ws[i.val]) = ws.reverse.take k := by
  unfold downs
  rw [List.map_take, List.map_reverse]
  congr 2
  apply List.ext_getElem
  · simp
  · intro i h1 h2; simp

set_option maxRecDepth 100000 in
set_option maxHeartbeats 2000000 in
theorem backward1_in (F : Fence) (n : Nat) (hF : F.fn 127) (hro : F.round = none) (hn : 1 ≤ n) (l Bs Bo N0 : Nat) (a : Option Addr) (cap : Nat) (ws : List Wg) (hl : ws.length ≤ 1000000) (J Jx : List (Fin ws.length) → World → Prop) (hs1 : Bs < N0) (hs2 : Bs ≠ Bo)
    (hY : ∀ pre x W, J pre W → pre.length < ws.length → YieldAt F (n - 1) Tryz.prog l #[.int .i64 (x.val : Int), ws[x.val].v] W fun e W' =>
      (e = .returned (.bool true) ∧ J (pre ++ [x]) W' ∧ KpO Bo N0 W W') ∨ (e = .returned (.bool false) ∧ Jx (pre ++ [x]) W'))
    (W : World) (hBs : W.cell? ⟨Bs, 0, none⟩ = some (.slice a ws.length cap)) (hw : WRd (fun b => b < N0 ∧ b ≠ Bo) W a ws) (h0 : J [] W) :
    CallsIn F n Tryz.prog 127 #[.func (.yield l) #[] #[], .pointer (some ⟨Bs, 0, none⟩)] W fun e W' => (∃ v, e = .returned v) ∧
      ((∃ ys, ys = downs ws ws.length ∧ J ys W') ∨ (∃ pre, (∃ k, k ≤ ws.length ∧ pre = downs ws k) ∧ Jx pre W')) := by
  have e0 : IntKind.i64.wrap ((ws.length : Int) - 1) = (ws.length : Int) - 1 := IntWalk.i64_in _ (by omega)
  have HBS := Lib.hid hBs
  have HW := Lib.hid hw
  have HY := Lib.hid hY
  have H0 := Lib.hid h0
  clear hw hY h0
  refine callsIn_of_wp Tryz.func127 rfl hF ?_ hro
  simp only [Tryz.ntmps127, List.size_toArray, List.length_cons, List.length_nil, Nat.reduceAdd, Nat.reduceSub, Array.replicate_succ, Array.replicate_zero, List.push_toArray, List.append_toArray, List.nil_append, List.cons_append]
  gi_wp2
  clear hBs e0
  gi_loopw [3] (fun i wr => ∃ (m : Nat) (z : Int), m ≤ ws.length ∧ Hid (z = (m : Int) - 1) ∧ i = .int .i64 z ∧ Hid (J (downs ws (ws.length - m)) wr ∧ KpO Bo N0 W wr))
    (fun i _ => (intOf i + 1).toNat)
  case atStart => exact ⟨ws.length, _, Nat.le_refl _, Lib.hid rfl, rfl, Lib.hid ⟨by rw [Nat.sub_self]; exact H0.out, KpO.refl _ _ _⟩⟩
  case round =>
    rename World => wr
    obtain ⟨m, z, hm, hz, rfl, hR⟩ := hrel
    cases m with
    | zero =>
      obtain rfl : z = -1 := by have := hz.out; omega
      gi_wp2
      go_end0
      exact ⟨⟨_, rfl⟩, .inl ⟨_, rfl, by simpa using hR.out.1⟩⟩
    | succ m =>
      obtain rfl : z = (m : Int) := by have := hz.out; omega
      have hx : ws[m]? = some ws[m] := List.getElem?_eq_getElem (by omega)
      have hml : m < ws.length := by omega
      have hd : downs ws (ws.length - (m + 1) + 1) = downs ws (ws.length - (m + 1)) ++ [⟨m, hml⟩] := downs_succ hml (by omega)
      have HD := Lib.hid hd
      obtain ⟨b, off, rfl, hb, hc⟩ := (HW.out.kp hR.out.2) m _ hx
      obtain ⟨fn, tmps, assign, body, hy, hRr⟩ := HY.out _ ⟨m, hml⟩ wr hR.out.1 (by rw [downs_length (by omega)]; omega)
      have HRR := Lib.hid hRr
      simp only at hy
      generalize ws[m] = x at *
      have c0 := hc 0 _ rfl
      have c1 := hc 1 _ rfl
      have c2 := hc 2 _ rfl
      have c3 := hc 3 _ rfl
      have c4 := hc 4 _ rfl
      have c5 := hc 5 _ rfl
      simp only [Nat.add_zero] at c0
      have cb := hR.out.2.cell HBS.out hs1 hs2
      have e1 : IntKind.i64.wrap ((m : Int) - 1) = (m : Int) - 1 := IntWalk.i64_in _ (by omega)
      obtain ⟨tok, sem, inf, sa, sl, sc, lv, fl⟩ := x
      simp only [Wg.v] at hy
      clear hc hx hd hRr hz
      gi_wp2
      refine HRR.out.mono ?_
      rintro e W3 (⟨rfl, hJ3, hk3⟩ | ⟨rfl, hJx3⟩)
      · have E := Lib.hid (And.intro hJ3 hk3)
        clear hJ3 hk3 hy cb c0 c1 c2 c3 c4 c5
        gi_wp2
        go_roundw
        case rel => exact ⟨m, (m : Int) - 1, by omega, Lib.hid rfl, by first | rfl | go_num, Lib.hid ⟨by rw [show ws.length - m = ws.length - (m + 1) + 1 by omega, HD.out]; exact E.out.1, hR.out.2.trans E.out.2⟩⟩
        case measure => first | (simp [intOf]; done) | (simp [intOf]; omega)
      · have E := Lib.hid hJx3
        clear hJx3 hy cb c0 c1 c2 c3 c4 c5
        gi_wp2
        refine bodyPost_ret (results_none rfl _ _ _) rfl ?_
        exact ⟨⟨_, rfl⟩, .inr ⟨_, ⟨ws.length - (m + 1) + 1, by omega, rfl⟩, by rw [HD.out]; exact E.out⟩⟩
theorem backward_in (F : Fence) (n : Nat) (hF : F.fn 99) (hro : F.round = none) (a : Option Addr) (len cap : Nat) (w : World) :
    CallsIn F n Tryz.prog 99 #[.slice a len cap] w fun e w' => e = .returned (.func (.func 127) #[] #[.pointer (some ⟨w.heap.size, 0, none⟩)]) ∧ w' = w.alloc (.cells #[.slice a len cap] 42) := by
  refine callsIn_of_wp Tryz.func99 rfl hF ?_ hro
  simp only [Tryz.ntmps99, List.size_toArray, List.length_cons, List.length_nil, Nat.reduceAdd, Nat.reduceSub, Array.replicate_succ, Array.replicate_zero, List.push_toArray, List.append_toArray, List.nil_append, List.cons_append]
  gi_wp2
  go_ret
  exact ⟨rfl, rfl⟩
theorem backward_stops (F : Fence) (n : Nat) (hF : F.fn 127) (hro : F.round = none) (hn : 1 ≤ n) (Bs Bo N0 : Nat) (a : Option Addr) (cap : Nat) (ws : List Wg) (hl : ws.length ≤ 1000000) (w : World) (hN : N0 ≤ w.heap.size) (hs1 : Bs < N0) (hs2 : Bs ≠ Bo)
    (hc : w.cell? ⟨Bs, 0, none⟩ = some (.slice a ws.length cap)) (hw : WRd (fun b => b < N0 ∧ b ≠ Bo) w a ws) :
    SeqStopsK F n Tryz.prog 127 #[.pointer (some ⟨Bs, 0, none⟩)] (fun x : Fin ws.length => #[Value.int .i64 (x.val : Int), ws[x.val].v]) (KpO Bo N0) (fun ys => ys = downs ws ws.length)
      (fun pre => ∃ k, k ≤ ws.length ∧ pre = downs ws k) ws.length w := fun l J Jx W hW _ _ hY h0 => by
  have kp : KpO Bo N0 w W := ⟨hW.size, fun k h1 _ => hW.block k (by omega)⟩
  exact backward1_in F n hF hro hn l Bs Bo N0 a cap ws hl J Jx hs1 hs2 hY W (kp.cell hc hs1 hs2) (hw.kp kp) h0
end Go.Proofs.YtoidafgeckhkcaaGreat

