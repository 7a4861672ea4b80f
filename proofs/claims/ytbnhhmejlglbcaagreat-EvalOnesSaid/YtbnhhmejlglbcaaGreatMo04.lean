/- Package bail: what its functions do. bail.Catch: a closure's contract goes through it. -/
import Derived.Test.YtbnhhmejlglbcaaGreatMo01
namespace Go.Proofs.YtbnhhmejlglbcaaGreat
open Go.RowKit
set_option linter.unusedSimpArgs false
set_option linter.unusedVariables false

theorem left_any (b : Nat) (n : Int) (w : World) (hb : Blk w b 182 #[.int .i64 n]) :
    Calls Tryz.prog 197 #[.pointer (some ⟨b, 0, none⟩)] w fun e w' => e = .returned (.int .i64 n) ∧ w' = w := by
  have hc := hb.at 0 rfl
  go_enter Tryz.func197, Tryz.ntmps197
  go_wp2
  go_ret
  exact ⟨rfl, rfl⟩

theorem use_any (b : Nat) (n : Int) (w : World) (hb : Blk w b 182 #[.int .i64 n]) (h0 : 1 ≤ n) (h1 : n ≤ 1073741824) :
    Calls Tryz.prog 178 #[.pointer (some ⟨b, 0, none⟩), .int .i64 1] w fun e w' => e = .returned (.tuple #[]) ∧ Frame [b] w w' ∧ Blk w' b 182 #[.int .i64 (n - 1)] := by
  have hc := hb.at 0 rfl
  have hf := hb.frozen 0
  go_enter Tryz.func178, Tryz.ntmps178
  go_wp2_with (go_at_call 197; refine (left_any _ _ _ hb).mono ?_; rintro e w' ⟨rfl, rfl⟩)
  go_end0
  exact ⟨rfl, Frame.setCell _ _ _ (by simp), hb.set 0 _⟩

theorem newMeter_any (n : Int) (w : World) (h0 : 0 ≤ n) :
    Calls Tryz.prog 100 #[.int .i64 n] w fun e w' => e = .returned (.pointer (some ⟨w.heap.size, 0, none⟩)) ∧ w' = w.alloc (.cells #[.int .i64 n] 182) := by
  have hmx : max n 0 = n := by omega
  go_enter Tryz.func100, Tryz.ntmps100
  go_wp2
  go_ret
  exact ⟨rfl, rfl⟩

/-- What one leaves with. -/
def bailing (w : World) (code at_ : Int) (chain : List PanicEntry) (w' : World) : Prop :=
  ∃ nb, chain = [{ v := .iface 168 (.pointer (some ⟨nb, 0, none⟩)), recovered := false }] ∧ w.heap.size ≤ nb ∧ Blk w' nb 170 #[.int .i64 code, .int .i64 at_]

theorem out_any (code at_ : Int) (w : World) :
    Calls Tryz.prog 134 #[.int .i64 code, .int .i64 at_] w fun e w' => ∃ chain, e = .panicked chain ∧ bailing w code at_ chain w' ∧ Frame [] w w' := by
  go_enter Tryz.func134, Tryz.ntmps134
  go_wp2
  refine ⟨rfl, _, rfl, ⟨w.heap.size, rfl, Nat.le_refl _, Blk.new _ _ _⟩, Frame.alloc _ _ _⟩

/-- The budget is used up. -/
theorem use_none (b : Nat) (w : World) (hb : Blk w b 182 #[.int .i64 0]) :
    Calls Tryz.prog 178 #[.pointer (some ⟨b, 0, none⟩), .int .i64 1] w fun e w' => ∃ chain, e = .panicked chain ∧ bailing w 10 1 chain w' ∧ Frame [] w w' := by
  have hc := hb.at 0 rfl
  go_enter Tryz.func178, Tryz.ntmps178
  go_wp2_with (go_at_call 197; refine (left_any _ _ _ hb).mono ?_; rintro e w' ⟨rfl, rfl⟩)
  go_wp2_with fail
  refine (out_any 10 1 _).mono ?_
  rintro e w' ⟨chain, rfl, h1, h2⟩
  exact ⟨rfl, chain, rfl, h1, h2⟩

end Go.Proofs.YtbnhhmejlglbcaaGreat

namespace Go.Proofs.YtbnhhmejlglbcaaGreat
open Go.RowKit
set_option linter.unusedSimpArgs false
set_option linter.unusedVariables false

theorem run_makeFunc (fn : Fn) (first cap : Array Value) (w : World) : (Instr.makeFunc fn first cap).run Tryz.prog w = .ok (.func fn first cap) w := rfl

theorem eqIn_func_nil (d : Nat) (fn : Fn) (first cap : Array Value) (w : World) : (Op.equalIn (d + 1) 1 (.func fn first cap) .nilFunc).run Tryz.prog w = .ok false w := by
  simp [Op.equalIn, go_sem]
theorem run_neq_func_nil (fn : Fn) (first cap : Array Value) (w : World) : (binOp .neq 1 (.func fn first cap) .nilFunc).run Tryz.prog w = .ok (.bool true) w := by
  simp only [binOp]
  simp [Op.equal, Op.maxDepth, eqIn_func_nil 9999]

/-- Function K has a body of its own. -/
def Entered (K : Nat) : Prop := ∀ (args : Array Value) (w : World), (callFunc K args).run Tryz.prog w = .ok (.enter K args) w

/-- A call of a function value. -/
theorem call_any (K : Nat) (caps : Array Value) (w : World) (R : Ending → World → Prop) (hres : ∀ e w', R e w' → e = .returned (.tuple #[]) ∨ ∃ c, e = .panicked c)
    (hK : Entered K) (h : Calls Tryz.prog K caps w R) : Calls Tryz.prog 122 #[.func (.func K) #[] caps] w R := by
  have hcall := hK caps
  have hne := run_neq_func_nil (.func K) #[] caps
  have H := Lib.hid h
  have HR := Lib.hid hres
  clear h hres hK
  go_enter Tryz.func122, Tryz.ntmps122
  go_wp2_with fail
  refine H.out.mono ?_
  intro e w' hr
  rcases HR.out e w' hr with rfl | ⟨c, rfl⟩
  · go_wp2_with fail
    go_end0
    exact hr
  · exact ⟨rfl, hr⟩

theorem bail_isNil (x : Value) (w : World) : (binOp .eql 20 (.iface 168 x) .nilIface).run Tryz.prog w = .ok (.bool false) w := run_eql_held_nil w 20 168 x (by kernel_rfl)
theorem bail_assert (x : Value) (w : World) : (Instr.typeAssert (.iface 168 x) 20 168 true).run Tryz.prog w = .ok (.tuple #[x, .bool true]) w := by
  simp [Instr.typeAssert, go_sem]

/-- The deferred closure of Catch, of a frame that panics with a bail: it tells what was left with. -/
theorem catch1_bail (c1 c2 nb : Nat) (code at_ v1 v2 : Int) (older : List PanicEntry) (w : World) (h1 : Blk w c1 46 #[.int .i64 v1]) (h2 : Blk w c2 3 #[.int .i64 v2])
    (hb : Blk w nb 170 #[.int .i64 code, .int .i64 at_]) (hne : c1 ≠ c2) :
    CallsD Tryz.prog 121 #[.pointer (some ⟨c1, 0, none⟩), .pointer (some ⟨c2, 0, none⟩)] (.panicking ({ v := .iface 168 (.pointer (some ⟨nb, 0, none⟩)), recovered := false } :: older)) w fun e u' w' =>
      e = .returned (.tuple #[]) ∧ u' = .panicking ({ v := .iface 168 (.pointer (some ⟨nb, 0, none⟩)), recovered := true } :: older) ∧
      Blk w' c1 46 #[.int .i64 code] ∧ Blk w' c2 3 #[.int .i64 at_] ∧ Frame [c1, c2] w w' := by
  have d1 := h1.at 0 rfl
  have e1 := h1.frozen 0
  have d2 := h2.at 0 rfl
  have e2 := h2.frozen 0
  have b0 := hb.at 0 rfl
  have b1 := hb.at 1 rfl
  refine callsD_of_wpS Tryz.func121 rfl fun c₀ cs hu => ?_
  simp only [Tryz.ntmps121, List.size_toArray, List.length_cons, List.length_nil, Nat.reduceAdd, Nat.reduceSub, Array.replicate_succ, Array.replicate_zero, List.push_toArray, List.append_toArray, List.nil_append, List.cons_append]
  apply wpS_seq
  apply wpS_region
  simp [wpOpsS, go_sem, recoverD, hu, Exit.thenS]
  refine wpS_of_wp ?_
  clear hu
  have q1 := bail_isNil (.pointer (some ⟨nb, 0, none⟩))
  have q2 := bail_assert (.pointer (some ⟨nb, 0, none⟩))
  go_wp2_with fail
  go_region
  all_goals
    go_wp2_with fail
    refine ⟨rfl, _, rfl, .tuple #[], results_none rfl _ _ _, rfl, rfl, ?_, ?_, ?_⟩
    · exact ((h1.drew.set 0 _).set_ne _ hne)
    · exact ((h2.drew.set_ne _ hne.symm).set 0 _)
    · exact ((Frame.drew _ _).trans1 (Frame.setCell _ _ _ (by simp))).trans1 (Frame.setCell _ _ _ (by simp))

/-- .. of a frame that returns: nothing. -/
theorem catch1_idle (c1 c2 : Nat) (w : World) :
    CallsD Tryz.prog 121 #[.pointer (some ⟨c1, 0, none⟩), .pointer (some ⟨c2, 0, none⟩)] .returning w fun e u' w' => e = .returned (.tuple #[]) ∧ u' = .returning ∧ w' = w := by
  refine callsD_of_wpS Tryz.func121 rfl fun c₀ cs hu => ?_
  simp only [Tryz.ntmps121, List.size_toArray, List.length_cons, List.length_nil, Nat.reduceAdd, Nat.reduceSub, Array.replicate_succ, Array.replicate_zero, List.push_toArray, List.append_toArray, List.nil_append, List.cons_append]
  apply wpS_seq
  apply wpS_region
  simp [wpOpsS, go_sem, recoverD, hu, Exit.thenS]
  refine wpS_of_wp ?_
  go_wp2_with fail
  refine ⟨rfl, .returning, ?_, .tuple #[], results_none rfl _ _ _, rfl, rfl, rfl⟩
  cases c₀
  simp_all

/-- Catch, of a closure that comes back. R: what it leaves, which Catch's own two variables do not turn. -/
theorem catch_ret (K : Nat) (caps : Array Value) (w : World) (R : World → Prop) (S : List Nat) (hK : Entered K) (hS : ∀ x ∈ S, x < w.heap.size)
    (h : ∀ w1, Frame [] w w1 → w.heap.size + 2 = w1.heap.size → Calls Tryz.prog K caps w1 fun e w' => e = .returned (.tuple #[]) ∧ Frame S w1 w' ∧ ∀ w'', Frame [w.heap.size, w.heap.size + 1] w' w'' → R w'') :
    Calls Tryz.prog 82 #[.func (.func K) #[] caps] w fun e w' => e = .returned (.tuple #[.int .i64 0, .int .i64 0]) ∧ R w' := by
  have hmf := run_makeFunc
  have H := Lib.hid h
  have HS := Lib.hid hS
  clear h hS
  go_enter_defers Tryz.func82, Tryz.ntmps82
  go_wp2_with fail
  have k1 : Blk ((w.alloc (.cells #[.int .i64 0] 46)).alloc (.cells #[.int .i64 0] 3)) w.heap.size 46 #[.int .i64 0] := (Blk.new _ _ _).alloc _
  have k2 : Blk ((w.alloc (.cells #[.int .i64 0] 46)).alloc (.cells #[.int .i64 0] 3)) (w.heap.size + 1) 3 #[.int .i64 0] := by
    have := Blk.new (w.alloc (.cells #[.int .i64 0] 46)) 3 #[.int .i64 0]
    simpa using this
  have fr0 := (Frame.alloc [] w (.cells #[.int .i64 0] 46)).trans1 (Frame.alloc [] _ (.cells #[.int .i64 0] 3))
  refine (call_any K caps _ _ ?_ hK (H.out _ fr0 (by simp))).mono ?_
  · rintro e w' ⟨rfl, _⟩; exact .inl rfl
  rintro e w1 ⟨rfl, f1, hR⟩
  have j1 := k1.frame f1 (fun hm => by have := HS.out _ hm; omega)
  have j2 := k2.frame f1 (fun hm => by have := HS.out _ hm; omega)
  have d1 := j1.at 0 rfl
  have d2 := j2.at 0 rfl
  have e1 := j1.frozen 0
  have e2 := j2.frozen 0
  have HRR := Lib.hid hR
  clear hR fr0
  go_wp2_with fail
  refine leaves_cons (f := 121) (args := #[.pointer (some ⟨w.heap.size, 0, none⟩), .pointer (some ⟨w.heap.size + 1, 0, none⟩)]) (by simp) (by simp [go_sem]) ?_
  refine (catch1_idle _ _ _).mono ?_
  rintro e u' w'' ⟨rfl, rfl, rfl⟩
  have m1 := ((j1.set 0 (.int .i64 0)).set_ne (a := ⟨w.heap.size + 1, 0, none⟩) (.int .i64 0) (by simp)).at 0 rfl
  have m2 := ((j2.set_ne (a := ⟨w.heap.size, 0, none⟩) (.int .i64 0) (by simp)).set 0 (.int .i64 0)).at 0 rfl
  simp [Leaves, settle, results, Tryz.results82, go_sem, m1, m2]
  exact HRR.out _ ((Frame.setCell _ _ _ (by simp)).trans1 (Frame.setCell _ _ _ (by simp)))

/-- Catch, of a closure that leaves by a bail. -/
theorem catch_bail (K : Nat) (caps : Array Value) (w : World) (R : World → Prop) (S : List Nat) (code at_ : Int) (hK : Entered K) (hS : ∀ x ∈ S, x < w.heap.size)
    (h : ∀ w1, Frame [] w w1 → w.heap.size + 2 = w1.heap.size → Calls Tryz.prog K caps w1 fun e w' => ∃ chain, e = .panicked chain ∧ bailing w1 code at_ chain w' ∧ Frame S w1 w' ∧ ∀ w'', Frame [w.heap.size, w.heap.size + 1] w' w'' → R w'') :
    Calls Tryz.prog 82 #[.func (.func K) #[] caps] w fun e w' => e = .returned (.tuple #[.int .i64 code, .int .i64 at_]) ∧ R w' := by
  have hmf := run_makeFunc
  have H := Lib.hid h
  have HS := Lib.hid hS
  clear h hS
  go_enter_defers Tryz.func82, Tryz.ntmps82
  go_wp2_with fail
  have k1 : Blk ((w.alloc (.cells #[.int .i64 0] 46)).alloc (.cells #[.int .i64 0] 3)) w.heap.size 46 #[.int .i64 0] := (Blk.new _ _ _).alloc _
  have k2 : Blk ((w.alloc (.cells #[.int .i64 0] 46)).alloc (.cells #[.int .i64 0] 3)) (w.heap.size + 1) 3 #[.int .i64 0] := by
    have := Blk.new (w.alloc (.cells #[.int .i64 0] 46)) 3 #[.int .i64 0]
    simpa using this
  have fr0 := (Frame.alloc [] w (.cells #[.int .i64 0] 46)).trans1 (Frame.alloc [] _ (.cells #[.int .i64 0] 3))
  refine (call_any K caps _ _ ?_ hK (H.out _ fr0 (by simp))).mono ?_
  · rintro e w' ⟨c, rfl, _⟩; exact .inr ⟨c, rfl⟩
  rintro e w1 ⟨chain, rfl, ⟨nb, rfl, hnb, hb⟩, f1, hR⟩
  have j1 := k1.frame f1 (fun hm => by have := HS.out _ hm; omega)
  have j2 := k2.frame f1 (fun hm => by have := HS.out _ hm; omega)
  have HRR := Lib.hid hR
  clear hR fr0
  refine leaves_cons (f := 121) (args := #[.pointer (some ⟨w.heap.size, 0, none⟩), .pointer (some ⟨w.heap.size + 1, 0, none⟩)]) (by simp) (by simp [go_sem]) ?_
  refine (catch1_bail _ _ nb code at_ 0 0 [] _ j1 j2 hb (by simp)).mono ?_
  rintro e u' w'' ⟨rfl, rfl, m1, m2, f2⟩
  have d1 := m1.at 0 rfl
  have d2 := m2.at 0 rfl
  simp [Leaves, settle, results, Tryz.results82, go_sem, d1, d2]
  exact HRR.out _ f2

end Go.Proofs.YtbnhhmejlglbcaaGreat

