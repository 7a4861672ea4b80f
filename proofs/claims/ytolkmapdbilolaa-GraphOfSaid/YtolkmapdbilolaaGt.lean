/- Gates as keys of a map. -/
import Derived.Test.YtolkmapdbilolaaCatch
namespace Go.Proofs.Ytolkmapdbilolaa
open Go.RowKit
set_option linter.unusedSimpArgs false
set_option linter.unusedVariables false

structure Gt where
  k : Int
  a : Int
  b : Int
  deriving DecidableEq

def Gt.val (g : Gt) : Value := .agg #[.int .i64 g.k, .int .i64 g.a, .int .i64 g.b]
def Gt.cs (g : Gt) : List Value := [.int .i64 g.k, .int .i64 g.a, .int .i64 g.b]
def ents (l : List Gt) : List MapEntry := l.zipIdx.map fun (g, i) => { key := g.val, val := .int .i64 i, born := i }
/-- The place of a gate. -/
def find (g : Gt) (l : List Gt) (i : Nat) : Option Nat := match l with
  | [] => none
  | h :: t => if g = h then some i else find g t (i + 1)

theorem eq_gate (d : Nat) (g h : Gt) (w : World) : (Op.equalIn (d+2) 39 g.val h.val).run Try.prog w = .ok (decide (g = h)) w := by
  simp [Op.equalIn, Gt.val, go_sem]
  by_cases h1 : g.k = h.k <;> by_cases h2 : g.a = h.a <;> by_cases h3 : g.b = h.b <;> simp [h1, h2, h3] <;> first | (cases g; cases h; simp_all) | (intro e; subst e; simp_all)

theorem equal_gate (g h : Gt) (w : World) : (Op.equal 39 g.val h.val).run Try.prog w = .ok (decide (g = h)) w := eq_gate 9998 g h w

theorem findAsking_gate (g : Gt) (w : World) : ∀ (l : List Gt) (i : Nat), (Instr.findAsking 39 g.val ((l.zipIdx i).map fun (g, i) => { key := g.val, val := .int .i64 i, born := i }) i).run Try.prog w = .ok ((find g l i).map fun k => (k, .int .i64 k)) w
  | [], i => by simp [Instr.findAsking, find, go_sem]
  | h :: t, i => by
    have ih := findAsking_gate g w t (i + 1)
    simp only [List.zipIdx_cons, List.map_cons, Instr.findAsking, find]
    by_cases e : g = h
    · simp [Sem.run_bind, equal_gate, Result.andThen, e]
    · simp [Sem.run_bind, equal_gate, Result.andThen, e, ih]

theorem findKey_gate (g : Gt) (w : World) (l : List Gt) : (Instr.findKey 39 g.val (ents l)).run Try.prog w = .ok ((find g l 0).map fun k => (k, .int .i64 k)) w := by
  cases l with
  | nil => simp [Instr.findKey, ents, find, go_sem, Instr.findNow]
  | cons h t =>
    have := findAsking_gate g w (h :: t) 0
    simp only [Instr.findKey, ents, go_sem, Instr.findNow, Instr.sameNow, List.zipIdx_cons, List.map_cons] at *
    simpa [Result.andThen] using this

theorem checkKey_gate (e : Bool) (g : Gt) (w : World) : (Instr.checkKey e 10000 39 g.val).run Try.prog w = .ok () w := by
  have hk : ∀ n x (w : World), (Instr.checkKey e (n + 1) 3 (.int .i64 x)).run Try.prog w = .ok () w := by
    intro n x w; simp [Instr.checkKey, go_sem]
  have h2 : ∀ n, (Instr.checkKey e (n + 2) 39 g.val).run Try.prog w = .ok () w := by
    intro n
    rw [Instr.checkKey]
    simp only [Gt.val, go_sem, hk]
    simp [go_sem, hk]
  exact h2 9998

/-- What a look-up tells. -/
def looked (g : Gt) (l : List Gt) : Value := match find g l 0 with
  | some k => .tuple #[.int .i64 k, .bool true]
  | none => .tuple #[.int .i64 0, .bool false]

theorem lookup_gate (w : World) (mb : Nat) (l : List Gt) (clock : Nat) (g : Gt) (h : MBlk w mb (ents l).toArray clock) :
    (Instr.lookup 106 (.map (some mb)) g.val true).run Try.prog w = .ok (looked g l) w := by
  have h1 := checkKey_gate (ents l).isEmpty g w
  have h2 := findKey_gate g w l
  have hg : (getObj mb).run Try.prog w = .ok (.map (ents l).toArray clock) w := by unfold MBlk at h; simp [getObj, Sem.run, h]
  unfold looked
  cases hf : find g l 0 with
  | none => simp [Instr.lookup, go_sem, hg, h1, h2, hf]
  | some p => simp [Instr.lookup, go_sem, hg, h1, h2, hf]

theorem update_gate (w : World) (mb : Nat) (l : List Gt) (g : Gt) (h : MBlk w mb (ents l).toArray l.length) (hf : find g l 0 = none) :
    (Instr.mapUpdate 106 (.map (some mb)) g.val (.int .i64 l.length)).run Try.prog w = .ok () (setMap w mb (ents (l ++ [g])).toArray (l.length + 1)) := by
  have h1 := checkKey_gate false g w
  have h2 := findKey_gate g w l
  have hg : (getObj mb).run Try.prog w = .ok (.map (ents l).toArray l.length) w := by unfold MBlk at h; simp [getObj, Sem.run, h]
  have hs : ∀ o, (setObj mb o).run Try.prog w = .ok () { w with heap := w.heap.setIfInBounds mb o } := by intro o; unfold MBlk at h; simp [setObj, Sem.run, h]
  have he : (ents l).toArray.push { key := g.val, val := .int .i64 l.length, born := l.length } = (ents (l ++ [g])).toArray := by simp [ents, List.zipIdx_append]
  simp [Instr.mapUpdate, go_sem, hg, h1, h2, hs, hf, ← he, setMap]

end Go.Proofs.Ytolkmapdbilolaa
