/- Go's == and != at properties and edges. -/
import Derived.Test.YtolkmapdbilolaaRd1
import Derived.Laws.StructEq
namespace Go.Proofs.Ytolkmapdbilolaa
open Go.RowKit
set_option linter.unusedSimpArgs false
set_option linter.unusedVariables false

def Pr.v (p : Pr) : Value := .agg #[.string p.name, .string p.val]
def Ed.v (e : Ed) : Value := .agg #[.int .i64 e.tok, .int .i64 e.src, .string e.lab, .int .i64 e.dst]
theorem toList_inj (x y : ByteArray) : (x.toList = y.toList) = (x = y) := propext ⟨ba_ext, fun h => by rw [h]⟩
theorem toList_eq_iff (x y : ByteArray) : (x.toList == y.toList) = decide (x = y) := by
  by_cases h : x = y
  · rw [beq_toList_true h, decide_eq_true h]
  · rw [beq_toList_false h, decide_eq_false h]
theorem eqIn_prop (p q : Pr) (w : World) : (Op.equalIn 10000 129 p.v q.v).run Try.prog w = .ok (decide (p = q)) w := by
  obtain ⟨p1, p2⟩ := p
  obtain ⟨q1, q2⟩ := q
  have hS : Try.prog.underlying 129 = some (.struct (Try.prog.fieldsOf 129)) := by kernel_rfl
  have hp : Try.prog.stoodInHeld 129 = false := by kernel_rfl
  have us := Try.underlying9
  simp only [Pr.v]
  rw [show (10000 : Nat) = 9999 + 1 from rfl, run_equalIn_agg w 9999 129 _ _ hS hp]
  simp only [Program.fieldsOf, Try.underlying129]
  go_simp
  by_cases h1 : p1 = q1 <;> by_cases h2 : p2 = q2 <;> simp [h1, h2, toList_inj]
theorem eqIn_edge (p q : Ed) (w : World) : (Op.equalIn 10000 49 p.v q.v).run Try.prog w = .ok (decide (p = q)) w := by
  obtain ⟨p1, p2, p3, p4⟩ := p
  obtain ⟨q1, q2, q3, q4⟩ := q
  have hS : Try.prog.underlying 49 = some (.struct (Try.prog.fieldsOf 49)) := by kernel_rfl
  have hp : Try.prog.stoodInHeld 49 = false := by kernel_rfl
  have us := Try.underlying9
  have ui := Try.underlying3
  simp only [Ed.v]
  rw [show (10000 : Nat) = 9999 + 1 from rfl, run_equalIn_agg w 9999 49 _ _ hS hp]
  simp only [Program.fieldsOf, Try.underlying49]
  go_simp
  by_cases h1 : p1 = q1 <;> by_cases h2 : p2 = q2 <;> by_cases h3 : p3 = q3 <;> by_cases h4 : p4 = q4 <;> simp [h1, h2, h3, h4, toList_inj]
theorem eql_prop (p q : Pr) (w : World) : (binOp .eql 129 p.v q.v).run Try.prog w = .ok (.bool (decide (p = q))) w := by
  have : (Op.equal 129 p.v q.v).run Try.prog w = .ok (decide (p = q)) w := eqIn_prop p q w
  simp only [Pr.v] at *
  simp [binOp, this]
theorem eql_edge (p q : Ed) (w : World) : (binOp .eql 49 p.v q.v).run Try.prog w = .ok (.bool (decide (p = q))) w := by
  have : (Op.equal 49 p.v q.v).run Try.prog w = .ok (decide (p = q)) w := eqIn_edge p q w
  simp only [Ed.v] at *
  simp [binOp, this]
theorem neq_prop (p q : Pr) (w : World) : (binOp .neq 129 p.v q.v).run Try.prog w = .ok (.bool (!decide (p = q))) w := by
  have : (Op.equal 129 p.v q.v).run Try.prog w = .ok (decide (p = q)) w := eqIn_prop p q w
  simp only [Pr.v] at *
  simp [binOp, this]
theorem neq_edge (p q : Ed) (w : World) : (binOp .neq 49 p.v q.v).run Try.prog w = .ok (.bool (!decide (p = q))) w := by
  have : (Op.equal 49 p.v q.v).run Try.prog w = .ok (decide (p = q)) w := eqIn_edge p q w
  simp only [Ed.v] at *
  simp [binOp, this]
theorem noGuardProp : Try.prog.eqGuardType Try.prog.depth 129 = false := by kernel_rfl
theorem noGuardEdge : Try.prog.eqGuardType Try.prog.depth 49 = false := by kernel_rfl
theorem guard_prop (b : BinOp) (x y : Operand) (u v : Array Value) (w : World) : (eqGuard b 129 x y (.agg u) (.agg v)).run Try.prog w = .ok () w := by
  have h := noGuardProp
  cases b <;> simp [eqGuard, Sem.run_bind, Result.andThen, go_sem, h]
theorem guard_edge (b : BinOp) (x y : Operand) (u v : Array Value) (w : World) : (eqGuard b 49 x y (.agg u) (.agg v)).run Try.prog w = .ok () w := by
  have h := noGuardEdge
  cases b <;> simp [eqGuard, Sem.run_bind, Result.andThen, go_sem, h]
end Go.Proofs.Ytolkmapdbilolaa
