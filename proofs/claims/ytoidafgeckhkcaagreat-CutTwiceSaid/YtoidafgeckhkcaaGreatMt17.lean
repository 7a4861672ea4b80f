/- A quiet region's comparison, by its run. -/
import Derived.Test.YtoidafgeckhkcaaGreatMt13
import Derived.BigQuiet
namespace Go.Proofs.YtoidafgeckhkcaaGreat
open Go.RowKit
theorem quiet_bin {P : Program} {C : World → Prop} {a : Act} {o : Oper} {K : Act → Prop} (b : BinOp) (t rt : TypeId) (x y : Operand) (u v z : Value) (h : o.op = .binOp b t x y rt) (hx : a.eval x = u) (hy : a.eval y = v)
    (hg : ∀ w, (eqGuard b t x y u v).run P w = .ok () w) (hr : ∀ w, C w → (binOp b t u v).run P w = .ok z w) (hk : K (a.put o.dst z)) : o.quiet P a C K :=
  ⟨_, fun w hw => by unfold Oper.quietAt; rw [show (execOp a.eval o).run P w = .ok (.value z) w from by simp [execOp, h, hx, hy, Sem.run_bind, Result.andThen, hg w, hr w hw]]; exact ⟨rfl, rfl⟩, hk⟩
end Go.Proofs.YtoidafgeckhkcaaGreat
namespace Go.Proofs.YtoidafgeckhkcaaGreat
open Go.RowKit
theorem noGuard : Tryz.prog.eqGuardType Tryz.prog.depth 80 = false := by kernel_rfl
theorem eqGuard_gate (x y : Operand) (u v : Array Value) (w : World) : (eqGuard .eql 80 x y (.agg u) (.agg v)).run Tryz.prog w = .ok () w := by
  have h := noGuard
  simp [eqGuard, Sem.run_bind, Result.andThen, go_sem, h]
end Go.Proofs.YtoidafgeckhkcaaGreat

