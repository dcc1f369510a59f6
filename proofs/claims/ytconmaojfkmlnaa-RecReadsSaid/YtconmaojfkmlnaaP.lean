/- Regions by hand, one operation at a time (where a call may panic, or is deferred). -/
import Derived.Test.YtconmaojfkmlnaaD
import Derived.Test.YtconmaojfkmlnaaF
import Derived.Test.YtconmaojfkmlnaaRf
import Derived.Tactics
import Derived.Tactics2
import Derived.Defers
import Derived.Recover
namespace Go.Proofs.Ytconmaojfkmlnaa
open Go Xf Go.RowKit
set_option maxRecDepth 100000
section
variable {P : Program} {ops : Array Oper} {Q : Exit → Act → World → Prop} {i : Nat} {rest : List Nat} {a : Act} {w w' : World} {o : Oper}
theorem wpO (ho : ops[i]? = some o) (hw : Region.wanted o (yielded ops a.tmps) = true) (h : o.upon P a (wpOps P ops Q rest) Q ((execOp a.eval o).run P w)) : wpOps P ops Q (i :: rest) a w := by
  unfold wpOps
  rw [ho]
  simp only [hw, if_true]
  exact .inl h
theorem wpO_val {v : Value} (ho : ops[i]? = some o) (hw : Region.wanted o (yielded ops a.tmps) = true) (hr : (execOp a.eval o).run P w = .ok (.value v) w') (h : wpOps P ops Q rest (a.put o.dst v) w') : wpOps P ops Q (i :: rest) a w :=
  wpO ho hw (by rw [hr]; exact h)
theorem wpO_skip (ho : ops[i]? = some o) (hw : Region.wanted o (yielded ops a.tmps) = true) (hr : (execOp a.eval o).run P w = .ok .skip w') (h : wpOps P ops Q rest (a.put o.dst undef) w') : wpOps P ops Q (i :: rest) a w :=
  wpO ho hw (by rw [hr]; exact h)
theorem wpO_defer {d : Deferred} (ho : ops[i]? = some o) (hw : Region.wanted o (yielded ops a.tmps) = true) (hr : (execOp a.eval o).run P w = .ok (.defer d) w') (h : wpOps P ops Q rest ({ a with defers := d :: a.defers }.put o.dst undef) w') : wpOps P ops Q (i :: rest) a w :=
  wpO ho hw (by rw [hr]; exact h)
theorem wpO_panic {v : Value} (ho : ops[i]? = some o) (hw : Region.wanted o (yielded ops a.tmps) = true) (hr : (execOp a.eval o).run P w = .halt (.panic v) w') (h : Q (.panic [{ v, recovered := false }]) a w') : wpOps P ops Q (i :: rest) a w :=
  wpO ho hw (by rw [hr]; exact h)
theorem wpO_call {f : FuncId} {args : Array Value} {R : Value → World → Prop} (ho : ops[i]? = some o) (hw : Region.wanted o (yielded ops a.tmps) = true) (hr : (execOp a.eval o).run P w = .ok (.enter f args) w') (hc : CallsR P f args w' R) (h : ∀ v w'', R v w'' → wpOps P ops Q rest (a.put o.dst v) w'') : wpOps P ops Q (i :: rest) a w := by
  refine wpO ho hw ?_
  rw [hr]
  exact Calls.mono hc fun e w'' ⟨v, he, hv⟩ => by subst he; exact h v w'' hv
/-- a call that panics -/
theorem wpO_dies {f : FuncId} {args : Array Value} {R : List PanicEntry → World → Prop} (ho : ops[i]? = some o) (hw : Region.wanted o (yielded ops a.tmps) = true) (hr : (execOp a.eval o).run P w = .ok (.enter f args) w') (hc : Calls P f args w' fun e w'' => ∃ c, e = .panicked c ∧ R c w'') (h : ∀ c w'', R c w'' → Q (.panic c) a w'') : wpOps P ops Q (i :: rest) a w := by
  refine wpO ho hw ?_
  rw [hr]
  exact Calls.mono hc fun e w'' ⟨v, he, hv⟩ => by subst he; exact h v w'' hv
end
end Go.Proofs.Ytconmaojfkmlnaa
