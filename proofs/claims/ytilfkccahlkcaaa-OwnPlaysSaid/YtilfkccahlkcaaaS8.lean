/- Equal orders; nil books; lives. -/
import Derived.Test.YtilfkccahlkcaaaS7
import Derived.Test.YtilfkccahlkcaaaE
namespace Go.Proofs.Ytilfkccahlkcaaa
open Go Xf Go.RowKit
set_option linter.unusedVariables false
set_option linter.unusedSimpArgs false
set_option maxRecDepth 100000

theorem eqF_od (a b : Od) (w : World) : (eqF3 9999 (odV a).toArray (odV b).toArray [(true, 44, 0), (true, 3, 1), (true, 3, 2), (true, 3, 3), (true, 4, 4)]).run Try.prog w = .ok (decide (a = b)) w := by
  have p0 : ∀ o : Od, (part 44 (odV o).toArray 0).run Try.prog w = .ok (.int .i64 o.kind) w := fun o => by kernel_rfl
  have p1 : ∀ o : Od, (part 3 (odV o).toArray 1).run Try.prog w = .ok (.int .i64 o.page) w := fun o => by kernel_rfl
  have p2 : ∀ o : Od, (part 3 (odV o).toArray 2).run Try.prog w = .ok (.int .i64 o.src) w := fun o => by kernel_rfl
  have p3 : ∀ o : Od, (part 3 (odV o).toArray 3).run Try.prog w = .ok (.int .i64 o.dst) w := fun o => by kernel_rfl
  have p4 : ∀ o : Od, (part 4 (odV o).toArray 4).run Try.prog w = .ok (.bool o.fast) w := fun o => by kernel_rfl
  have e4 : ∀ x y : Int, (Op.equalIn 9999 44 (.int .i64 x) (.int .i64 y)).run Try.prog w = .ok (x == y) w := fun x y => run_equalIn_int w 9998 44 .i64 .i64 x y u44
  have e3 : ∀ x y : Int, (Op.equalIn 9999 3 (.int .i64 x) (.int .i64 y)).run Try.prog w = .ok (x == y) w := fun x y => run_equalIn_int w 9998 3 .i64 .i64 x y u3
  have eb : ∀ x y : Bool, (Op.equalIn 9999 4 (.bool x) (.bool y)).run Try.prog w = .ok (x == y) w := fun x y => run_equalIn_bool' w 9998 4 x y u4
  simp only [eqF3, Sem.run_bind, p0, p1, p2, p3, p4, e3, e4, eb, Result.andThen_ok]
  obtain ⟨a0, a1, a2, a3, a4⟩ := a
  obtain ⟨b0, b1, b2, b3, b4⟩ := b
  simp only [Od.mk.injEq]
  by_cases h0 : a0 = b0 <;> by_cases h1 : a1 = b1 <;> by_cases h2 : a2 = b2 <;> by_cases h3 : a3 = b3 <;> by_cases h4 : a4 = b4 <;> simp [h0, h1, h2, h3, h4, Sem.run_bind, e3, eb, p0, p1, p2, p3, p4]
theorem eq_od (a b : Od) (w : World) : (∀ x y : Operand, (sBin .eql 46 x y (.agg (odV a).toArray) (.agg (odV b).toArray)).run Try.prog w = .ok (.value (.bool (decide (a = b)))) w) ∧ (∀ x y : Operand, (sBin .neq 46 x y (.agg (odV a).toArray) (.agg (odV b).toArray)).run Try.prog w = .ok (.value (.bool (!decide (a = b)))) w) := by
  exact run_eqS (l := [(true, 44, 0), (true, 3, 1), (true, 3, 2), (true, 3, 3), (true, 4, 4)]) (by kernel_rfl) (by kernel_rfl) (by kernel_rfl) (by kernel_rfl) (eqF_od a b w)
end Go.Proofs.Ytilfkccahlkcaaa
