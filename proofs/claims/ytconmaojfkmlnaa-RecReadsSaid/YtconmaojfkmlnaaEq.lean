/- Equality of structs, field by field. -/
import Derived.Test.YtconmaojfkmlnaaQ
import Derived.Laws.StructEq
namespace Go.Proofs.Ytconmaojfkmlnaa
open Go Xf Go.RowKit
set_option linter.unusedVariables false
set_option linter.unusedSimpArgs false

def eqF3 (d : Nat) (xs ys : Array Value) : List (Bool × TypeId × Nat) → Sem Bool
  | [] => pure true
  | f :: fs => match f.1 with
    | true => do
      let a ← part f.2.1 xs f.2.2
      let b ← part f.2.1 ys f.2.2
      let r ← Op.equalIn d f.2.1 a b
      if (!r) = true then pure false else eqF3 d xs ys fs
    | false => eqF3 d xs ys fs
theorem eqFields3 (d : Nat) (xs ys : Array Value) : ∀ l : List Field, Op.eqFields d xs ys l = eqF3 d xs ys (l.map fun f => (f.name != "_", f.type, f.offset))
  | [] => rfl
  | f :: fs => by
    have ih := eqFields3 d xs ys fs
    unfold Op.eqFields
    simp only [List.map_cons]
    unfold eqF3
    by_cases h : f.name = "_"
    · simp [h, ih]
    · have hb : (f.name != "_") = true := by simpa using h
      simp only [hb, ne_eq, h, not_false_eq_true, if_true, ih]
theorem run_eqS {P : Program} {w : World} {t : TypeId} {xs ys : Array Value} {l : List (Bool × TypeId × Nat)} {b : Bool} (ht : P.underlying t = some (.struct (P.fieldsOf t))) (hp : P.stoodInHeld t = false) (hg : P.eqGuardType P.depth t = false)
    (hl : ((P.fieldsOf t).toList.map fun f => (f.name != "_", f.type, f.offset)) = l) (h : (eqF3 9999 xs ys l).run P w = .ok b w) :
    (∀ x y : Operand, (sBin .eql t x y (.agg xs) (.agg ys)).run P w = .ok (.value (.bool b)) w) ∧ (∀ x y : Operand, (sBin .neq t x y (.agg xs) (.agg ys)).run P w = .ok (.value (.bool (!b))) w) := by
  have e : (Op.equalIn 10000 t (.agg xs) (.agg ys)).run P w = .ok b w := by
    rw [show 10000 = 9999 + 1 from rfl, run_equalIn_agg w 9999 t xs ys ht hp, eqFields3, hl, h]
  refine ⟨fun x y => ?_, fun x y => ?_⟩
  · unfold sBin
    rw [run_sV, Sem.run_bind, run_eqGuard_agg w .eql t x y xs ys hg]
    simp only [Result.andThen_ok, run_eql_struct, e]
  · unfold sBin
    rw [run_sV, Sem.run_bind, run_eqGuard_agg w .neq t x y xs ys hg]
    simp only [Result.andThen_ok, run_neq_struct, e]
end Go.Proofs.Ytconmaojfkmlnaa
