/- must, and the deferred function of Decode. -/
import Derived.Test.YtconmaojfkmlnaaP
import Derived.Test.YtconmaojfkmlnaaRecH
namespace Go.Proofs.Ytconmaojfkmlnaa.Rec
open Go Go.Proofs.Ytconmaojfkmlnaa Xf Go.RowKit
set_option linter.unusedVariables false
set_option linter.unusedSimpArgs false
set_option maxRecDepth 100000
theorem must_ok (w : World) : CallsR Try.prog 57 #[.bool true] w fun _ w' => w' = w := by
  refine calls_of_wp Try.func57 rfl ?_
  apply wp_seq
  apply wp_region
  refine wpO_val (w' := w) (v := .bool true) rfl rfl rfl ?_
  refine wpO_val (w' := w) (v := .bool false) rfl rfl (by kernel_rfl) ?_
  refine wp_cond_false rfl (wp_skip ?_)
  exact ⟨rfl, .tuple #[], by kernel_rfl, _, rfl, rfl⟩
abbrev faultV : Value := .iface 57 (.agg #[.int .i64 5])
theorem must_bad (w : World) : Calls Try.prog 57 #[.bool false] w fun e w' => ∃ c, e = .panicked c ∧ c = [{ v := faultV, recovered := false }] ∧ w' = w := by
  refine calls_of_wp Try.func57 rfl ?_
  apply wp_seq
  apply wp_region
  refine wpO_val (w' := w) (v := .bool false) rfl rfl rfl ?_
  refine wpO_val (w' := w) (v := .bool true) rfl rfl (by kernel_rfl) ?_
  refine wp_cond_true rfl ?_
  apply wp_region
  refine wpO_val (w' := w) (v := .agg #[.int .i64 5]) rfl rfl (by kernel_rfl) ?_
  refine wpO_val (w' := w) (v := faultV) rfl rfl (by kernel_rfl) ?_
  refine wpO_panic (w' := w) (v := faultV) rfl rfl (by kernel_rfl) ?_
  exact ⟨rfl, _, rfl, rfl, rfl⟩
end Go.Proofs.Ytconmaojfkmlnaa.Rec
