/-
  What the translation says of the law's function (checked by the kernel).
-/
import Derived.Test.YtfjciadhanfhpaaRows
import Derived.ProofKit
namespace Go.Proofs.Ytfjciadhanfhpaa.fnExactEndScope
open Go.ChangeShapes Go.WideShapes Go.ChangeAt Go.RowKit
set_option linter.unusedVariables false
set_option maxRecDepth 100000 in
theorem fact_joined : joinedFacts Try.pinned.checked.prog 5 Try.f5 Rows.fnExactEndScopeSpec Rows.fnExactEndScopeRow = true := by kernel_rfl
end Go.Proofs.Ytfjciadhanfhpaa.fnExactEndScope
