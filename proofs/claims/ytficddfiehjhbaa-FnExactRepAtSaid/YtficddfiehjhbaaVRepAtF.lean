/-
  What the translation says of the law's function (checked by the kernel).
-/
import Derived.Test.YtficddfiehjhbaaRows
import Derived.ProofKit
namespace Go.Proofs.Ytficddfiehjhbaa.fnExactRepAt
open Go.ChangeShapes Go.WideShapes Go.ChangeAt Go.RowKit
set_option linter.unusedVariables false
set_option maxRecDepth 100000 in
theorem fact_joined : joinedFacts Try.pinned.checked.prog 13 Try.f13 Rows.fnExactRepAtSpec Rows.fnExactRepAtRow = true := by kernel_rfl
end Go.Proofs.Ytficddfiehjhbaa.fnExactRepAt
