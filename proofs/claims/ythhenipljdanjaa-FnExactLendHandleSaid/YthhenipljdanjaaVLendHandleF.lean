/-
  What the translation says of the law's function (checked by the kernel).
-/
import Derived.Test.YthhenipljdanjaaRows
import Derived.ProofKit
namespace Go.Proofs.Ythhenipljdanjaa.fnExactLendHandle
open Go.ChangeShapes Go.WideShapes Go.ChangeAt Go.RowKit
set_option linter.unusedVariables false
set_option maxRecDepth 100000 in
theorem fact_joined : joinedFacts Try.pinned.checked.prog 9 Try.f9 Rows.fnExactLendHandleSpec Rows.fnExactLendHandleRow = true := by kernel_rfl
end Go.Proofs.Ythhenipljdanjaa.fnExactLendHandle
