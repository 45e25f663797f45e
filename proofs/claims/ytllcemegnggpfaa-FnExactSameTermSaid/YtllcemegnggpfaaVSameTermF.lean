/-
  What the translation says of the law's function (checked by the kernel).
-/
import Derived.Test.YtllcemegnggpfaaRows
import Derived.ProofKit
namespace Go.Proofs.Ytllcemegnggpfaa.fnExactSameTerm
open Go.ChangeShapes Go.WideShapes Go.ChangeAt Go.RowKit
set_option linter.unusedVariables false
set_option maxRecDepth 100000 in
theorem fact_joined : joinedFacts Try.pinned.checked.prog 5 Try.f5 Rows.fnExactSameTermSpec Rows.fnExactSameTermRow = true := by kernel_rfl
end Go.Proofs.Ytllcemegnggpfaa.fnExactSameTerm
