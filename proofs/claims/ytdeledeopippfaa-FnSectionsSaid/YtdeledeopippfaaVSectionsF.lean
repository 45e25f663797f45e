/-
  What the translation says of the law's function (checked by the kernel).
-/
import Derived.Test.YtdeledeopippfaaRows
import Derived.ProofKit
namespace Go.Proofs.Ytdeledeopippfaa.fnSections
open Go.ChangeShapes Go.WideShapes Go.ChangeAt Go.RowKit
set_option linter.unusedVariables false
set_option maxRecDepth 100000 in
theorem fact_joined : joinedFacts Try.pinned.checked.prog 3 Try.f3 Rows.fnSectionsSpec Rows.fnSectionsRow = true := by kernel_rfl
end Go.Proofs.Ytdeledeopippfaa.fnSections
