/-
  What the translation says of the law's function (checked by the kernel).
-/
import Derived.Test.YtcmnohbbjkdpdaaDoorRows
import Derived.ProofKit
namespace Go.Proofs.YtcmnohbbjkdpdaaDoor.fnVersions
open Go.ChangeShapes Go.WideShapes Go.ChangeAt Go.RowKit
set_option linter.unusedVariables false
set_option maxRecDepth 100000 in
theorem fact_joined : joinedFacts Tryd.pinned.checked.prog 3 Tryd.f3 Rows.fnVersionsSpec Rows.fnVersionsRow = true := by kernel_rfl
end Go.Proofs.YtcmnohbbjkdpdaaDoor.fnVersions
