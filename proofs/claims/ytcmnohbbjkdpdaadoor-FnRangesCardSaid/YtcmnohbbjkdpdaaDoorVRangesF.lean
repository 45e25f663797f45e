/-
  What the translation says of the law's function (checked by the kernel).
-/
import Derived.Test.YtcmnohbbjkdpdaaDoorRows
import Derived.ProofKit
namespace Go.Proofs.YtcmnohbbjkdpdaaDoor.fnRanges
open Go.ChangeShapes Go.WideShapes Go.ChangeAt Go.RowKit
set_option linter.unusedVariables false
set_option maxRecDepth 100000 in
theorem fact_joined : joinedFacts Tryd.pinned.checked.prog 4 Tryd.f4 Rows.fnRangesSpec Rows.fnRangesRow = true := by kernel_rfl
end Go.Proofs.YtcmnohbbjkdpdaaDoor.fnRanges
