/-
  What the translation says of the law's function (checked by the kernel).
-/
import Derived.Test.YtfaadafgbhmlfaaDoorRows
import Derived.ProofKit
namespace Go.Proofs.YtfaadafgbhmlfaaDoor.fnExactReadPath
open Go.ChangeShapes Go.WideShapes Go.ChangeAt Go.RowKit
set_option linter.unusedVariables false
set_option maxRecDepth 100000 in
theorem fact_joined : joinedFacts Tryd.pinned.checked.prog 3 Tryd.f3 Rows.fnExactReadPathSpec Rows.fnExactReadPathRow = true := by kernel_rfl
end Go.Proofs.YtfaadafgbhmlfaaDoor.fnExactReadPath
