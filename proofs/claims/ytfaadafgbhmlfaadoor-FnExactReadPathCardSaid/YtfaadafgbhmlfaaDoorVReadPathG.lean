/-
  What the translation says of the law's function (checked by the kernel).
-/
import Derived.Test.YtfaadafgbhmlfaaDoorRows
import Derived.ProofKit
namespace Go.Proofs.YtfaadafgbhmlfaaDoor.fnExactReadPath
open Go.ChangeShapes Go.WideShapes Go.ChangeAt Go.RowKit
set_option linter.unusedVariables false
set_option maxRecDepth 100000 in
theorem fact_named : Tryd.pinned.checked.prog.funcNamed Rows.fnExactReadPathRow.func = some 3 := by kernel_rfl
set_option maxRecDepth 100000 in
theorem fact_inst : Tryd.f3.isInstance Tryd.pinned.checked.prog Rows.fnExactReadPathRow.origin Rows.fnExactReadPathRow.targs := of_decide_eq_true (by kernel_rfl)
set_option maxRecDepth 100000 in
theorem fact_wrap : Tryd.f3.isWrapper Tryd.pinned.checked.prog Rows.fnExactReadPathRow.wrapper Rows.fnExactReadPathRow.mainSum := by
  unfold Func.isWrapper; first | (rw [if_pos (by decide +kernel)]; kernel_rfl) | (rw [if_neg (by decide +kernel)]; exact ⟨rfl, rfl⟩)
end Go.Proofs.YtfaadafgbhmlfaaDoor.fnExactReadPath
