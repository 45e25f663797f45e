/-
  What the translation says of the law's function (checked by the kernel).
-/
import Derived.Test.YtgjihfinbaopcaaRows
import Derived.ProofKit
namespace Go.Proofs.Ytgjihfinbaopcaa.fnExactNewStream
open Go.ChangeShapes Go.WideShapes Go.ChangeAt Go.RowKit
set_option linter.unusedVariables false
set_option maxRecDepth 100000 in
theorem fact_named : Try.pinned.checked.prog.funcNamed Rows.fnExactNewStreamRow.func = some 4 := by kernel_rfl
set_option maxRecDepth 100000 in
theorem fact_inst : Try.f4.isInstance Try.pinned.checked.prog Rows.fnExactNewStreamRow.origin Rows.fnExactNewStreamRow.targs := of_decide_eq_true (by kernel_rfl)
set_option maxRecDepth 100000 in
theorem fact_wrap : Try.f4.isWrapper Try.pinned.checked.prog Rows.fnExactNewStreamRow.wrapper Rows.fnExactNewStreamRow.mainSum := by
  unfold Func.isWrapper; first | (rw [if_pos (by decide +kernel)]; kernel_rfl) | (rw [if_neg (by decide +kernel)]; exact ⟨rfl, rfl⟩)
end Go.Proofs.Ytgjihfinbaopcaa.fnExactNewStream
