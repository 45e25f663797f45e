/-
  What the translation says of the law's function (checked by the kernel).
-/
import Derived.Test.YtficddfiehjhbaaRows
import Derived.ProofKit
namespace Go.Proofs.Ytficddfiehjhbaa.fnExactYardOk
open Go.ChangeShapes Go.WideShapes Go.ChangeAt Go.RowKit
set_option linter.unusedVariables false
set_option maxRecDepth 100000 in
theorem fact_named : Try.pinned.checked.prog.funcNamed Rows.fnExactYardOkRow.func = some 14 := by kernel_rfl
set_option maxRecDepth 100000 in
theorem fact_inst : Try.f14.isInstance Try.pinned.checked.prog Rows.fnExactYardOkRow.origin Rows.fnExactYardOkRow.targs := of_decide_eq_true (by kernel_rfl)
set_option maxRecDepth 100000 in
theorem fact_wrap : Try.f14.isWrapper Try.pinned.checked.prog Rows.fnExactYardOkRow.wrapper Rows.fnExactYardOkRow.mainSum := by
  unfold Func.isWrapper; first | (rw [if_pos (by decide +kernel)]; kernel_rfl) | (rw [if_neg (by decide +kernel)]; exact ⟨rfl, rfl⟩)
end Go.Proofs.Ytficddfiehjhbaa.fnExactYardOk
