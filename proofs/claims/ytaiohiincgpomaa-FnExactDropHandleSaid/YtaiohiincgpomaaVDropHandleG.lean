/-
  What the translation says of the law's function (checked by the kernel).
-/
import Derived.Test.YtaiohiincgpomaaRows
import Derived.ProofKit
namespace Go.Proofs.Ytaiohiincgpomaa.fnExactDropHandle
open Go.ChangeShapes Go.WideShapes Go.ChangeAt Go.RowKit
set_option linter.unusedVariables false
set_option maxRecDepth 100000 in
theorem fact_named : Try.pinned.checked.prog.funcNamed Rows.fnExactDropHandleRow.func = some 7 := by kernel_rfl
set_option maxRecDepth 100000 in
theorem fact_inst : Try.f7.isInstance Try.pinned.checked.prog Rows.fnExactDropHandleRow.origin Rows.fnExactDropHandleRow.targs := of_decide_eq_true (by kernel_rfl)
set_option maxRecDepth 100000 in
theorem fact_wrap : Try.f7.isWrapper Try.pinned.checked.prog Rows.fnExactDropHandleRow.wrapper Rows.fnExactDropHandleRow.mainSum := by
  unfold Func.isWrapper; first | (rw [if_pos (by decide +kernel)]; kernel_rfl) | (rw [if_neg (by decide +kernel)]; exact ⟨rfl, rfl⟩)
end Go.Proofs.Ytaiohiincgpomaa.fnExactDropHandle
