/-
  What the translation says of the law's function (checked by the kernel).
-/
import Derived.Test.YtdeledeopippfaaRows
import Derived.ProofKit
namespace Go.Proofs.Ytdeledeopippfaa.fnSections
open Go.ChangeShapes Go.WideShapes Go.ChangeAt Go.RowKit
set_option linter.unusedVariables false
set_option maxRecDepth 100000 in
theorem fact_named : Try.pinned.checked.prog.funcNamed Rows.fnSectionsRow.func = some 3 := by kernel_rfl
set_option maxRecDepth 100000 in
theorem fact_inst : Try.f3.isInstance Try.pinned.checked.prog Rows.fnSectionsRow.origin Rows.fnSectionsRow.targs := of_decide_eq_true (by kernel_rfl)
set_option maxRecDepth 100000 in
theorem fact_wrap : Try.f3.isWrapper Try.pinned.checked.prog Rows.fnSectionsRow.wrapper Rows.fnSectionsRow.mainSum := by
  unfold Func.isWrapper; first | (rw [if_pos (by decide +kernel)]; kernel_rfl) | (rw [if_neg (by decide +kernel)]; exact ⟨rfl, rfl⟩)
end Go.Proofs.Ytdeledeopippfaa.fnSections
