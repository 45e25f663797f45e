/-
  []int64: what the laws' functions for it do. Printed by fam.py.
-/
import Derived.Test.YtfjciadhanfhpaaVU
import Derived.Test.YtfjciadhanfhpaaVTBase
namespace Go.Proofs.Ytfjciadhanfhpaa
open Go Go.RowKit
set_option linter.unusedVariables false
set_option linter.unusedSimpArgs false

set_option maxRecDepth 8000 in
theorem eqInt64S_ok (l m : List Int) (h : okL okI l) : Ret env.P 32 [slL 1 intC l, slL 1 intC m] (fun r => r = .b (decide (l = m))) := by
  have hl := h.1
  refine ret_of (nt := 26) (rvs := [.tmp 4]) Try.func32 rfl rfl rfl rfl (fun X => ?_)
  repeat' (first | exact aa | ((conv => whnf) <;> (first | exact upto_succ (by assumption) (by assumption) | refine loopN l.length (fun k => [(5, .i .i64 k)]) (fun k => []) (fun k => ∀ j, j < k → l.getD j default = m.getD j default) ⟨fun _ h => by omega, ?_⟩ | refine And.intro ?_ ?_ | (intro _h; first | contradiction | (try simp only [dd] at _h)) | (refine dt_go ?_) | exact rfl | exact True.intro | exact dkk | exact dks | (refine wrap_succ ?_; omega))))
  · exact leaf_ne (by rintro rfl; omega)
  · exact leaf_ne (by rintro rfl; contradiction)
  · exact leaf_eq (list_eq (by omega) fun j hj => by have := ‹∀ j, j < _ → l.getD j default = m.getD j default›; exact this j (by omega))

end Go.Proofs.Ytfjciadhanfhpaa
