/-
  SameMachine: the reference.
-/
import Derived.Test.YtbphkpojhinbiaaVSameMachine
namespace Go.Proofs.Ytbphkpojhinbiaa
open Go Go.RowKit
set_option linter.unusedVariables false
set_option linter.unusedSimpArgs false

set_option maxRecDepth 8000 in
theorem sameMachine_spec (a b : Machine) (h : a.ok) : Ret env.P 29 [.agg a.cs, .agg b.cs] (fun r => r = .b (decide (a = b))) := by
  obtain ⟨a0, a1, a2, a3, a4, a5, a6⟩ := a
  obtain ⟨b0, b1, b2, b3, b4, b5, b6⟩ := b
  have h1 : okL CoreFrame.ok a1 := h.1
  have hl := h1.1
  refine ret_of (nt := 103) (rvs := [.tmp 4]) Try.func29 rfl rfl rfl rfl (fun X => ?_)
  repeat' (first | omega | (with_reducible show (_ : Int) < _; dsimp only; omega) | ((conv => whnf) <;> (first | exact upto_succ (by assumption) (CoreFrame.eta (by assumption) (by assumption) (by assumption) (by assumption)) | refine loopN a1.length (fun k => [(5, .i .i64 k)]) (fun k => []) (fun k => ∀ j, j < k → a1.getD j default = b1.getD j default) ⟨fun _ h => by omega, ?_⟩ | refine And.intro ?_ ?_ | (intro _h; first | contradiction | (try simp only [decide_eq_true_eq, Bool.not_eq_true', Bool.not_eq_false', decide_eq_false_iff_not, Bool.not_eq_true, Decidable.not_not, Bool.true_eq_false, Bool.false_eq_true] at _h)) | exact rfl | exact True.intro | (refine dok ?_; kernel_rfl) | (refine doks ?_; kernel_rfl) | (refine ⟨_, l00Same_ok _ _ h.2.1.1, ?_⟩; try rintro _ rfl) | (refine ⟨_, l00Same_ok _ _ h.2.2.1, ?_⟩; try rintro _ rfl) | (refine ⟨_, l00Same_ok _ _ (h1.2 _ (by omega)).1, ?_⟩; try rintro _ rfl) | (refine wrap_succ ?_; omega))))
  all_goals first
    | exact leaf_ne (by intro e; injection e; subst_vars; first | omega | contradiction)
    | exact leaf_eq (by have := list_eq (by omega) (fun j hj => (‹∀ j, j < _ → a1.getD j default = b1.getD j default› : ∀ j, j < _ → a1.getD j default = b1.getD j default) j (by omega)); simp_all)
end Go.Proofs.Ytbphkpojhinbiaa
