/-
  SameMachine: the reference and the program.
-/
import Derived.Test.YtbphkpojhinbiaaVTMachine
namespace Go.Proofs.Ytbphkpojhinbiaa
open Go Go.RowKit
set_option linter.unusedVariables false
set_option linter.unusedSimpArgs false

set_option maxRecDepth 8000 in
theorem equalInt64_ok (l m : List Int) (hl : l.length ≤ 1048576) : Ret env.P 61 [slL 1 intC l, slL 1 intC m] (fun r => r = .b (decide (l = m))) := by
  refine ret_of (nt := 26) (rvs := [.tmp 4]) Try.func61 rfl rfl rfl rfl (fun X => ?_)
  repeat' (first | omega | ((conv => whnf) <;> (first | exact upto_succ (by assumption) (by first | assumption | simp_all [intC]) | refine loopN l.length (fun k => [(13, .i .i64 k)]) (fun k => []) (fun k => ∀ j, j < k → l.getD j default = m.getD j default) ⟨fun _ h => by omega, ?_⟩ | refine And.intro ?_ ?_ | (intro _h; first | contradiction | (try simp only [decide_eq_true_eq, Bool.not_eq_true', Bool.not_eq_false', decide_eq_false_iff_not, Bool.not_eq_true, Decidable.not_not, Bool.true_eq_false, Bool.false_eq_true] at _h)) | exact rfl | exact True.intro | (refine dok ?_; kernel_rfl) | (refine doks ?_; kernel_rfl) | (refine wrap_succ ?_; omega))))
  · exact leaf_ne (by rintro rfl; omega)
  · exact leaf_ne (by rintro rfl; simp_all)
  · exact leaf_eq (list_eq (by omega) fun j hj => by have := ‹∀ j, j < _ → l.getD j default = m.getD j default›; exact this j (by omega))

set_option maxRecDepth 8000 in
theorem equalFuncCoreFrame_ok (l m : List CoreFrame) (g : Nat) {fv} (hg : env.F.get g = some fv) (hl : l.length ≤ 1048576)
    (hp : ∀ k, k < l.length → Ret env.P g [.agg (CoreFrame.cs (l.getD k default)), .agg (CoreFrame.cs (m.getD k default))] (fun r => r = .b (decide (l.getD k default = m.getD k default)))) :
    Ret env.P 62 [slL 4 CoreFrame.cs l, slL 4 CoreFrame.cs m, .fn g []] (fun r => r = .b (decide (l = m))) := by
  refine ret_of (nt := 32) (rvs := [.tmp 6]) Try.func62 rfl rfl rfl rfl (fun X => ?_)
  repeat' (first | omega | ((conv => whnf) <;> (first | rw [hg] | exact upto_succ (by assumption) (by assumption) | refine loopN l.length (fun k => [(17, .i .i64 k)]) (fun k => []) (fun k => ∀ j, j < k → l.getD j default = m.getD j default) ⟨fun _ h => by omega, ?_⟩ | refine And.intro ?_ ?_ | (intro _h; first | contradiction | (try simp only [decide_eq_true_eq, Bool.not_eq_true', Bool.not_eq_false', decide_eq_false_iff_not, Bool.not_eq_true, Decidable.not_not, Bool.true_eq_false, Bool.false_eq_true] at _h)) | exact rfl | exact True.intro | (refine dok ?_; kernel_rfl) | (refine doks ?_; kernel_rfl) | (refine ⟨_, hp _ (by omega), ?_⟩; try rintro _ rfl) | (refine wrap_succ ?_; omega))))
  · exact leaf_ne (by rintro rfl; omega)
  · exact leaf_ne (by rintro rfl; contradiction)
  · exact leaf_eq (list_eq (by omega) fun j hj => by have := ‹∀ j, j < _ → l.getD j default = m.getD j default›; exact this j (by omega))

set_option maxRecDepth 8000 in
theorem l00Same_ok (l m : List Int) (hl : l.length ≤ 1048576) : Ret env.P 58 [slL 1 intC l, slL 1 intC m] (fun r => r = .b (decide (l = m))) := by
  refine ret_of (nt := 26) (rvs := [.tmp 4]) Try.func58 rfl rfl rfl rfl (fun X => ?_)
  repeat' (first | omega | ((conv => whnf) <;> (first | exact upto_succ (by assumption) (by first | assumption | simp_all [intC]) | refine loopN l.length (fun k => [(5, .i .i64 k)]) (fun k => []) (fun k => ∀ j, j < k → l.getD j default = m.getD j default) ⟨fun _ h => by omega, ?_⟩ | refine And.intro ?_ ?_ | (intro _h; first | contradiction | (try simp only [decide_eq_true_eq, Bool.not_eq_true', Bool.not_eq_false', decide_eq_false_iff_not, Bool.not_eq_true, Decidable.not_not, Bool.true_eq_false, Bool.false_eq_true] at _h)) | exact rfl | exact True.intro | (refine dok ?_; kernel_rfl) | (refine doks ?_; kernel_rfl) | (refine wrap_succ ?_; omega))))
  · exact leaf_ne (by rintro rfl; omega)
  · exact leaf_ne (by rintro rfl; simp_all)
  · exact leaf_eq (list_eq (by omega) fun j hj => by have := ‹∀ j, j < _ → l.getD j default = m.getD j default›; exact this j (by omega))

set_option maxRecDepth 8000 in
theorem sameMachine1_ok (a b : CoreFrame) (h : a.ok) : Ret env.P 63 [.agg a.cs, .agg b.cs] (fun r => r = .b (decide (a = b))) := by
  obtain ⟨a0, a1, a2, a3⟩ := a
  obtain ⟨b0, b1, b2, b3⟩ := b
  refine ret_of (nt := 31) (rvs := [.tmp 4]) Try.func63 rfl rfl rfl rfl (fun X => ?_)
  repeat' (first | omega | ((conv => whnf) <;> (first | refine And.intro ?_ ?_ | (intro _h; first | contradiction | (try simp only [decide_eq_true_eq, Bool.not_eq_true', Bool.not_eq_false', decide_eq_false_iff_not, Bool.not_eq_true, Decidable.not_not, Bool.true_eq_false, Bool.false_eq_true] at _h)) | exact rfl | exact True.intro | (refine dok ?_; kernel_rfl) | (refine doks ?_; kernel_rfl) | (refine ⟨_, equalInt64_ok _ _ h.1, ?_⟩; try rintro _ rfl) | (refine wrap_succ ?_; omega))))
  all_goals (clear h; refine leaf_b ?_; simp_all)

set_option maxRecDepth 8000 in
theorem sameMachine_impl (a b : Machine) (h : a.ok) : Ret env.P 31 [.agg a.cs, .agg b.cs] (fun r => r = .b (decide (a = b))) := by
  obtain ⟨a0, a1, a2, a3, a4, a5, a6⟩ := a
  obtain ⟨b0, b1, b2, b3, b4, b5, b6⟩ := b
  refine ret_of (nt := 52) (rvs := [.tmp 4]) Try.func31 rfl rfl rfl rfl (fun X => ?_)
  repeat' (first | omega | ((conv => whnf) <;> (first | refine And.intro ?_ ?_ | (intro _h; first | contradiction | (try simp only [decide_eq_true_eq, Bool.not_eq_true', Bool.not_eq_false', decide_eq_false_iff_not, Bool.not_eq_true, Decidable.not_not, Bool.true_eq_false, Bool.false_eq_true] at _h)) | exact rfl | exact True.intro | (refine dok ?_; kernel_rfl) | (refine doks ?_; kernel_rfl) | (refine ⟨_, equalInt64_ok _ _ h.2.1.1, ?_⟩; try rintro _ rfl) | (refine ⟨_, equalInt64_ok _ _ h.2.2.1, ?_⟩; try rintro _ rfl) | (refine ⟨_, equalFuncCoreFrame_ok _ _ _ rfl h.1.1 (fun k hk => sameMachine1_ok _ _ (h.1.2 k hk)), ?_⟩; try rintro _ rfl) | (refine wrap_succ ?_; omega))))
  all_goals (clear h; refine leaf_b ?_; simp_all)

end Go.Proofs.Ytbphkpojhinbiaa
