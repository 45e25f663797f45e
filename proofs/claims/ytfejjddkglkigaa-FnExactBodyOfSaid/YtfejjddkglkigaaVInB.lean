/-
  Instructions: which are valid.
-/
import Derived.Test.YtfejjddkglkigaaVInA
import Derived.Test.YtfejjddkglkigaaVTIns
namespace Go.Proofs.Ytfejjddkglkigaa
open Go Go.RowKit
set_option linter.unusedVariables false
set_option linter.unusedSimpArgs false

def Ins.good (i : Ins) : Bool := decide ((1 ≤ i.op ∧ i.op ≤ 40) ∧ ((opV i.op).1 ≤ i.a ∧ i.a ≤ (opV i.op).2.1))
theorem has_ok (op : Int) : Ret env.P 17 [.i .i64 op] (fun r => r = .tup [.i .i64 (opV op).1, .i .i64 (opV op).2.1, .b (opV op).2.2]) := l15Has_ok op
theorem hasI_ok (op : Int) : Ret env.P 20 [.i .i64 op] (fun r => r = .tup [.i .i64 (opV op).1, .i .i64 (opV op).2.1, .b (opV op).2.2]) := operandOf_ok op
set_option maxRecDepth 8000 in
theorem l15Ins_ok (i : Ins) : Ret env.P 30 [.agg i.cs] (fun r => r = .b i.good) := by
  refine ret_of (nt := 23) (rvs := [.tmp 2]) Try.func30 rfl rfl rfl rfl (fun X => ?_)
  repeat' (first | exact aa | ((conv => whnf) <;> (first | refine And.intro ?_ ?_ | (intro _h; first | contradiction | (try simp only [dd] at _h)) | (refine dt_go ?_) | exact rfl | exact True.intro | exact dkk | exact dks | ((first | refine .inl ⟨_, has_ok _, ?_⟩ | refine ⟨_, has_ok _, ?_⟩); (try rintro _ rfl)) | ((first | refine .inl ⟨_, l00In_ok _ _ _, ?_⟩ | refine ⟨_, l00In_ok _ _ _, ?_⟩); (try rintro _ rfl)) | (refine wrap_succ ?_; omega))))
  all_goals (refine leaf_b ?_; unfold Ins.good; first | (simp_all; done) | (simp_all; omega))
set_option maxRecDepth 8000 in
theorem insOk_spec (i : Ins) : Ret env.P 24 [.agg i.cs] (fun r => r = .b i.good) := by
  refine ret_of (nt := 5) (rvs := [.tmp 2]) Try.func24 rfl rfl rfl rfl (fun X => ?_)
  repeat' (first | exact aa | ((conv => whnf) <;> (first | refine And.intro ?_ ?_ | (intro _h; first | contradiction | (try simp only [dd] at _h)) | (refine dt_go ?_) | exact rfl | exact True.intro | exact dkk | exact dks | ((first | refine .inl ⟨_, l15Ins_ok i, ?_⟩ | refine ⟨_, l15Ins_ok i, ?_⟩); (try rintro _ rfl)) | (refine wrap_succ ?_; omega))))
set_option maxRecDepth 8000 in
theorem insOk_impl (i : Ins) : Ret env.P 28 [.agg i.cs] (fun r => r = .b i.good) := by
  refine ret_of (nt := 23) (rvs := [.tmp 2]) Try.func28 rfl rfl rfl rfl (fun X => ?_)
  repeat' (first | exact aa | ((conv => whnf) <;> (first | refine And.intro ?_ ?_ | (intro _h; first | contradiction | (try simp only [dd] at _h)) | (refine dt_go ?_) | exact rfl | exact True.intro | exact dkk | exact dks | ((first | refine .inl ⟨_, hasI_ok _, ?_⟩ | refine ⟨_, hasI_ok _, ?_⟩); (try rintro _ rfl)) | ((first | refine .inl ⟨_, within_ok _ _ _, ?_⟩ | refine ⟨_, within_ok _ _ _, ?_⟩); (try rintro _ rfl)) | (refine wrap_succ ?_; omega))))
  all_goals (refine leaf_b ?_; unfold Ins.good; first | (simp_all; done) | (simp_all; omega))
end Go.Proofs.Ytfejjddkglkigaa
