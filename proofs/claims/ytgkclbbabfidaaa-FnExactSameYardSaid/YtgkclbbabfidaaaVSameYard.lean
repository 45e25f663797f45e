/-
  SameYard: the reference and the program.
-/
import Derived.Test.YtgkclbbabfidaaaVTYard
import Derived.Test.YtgkclbbabfidaaaVSameShelfS
namespace Go.Proofs.Ytgkclbbabfidaaa
open Go Go.RowKit
set_option linter.unusedVariables false
set_option linter.unusedSimpArgs false

set_option maxRecDepth 8000 in
theorem equalInt64_ok (l m : List Int) (hl : l.length ≤ 1048576) : Ret env.P 87 [slL 1 intC l, slL 1 intC m] (fun r => r = .b (decide (l = m))) := by
  refine ret_of (nt := 26) (rvs := [.tmp 4]) Try.func87 rfl rfl rfl rfl (fun X => ?_)
  repeat' (first | omega | (with_reducible show (_ : Int) < _; dsimp only; omega) | ((conv => whnf) <;> (first | exact upto_succ (by assumption) (by first | assumption | simp_all [intC]) | refine loopN l.length (fun k => [(13, .i .i64 k)]) (fun k => []) (fun k => ∀ j, j < k → l.getD j default = m.getD j default) ⟨fun _ h => by omega, ?_⟩ | refine And.intro ?_ ?_ | (intro _h; first | contradiction | (try simp only [decide_eq_true_eq, Bool.not_eq_true', Bool.not_eq_false', decide_eq_false_iff_not, Bool.not_eq_true, Decidable.not_not, Bool.true_eq_false, Bool.false_eq_true] at _h)) | exact rfl | exact True.intro | (refine dok ?_; kernel_rfl) | (refine doks ?_; kernel_rfl) | (refine wrap_succ ?_; omega))))
  · exact leaf_ne (by rintro rfl; omega)
  · exact leaf_ne (by rintro rfl; simp_all)
  · exact leaf_eq (list_eq (by omega) fun j hj => by have := ‹∀ j, j < _ → l.getD j default = m.getD j default›; exact this j (by omega))

set_option maxRecDepth 8000 in
theorem equalFuncCall_ok (l m : List Call) (g : Nat) {fv} (hg : env.F.get g = some fv) (hl : l.length ≤ 1048576)
    (hp : ∀ k, k < l.length → Ret env.P g [.agg (Call.cs (l.getD k default)), .agg (Call.cs (m.getD k default))] (fun r => r = .b (decide (l.getD k default = m.getD k default)))) :
    Ret env.P 88 [slL 4 Call.cs l, slL 4 Call.cs m, .fn g []] (fun r => r = .b (decide (l = m))) := by
  refine ret_of (nt := 32) (rvs := [.tmp 6]) Try.func88 rfl rfl rfl rfl (fun X => ?_)
  repeat' (first | omega | (with_reducible show (_ : Int) < _; dsimp only; omega) | ((conv => whnf) <;> (first | rw [hg] | exact upto_succ (by assumption) (by assumption) | refine loopN l.length (fun k => [(17, .i .i64 k)]) (fun k => []) (fun k => ∀ j, j < k → l.getD j default = m.getD j default) ⟨fun _ h => by omega, ?_⟩ | refine And.intro ?_ ?_ | (intro _h; first | contradiction | (try simp only [decide_eq_true_eq, Bool.not_eq_true', Bool.not_eq_false', decide_eq_false_iff_not, Bool.not_eq_true, Decidable.not_not, Bool.true_eq_false, Bool.false_eq_true] at _h)) | exact rfl | exact True.intro | (refine dok ?_; kernel_rfl) | (refine doks ?_; kernel_rfl) | (refine ⟨_, hp _ (by omega), ?_⟩; try rintro _ rfl) | (refine wrap_succ ?_; omega))))
  · exact leaf_ne (by rintro rfl; omega)
  · exact leaf_ne (by rintro rfl; contradiction)
  · exact leaf_eq (list_eq (by omega) fun j hj => by have := ‹∀ j, j < _ → l.getD j default = m.getD j default›; exact this j (by omega))

set_option maxRecDepth 8000 in
theorem l00Same_ok (l m : List Int) (hl : l.length ≤ 1048576) : Ret env.P 84 [slL 1 intC l, slL 1 intC m] (fun r => r = .b (decide (l = m))) := by
  refine ret_of (nt := 26) (rvs := [.tmp 4]) Try.func84 rfl rfl rfl rfl (fun X => ?_)
  repeat' (first | omega | (with_reducible show (_ : Int) < _; dsimp only; omega) | ((conv => whnf) <;> (first | exact upto_succ (by assumption) (by first | assumption | simp_all [intC]) | refine loopN l.length (fun k => [(5, .i .i64 k)]) (fun k => []) (fun k => ∀ j, j < k → l.getD j default = m.getD j default) ⟨fun _ h => by omega, ?_⟩ | refine And.intro ?_ ?_ | (intro _h; first | contradiction | (try simp only [decide_eq_true_eq, Bool.not_eq_true', Bool.not_eq_false', decide_eq_false_iff_not, Bool.not_eq_true, Decidable.not_not, Bool.true_eq_false, Bool.false_eq_true] at _h)) | exact rfl | exact True.intro | (refine dok ?_; kernel_rfl) | (refine doks ?_; kernel_rfl) | (refine wrap_succ ?_; omega))))
  · exact leaf_ne (by rintro rfl; omega)
  · exact leaf_ne (by rintro rfl; simp_all)
  · exact leaf_eq (list_eq (by omega) fun j hj => by have := ‹∀ j, j < _ → l.getD j default = m.getD j default›; exact this j (by omega))

set_option maxRecDepth 8000 in
theorem sameYard1_ok (a b : Call) (h : a.ok) : Ret env.P 89 [.agg a.cs, .agg b.cs] (fun r => r = .b (decide (a = b))) := by
  obtain ⟨a0, a1, a2, a3⟩ := a
  obtain ⟨b0, b1, b2, b3⟩ := b
  refine ret_of (nt := 31) (rvs := [.tmp 4]) Try.func89 rfl rfl rfl rfl (fun X => ?_)
  repeat' (first | omega | (with_reducible show (_ : Int) < _; dsimp only; omega) | ((conv => whnf) <;> (first | refine And.intro ?_ ?_ | (intro _h; first | contradiction | (try simp only [decide_eq_true_eq, Bool.not_eq_true', Bool.not_eq_false', decide_eq_false_iff_not, Bool.not_eq_true, Decidable.not_not, Bool.true_eq_false, Bool.false_eq_true] at _h)) | exact rfl | exact True.intro | (refine dok ?_; kernel_rfl) | (refine doks ?_; kernel_rfl) | (refine ⟨_, equalInt64_ok _ _ h.1, ?_⟩; try rintro _ rfl) | (refine wrap_succ ?_; omega))))
  all_goals (clear h; refine leaf_b ?_; simp_all)

set_option maxRecDepth 8000 in
theorem sameYard_impl (a b : Yard) (h : a.ok) : Ret env.P 32 [.agg a.cs, .agg b.cs] (fun r => r = .b (decide (a = b))) := by
  obtain ⟨a0, a1, a2, a3⟩ := a
  obtain ⟨b0, b1, b2, b3⟩ := b
  refine ret_of (nt := 31) (rvs := [.tmp 4]) Try.func32 rfl rfl rfl rfl (fun X => ?_)
  repeat' (first | omega | (with_reducible show (_ : Int) < _; dsimp only; omega) | ((conv => whnf) <;> (first | refine And.intro ?_ ?_ | (intro _h; first | contradiction | (try simp only [decide_eq_true_eq, Bool.not_eq_true', Bool.not_eq_false', decide_eq_false_iff_not, Bool.not_eq_true, Decidable.not_not, Bool.true_eq_false, Bool.false_eq_true] at _h)) | exact rfl | exact True.intro | (refine dok ?_; kernel_rfl) | (refine doks ?_; kernel_rfl) | (refine ⟨_, sameShelf_impl _ _ h.1, ?_⟩; try rintro _ rfl) | (refine ⟨_, equalInt64_ok _ _ h.2.2.1, ?_⟩; try rintro _ rfl) | (refine ⟨_, equalFuncCall_ok _ _ _ rfl h.2.1.1 (fun k hk => sameYard1_ok _ _ (h.2.1.2 k hk)), ?_⟩; try rintro _ rfl) | (refine wrap_succ ?_; omega))))
  all_goals (clear h; refine leaf_b ?_; simp_all)

set_option maxRecDepth 8000 in
theorem sameYard_spec (a b : Yard) (h : a.ok) : Ret env.P 30 [.agg a.cs, .agg b.cs] (fun r => r = .b (decide (a = b))) := by
  obtain ⟨a0, a1, a2, a3⟩ := a
  obtain ⟨b0, b1, b2, b3⟩ := b
  have h1 : okL Call.ok a1 := h.2.1
  have hl := h1.1
  refine ret_of (nt := 82) (rvs := [.tmp 4]) Try.func30 rfl rfl rfl rfl (fun X => ?_)
  repeat' (first | omega | (with_reducible show (_ : Int) < _; dsimp only; omega) | ((conv => whnf) <;> (first | exact upto_succ (by assumption) (Call.eta (by assumption) (by assumption) (by assumption) (by assumption)) | refine loopN a1.length (fun k => [(5, .i .i64 k)]) (fun k => []) (fun k => ∀ j, j < k → a1.getD j default = b1.getD j default) ⟨fun _ h => by omega, ?_⟩ | refine And.intro ?_ ?_ | (intro _h; first | contradiction | (try simp only [decide_eq_true_eq, Bool.not_eq_true', Bool.not_eq_false', decide_eq_false_iff_not, Bool.not_eq_true, Decidable.not_not, Bool.true_eq_false, Bool.false_eq_true] at _h)) | exact rfl | exact True.intro | (refine dok ?_; kernel_rfl) | (refine doks ?_; kernel_rfl) | (refine ⟨_, sameShelf_spec _ _ h.1, ?_⟩; try rintro _ rfl) | (refine ⟨_, l00Same_ok _ _ h.2.2.1, ?_⟩; try rintro _ rfl) | (refine ⟨_, l00Same_ok _ _ (h1.2 _ (by omega)).1, ?_⟩; try rintro _ rfl) | (refine wrap_succ ?_; omega))))
  all_goals first
    | exact leaf_ne (by intro e; injection e; subst_vars; first | omega | contradiction)
    | exact leaf_eq (by have := list_eq (by omega) (fun j hj => (‹∀ j, j < _ → a1.getD j default = b1.getD j default› : ∀ j, j < _ → a1.getD j default = b1.getD j default) j (by omega)); simp_all)
end Go.Proofs.Ytgkclbbabfidaaa
