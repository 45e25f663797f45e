/-
  SameShelf: the reference and the program.
-/
import Derived.Test.YtgkclbbabfidaaaVTShelf
namespace Go.Proofs.Ytgkclbbabfidaaa
open Go Go.RowKit
set_option linter.unusedVariables false
set_option linter.unusedSimpArgs false

set_option maxRecDepth 8000 in
theorem equalThing_ok (l m : List Thing) (hl : l.length ≤ 1048576) : Ret env.P 57 [slL 3 Thing.cs l, slL 3 Thing.cs m] (fun r => r = .b (decide (l = m))) := by
  refine ret_of (nt := 26) (rvs := [.tmp 4]) Try.func57 rfl rfl rfl rfl (fun X => ?_)
  repeat' (first | omega | (with_reducible show (_ : Int) < _; dsimp only; omega) | ((conv => whnf) <;> (first | exact upto_succ (by assumption) (by first | assumption | exact Thing.etaC (by simpa using _h)) | refine loopN l.length (fun k => [(13, .i .i64 k)]) (fun k => []) (fun k => ∀ j, j < k → l.getD j default = m.getD j default) ⟨fun _ h => by omega, ?_⟩ | refine And.intro ?_ ?_ | (intro _h; first | contradiction | (try simp only [decide_eq_true_eq, Bool.not_eq_true', Bool.not_eq_false', decide_eq_false_iff_not, Bool.not_eq_true, Decidable.not_not, Bool.true_eq_false, Bool.false_eq_true] at _h)) | exact rfl | exact True.intro | (refine dok ?_; kernel_rfl) | (refine doks ?_; kernel_rfl) | (refine wrap_succ ?_; omega))))
  · exact leaf_ne (by rintro rfl; omega)
  · exact leaf_ne (by rintro rfl; simp_all)
  · exact leaf_eq (list_eq (by omega) fun j hj => by have := ‹∀ j, j < _ → l.getD j default = m.getD j default›; exact this j (by omega))

set_option maxRecDepth 8000 in
theorem equalEntry_ok (l m : List Entry) (hl : l.length ≤ 1048576) : Ret env.P 60 [slL 7 Entry.cs l, slL 7 Entry.cs m] (fun r => r = .b (decide (l = m))) := by
  refine ret_of (nt := 26) (rvs := [.tmp 4]) Try.func60 rfl rfl rfl rfl (fun X => ?_)
  repeat' (first | omega | (with_reducible show (_ : Int) < _; dsimp only; omega) | ((conv => whnf) <;> (first | exact upto_succ (by assumption) (by first | assumption | exact Entry.etaC (by simpa using _h)) | refine loopN l.length (fun k => [(13, .i .i64 k)]) (fun k => []) (fun k => ∀ j, j < k → l.getD j default = m.getD j default) ⟨fun _ h => by omega, ?_⟩ | refine And.intro ?_ ?_ | (intro _h; first | contradiction | (try simp only [decide_eq_true_eq, Bool.not_eq_true', Bool.not_eq_false', decide_eq_false_iff_not, Bool.not_eq_true, Decidable.not_not, Bool.true_eq_false, Bool.false_eq_true] at _h)) | exact rfl | exact True.intro | (refine dok ?_; kernel_rfl) | (refine doks ?_; kernel_rfl) | (refine wrap_succ ?_; omega))))
  · exact leaf_ne (by rintro rfl; omega)
  · exact leaf_ne (by rintro rfl; simp_all)
  · exact leaf_eq (list_eq (by omega) fun j hj => by have := ‹∀ j, j < _ → l.getD j default = m.getD j default›; exact this j (by omega))

set_option maxRecDepth 8000 in
theorem equalFuncTable_ok (l m : List Table) (g : Nat) {fv} (hg : env.F.get g = some fv) (hl : l.length ≤ 1048576)
    (hp : ∀ k, k < l.length → Ret env.P g [.agg (Table.cs (l.getD k default)), .agg (Table.cs (m.getD k default))] (fun r => r = .b (decide (l.getD k default = m.getD k default)))) :
    Ret env.P 58 [slL 2 Table.cs l, slL 2 Table.cs m, .fn g []] (fun r => r = .b (decide (l = m))) := by
  refine ret_of (nt := 32) (rvs := [.tmp 6]) Try.func58 rfl rfl rfl rfl (fun X => ?_)
  repeat' (first | omega | (with_reducible show (_ : Int) < _; dsimp only; omega) | ((conv => whnf) <;> (first | rw [hg] | exact upto_succ (by assumption) (by assumption) | refine loopN l.length (fun k => [(17, .i .i64 k)]) (fun k => []) (fun k => ∀ j, j < k → l.getD j default = m.getD j default) ⟨fun _ h => by omega, ?_⟩ | refine And.intro ?_ ?_ | (intro _h; first | contradiction | (try simp only [decide_eq_true_eq, Bool.not_eq_true', Bool.not_eq_false', decide_eq_false_iff_not, Bool.not_eq_true, Decidable.not_not, Bool.true_eq_false, Bool.false_eq_true] at _h)) | exact rfl | exact True.intro | (refine dok ?_; kernel_rfl) | (refine doks ?_; kernel_rfl) | (refine ⟨_, hp _ (by omega), ?_⟩; try rintro _ rfl) | (refine wrap_succ ?_; omega))))
  · exact leaf_ne (by rintro rfl; omega)
  · exact leaf_ne (by rintro rfl; contradiction)
  · exact leaf_eq (list_eq (by omega) fun j hj => by have := ‹∀ j, j < _ → l.getD j default = m.getD j default›; exact this j (by omega))

set_option maxRecDepth 8000 in
theorem sameShelf1_ok (a b : Table) (h : a.ok) : Ret env.P 59 [.agg a.cs, .agg b.cs] (fun r => r = .b (decide (a = b))) := by
  obtain ⟨a0, a1⟩ := a
  obtain ⟨b0, b1⟩ := b
  refine ret_of (nt := 17) (rvs := [.tmp 4]) Try.func59 rfl rfl rfl rfl (fun X => ?_)
  repeat' (first | omega | (with_reducible show (_ : Int) < _; dsimp only; omega) | ((conv => whnf) <;> (first | refine And.intro ?_ ?_ | (intro _h; first | contradiction | (try simp only [decide_eq_true_eq, Bool.not_eq_true', Bool.not_eq_false', decide_eq_false_iff_not, Bool.not_eq_true, Decidable.not_not, Bool.true_eq_false, Bool.false_eq_true] at _h)) | exact rfl | exact True.intro | (refine dok ?_; kernel_rfl) | (refine doks ?_; kernel_rfl) | (refine ⟨_, equalEntry_ok _ _ h.1, ?_⟩; try rintro _ rfl) | (refine wrap_succ ?_; omega))))
  all_goals (clear h; refine leaf_b ?_; simp_all)

set_option maxRecDepth 8000 in
theorem sameShelf_impl (a b : Shelf) (h : a.ok) : Ret env.P 18 [.agg a.cs, .agg b.cs] (fun r => r = .b (decide (a = b))) := by
  obtain ⟨a0, a1, a2⟩ := a
  obtain ⟨b0, b1, b2⟩ := b
  refine ret_of (nt := 24) (rvs := [.tmp 4]) Try.func18 rfl rfl rfl rfl (fun X => ?_)
  repeat' (first | omega | (with_reducible show (_ : Int) < _; dsimp only; omega) | ((conv => whnf) <;> (first | refine And.intro ?_ ?_ | (intro _h; first | contradiction | (try simp only [decide_eq_true_eq, Bool.not_eq_true', Bool.not_eq_false', decide_eq_false_iff_not, Bool.not_eq_true, Decidable.not_not, Bool.true_eq_false, Bool.false_eq_true] at _h)) | exact rfl | exact True.intro | (refine dok ?_; kernel_rfl) | (refine doks ?_; kernel_rfl) | (refine ⟨_, equalThing_ok _ _ h.2.1, ?_⟩; try rintro _ rfl) | (refine ⟨_, equalFuncTable_ok _ _ _ rfl h.1.1 (fun k hk => sameShelf1_ok _ _ (h.1.2 k hk)), ?_⟩; try rintro _ rfl) | (refine wrap_succ ?_; omega))))
  all_goals (clear h; refine leaf_b ?_; simp_all)
end Go.Proofs.Ytgkclbbabfidaaa
