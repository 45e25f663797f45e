/-
  test
-/
import Derived.Test.YtbphkpojhinbiaaVU
namespace Go.Proofs.Ytbphkpojhinbiaa
open Go Go.RowKit
set_option linter.unusedVariables false
set_option linter.unusedSimpArgs false

structure Pass where
  own : Bool
  res : Int
  num : Int
  deriving DecidableEq, Inhabited
def Pass.cs (a : Pass) : List AV := [.b a.own, .i .i64 a.res, .i .i64 a.num]

set_option maxRecDepth 8000 in
theorem toPass_ok (a : Pass) : Ret env.P 66 [.agg a.cs] (fun r => r = .agg a.cs) := by
  refine ret_of (nt := 14) (rvs := [.cell 2 97]) Try.func66 rfl rfl rfl rfl (fun X => ?_)
  exact rfl

theorem Pass.low (a : Pass) : a.cs.all (low1 0) = true := rfl

set_option maxRecDepth 8000 in
theorem toPassS_ok (l : List Pass) (hl : l.length ≤ 1048576) : Ret env.P 40 [slL 3 Pass.cs l] (fun r => r = slL 3 Pass.cs l) := by
  refine Ret.to ?_
  refine ret_of (nt := 23) (rvs := [.tmp 2]) Try.func40 rfl rfl rfl rfl (fun X => ?_)
  conv => whnf
  refine ⟨⟨by omega, by omega, by dsimp only; omega, by omega⟩, ?_⟩
  conv => whnf
  refine loopN l.length (fun k => [(4, .i .i64 k)]) (fun k => [some (.arr ⟨3, l.length, fillE k (elE Pass.cs l) (fun _ j => [AV.kb false, .i .i64 0, .i .i64 0].getD j .any), false⟩)]) (fun k => True) ⟨trivial, ?_⟩
  repeat' (first | omega | ((conv => whnf) <;> (first | exact arr_start rfl (fun _ _ => low_cells (Pass.low _)) (fun _ _ => low_cells rfl) | exact arr_round rfl rfl (fun _ _ => rfl) (fun _ _ => low_cells (Pass.low _)) (fun _ _ => low_cells rfl) | refine And.intro ?_ ?_ | (intro _h; first | contradiction | (try simp only [decide_eq_true_eq, Bool.not_eq_true', Bool.not_eq_false', decide_eq_false_iff_not, Bool.not_eq_true, Decidable.not_not, Bool.true_eq_false, Bool.false_eq_true] at _h)) | exact rfl | exact True.intro | (refine dok ?_; kernel_rfl) | (refine doks ?_; kernel_rfl) | (refine ⟨_, toPass_ok _, ?_⟩; try rintro _ rfl) | (refine wrap_succ ?_; omega))))
  exact wk_fill rfl (by omega) rfl (fun _ => rfl)

set_option maxRecDepth 8000 in
theorem eqPass_ok (a b : Pass) : Ret env.P 69 [.agg a.cs, .agg b.cs] (fun r => r = .b (decide (a = b))) := by
  obtain ⟨a1, a2, a3⟩ := a
  obtain ⟨b1, b2, b3⟩ := b
  refine ret_of (nt := 20) (rvs := [.tmp 4]) Try.func69 rfl rfl rfl rfl (fun X => ?_)
  repeat' (first | omega | ((conv => whnf) <;> (first | refine And.intro ?_ ?_ | (intro _h; first | contradiction | (try simp only [decide_eq_true_eq, Bool.not_eq_true', Bool.not_eq_false', decide_eq_false_iff_not, Bool.not_eq_true, Decidable.not_not, Bool.true_eq_false, Bool.false_eq_true] at _h)) | exact rfl | exact True.intro | (refine dok ?_; kernel_rfl) | (refine doks ?_; kernel_rfl) | (refine wrap_succ ?_; omega))))
  all_goals (refine leaf_b ?_; simp_all)

set_option maxRecDepth 8000 in
theorem eqPassS_ok (l m : List Pass) (hl : l.length ≤ 1048576) : Ret env.P 42 [slL 3 Pass.cs l, slL 3 Pass.cs m] (fun r => r = .b (decide (l = m))) := by
  refine ret_of (nt := 27) (rvs := [.tmp 4]) Try.func42 rfl rfl rfl rfl (fun X => ?_)
  repeat' (first | omega | ((conv => whnf) <;> (first | exact upto_succ (by assumption) (by assumption) | refine loopN l.length (fun k => [(5, .i .i64 k)]) (fun k => []) (fun k => ∀ j, j < k → l.getD j default = m.getD j default) ⟨fun _ h => by omega, ?_⟩ | refine And.intro ?_ ?_ | (intro _h; first | contradiction | (try simp only [decide_eq_true_eq, Bool.not_eq_true', Bool.not_eq_false', decide_eq_false_iff_not, Bool.not_eq_true, Decidable.not_not, Bool.true_eq_false, Bool.false_eq_true] at _h)) | exact rfl | exact True.intro | (refine dok ?_; kernel_rfl) | (refine doks ?_; kernel_rfl) | (refine ⟨_, eqPass_ok _ _, ?_⟩; try rintro _ rfl) | (refine wrap_succ ?_; omega))))
  · exact leaf_ne (by rintro rfl; omega)
  · exact leaf_ne (by rintro rfl; contradiction)
  · exact leaf_eq (list_eq (by omega) fun j hj => by have := ‹∀ j, j < _ → l.getD j default = m.getD j default›; exact this j (by omega))

set_option maxRecDepth 8000 in
theorem szPassS_ok (l : List Pass) (left : Int) (h0 : 0 ≤ left) (h1 : left ≤ 1048576) : Ret env.P 38 [slL 3 Pass.cs l, .i .i64 left] (fun r => r = .i .i64 (szN l.length left)) := by
  refine Ret.args fun hw => ?_
  have hl := wfs_sl (hw _ (List.mem_cons_self))
  have e : IntKind.i64.wrap (left - (l.length : Int)) = left - (l.length : Int) := wrap_in (by omega) (by omega)
  refine ret_of (nt := 12) (rvs := [.tmp 4]) Try.func38 rfl rfl rfl rfl (fun X => ?_)
  repeat' (first | omega | ((conv => whnf) <;> (first | refine And.intro ?_ ?_ | (intro _h; first | contradiction | (try simp only [decide_eq_true_eq, Bool.not_eq_true', Bool.not_eq_false', decide_eq_false_iff_not, Bool.not_eq_true, Decidable.not_not, Bool.true_eq_false, Bool.false_eq_true] at _h)) | exact rfl | exact True.intro | (refine dok ?_; kernel_rfl) | (refine doks ?_; kernel_rfl) | (refine wrap_succ ?_; omega))))
  all_goals (refine leaf_i ?_; unfold szN; rw [e] at _h; first | rw [if_pos (by omega)] | (rw [if_neg (by omega)]; exact e))
end Go.Proofs.Ytbphkpojhinbiaa
