/-
  ShelfActOk: the reference and the program.
-/
import Derived.Test.YtbphkpojhinbiaaVU
namespace Go.Proofs.Ytbphkpojhinbiaa
open Go Go.RowKit
set_option linter.unusedVariables false

set_option maxRecDepth 8000 in
theorem within_ok (x lo hi : Int) : Ret env.P 34 [.i .i64 x, .i .i64 lo, .i .i64 hi] (fun r => r = .b (decide (lo ≤ x ∧ x ≤ hi))) := by
  refine ret_of (nt := 15) (rvs := [.tmp 6]) Try.func34 rfl rfl rfl rfl (fun X => ?_)
  repeat' (first | refine And.intro ?_ ?_ | intro h)
  all_goals (refine leaf_b ?_; rw [Bool.eq_iff_iff]; simp at *; omega)

set_option maxRecDepth 8000 in
theorem l00In_ok (x lo hi : Int) : Ret env.P 33 [.i .i64 x, .i .i64 lo, .i .i64 hi] (fun r => r = .b (decide (lo ≤ x ∧ x ≤ hi))) := by
  refine ret_of (nt := 15) (rvs := [.tmp 6]) Try.func33 rfl rfl rfl rfl (fun X => ?_)
  repeat' (first | refine And.intro ?_ ?_ | intro h)
  all_goals (refine leaf_b ?_; rw [Bool.eq_iff_iff]; simp at *; omega)

set_option maxRecDepth 8000 in
theorem isRes_ok (n : Int) : Ret env.P 36 [.i .i64 n] (fun r => r = .b (decide (1 ≤ n ∧ n ≤ 8))) := by
  refine ret_of (nt := 5) (rvs := [.tmp 2]) Try.func36 rfl rfl rfl rfl (fun X => ?_)
  repeat' (first | refine And.intro ?_ ?_ | intro h | (refine ⟨_, within_ok _ _ _, ?_⟩; rintro _ rfl))
  all_goals (refine leaf_b ?_; rw [Bool.eq_iff_iff])

set_option maxRecDepth 8000 in
theorem isId_ok (n : Int) : Ret env.P 37 [.i .i64 n] (fun r => r = .b (decide (1 ≤ n ∧ n ≤ 1000000))) := by
  refine ret_of (nt := 5) (rvs := [.tmp 2]) Try.func37 rfl rfl rfl rfl (fun X => ?_)
  repeat' (first | refine And.intro ?_ ?_ | intro h | (refine ⟨_, within_ok _ _ _, ?_⟩; rintro _ rfl))
  all_goals (refine leaf_b ?_; rw [Bool.eq_iff_iff])

set_option maxRecDepth 8000 in
theorem l19Used_ok (b : Bool) (n h : Int) : Ret env.P 35 [.b b, .i .i64 n, .i .i64 h] (fun r => r = .b (decide ((b = true ∧ 1 ≤ n ∧ n ≤ h) ∨ (b = false ∧ n = 0)))) := by
  refine ret_of (nt := 13) (rvs := [.tmp 6]) Try.func35 rfl rfl rfl rfl (fun X => ?_)
  repeat' (first | refine And.intro ?_ ?_ | intro h | (refine ⟨_, l00In_ok _ _ _, ?_⟩; rintro _ rfl))
  all_goals (refine leaf_b ?_; simp_all)

structure ShelfAct where
  kind : Int
  who : Int
  num : Int
  res : Int
  to : Int
  scope : Int
  deriving DecidableEq
def ShelfAct.cs (a : ShelfAct) : List AV := [.i .i64 a.kind, .i .i64 a.who, .i .i64 a.num, .i .i64 a.res, .i .i64 a.to, .i .i64 a.scope]

set_option maxRecDepth 8000 in
theorem toShelfAct_ok (a : ShelfAct) : Ret env.P 12 [.agg a.cs] (fun r => r = .agg a.cs) := by
  refine ret_of (nt := 23) (rvs := [.cell 2 27]) Try.func12 rfl rfl rfl rfl (fun X => ?_)
  exact rfl

def ShelfAct.ok (a : ShelfAct) : Bool :=
  decide ((0 ≤ a.who ∧ a.who ≤ 6) ∧ (0 ≤ a.to ∧ a.to ≤ 6) ∧
  (if a.kind = 1 then (1 ≤ a.res ∧ a.res ≤ 8) ∧ (a.num = 0 ∧ a.to = 0 ∧ a.scope = 0)
   else if a.kind = 2 then (1 ≤ a.num ∧ a.num ≤ 1000000) ∧ (1 ≤ a.res ∧ a.res ≤ 8) ∧ a.scope = 0
   else if a.kind = 3 then (1 ≤ a.num ∧ a.num ≤ 1000000) ∧ (1 ≤ a.res ∧ a.res ≤ 8) ∧ (1 ≤ a.scope ∧ a.scope ≤ 1000000)
   else if a.kind = 4 then (1 ≤ a.num ∧ a.num ≤ 1000000) ∧ (a.res = 0 ∧ a.to = 0 ∧ a.scope = 0)
   else if a.kind = 5 then (1 ≤ a.scope ∧ a.scope ≤ 1000000) ∧ (a.who = 0 ∧ a.num = 0 ∧ a.res = 0 ∧ a.to = 0)
   else if a.kind = 6 then a.num = 0 ∧ a.res = 0 ∧ a.to = 0 ∧ a.scope = 0
   else False))

set_option maxHeartbeats 2000000 in
set_option maxRecDepth 8000 in
theorem shelfActOk_spec (a : ShelfAct) : Ret env.P 11 [.agg a.cs] (fun r => r = .b a.ok) := by
  obtain ⟨k, w, n, r, t, s⟩ := a
  refine ret_of (nt := 78) (rvs := [.tmp 2]) Try.func11 rfl rfl rfl rfl (fun X => ?_)
  repeat' (conv => whnf
           first | refine And.intro ?_ ?_ | (intro _h; try contradiction) | (refine dok ?_; kernel_rfl) | (refine doks ?_; kernel_rfl) | (refine ⟨_, l00In_ok _ _ _, ?_⟩; rintro _ rfl) | (refine ⟨_, l19Used_ok _ _ _, ?_⟩; rintro _ rfl))
  all_goals refine leaf_b ?_
  all_goals (rw [Bool.eq_iff_iff]; simp_all [ShelfAct.ok]; try (first | omega | (repeat' split) <;> omega))

set_option maxHeartbeats 2000000 in
set_option maxRecDepth 8000 in
theorem shelfActOk_impl (a : ShelfAct) : Ret env.P 13 [.agg a.cs] (fun r => r = .b a.ok) := by
  obtain ⟨k, w, n, r, t, s⟩ := a
  refine ret_of (nt := 106) (rvs := [.tmp 2]) Try.func13 rfl rfl rfl rfl (fun X => ?_)
  repeat' (conv => whnf
           first | refine And.intro ?_ ?_ | (intro _h; try contradiction) | (refine dok ?_; kernel_rfl) | (refine doks ?_; kernel_rfl) | (refine ⟨_, within_ok _ _ _, ?_⟩; rintro _ rfl) | (refine ⟨_, isRes_ok _, ?_⟩; rintro _ rfl) | (refine ⟨_, isId_ok _, ?_⟩; rintro _ rfl))
  all_goals refine leaf_b ?_
  all_goals (rw [Bool.eq_iff_iff]; simp_all [ShelfAct.ok]; try (first | omega | (repeat' split) <;> omega))
end Go.Proofs.Ytbphkpojhinbiaa
