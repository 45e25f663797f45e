/-
  Instructions: which have an operand, and its range.
-/
import Derived.Test.YtfejjddkglkigaaVLbH
namespace Go.Proofs.Ytfejjddkglkigaa
open Go Go.RowKit
set_option linter.unusedVariables false
set_option linter.unusedSimpArgs false

/-- The range of an operation's operand; whether it has one. -/
def opV (op : Int) : Int × Int × Bool :=
  if op = 1 then (-9223372036854775808, 9223372036854775807, true)
  else if op = 2 ∨ op = 3 ∨ op = 4 then (0, 15, true)
  else if op = 24 ∨ op = 25 ∨ op = 26 then (0, 1, true)
  else if op = 29 ∨ op = 30 then (0, 6, true)
  else if op = 32 then (0, 7, true)
  else if op = 33 then (0, 11, true)
  else if 34 ≤ op ∧ op ≤ 39 then (0, 4096, true)
  else (0, 0, false)
set_option maxRecDepth 8000 in
set_option maxHeartbeats 4000000 in
theorem l15Has_ok (op : Int) : Ret env.P 17 [.i .i64 op] (fun r => r = getR (opV op)) := by
  refine ret_of (nt := 30) (rvs := [.tmp 2, .tmp 3, .tmp 4]) Try.func17 rfl rfl rfl rfl (fun X => ?_)
  repeat' (first | exact aa | ((conv => whnf) <;> (first | refine And.intro ?_ ?_ | (intro _h; first | contradiction | (try simp only [dd] at _h)) | (refine dt_go ?_) | exact rfl | exact True.intro | exact dkk | exact dks | (refine wrap_succ ?_; omega))))
  all_goals (conv => whnf)
  all_goals first
    | (subst_vars; rfl)
    | (have e : opV op = (0, 0, false) := by
         unfold opV
         rw [if_neg (by omega), if_neg (by omega), if_neg (by omega), if_neg (by omega), if_neg (by omega), if_neg (by omega), if_neg (by omega)]
       rw [e]; rfl)
    | trace_state
set_option maxRecDepth 8000 in
theorem numRange64 : Ret env.P 26 [.i .i64 9] (fun r => r = .tup [.i .i64 (-9223372036854775808), .i .i64 9223372036854775807, .b true]) := by
  refine ret_of (nt := 20) (rvs := [.tmp 2, .tmp 3, .tmp 4]) Try.func26 rfl rfl rfl rfl (fun X => ?_)
  repeat' (first | exact aa | ((conv => whnf) <;> (first | refine And.intro ?_ ?_ | (intro _h; first | contradiction | (try simp only [dd] at _h)) | (refine dt_go ?_) | exact rfl | exact True.intro | exact dkk | exact dks | (refine wrap_succ ?_; omega))))
set_option maxRecDepth 8000 in
set_option maxHeartbeats 4000000 in
theorem operandOf_ok (op : Int) : Ret env.P 20 [.i .i64 op] (fun r => r = getR (opV op)) := by
  refine ret_of (nt := 40) (rvs := [.tmp 2, .tmp 3, .tmp 4]) Try.func20 rfl rfl rfl rfl (fun X => ?_)
  repeat' (first | exact aa | ((conv => whnf) <;> (first | refine And.intro ?_ ?_ | (intro _h; first | contradiction | (try simp only [dd] at _h)) | (refine dt_go ?_) | exact rfl | exact True.intro | exact dkk | exact dks | ((first | refine .inl ⟨_, numRange64, ?_⟩ | refine ⟨_, numRange64, ?_⟩); (try rintro _ rfl)) | (refine wrap_succ ?_; omega))))
  all_goals (conv => whnf)
  all_goals first
    | (subst_vars; rfl)
    | (have e : opV op = (0, 0, false) := by
         unfold opV
         rw [if_neg (by omega), if_neg (by omega), if_neg (by omega), if_neg (by omega), if_neg (by omega), if_neg (by omega), if_neg (by omega)]
       rw [e]; rfl)
    | trace_state
end Go.Proofs.Ytfejjddkglkigaa
