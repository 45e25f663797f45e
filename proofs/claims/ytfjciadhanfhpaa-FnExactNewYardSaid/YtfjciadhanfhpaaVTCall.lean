/-
  Call: what the laws' functions for it do. Printed by fam.py.
-/
import Derived.Test.YtfjciadhanfhpaaVU
import Derived.Test.YtfjciadhanfhpaaVTBase
import Derived.Test.YtfjciadhanfhpaaVTInt64S
namespace Go.Proofs.Ytfjciadhanfhpaa
open Go Go.RowKit
set_option linter.unusedVariables false
set_option linter.unusedSimpArgs false

structure Call where
  id : Int
  caller : Int
  callee : Int
  args : List Int
  deriving DecidableEq, Inhabited
def Call.cs (a : Call) : List AV := [.i .i64 a.id, .i .i64 a.caller, .i .i64 a.callee, slL 1 intC a.args]
theorem Call.low (a : Call) : a.cs.all (low1 0) = true := rfl
theorem Call.eta {a b : Call} (h0 : a.id = b.id) (h1 : a.caller = b.caller) (h2 : a.callee = b.callee) (h3 : a.args = b.args) : a = b := by cases a; cases b; simp_all
theorem Call.etaC {a b : Call} (h : a.id = b.id ∧ a.caller = b.caller ∧ a.callee = b.callee ∧ a.args = b.args) : a = b := by cases a; cases b; simp_all
def Call.ok (a : Call) : Prop := (okL okI) a.args

set_option maxRecDepth 8000 in
theorem eqCall_ok (a b : Call) (h : Call.ok a) : Ret env.P 53 [.agg a.cs, .agg b.cs] (fun r => r = .b (decide (a = b))) := by
  obtain ⟨a0, a1, a2, a3⟩ := a
  obtain ⟨b0, b1, b2, b3⟩ := b
  refine ret_of (nt := 26) (rvs := [.tmp 4]) Try.func53 rfl rfl rfl rfl (fun X => ?_)
  repeat' (first | exact aa | ((conv => whnf) <;> (first | refine And.intro ?_ ?_ | (intro _h; first | contradiction | (try simp only [dd] at _h)) | (refine dt_go ?_) | exact rfl | exact True.intro | exact dkk | exact dks | ((first | refine .inl ⟨_, eqInt64S_ok _ _ h, ?_⟩ | refine ⟨_, eqInt64S_ok _ _ h, ?_⟩); (try rintro _ rfl)) | (refine wrap_succ ?_; omega))))
  all_goals (clear h; refine leaf_b ?_; simp_all)

def Call.sz (a : Call) (left : Int) : Int :=
  if (szFl a.args left) < 0 then -1 else (szFl a.args left)
theorem Call.sz_le (a : Call) (left : Int) (h1 : left ≤ 1048576) : Call.sz a left ≤ 1048576 := by
  have b1 : (szFl a.args left) ≤ 1048576 := szN_le h1
  unfold Call.sz
  repeat' split
  all_goals omega
theorem Call.sz_ok (a : Call) (left : Int) (h0 : 0 ≤ left) (h1 : left ≤ 1048576) (hn : ¬ Call.sz a left < 0) : Call.ok a := by
  have b1 : (szFl a.args left) ≤ 1048576 := szN_le h1
  unfold Call.sz at hn
  by_cases c1 : (szFl a.args left) < 0
  · rw [if_pos c1] at hn; omega
  rw [if_neg c1] at hn
  exact szFl_ok (fun _ => trivial) h0 h1 c1

set_option maxRecDepth 8000 in
theorem eqCallS_ok (l m : List Call) (h : okL Call.ok l) : Ret env.P 31 [slL 4 Call.cs l, slL 4 Call.cs m] (fun r => r = .b (decide (l = m))) := by
  have hl := h.1
  refine ret_of (nt := 27) (rvs := [.tmp 4]) Try.func31 rfl rfl rfl rfl (fun X => ?_)
  repeat' (first | exact aa | ((conv => whnf) <;> (first | exact upto_succ (by assumption) (by assumption) | refine loopN l.length (fun k => [(5, .i .i64 k)]) (fun k => []) (fun k => ∀ j, j < k → l.getD j default = m.getD j default) ⟨fun _ h => by omega, ?_⟩ | refine And.intro ?_ ?_ | (intro _h; first | contradiction | (try simp only [dd] at _h)) | (refine dt_go ?_) | exact rfl | exact True.intro | exact dkk | exact dks | ((first | refine .inl ⟨_, eqCall_ok _ _ (h.2 _ (by omega)), ?_⟩ | refine ⟨_, eqCall_ok _ _ (h.2 _ (by omega)), ?_⟩); (try rintro _ rfl)) | (refine wrap_succ ?_; omega))))
  · exact leaf_ne (by rintro rfl; omega)
  · exact leaf_ne (by rintro rfl; contradiction)
  · exact leaf_eq (list_eq (by omega) fun j hj => by have := ‹∀ j, j < _ → l.getD j default = m.getD j default›; exact this j (by omega))

end Go.Proofs.Ytfjciadhanfhpaa
