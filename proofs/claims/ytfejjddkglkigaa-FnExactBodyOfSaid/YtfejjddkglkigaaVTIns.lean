/-
  Ins: what the laws' functions for it do. Printed by fam.py.
-/
import Derived.Test.YtfejjddkglkigaaVU
import Derived.Test.YtfejjddkglkigaaVTBase
namespace Go.Proofs.Ytfejjddkglkigaa
open Go Go.RowKit
set_option linter.unusedVariables false
set_option linter.unusedSimpArgs false

structure Ins where
  op : Int
  a : Int
  deriving DecidableEq, Inhabited
def Ins.cs (a : Ins) : List AV := [.i .i64 a.op, .i .i64 a.a]
theorem Ins.low (a : Ins) : a.cs.all (low1 0) = true := rfl
theorem Ins.eta {a b : Ins} (h0 : a.op = b.op) (h1 : a.a = b.a) : a = b := by cases a; cases b; simp_all
theorem Ins.etaC {a b : Ins} (h : a.op = b.op ∧ a.a = b.a) : a = b := by cases a; cases b; simp_all
def Ins.ok (a : Ins) : Prop := True

set_option maxRecDepth 8000 in
theorem eqIns_ok (a b : Ins) (h : Ins.ok a) : Ret env.P 14 [.agg a.cs, .agg b.cs] (fun r => r = .b (decide (a = b))) := by
  obtain ⟨a0, a1⟩ := a
  obtain ⟨b0, b1⟩ := b
  refine ret_of (nt := 15) (rvs := [.tmp 4]) Try.func14 rfl rfl rfl rfl (fun X => ?_)
  repeat' (first | exact aa | ((conv => whnf) <;> (first | refine And.intro ?_ ?_ | (intro _h; first | contradiction | (try simp only [dd] at _h)) | (refine dt_go ?_) | exact rfl | exact True.intro | exact dkk | exact dks | (refine wrap_succ ?_; omega))))
  all_goals (clear h; refine leaf_b ?_; simp_all)

set_option maxRecDepth 8000 in
theorem eqInsS_ok (l m : List Ins) (h : okL Ins.ok l) : Ret env.P 6 [slL 2 Ins.cs l, slL 2 Ins.cs m] (fun r => r = .b (decide (l = m))) := by
  have hl := h.1
  refine ret_of (nt := 27) (rvs := [.tmp 4]) Try.func6 rfl rfl rfl rfl (fun X => ?_)
  repeat' (first | exact aa | ((conv => whnf) <;> (first | exact upto_succ (by assumption) (by assumption) | refine loopN l.length (fun k => [(5, .i .i64 k)]) (fun k => []) (fun k => ∀ j, j < k → l.getD j default = m.getD j default) ⟨fun _ h => by omega, ?_⟩ | refine And.intro ?_ ?_ | (intro _h; first | contradiction | (try simp only [dd] at _h)) | (refine dt_go ?_) | exact rfl | exact True.intro | exact dkk | exact dks | ((first | refine .inl ⟨_, eqIns_ok _ _ (h.2 _ (by omega)), ?_⟩ | refine ⟨_, eqIns_ok _ _ (h.2 _ (by omega)), ?_⟩); (try rintro _ rfl)) | (refine wrap_succ ?_; omega))))
  · exact leaf_ne (by rintro rfl; omega)
  · exact leaf_ne (by rintro rfl; contradiction)
  · exact leaf_eq (list_eq (by omega) fun j hj => by have := ‹∀ j, j < _ → l.getD j default = m.getD j default›; exact this j (by omega))

end Go.Proofs.Ytfejjddkglkigaa
