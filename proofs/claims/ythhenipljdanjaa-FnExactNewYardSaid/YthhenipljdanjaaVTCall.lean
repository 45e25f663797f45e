/-
  Call: what the laws' functions for it do. Printed by fam.py.
-/
import Derived.Test.YthhenipljdanjaaVU
import Derived.Test.YthhenipljdanjaaVTBase
import Derived.Test.YthhenipljdanjaaVTInt64S
namespace Go.Proofs.Ythhenipljdanjaa
open Go Go.RowKit
set_option linter.unusedVariables false
set_option linter.unusedSimpArgs false

structure Call where
  id : Int
  caller : Int
  callee : Int
  args : List Int
  deriving DecidableEq, Inhabited
def Call.cs (a : Call) : List AV := [.i .i64 a.id, .i .i64 a.caller, .i .i64 a.callee, slL 1 intC a.args]
theorem Call.low (a : Call) : a.cs.all (low1 0) = true := rfl
theorem Call.eta {a b : Call} (h0 : a.id = b.id) (h1 : a.caller = b.caller) (h2 : a.callee = b.callee) (h3 : a.args = b.args) : a = b := by cases a; cases b; simp_all
theorem Call.etaC {a b : Call} (h : a.id = b.id ∧ a.caller = b.caller ∧ a.callee = b.callee ∧ a.args = b.args) : a = b := by cases a; cases b; simp_all
def Call.ok (a : Call) : Prop := (okL okI) a.args

set_option maxRecDepth 8000 in
theorem toCall_ok (a : Call) (h : Call.ok a) : Ret env.P 109 [.agg a.cs] (fun r => r = .agg a.cs) := by
  refine ret_of (nt := 18) (rvs := [.cell 2 141]) Try.func109 rfl rfl rfl rfl (fun X => ?_)
  repeat' (first | omega | (with_reducible show (_ : Int) < _; dsimp only; omega) | (with_reducible show (_ : Nat) ≤ _; dsimp only; omega) | exact srcOk_1 rfl | exact srcOk_L (fun _ => ⟨rfl, rfl⟩) | exact srcOk_E (fun _ => ⟨rfl, rfl⟩) | ((conv => whnf) <;> (first | refine And.intro ?_ ?_ | (intro _h; first | contradiction | (try simp only [decide_eq_true_eq, Bool.not_eq_true', Bool.not_eq_false', decide_eq_false_iff_not, Bool.not_eq_true, Decidable.not_not, Bool.true_eq_false, Bool.false_eq_true, pb_t, pb_f] at _h)) | exact rfl | exact True.intro | (refine dok ?_; kernel_rfl) | (refine doks ?_; kernel_rfl) | ((first | refine .inl ⟨_, toInt64S_ok _ h, ?_⟩ | refine ⟨_, toInt64S_ok _ h, ?_⟩); (try rintro _ rfl)) | (refine wrap_succ ?_; omega))))

set_option maxRecDepth 8000 in
theorem eqCall_ok (a b : Call) (h : Call.ok a) : Ret env.P 116 [.agg a.cs, .agg b.cs] (fun r => r = .b (decide (a = b))) := by
  obtain ⟨a0, a1, a2, a3⟩ := a
  obtain ⟨b0, b1, b2, b3⟩ := b
  refine ret_of (nt := 26) (rvs := [.tmp 4]) Try.func116 rfl rfl rfl rfl (fun X => ?_)
  repeat' (first | omega | (with_reducible show (_ : Int) < _; dsimp only; omega) | (with_reducible show (_ : Nat) ≤ _; dsimp only; omega) | exact srcOk_1 rfl | exact srcOk_L (fun _ => ⟨rfl, rfl⟩) | exact srcOk_E (fun _ => ⟨rfl, rfl⟩) | ((conv => whnf) <;> (first | refine And.intro ?_ ?_ | (intro _h; first | contradiction | (try simp only [decide_eq_true_eq, Bool.not_eq_true', Bool.not_eq_false', decide_eq_false_iff_not, Bool.not_eq_true, Decidable.not_not, Bool.true_eq_false, Bool.false_eq_true, pb_t, pb_f] at _h)) | exact rfl | exact True.intro | (refine dok ?_; kernel_rfl) | (refine doks ?_; kernel_rfl) | ((first | refine .inl ⟨_, eqInt64S_ok _ _ h, ?_⟩ | refine ⟨_, eqInt64S_ok _ _ h, ?_⟩); (try rintro _ rfl)) | (refine wrap_succ ?_; omega))))
  all_goals (clear h; refine leaf_b ?_; simp_all)

def Call.sz (a : Call) (left : Int) : Int :=
  if (szFl a.args left) < 0 then -1 else (szFl a.args left)
theorem Call.sz_le (a : Call) (left : Int) (h1 : left ≤ 1048576) : Call.sz a left ≤ 1048576 := by
  have b1 : (szFl a.args left) ≤ 1048576 := szN_le h1
  unfold Call.sz
  repeat' split
  all_goals omega
theorem Call.sz_ok (a : Call) (left : Int) (h0 : 0 ≤ left) (h1 : left ≤ 1048576) (hn : ¬ Call.sz a left < 0) : Call.ok a := by
  have b1 : (szFl a.args left) ≤ 1048576 := szN_le h1
  unfold Call.sz at hn
  by_cases c1 : (szFl a.args left) < 0
  · rw [if_pos c1] at hn; omega
  rw [if_neg c1] at hn
  exact szFl_ok (fun _ => trivial) h0 h1 c1

set_option maxRecDepth 8000 in
theorem szCall_ok (a : Call) (left : Int) (h0 : 0 ≤ left) (h1 : left ≤ 1048576) : Ret env.P 105 [.agg a.cs, .i .i64 left] (fun r => r = .i .i64 (Call.sz a left)) := by
  have b1 : (szFl a.args left) ≤ 1048576 := szN_le h1
  refine ret_of (nt := 12) (rvs := [.tmp 4]) Try.func105 rfl rfl rfl rfl (fun X => ?_)
  repeat' (first | omega | (with_reducible show (_ : Int) < _; dsimp only; omega) | (with_reducible show (_ : Nat) ≤ _; dsimp only; omega) | exact srcOk_1 rfl | exact srcOk_L (fun _ => ⟨rfl, rfl⟩) | exact srcOk_E (fun _ => ⟨rfl, rfl⟩) | ((conv => whnf) <;> (first | refine And.intro ?_ ?_ | (intro _h; first | contradiction | (try simp only [decide_eq_true_eq, Bool.not_eq_true', Bool.not_eq_false', decide_eq_false_iff_not, Bool.not_eq_true, Decidable.not_not, Bool.true_eq_false, Bool.false_eq_true, pb_t, pb_f] at _h)) | exact rfl | exact True.intro | (refine dok ?_; kernel_rfl) | (refine doks ?_; kernel_rfl) | ((first | refine .inl ⟨_, szInt64S_ok _ _ (by omega) (by omega), ?_⟩ | refine ⟨_, szInt64S_ok _ _ (by omega) (by omega), ?_⟩); (try rintro _ rfl)) | (refine wrap_succ ?_; omega))))
  all_goals (refine leaf_i ?_; simp_all [Call.sz]; try (intros; omega))

set_option maxRecDepth 8000 in
theorem toCallS_ok (l : List Call) (h : okL Call.ok l) : Ret env.P 51 [slL 4 Call.cs l] (fun r => r = slL 4 Call.cs l) := by
  have hl := h.1
  refine Ret.to ?_
  refine ret_of (nt := 23) (rvs := [.tmp 2]) Try.func51 rfl rfl rfl rfl (fun X => ?_)
  conv => whnf
  refine ⟨⟨by omega, by omega, by dsimp only; omega, by omega⟩, ?_⟩
  conv => whnf
  refine loopN l.length (fun k => [(4, .i .i64 k)]) (fun k => [some (.arr ⟨4, l.length, fillE k (elE Call.cs l) (fun _ j => [AV.i .i64 0, AV.i .i64 0, AV.i .i64 0, AV.nils].getD j .any), .arr⟩)]) (fun k => True) ⟨trivial, ?_⟩
  repeat' (first | omega | (with_reducible show (_ : Int) < _; dsimp only; omega) | (with_reducible show (_ : Nat) ≤ _; dsimp only; omega) | exact srcOk_1 rfl | exact srcOk_L (fun _ => ⟨rfl, rfl⟩) | exact srcOk_E (fun _ => ⟨rfl, rfl⟩) | ((conv => whnf) <;> (first | exact arr_start rfl (fun _ _ => low_cells (Call.low _)) (fun _ _ => low_cells rfl) | exact arr_round rfl rfl (fun _ _ => rfl) (fun _ _ => low_cells (Call.low _)) (fun _ _ => low_cells rfl) | refine And.intro ?_ ?_ | (intro _h; first | contradiction | (try simp only [decide_eq_true_eq, Bool.not_eq_true', Bool.not_eq_false', decide_eq_false_iff_not, Bool.not_eq_true, Decidable.not_not, Bool.true_eq_false, Bool.false_eq_true, pb_t, pb_f] at _h)) | exact rfl | exact True.intro | (refine dok ?_; kernel_rfl) | (refine doks ?_; kernel_rfl) | ((first | refine .inl ⟨_, toCall_ok _ (h.2 _ (by omega)), ?_⟩ | refine ⟨_, toCall_ok _ (h.2 _ (by omega)), ?_⟩); (try rintro _ rfl)) | (refine wrap_succ ?_; omega))))
  exact wk_fill rfl (by omega) rfl (fun _ => rfl)

set_option maxRecDepth 8000 in
theorem eqCallS_ok (l m : List Call) (h : okL Call.ok l) : Ret env.P 55 [slL 4 Call.cs l, slL 4 Call.cs m] (fun r => r = .b (decide (l = m))) := by
  have hl := h.1
  refine ret_of (nt := 27) (rvs := [.tmp 4]) Try.func55 rfl rfl rfl rfl (fun X => ?_)
  repeat' (first | omega | (with_reducible show (_ : Int) < _; dsimp only; omega) | (with_reducible show (_ : Nat) ≤ _; dsimp only; omega) | exact srcOk_1 rfl | exact srcOk_L (fun _ => ⟨rfl, rfl⟩) | exact srcOk_E (fun _ => ⟨rfl, rfl⟩) | ((conv => whnf) <;> (first | exact upto_succ (by assumption) (by assumption) | refine loopN l.length (fun k => [(5, .i .i64 k)]) (fun k => []) (fun k => ∀ j, j < k → l.getD j default = m.getD j default) ⟨fun _ h => by omega, ?_⟩ | refine And.intro ?_ ?_ | (intro _h; first | contradiction | (try simp only [decide_eq_true_eq, Bool.not_eq_true', Bool.not_eq_false', decide_eq_false_iff_not, Bool.not_eq_true, Decidable.not_not, Bool.true_eq_false, Bool.false_eq_true, pb_t, pb_f] at _h)) | exact rfl | exact True.intro | (refine dok ?_; kernel_rfl) | (refine doks ?_; kernel_rfl) | ((first | refine .inl ⟨_, eqCall_ok _ _ (h.2 _ (by omega)), ?_⟩ | refine ⟨_, eqCall_ok _ _ (h.2 _ (by omega)), ?_⟩); (try rintro _ rfl)) | (refine wrap_succ ?_; omega))))
  · exact leaf_ne (by rintro rfl; omega)
  · exact leaf_ne (by rintro rfl; contradiction)
  · exact leaf_eq (list_eq (by omega) fun j hj => by have := ‹∀ j, j < _ → l.getD j default = m.getD j default›; exact this j (by omega))

set_option maxRecDepth 8000 in
theorem szCallS_ok (l : List Call) (left : Int) (h0 : 0 ≤ left) (h1 : left ≤ 1048576) : Ret env.P 47 [slL 4 Call.cs l, .i .i64 left] (fun r => r = .i .i64 (szLs Call.sz l left)) := by
  refine Ret.args fun hw => ?_
  have hl := wfs_sl (hw _ (List.mem_cons_self))
  have e : IntKind.i64.wrap (left - (l.length : Int)) = left - (l.length : Int) := wrap_in (by omega) (by omega)
  refine ret_of (nt := 27) (rvs := [.tmp 4]) Try.func47 rfl rfl rfl rfl (fun X => ?_)
  conv => whnf
  rw [e]
  refine ⟨fun _h => ?_, fun _h => ?_⟩
  · exact leaf_i (szLs_neg (of_decide_eq_true _h))
  have _h : ¬ (left - (l.length : Int) < 0) := fun hc => _h (decide_eq_true hc)
  conv => whnf
  refine loopN l.length (fun k => [(5, .i .i64 k), (1, .i .i64 (szAt Call.sz l (left - l.length) k))]) (fun k => []) (fun k => SzI Call.sz l (left - l.length) k) ⟨.start (by omega) (by omega), ?_⟩
  repeat' (first | omega | (with_reducible show (_ : Int) < _; dsimp only; omega) | (with_reducible show (_ : Nat) ≤ _; dsimp only; omega) | exact srcOk_1 rfl | exact srcOk_L (fun _ => ⟨rfl, rfl⟩) | exact srcOk_E (fun _ => ⟨rfl, rfl⟩) | ((conv => whnf) <;> (first | exact SzI.step (fun a v h => Call.sz_le a v h) (by assumption) (by assumption) (by assumption) | refine And.intro ?_ ?_ | (intro _h; first | contradiction | (try simp only [decide_eq_true_eq, Bool.not_eq_true', Bool.not_eq_false', decide_eq_false_iff_not, Bool.not_eq_true, Decidable.not_not, Bool.true_eq_false, Bool.false_eq_true, pb_t, pb_f] at _h)) | exact rfl | exact True.intro | (refine dok ?_; kernel_rfl) | (refine doks ?_; kernel_rfl) | ((first | refine .inl ⟨_, szCall_ok _ _ (SzI.lo ‹_›) (SzI.hi ‹_›), ?_⟩ | refine ⟨_, szCall_ok _ _ (SzI.lo ‹_›) (SzI.hi ‹_›), ?_⟩); (try rintro _ rfl)) | (refine wrap_succ ?_; omega))))
  all_goals first | exact leaf_i (SzI.neg ‹SzI _ _ _ _› (by assumption) (by assumption) (by assumption)) | exact leaf_i (SzI.fin ‹SzI _ _ _ _› (by assumption) (by assumption))

end Go.Proofs.Ythhenipljdanjaa
