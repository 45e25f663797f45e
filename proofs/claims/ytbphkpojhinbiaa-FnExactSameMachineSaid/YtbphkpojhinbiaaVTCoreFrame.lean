/-
  CoreFrame: what the laws' functions for it do. Printed by fam.py.
-/
import Derived.Test.YtbphkpojhinbiaaVU
import Derived.Test.YtbphkpojhinbiaaVTBase
import Derived.Test.YtbphkpojhinbiaaVTInt64S
namespace Go.Proofs.Ytbphkpojhinbiaa
open Go Go.RowKit
set_option linter.unusedVariables false
set_option linter.unusedSimpArgs false

structure CoreFrame where
  core : Int
  pC : Int
  base : Int
  locals : List Int
  deriving DecidableEq, Inhabited
def CoreFrame.cs (a : CoreFrame) : List AV := [.i .i64 a.core, .i .i64 a.pC, .i .i64 a.base, slL 1 intC a.locals]
theorem CoreFrame.low (a : CoreFrame) : a.cs.all (low1 0) = true := rfl
theorem CoreFrame.eta {a b : CoreFrame} (h0 : a.core = b.core) (h1 : a.pC = b.pC) (h2 : a.base = b.base) (h3 : a.locals = b.locals) : a = b := by cases a; cases b; simp_all
def CoreFrame.ok (a : CoreFrame) : Prop := (okL okI) a.locals

set_option maxRecDepth 8000 in
theorem toCoreFrame_ok (a : CoreFrame) (h : CoreFrame.ok a) : Ret env.P 79 [.agg a.cs] (fun r => r = .agg a.cs) := by
  refine ret_of (nt := 18) (rvs := [.cell 2 90]) Try.func79 rfl rfl rfl rfl (fun X => ?_)
  repeat' (first | omega | ((conv => whnf) <;> (first | refine And.intro ?_ ?_ | (intro _h; first | contradiction | (try simp only [decide_eq_true_eq, Bool.not_eq_true', Bool.not_eq_false', decide_eq_false_iff_not, Bool.not_eq_true, Decidable.not_not, Bool.true_eq_false, Bool.false_eq_true] at _h)) | exact rfl | exact True.intro | (refine dok ?_; kernel_rfl) | (refine doks ?_; kernel_rfl) | (refine ⟨_, toInt64S_ok _ h, ?_⟩; try rintro _ rfl) | (refine wrap_succ ?_; omega))))

set_option maxRecDepth 8000 in
theorem eqCoreFrame_ok (a b : CoreFrame) (h : CoreFrame.ok a) : Ret env.P 80 [.agg a.cs, .agg b.cs] (fun r => r = .b (decide (a = b))) := by
  obtain ⟨a0, a1, a2, a3⟩ := a
  obtain ⟨b0, b1, b2, b3⟩ := b
  refine ret_of (nt := 26) (rvs := [.tmp 4]) Try.func80 rfl rfl rfl rfl (fun X => ?_)
  repeat' (first | omega | ((conv => whnf) <;> (first | refine And.intro ?_ ?_ | (intro _h; first | contradiction | (try simp only [decide_eq_true_eq, Bool.not_eq_true', Bool.not_eq_false', decide_eq_false_iff_not, Bool.not_eq_true, Decidable.not_not, Bool.true_eq_false, Bool.false_eq_true] at _h)) | exact rfl | exact True.intro | (refine dok ?_; kernel_rfl) | (refine doks ?_; kernel_rfl) | (refine ⟨_, eqInt64S_ok _ _ h, ?_⟩; try rintro _ rfl) | (refine wrap_succ ?_; omega))))
  all_goals (clear h; refine leaf_b ?_; simp_all)

def CoreFrame.sz (a : CoreFrame) (left : Int) : Int :=
  if (szFl a.locals left) < 0 then -1 else (szFl a.locals left)
theorem CoreFrame.sz_le (a : CoreFrame) (left : Int) (h1 : left ≤ 1048576) : CoreFrame.sz a left ≤ 1048576 := by
  have b1 : (szFl a.locals left) ≤ 1048576 := szN_le h1
  unfold CoreFrame.sz
  repeat' split
  all_goals omega
theorem CoreFrame.sz_ok (a : CoreFrame) (left : Int) (h0 : 0 ≤ left) (h1 : left ≤ 1048576) (hn : ¬ CoreFrame.sz a left < 0) : CoreFrame.ok a := by
  have b1 : (szFl a.locals left) ≤ 1048576 := szN_le h1
  unfold CoreFrame.sz at hn
  by_cases c1 : (szFl a.locals left) < 0
  · rw [if_pos c1] at hn; omega
  rw [if_neg c1] at hn
  exact szFl_ok (fun _ => trivial) h0 h1 c1

set_option maxRecDepth 8000 in
theorem szCoreFrame_ok (a : CoreFrame) (left : Int) (h0 : 0 ≤ left) (h1 : left ≤ 1048576) : Ret env.P 78 [.agg a.cs, .i .i64 left] (fun r => r = .i .i64 (CoreFrame.sz a left)) := by
  have b1 : (szFl a.locals left) ≤ 1048576 := szN_le h1
  refine ret_of (nt := 12) (rvs := [.tmp 4]) Try.func78 rfl rfl rfl rfl (fun X => ?_)
  repeat' (first | omega | ((conv => whnf) <;> (first | refine And.intro ?_ ?_ | (intro _h; first | contradiction | (try simp only [decide_eq_true_eq, Bool.not_eq_true', Bool.not_eq_false', decide_eq_false_iff_not, Bool.not_eq_true, Decidable.not_not, Bool.true_eq_false, Bool.false_eq_true] at _h)) | exact rfl | exact True.intro | (refine dok ?_; kernel_rfl) | (refine doks ?_; kernel_rfl) | (refine ⟨_, szInt64S_ok _ _ (by omega) (by omega), ?_⟩; try rintro _ rfl) | (refine wrap_succ ?_; omega))))
  all_goals (refine leaf_i ?_; simp_all [CoreFrame.sz]; try (intros; omega))

set_option maxRecDepth 8000 in
theorem toCoreFrameS_ok (l : List CoreFrame) (h : okL CoreFrame.ok l) : Ret env.P 59 [slL 4 CoreFrame.cs l] (fun r => r = slL 4 CoreFrame.cs l) := by
  have hl := h.1
  refine Ret.to ?_
  refine ret_of (nt := 23) (rvs := [.tmp 2]) Try.func59 rfl rfl rfl rfl (fun X => ?_)
  conv => whnf
  refine ⟨⟨by omega, by omega, by dsimp only; omega, by omega⟩, ?_⟩
  conv => whnf
  refine loopN l.length (fun k => [(4, .i .i64 k)]) (fun k => [some (.arr ⟨4, l.length, fillE k (elE CoreFrame.cs l) (fun _ j => [AV.i .i64 0, AV.i .i64 0, AV.i .i64 0, AV.nils].getD j .any), false⟩)]) (fun k => True) ⟨trivial, ?_⟩
  repeat' (first | omega | ((conv => whnf) <;> (first | exact arr_start rfl (fun _ _ => low_cells (CoreFrame.low _)) (fun _ _ => low_cells rfl) | exact arr_round rfl rfl (fun _ _ => rfl) (fun _ _ => low_cells (CoreFrame.low _)) (fun _ _ => low_cells rfl) | refine And.intro ?_ ?_ | (intro _h; first | contradiction | (try simp only [decide_eq_true_eq, Bool.not_eq_true', Bool.not_eq_false', decide_eq_false_iff_not, Bool.not_eq_true, Decidable.not_not, Bool.true_eq_false, Bool.false_eq_true] at _h)) | exact rfl | exact True.intro | (refine dok ?_; kernel_rfl) | (refine doks ?_; kernel_rfl) | (refine ⟨_, toCoreFrame_ok _ (h.2 _ (by omega)), ?_⟩; try rintro _ rfl) | (refine wrap_succ ?_; omega))))
  exact wk_fill rfl (by omega) rfl (fun _ => rfl)

set_option maxRecDepth 8000 in
theorem eqCoreFrameS_ok (l m : List CoreFrame) (h : okL CoreFrame.ok l) : Ret env.P 64 [slL 4 CoreFrame.cs l, slL 4 CoreFrame.cs m] (fun r => r = .b (decide (l = m))) := by
  have hl := h.1
  refine ret_of (nt := 27) (rvs := [.tmp 4]) Try.func64 rfl rfl rfl rfl (fun X => ?_)
  repeat' (first | omega | ((conv => whnf) <;> (first | exact upto_succ (by assumption) (by assumption) | refine loopN l.length (fun k => [(5, .i .i64 k)]) (fun k => []) (fun k => ∀ j, j < k → l.getD j default = m.getD j default) ⟨fun _ h => by omega, ?_⟩ | refine And.intro ?_ ?_ | (intro _h; first | contradiction | (try simp only [decide_eq_true_eq, Bool.not_eq_true', Bool.not_eq_false', decide_eq_false_iff_not, Bool.not_eq_true, Decidable.not_not, Bool.true_eq_false, Bool.false_eq_true] at _h)) | exact rfl | exact True.intro | (refine dok ?_; kernel_rfl) | (refine doks ?_; kernel_rfl) | (refine ⟨_, eqCoreFrame_ok _ _ (h.2 _ (by omega)), ?_⟩; try rintro _ rfl) | (refine wrap_succ ?_; omega))))
  · exact leaf_ne (by rintro rfl; omega)
  · exact leaf_ne (by rintro rfl; contradiction)
  · exact leaf_eq (list_eq (by omega) fun j hj => by have := ‹∀ j, j < _ → l.getD j default = m.getD j default›; exact this j (by omega))

set_option maxRecDepth 8000 in
theorem szCoreFrameS_ok (l : List CoreFrame) (left : Int) (h0 : 0 ≤ left) (h1 : left ≤ 1048576) : Ret env.P 56 [slL 4 CoreFrame.cs l, .i .i64 left] (fun r => r = .i .i64 (szLs CoreFrame.sz l left)) := by
  refine Ret.args fun hw => ?_
  have hl := wfs_sl (hw _ (List.mem_cons_self))
  have e : IntKind.i64.wrap (left - (l.length : Int)) = left - (l.length : Int) := wrap_in (by omega) (by omega)
  refine ret_of (nt := 27) (rvs := [.tmp 4]) Try.func56 rfl rfl rfl rfl (fun X => ?_)
  conv => whnf
  rw [e]
  refine ⟨fun _h => ?_, fun _h => ?_⟩
  · exact leaf_i (szLs_neg (of_decide_eq_true _h))
  have _h : ¬ (left - (l.length : Int) < 0) := fun hc => _h (decide_eq_true hc)
  conv => whnf
  refine loopN l.length (fun k => [(5, .i .i64 k), (1, .i .i64 (szAt CoreFrame.sz l (left - l.length) k))]) (fun k => []) (fun k => SzI CoreFrame.sz l (left - l.length) k) ⟨.start (by omega) (by omega), ?_⟩
  repeat' (first | omega | ((conv => whnf) <;> (first | exact SzI.step (fun a v h => CoreFrame.sz_le a v h) (by assumption) (by assumption) (by assumption) | refine And.intro ?_ ?_ | (intro _h; first | contradiction | (try simp only [decide_eq_true_eq, Bool.not_eq_true', Bool.not_eq_false', decide_eq_false_iff_not, Bool.not_eq_true, Decidable.not_not, Bool.true_eq_false, Bool.false_eq_true] at _h)) | exact rfl | exact True.intro | (refine dok ?_; kernel_rfl) | (refine doks ?_; kernel_rfl) | (refine ⟨_, szCoreFrame_ok _ _ (SzI.lo ‹_›) (SzI.hi ‹_›), ?_⟩; try rintro _ rfl) | (refine wrap_succ ?_; omega))))
  all_goals first | exact leaf_i (SzI.neg ‹SzI _ _ _ _› (by assumption) (by assumption) (by assumption)) | exact leaf_i (SzI.fin ‹SzI _ _ _ _› (by assumption) (by assumption))

end Go.Proofs.Ytbphkpojhinbiaa
