/-
  Machine: what the laws' functions for it do. Printed by fam.py.
-/
import Derived.Test.YtbphkpojhinbiaaVU
import Derived.Test.YtbphkpojhinbiaaVTBase
import Derived.Test.YtbphkpojhinbiaaVTCoreFrame
import Derived.Test.YtbphkpojhinbiaaVTInt64S
namespace Go.Proofs.Ytbphkpojhinbiaa
open Go Go.RowKit
set_option linter.unusedVariables false
set_option linter.unusedSimpArgs false

structure Machine where
  status : Int
  frames : List CoreFrame
  stack : List Int
  import_ : Int
  args : List Int
  result : Int
  trap : Int
  deriving DecidableEq, Inhabited
def Machine.cs (a : Machine) : List AV := [.i .i64 a.status, slL 4 CoreFrame.cs a.frames, slL 1 intC a.stack, .i .i64 a.import_, slL 1 intC a.args, .i .i64 a.result, .i .i64 a.trap]
theorem Machine.low (a : Machine) : a.cs.all (low1 0) = true := rfl
theorem Machine.eta {a b : Machine} (h0 : a.status = b.status) (h1 : a.frames = b.frames) (h2 : a.stack = b.stack) (h3 : a.import_ = b.import_) (h4 : a.args = b.args) (h5 : a.result = b.result) (h6 : a.trap = b.trap) : a = b := by cases a; cases b; simp_all
def Machine.ok (a : Machine) : Prop := (okL CoreFrame.ok) a.frames ∧ (okL okI) a.stack ∧ (okL okI) a.args

set_option maxRecDepth 8000 in
theorem toMachine_ok (a : Machine) (h : Machine.ok a) : Ret env.P 30 [.agg a.cs] (fun r => r = .agg a.cs) := by
  refine ret_of (nt := 29) (rvs := [.cell 2 65]) Try.func30 rfl rfl rfl rfl (fun X => ?_)
  repeat' (first | omega | ((conv => whnf) <;> (first | refine And.intro ?_ ?_ | (intro _h; first | contradiction | (try simp only [decide_eq_true_eq, Bool.not_eq_true', Bool.not_eq_false', decide_eq_false_iff_not, Bool.not_eq_true, Decidable.not_not, Bool.true_eq_false, Bool.false_eq_true] at _h)) | exact rfl | exact True.intro | (refine dok ?_; kernel_rfl) | (refine doks ?_; kernel_rfl) | (refine ⟨_, toCoreFrameS_ok _ h.1, ?_⟩; try rintro _ rfl) | (refine ⟨_, toInt64S_ok _ h.2.1, ?_⟩; try rintro _ rfl) | (refine ⟨_, toInt64S_ok _ h.2.2, ?_⟩; try rintro _ rfl) | (refine wrap_succ ?_; omega))))

set_option maxRecDepth 8000 in
theorem eqMachine_ok (a b : Machine) (h : Machine.ok a) : Ret env.P 32 [.agg a.cs, .agg b.cs] (fun r => r = .b (decide (a = b))) := by
  obtain ⟨a0, a1, a2, a3, a4, a5, a6⟩ := a
  obtain ⟨b0, b1, b2, b3, b4, b5, b6⟩ := b
  refine ret_of (nt := 43) (rvs := [.tmp 4]) Try.func32 rfl rfl rfl rfl (fun X => ?_)
  repeat' (first | omega | ((conv => whnf) <;> (first | refine And.intro ?_ ?_ | (intro _h; first | contradiction | (try simp only [decide_eq_true_eq, Bool.not_eq_true', Bool.not_eq_false', decide_eq_false_iff_not, Bool.not_eq_true, Decidable.not_not, Bool.true_eq_false, Bool.false_eq_true] at _h)) | exact rfl | exact True.intro | (refine dok ?_; kernel_rfl) | (refine doks ?_; kernel_rfl) | (refine ⟨_, eqCoreFrameS_ok _ _ h.1, ?_⟩; try rintro _ rfl) | (refine ⟨_, eqInt64S_ok _ _ h.2.1, ?_⟩; try rintro _ rfl) | (refine ⟨_, eqInt64S_ok _ _ h.2.2, ?_⟩; try rintro _ rfl) | (refine wrap_succ ?_; omega))))
  all_goals (clear h; refine leaf_b ?_; simp_all)

def Machine.sz (a : Machine) (left : Int) : Int :=
  if ((szLs CoreFrame.sz) a.frames left) < 0 then -1 else if (szFl a.stack ((szLs CoreFrame.sz) a.frames left)) < 0 then -1 else if (szFl a.args (szFl a.stack ((szLs CoreFrame.sz) a.frames left))) < 0 then -1 else (szFl a.args (szFl a.stack ((szLs CoreFrame.sz) a.frames left)))
theorem Machine.sz_le (a : Machine) (left : Int) (h1 : left ≤ 1048576) : Machine.sz a left ≤ 1048576 := by
  have b1 : ((szLs CoreFrame.sz) a.frames left) ≤ 1048576 := szLs_le (fun a v h => CoreFrame.sz_le a v h) h1
  have b2 : (szFl a.stack ((szLs CoreFrame.sz) a.frames left)) ≤ 1048576 := szN_le b1
  have b3 : (szFl a.args (szFl a.stack ((szLs CoreFrame.sz) a.frames left))) ≤ 1048576 := szN_le b2
  unfold Machine.sz
  repeat' split
  all_goals omega
theorem Machine.sz_ok (a : Machine) (left : Int) (h0 : 0 ≤ left) (h1 : left ≤ 1048576) (hn : ¬ Machine.sz a left < 0) : Machine.ok a := by
  have b1 : ((szLs CoreFrame.sz) a.frames left) ≤ 1048576 := szLs_le (fun a v h => CoreFrame.sz_le a v h) h1
  have b2 : (szFl a.stack ((szLs CoreFrame.sz) a.frames left)) ≤ 1048576 := szN_le b1
  have b3 : (szFl a.args (szFl a.stack ((szLs CoreFrame.sz) a.frames left))) ≤ 1048576 := szN_le b2
  unfold Machine.sz at hn
  by_cases c1 : ((szLs CoreFrame.sz) a.frames left) < 0
  · rw [if_pos c1] at hn; omega
  rw [if_neg c1] at hn
  by_cases c2 : (szFl a.stack ((szLs CoreFrame.sz) a.frames left)) < 0
  · rw [if_pos c2] at hn; omega
  rw [if_neg c2] at hn
  by_cases c3 : (szFl a.args (szFl a.stack ((szLs CoreFrame.sz) a.frames left))) < 0
  · rw [if_pos c3] at hn; omega
  rw [if_neg c3] at hn
  exact ⟨szLs_ok (fun a v h => CoreFrame.sz_le a v h) (fun a v h0 h1 hn => CoreFrame.sz_ok a v h0 h1 hn) h0 h1 c1, szFl_ok (fun _ => trivial) (by omega) b1 c2, szFl_ok (fun _ => trivial) (by omega) b2 c3⟩

set_option maxRecDepth 8000 in
theorem szMachine_ok (a : Machine) (left : Int) (h0 : 0 ≤ left) (h1 : left ≤ 1048576) : Ret env.P 28 [.agg a.cs, .i .i64 left] (fun r => r = .i .i64 (Machine.sz a left)) := by
  have b1 : ((szLs CoreFrame.sz) a.frames left) ≤ 1048576 := szLs_le (fun a v h => CoreFrame.sz_le a v h) h1
  have b2 : (szFl a.stack ((szLs CoreFrame.sz) a.frames left)) ≤ 1048576 := szN_le b1
  have b3 : (szFl a.args (szFl a.stack ((szLs CoreFrame.sz) a.frames left))) ≤ 1048576 := szN_le b2
  refine ret_of (nt := 24) (rvs := [.tmp 4]) Try.func28 rfl rfl rfl rfl (fun X => ?_)
  repeat' (first | omega | ((conv => whnf) <;> (first | refine And.intro ?_ ?_ | (intro _h; first | contradiction | (try simp only [decide_eq_true_eq, Bool.not_eq_true', Bool.not_eq_false', decide_eq_false_iff_not, Bool.not_eq_true, Decidable.not_not, Bool.true_eq_false, Bool.false_eq_true] at _h)) | exact rfl | exact True.intro | (refine dok ?_; kernel_rfl) | (refine doks ?_; kernel_rfl) | (refine ⟨_, szCoreFrameS_ok _ _ (by omega) (by omega), ?_⟩; try rintro _ rfl) | (refine ⟨_, szInt64S_ok _ _ (by omega) (by omega), ?_⟩; try rintro _ rfl) | (refine ⟨_, szInt64S_ok _ _ (by omega) (by omega), ?_⟩; try rintro _ rfl) | (refine wrap_succ ?_; omega))))
  all_goals (refine leaf_i ?_; simp_all [Machine.sz]; try (intros; omega))

end Go.Proofs.Ytbphkpojhinbiaa
