/-
  Yards that are asked: OnStack, TopOf, MayEnter, of the program and of the reference.
-/
import Derived.Test.YthhenipljdanjaaVYaA
import Derived.Test.YthhenipljdanjaaVYaB
import Derived.Test.YthhenipljdanjaaVYaP
namespace Go.Proofs.Ythhenipljdanjaa
open Go Go.RowKit
set_option linter.unusedVariables false
set_option linter.unusedSimpArgs false

/-- The running instance. -/
def topV (l : List Call) : Int := if l.length = 0 then 0 else (l.getD (l.length - 1) default).callee
theorem topV_zero {l : List Call} (h : (l.length : Int) = 0) : topV l = 0 := if_pos (by omega)
theorem topV_pos {l : List Call} (h : ¬ (l.length : Int) = 0) (hl : l.length ≤ 1048576) : (l.getD (IntKind.i64.wrap ((l.length : Int) - 1)).toNat default).callee = topV l := by
  unfold topV
  rw [if_neg (by omega), wrap_in (by omega) (by omega), show ((l.length : Int) - 1).toNat = l.length - 1 by omega]

set_option maxRecDepth 8000 in
theorem top_ok (l : List Call) (hl : l.length ≤ 1048576) (a b c : AV) : Ret env.P 58 [rfL [a, slL 4 Call.cs l, b, c]] (fun r => r = .i .i64 (topV l)) := by
  refine ret_of (nt := 22) (rvs := [.tmp 2]) Try.func58 rfl rfl rfl rfl (fun X => ?_)
  repeat' (first | omega | (with_reducible show (_ : Int) < _; dsimp only; omega) | ((conv => whnf) <;> (first | refine And.intro ?_ ?_ | (intro _h; first | contradiction | (try simp only [decide_eq_true_eq, Bool.not_eq_true', Bool.not_eq_false', decide_eq_false_iff_not, Bool.not_eq_true, Decidable.not_not, Bool.true_eq_false, Bool.false_eq_true, pb_t, pb_f] at _h)) | exact rfl | exact True.intro | (refine dok ?_; kernel_rfl) | (refine doks ?_; kernel_rfl) | (refine wrap_succ ?_; omega))))
  all_goals (try simp (disch := omega) only [wrap_in])
  all_goals first
    | exact leaf_i (topV_zero ‹_›).symm
    | omega
    | (refine leaf_i ?_; rw [← topV_pos ‹_› hl, wrap_in (by omega) (by omega)])
    | trace_state

set_option maxRecDepth 8000 in
theorem topOf_impl (y : Yard) (h : y.ok) : Ret env.P 19 [.agg y.cs] (fun r => r = .i .i64 (bif pb y.good then topV y.stack else -1)) := by
  refine ret_of (nt := 11) (rvs := [.tmp 2]) Try.func19 rfl rfl rfl rfl (fun X => ?_)
  repeat' (first | omega | (with_reducible show (_ : Int) < _; dsimp only; omega) | ((conv => whnf) <;> (first | refine And.intro ?_ ?_ | (intro _h; first | contradiction | (try simp only [decide_eq_true_eq, Bool.not_eq_true', Bool.not_eq_false', decide_eq_false_iff_not, Bool.not_eq_true, Decidable.not_not, Bool.true_eq_false, Bool.false_eq_true, pb_t, pb_f] at _h)) | exact rfl | exact True.intro | (refine dok ?_; kernel_rfl) | (refine doks ?_; kernel_rfl) | ((first | refine .inl ⟨_, yardOk_impl y h, ?_⟩ | refine ⟨_, yardOk_impl y h, ?_⟩); (try rintro _ rfl)) | ((first | refine .inl ⟨_, Ret.wk (by repeat (first | exact WkL.nil | refine WkL.cons ?_ ?_ | exact Wk.refl _ | exact Wk.rfc rfl | refine Wk.fn ?_)) (top_ok y.stack h.2.1.1 _ _ _), ?_⟩ | refine ⟨_, Ret.wk (by repeat (first | exact WkL.nil | refine WkL.cons ?_ ?_ | exact Wk.refl _ | exact Wk.rfc rfl | refine Wk.fn ?_)) (top_ok y.stack h.2.1.1 _ _ _), ?_⟩); (try rintro _ rfl)) | (refine wrap_succ ?_; omega))))
  all_goals first
    | (rw [bif_f ‹_›]; rfl)
    | (rw [bif_t (Classical.not_not.1 ‹_›)]; rfl)

set_option maxRecDepth 8000 in
theorem l20Runs_ok (y : Yard) (h : y.ok) : Ret env.P 57 [rfL y.cs] (fun r => r = .i .i64 (topV y.stack)) := by
  have hl : y.stack.length ≤ 1048576 := h.2.1.1
  refine ret_of (nt := 22) (rvs := [.tmp 2]) Try.func57 rfl rfl rfl rfl (fun X => ?_)
  repeat' (first | omega | (with_reducible show (_ : Int) < _; dsimp only; omega) | ((conv => whnf) <;> (first | refine And.intro ?_ ?_ | (intro _h; first | contradiction | (try simp only [decide_eq_true_eq, Bool.not_eq_true', Bool.not_eq_false', decide_eq_false_iff_not, Bool.not_eq_true, Decidable.not_not, Bool.true_eq_false, Bool.false_eq_true, pb_t, pb_f] at _h)) | exact rfl | exact True.intro | (refine dok ?_; kernel_rfl) | (refine doks ?_; kernel_rfl) | (refine wrap_succ ?_; omega))))
  all_goals (try simp (disch := omega) only [wrap_in])
  all_goals first
    | exact leaf_i (topV_zero ‹_›).symm
    | omega
    | (refine leaf_i ?_; rw [← topV_pos ‹_› hl, wrap_in (by omega) (by omega)])
    | trace_state

set_option maxRecDepth 8000 in
theorem topOf_spec (y : Yard) (h : y.ok) : Ret env.P 18 [.agg y.cs] (fun r => r = .i .i64 (bif pb y.sGood then topV y.stack else -1)) := by
  refine ret_of (nt := 6) (rvs := [.tmp 2]) Try.func18 rfl rfl rfl rfl (fun X => ?_)
  repeat' (first | omega | (with_reducible show (_ : Int) < _; dsimp only; omega) | ((conv => whnf) <;> (first | refine And.intro ?_ ?_ | (intro _h; first | contradiction | (try simp only [decide_eq_true_eq, Bool.not_eq_true', Bool.not_eq_false', decide_eq_false_iff_not, Bool.not_eq_true, Decidable.not_not, Bool.true_eq_false, Bool.false_eq_true, pb_t, pb_f] at _h)) | exact rfl | exact True.intro | (refine dok ?_; kernel_rfl) | (refine doks ?_; kernel_rfl) | ((first | refine .inl ⟨_, Ret.wk (by repeat (first | exact WkL.nil | refine WkL.cons ?_ ?_ | exact Wk.refl _ | exact Wk.rfc rfl | refine Wk.fn ?_)) (l20Ok_ok y h), ?_⟩ | refine ⟨_, Ret.wk (by repeat (first | exact WkL.nil | refine WkL.cons ?_ ?_ | exact Wk.refl _ | exact Wk.rfc rfl | refine Wk.fn ?_)) (l20Ok_ok y h), ?_⟩); (try rintro _ rfl)) | ((first | refine .inl ⟨_, Ret.wk (by repeat (first | exact WkL.nil | refine WkL.cons ?_ ?_ | exact Wk.refl _ | exact Wk.rfc rfl | refine Wk.fn ?_)) (l20Runs_ok y h), ?_⟩ | refine ⟨_, Ret.wk (by repeat (first | exact WkL.nil | refine WkL.cons ?_ ?_ | exact Wk.refl _ | exact Wk.rfc rfl | refine Wk.fn ?_)) (l20Runs_ok y h), ?_⟩); (try rintro _ rfl)) | (refine wrap_succ ?_; omega))))
  all_goals first
    | (rw [bif_f ‹_›]; rfl)
    | (rw [bif_t (Classical.not_not.1 ‹_›)]; rfl)

set_option maxRecDepth 8000 in
theorem onStack_impl (y : Yard) (h : y.ok) (w : Int) : Ret env.P 16 [.agg y.cs, .i .i64 w] (fun r => r = .b (bif pb y.good then onS y.stack w else false)) := by
  refine ret_of (nt := 12) (rvs := [.tmp 4]) Try.func16 rfl rfl rfl rfl (fun X => ?_)
  repeat' (first | omega | (with_reducible show (_ : Int) < _; dsimp only; omega) | ((conv => whnf) <;> (first | refine And.intro ?_ ?_ | (intro _h; first | contradiction | (try simp only [decide_eq_true_eq, Bool.not_eq_true', Bool.not_eq_false', decide_eq_false_iff_not, Bool.not_eq_true, Decidable.not_not, Bool.true_eq_false, Bool.false_eq_true, pb_t, pb_f] at _h)) | exact rfl | exact True.intro | (refine dok ?_; kernel_rfl) | (refine doks ?_; kernel_rfl) | ((first | refine .inl ⟨_, yardOk_impl y h, ?_⟩ | refine ⟨_, yardOk_impl y h, ?_⟩); (try rintro _ rfl)) | ((first | refine .inl ⟨_, onStack_ok y h.2.1.1 w, ?_⟩ | refine ⟨_, onStack_ok y h.2.1.1 w, ?_⟩); (try rintro _ rfl)) | (refine wrap_succ ?_; omega))))
  all_goals first
    | (rw [bif_f ‹_›]; rfl)
    | (rw [bif_t (by first | exact ‹_› | exact Classical.not_not.1 ‹_›)]; rfl)

theorem onI_bool (y : Yard) (w : Int) : (decide (0 ≤ idxI (y.onI w))) = onS y.stack w := by
  obtain ⟨q, hq, _⟩ | hq := on_cases y w
  · rw [hq, on_some hq]; exact decide_eq_true (by simp only [idxI]; omega)
  · rw [hq, on_none hq]; exact decide_eq_false (by simp only [idxI]; omega)

set_option maxRecDepth 8000 in
theorem onStack_spec (y : Yard) (h : y.ok) (w : Int) : Ret env.P 14 [.agg y.cs, .i .i64 w] (fun r => r = .b (bif pb y.sGood then onS y.stack w else false)) := by
  refine ret_of (nt := 11) (rvs := [.tmp 4]) Try.func14 rfl rfl rfl rfl (fun X => ?_)
  repeat' (first | omega | (with_reducible show (_ : Int) < _; dsimp only; omega) | ((conv => whnf) <;> (first | refine And.intro ?_ ?_ | (intro _h; first | contradiction | (try simp only [decide_eq_true_eq, Bool.not_eq_true', Bool.not_eq_false', decide_eq_false_iff_not, Bool.not_eq_true, Decidable.not_not, Bool.true_eq_false, Bool.false_eq_true, pb_t, pb_f] at _h)) | exact rfl | exact True.intro | (refine dok ?_; kernel_rfl) | (refine doks ?_; kernel_rfl) | ((first | refine .inl ⟨_, Ret.wk (by repeat (first | exact WkL.nil | refine WkL.cons ?_ ?_ | exact Wk.refl _ | exact Wk.rfc rfl | refine Wk.fn ?_)) (l20Ok_ok y h), ?_⟩ | refine ⟨_, Ret.wk (by repeat (first | exact WkL.nil | refine WkL.cons ?_ ?_ | exact Wk.refl _ | exact Wk.rfc rfl | refine Wk.fn ?_)) (l20Ok_ok y h), ?_⟩); (try rintro _ rfl)) | ((first | refine .inl ⟨_, Ret.wk (by repeat (first | exact WkL.nil | refine WkL.cons ?_ ?_ | exact Wk.refl _ | exact Wk.rfc rfl | refine Wk.fn ?_)) (l20On_ok y h.2.1.1 w), ?_⟩ | refine ⟨_, Ret.wk (by repeat (first | exact WkL.nil | refine WkL.cons ?_ ?_ | exact Wk.refl _ | exact Wk.rfc rfl | refine Wk.fn ?_)) (l20On_ok y h.2.1.1 w), ?_⟩); (try rintro _ rfl)) | (refine wrap_succ ?_; omega))))
  all_goals first
    | (rw [bif_f ‹_›]; rfl)
    | (rw [bif_t (by first | exact ‹_› | exact Classical.not_not.1 ‹_›)]; exact leaf_b (onI_bool y w))

/-! ### May an instance be entered -/
def eqI (v x : Int) : Bool := decide (v = x)
set_option maxRecDepth 8000 in
theorem indexInt64_ok (l : List Int) (hl : l.length ≤ 1048576) (v : Int) : Ret env.P 162 [slL 1 intC l, .i .i64 v] (fun r => r = .i .i64 (idxI (l.findIdx? (eqI v)))) := by
  refine ret_of (nt := 19) (rvs := [.tmp 4]) Try.func162 rfl rfl rfl rfl (fun X => ?_)
  repeat' (first | omega | (with_reducible show (_ : Int) < _; dsimp only; omega) | ((conv => whnf) <;> (first | exact upto_succ (by assumption) (by simpa [eqI] using _h) | refine loopN l.length (fun k => [(8, .i .i64 k)]) (fun k => []) (fun k => ∀ j, j < k → eqI v (l.getD j default) = false) ⟨fun _ h => by omega, ?_⟩ | refine And.intro ?_ ?_ | (intro _h; first | contradiction | (try simp only [decide_eq_true_eq, Bool.not_eq_true', Bool.not_eq_false', decide_eq_false_iff_not, Bool.not_eq_true, Decidable.not_not, Bool.true_eq_false, Bool.false_eq_true, pb_t, pb_f] at _h)) | exact rfl | exact True.intro | (refine dok ?_; kernel_rfl) | (refine doks ?_; kernel_rfl) | (refine wrap_succ ?_; omega))))
  · exact leaf_i (idx_some (by omega) (by simpa [eqI] using _h) (by assumption))
  · exact leaf_i (idx_none fun j hj => by have := ‹∀ j, j < _ → eqI v (l.getD j default) = false›; exact this j (by omega))
set_option maxRecDepth 8000 in
theorem containsInt64_ok (l : List Int) (hl : l.length ≤ 1048576) (v : Int) : Ret env.P 119 [slL 1 intC l, .i .i64 v] (fun r => r = .b (l.any (eqI v))) := by
  refine ret_of (nt := 9) (rvs := [.tmp 4]) Try.func119 rfl rfl rfl rfl (fun X => ?_)
  repeat' (first | omega | (with_reducible show (_ : Int) < _; dsimp only; omega) | ((conv => whnf) <;> (first | refine And.intro ?_ ?_ | (intro _h; first | contradiction | (try simp only [decide_eq_true_eq, Bool.not_eq_true', Bool.not_eq_false', decide_eq_false_iff_not, Bool.not_eq_true, Decidable.not_not, Bool.true_eq_false, Bool.false_eq_true, pb_t, pb_f] at _h)) | exact rfl | exact True.intro | (refine dok ?_; kernel_rfl) | (refine doks ?_; kernel_rfl) | ((first | refine .inl ⟨_, indexInt64_ok l hl v, ?_⟩ | refine ⟨_, indexInt64_ok l hl v, ?_⟩); (try rintro _ rfl)) | (refine wrap_succ ?_; omega))))
  all_goals exact leaf_b (idx_any _ _)

def mayV (l : List Call) (d : List Int) (w : Int) : Bool := !(d.any (eqI w)) && !(onS l w)
set_option maxRecDepth 8000 in
theorem mayEnter_ok (l : List Call) (hl : l.length ≤ 1048576) (d : List Int) (hd : d.length ≤ 1048576) (a b : AV) (w : Int) : Ret env.P 61 [rfL [a, slL 4 Call.cs l, b, slL 1 intC d], .i .i64 w] (fun r => r = .b (mayV l d w)) := by
  refine ret_of (nt := 22) (rvs := [.tmp 4]) Try.func61 rfl rfl rfl rfl (fun X => ?_)
  repeat' (first | omega | (with_reducible show (_ : Int) < _; dsimp only; omega) | ((conv => whnf) <;> (first | ((first | refine .inl ⟨_, Ret.wk (.cons (Wk.agg (.cons (.refl _) (.cons .nilS (.cons .nilS (.cons (.refl _) (.cons (.refl _) (.cons .nilS .nil))))))) (.cons (.refl _) .nil)) (onStack_ok ⟨⟨0, [], []⟩, l, 0, []⟩ hl w), ?_⟩ | refine ⟨_, Ret.wk (.cons (Wk.agg (.cons (.refl _) (.cons .nilS (.cons .nilS (.cons (.refl _) (.cons (.refl _) (.cons .nilS .nil))))))) (.cons (.refl _) .nil)) (onStack_ok ⟨⟨0, [], []⟩, l, 0, []⟩ hl w), ?_⟩); (try rintro _ rfl)) | refine And.intro ?_ ?_ | (intro _h; first | contradiction | (try simp only [decide_eq_true_eq, Bool.not_eq_true', Bool.not_eq_false', decide_eq_false_iff_not, Bool.not_eq_true, Decidable.not_not, Bool.true_eq_false, Bool.false_eq_true, pb_t, pb_f] at _h)) | exact rfl | exact True.intro | (refine dok ?_; kernel_rfl) | (refine doks ?_; kernel_rfl) | ((first | refine .inl ⟨_, containsInt64_ok d hd w, ?_⟩ | refine ⟨_, containsInt64_ok d hd w, ?_⟩); (try rintro _ rfl)) | (refine wrap_succ ?_; omega))))
  all_goals (first | (conv => whnf) | skip)
  all_goals (refine leaf_b ?_; unfold mayV; first | (simp only [*]; done) | (simp only [*]; rfl))

set_option maxRecDepth 8000 in
theorem mayEnter_impl (y : Yard) (h : y.ok) (w : Int) : Ret env.P 21 [.agg y.cs, .i .i64 w] (fun r => r = .b (bif pb (y.good ∧ y.isI w) then mayV y.stack y.dead w else false)) := by
  refine ret_of (nt := 22) (rvs := [.tmp 4]) Try.func21 rfl rfl rfl rfl (fun X => ?_)
  repeat' (first | omega | (with_reducible show (_ : Int) < _; dsimp only; omega) | ((conv => whnf) <;> (first | refine And.intro ?_ ?_ | (intro _h; first | contradiction | (try simp only [decide_eq_true_eq, Bool.not_eq_true', Bool.not_eq_false', decide_eq_false_iff_not, Bool.not_eq_true, Decidable.not_not, Bool.true_eq_false, Bool.false_eq_true, pb_t, pb_f] at _h)) | exact rfl | exact True.intro | (refine dok ?_; kernel_rfl) | (refine doks ?_; kernel_rfl) | ((first | refine .inl ⟨_, yardOk_impl y h, ?_⟩ | refine ⟨_, yardOk_impl y h, ?_⟩); (try rintro _ rfl)) | ((first | refine .inl ⟨_, isInstance_ok y h.1.1.1 w, ?_⟩ | refine ⟨_, isInstance_ok y h.1.1.1 w, ?_⟩); (try rintro _ rfl)) | ((first | refine .inl ⟨_, Ret.wk (by repeat (first | exact WkL.nil | refine WkL.cons ?_ ?_ | exact Wk.refl _ | exact Wk.rfc rfl | refine Wk.fn ?_)) (mayEnter_ok y.stack h.2.1.1 y.dead h.2.2.1 _ _ w), ?_⟩ | refine ⟨_, Ret.wk (by repeat (first | exact WkL.nil | refine WkL.cons ?_ ?_ | exact Wk.refl _ | exact Wk.rfc rfl | refine Wk.fn ?_)) (mayEnter_ok y.stack h.2.1.1 y.dead h.2.2.1 _ _ w), ?_⟩); (try rintro _ rfl)) | (refine wrap_succ ?_; omega))))
  all_goals (first | (conv => whnf) | skip)
  all_goals first
    | (rw [bif_f (fun q => ‹¬ y.good› q.1)]; rfl)
    | (rw [bif_f (fun q => ‹¬ y.isI w› q.2)]; rfl)
    | (rw [bif_t (p := y.good ∧ y.isI w) ⟨by first | exact ‹y.good› | exact Classical.not_not.1 ‹¬¬ y.good›, by first | exact ‹y.isI w› | exact Classical.not_not.1 ‹¬¬ y.isI w›⟩]; rfl)
    | trace_state

set_option maxRecDepth 8000 in
theorem l00Has_ok (l : List Int) (hl : l.length ≤ 1048576) (v : Int) : Ret env.P 117 [slL 1 intC l, .i .i64 v] (fun r => r = .b (l.any (eqI v))) := by
  refine ret_of (nt := 18) (rvs := [.tmp 4]) Try.func117 rfl rfl rfl rfl (fun X => ?_)
  repeat' (first | omega | (with_reducible show (_ : Int) < _; dsimp only; omega) | ((conv => whnf) <;> (first | exact upto_succ (by assumption) (by simp only [eqI, decide_eq_false_iff_not]; exact fun e => _h e.symm) | refine loopN l.length (fun k => [(5, .i .i64 k)]) (fun k => []) (fun k => ∀ j, j < k → eqI v (l.getD j default) = false) ⟨fun _ h => by omega, ?_⟩ | refine And.intro ?_ ?_ | (intro _h; first | contradiction | (try simp only [decide_eq_true_eq, Bool.not_eq_true', Bool.not_eq_false', decide_eq_false_iff_not, Bool.not_eq_true, Decidable.not_not, Bool.true_eq_false, Bool.false_eq_true, pb_t, pb_f] at _h)) | exact rfl | exact True.intro | (refine dok ?_; kernel_rfl) | (refine doks ?_; kernel_rfl) | (refine wrap_succ ?_; omega))))
  · rename_i k _ _ _
    exact leaf_b (any_getD.2 ⟨k, by omega, by simp only [eqI, decide_eq_true_eq]; exact _h.symm⟩).symm
  · refine leaf_b (Eq.symm ?_)
    rw [← Bool.not_eq_true, any_getD]
    rintro ⟨j, hj, hp⟩
    have := ‹∀ j, j < _ → eqI v (l.getD j default) = false› j (by omega)
    rw [hp] at this
    cases this

set_option maxRecDepth 8000 in
theorem l20May_ok (y : Yard) (h : y.ok) (w : Int) : Ret env.P 59 [rfL y.cs, .i .i64 w] (fun r => r = .b (bif pb (y.isI w) then mayV y.stack y.dead w else false)) := by
  refine ret_of (nt := 23) (rvs := [.tmp 4]) Try.func59 rfl rfl rfl rfl (fun X => ?_)
  repeat' (first | omega | (with_reducible show (_ : Int) < _; dsimp only; omega) | ((conv => whnf) <;> (first | ((first | refine .inl ⟨_, l20On_ok y h.2.1.1 w, ?_⟩ | refine ⟨_, l20On_ok y h.2.1.1 w, ?_⟩); (try rintro _ rfl); obtain ⟨q, hq, hlt⟩ | hq := on_cases y w <;> (rw [hq]; simp only [idxI])) | refine And.intro ?_ ?_ | (intro _h; first | contradiction | (try simp only [decide_eq_true_eq, Bool.not_eq_true', Bool.not_eq_false', decide_eq_false_iff_not, Bool.not_eq_true, Decidable.not_not, Bool.true_eq_false, Bool.false_eq_true, pb_t, pb_f] at _h)) | exact rfl | exact True.intro | (refine dok ?_; kernel_rfl) | (refine doks ?_; kernel_rfl) | ((first | refine .inl ⟨_, l20Instance_ok y h.1.1.1 w, ?_⟩ | refine ⟨_, l20Instance_ok y h.1.1.1 w, ?_⟩); (try rintro _ rfl)) | ((first | refine .inl ⟨_, l00Has_ok y.dead h.2.2.1 w, ?_⟩ | refine ⟨_, l00Has_ok y.dead h.2.2.1 w, ?_⟩); (try rintro _ rfl)) | (refine wrap_succ ?_; omega))))
  all_goals (first | (conv => whnf) | skip)
  all_goals first
    | (rw [bif_f ‹¬ y.isI w›]; rfl)
    | (rw [bif_t (p := y.isI w) ‹y.isI w›]; refine leaf_b ?_; unfold mayV; rw [on_some hq, ‹List.any _ _ = false›]; exact decide_eq_false (by omega))
    | (rw [bif_t (p := y.isI w) ‹y.isI w›]; refine leaf_b ?_; unfold mayV; rw [on_none hq, ‹List.any _ _ = false›]; exact decide_eq_true (by omega))
    | (rw [bif_t (p := y.isI w) ‹y.isI w›]; refine leaf_b ?_; unfold mayV; rw [(Bool.not_eq_false _).mp ‹¬ List.any _ _ = false›]; rfl)
    | trace_state

set_option maxRecDepth 8000 in
theorem mayEnter_spec (y : Yard) (h : y.ok) (w : Int) : Ret env.P 20 [.agg y.cs, .i .i64 w] (fun r => r = .b (bif pb (y.sGood ∧ y.isI w) then mayV y.stack y.dead w else false)) := by
  refine ret_of (nt := 10) (rvs := [.tmp 4]) Try.func20 rfl rfl rfl rfl (fun X => ?_)
  repeat' (first | omega | (with_reducible show (_ : Int) < _; dsimp only; omega) | ((conv => whnf) <;> (first | refine And.intro ?_ ?_ | (intro _h; first | contradiction | (try simp only [decide_eq_true_eq, Bool.not_eq_true', Bool.not_eq_false', decide_eq_false_iff_not, Bool.not_eq_true, Decidable.not_not, Bool.true_eq_false, Bool.false_eq_true, pb_t, pb_f] at _h)) | exact rfl | exact True.intro | (refine dok ?_; kernel_rfl) | (refine doks ?_; kernel_rfl) | ((first | refine .inl ⟨_, Ret.wk (by repeat (first | exact WkL.nil | refine WkL.cons ?_ ?_ | exact Wk.refl _ | exact Wk.rfc rfl | refine Wk.fn ?_)) (l20Ok_ok y h), ?_⟩ | refine ⟨_, Ret.wk (by repeat (first | exact WkL.nil | refine WkL.cons ?_ ?_ | exact Wk.refl _ | exact Wk.rfc rfl | refine Wk.fn ?_)) (l20Ok_ok y h), ?_⟩); (try rintro _ rfl)) | ((first | refine .inl ⟨_, Ret.wk (by repeat (first | exact WkL.nil | refine WkL.cons ?_ ?_ | exact Wk.refl _ | exact Wk.rfc rfl | refine Wk.fn ?_)) (l20May_ok y h w), ?_⟩ | refine ⟨_, Ret.wk (by repeat (first | exact WkL.nil | refine WkL.cons ?_ ?_ | exact Wk.refl _ | exact Wk.rfc rfl | refine Wk.fn ?_)) (l20May_ok y h w), ?_⟩); (try rintro _ rfl)) | (refine wrap_succ ?_; omega))))
  all_goals (first | (conv => whnf) | skip)
  all_goals first
    | (rw [bif_f (fun q => ‹¬ y.sGood› q.1)]; rfl)
    | (by_cases hi : y.isI w
       · rw [bif_t hi, bif_t (p := y.sGood ∧ y.isI w) ⟨by first | exact ‹y.sGood› | exact Classical.not_not.1 ‹¬¬ y.sGood›, hi⟩]; rfl
       · rw [bif_f hi, bif_f (fun q => hi q.2)]; rfl)
    | trace_state
end Go.Proofs.Ythhenipljdanjaa
