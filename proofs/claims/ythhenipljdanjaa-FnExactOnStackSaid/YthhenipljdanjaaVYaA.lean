/-
  Yards that are read: the program.
-/
import Derived.Test.YthhenipljdanjaaVShD
import Derived.Test.YthhenipljdanjaaVShF
import Derived.Test.YthhenipljdanjaaVYaM
namespace Go.Proofs.Ythhenipljdanjaa
open Go Go.RowKit
set_option linter.unusedVariables false
set_option linter.unusedSimpArgs false

set_option maxRecDepth 8000 in
theorem indexFuncCall1_ok (l : List Call) (g : Nat) {fv} (hg : env.F.get g = some fv) (c0 : List AV) (p : Call → Bool) (hl : l.length ≤ 1048576) (hp : ∀ k, k < l.length → Ret env.P g (.agg (Call.cs (l.getD k default)) :: [rfL c0]) (fun r => r = .b (p (l.getD k default)))) :
    Ret env.P 161 [slL 4 Call.cs l, .fn g [rfL c0]] (fun r => r = .i .i64 (idxI (l.findIdx? p))) := by
  refine ret_of (nt := 19) (rvs := [.tmp 4]) Try.func161 rfl rfl rfl rfl (fun X => ?_)
  repeat' (first | omega | (with_reducible show (_ : Int) < _; dsimp only; omega) | ((conv => whnf) <;> (first | rw [hg] | exact upto_succ (by assumption) (by assumption) | refine loopN l.length (fun k => [(8, .i .i64 k)]) (fun k => []) (fun k => ∀ j, j < k → p (l.getD j default) = false) ⟨fun _ h => by omega, ?_⟩ | refine And.intro ?_ ?_ | (intro _h; first | contradiction | (try simp only [decide_eq_true_eq, Bool.not_eq_true', Bool.not_eq_false', decide_eq_false_iff_not, Bool.not_eq_true, Decidable.not_not, Bool.true_eq_false, Bool.false_eq_true, pb_t, pb_f] at _h)) | exact rfl | exact True.intro | (refine dok ?_; kernel_rfl) | (refine doks ?_; kernel_rfl) | ((first | refine .inl ⟨_, hp _ (by omega), ?_⟩ | refine ⟨_, hp _ (by omega), ?_⟩); (try rintro _ rfl)) | (refine wrap_succ ?_; omega))))
  · exact leaf_i (idx_some (by omega) (by assumption) (by assumption))
  · exact leaf_i (idx_none fun j hj => by have := ‹∀ j, j < _ → p (l.getD j default) = false›; exact this j (by omega))

set_option maxRecDepth 8000 in
theorem containsFuncCall1_ok (l : List Call) (g : Nat) {fv} (hg : env.F.get g = some fv) (c0 : List AV) (p : Call → Bool) (hl : l.length ≤ 1048576) (hp : ∀ k, k < l.length → Ret env.P g (.agg (Call.cs (l.getD k default)) :: [rfL c0]) (fun r => r = .b (p (l.getD k default)))) :
    Ret env.P 114 [slL 4 Call.cs l, .fn g [rfL c0]] (fun r => r = .b (l.any p)) := by
  refine ret_of (nt := 9) (rvs := [.tmp 4]) Try.func114 rfl rfl rfl rfl (fun X => ?_)
  repeat' (first | omega | (with_reducible show (_ : Int) < _; dsimp only; omega) | ((conv => whnf) <;> (first | refine And.intro ?_ ?_ | (intro _h; first | contradiction | (try simp only [decide_eq_true_eq, Bool.not_eq_true', Bool.not_eq_false', decide_eq_false_iff_not, Bool.not_eq_true, Decidable.not_not, Bool.true_eq_false, Bool.false_eq_true, pb_t, pb_f] at _h)) | exact rfl | exact True.intro | (refine dok ?_; kernel_rfl) | (refine doks ?_; kernel_rfl) | ((first | refine .inl ⟨_, indexFuncCall1_ok l g hg c0 p hl hp, ?_⟩ | refine ⟨_, indexFuncCall1_ok l g hg c0 p hl hp, ?_⟩); (try rintro _ rfl)) | (refine wrap_succ ?_; omega))))
  all_goals exact leaf_b (idx_any _ _)

set_option maxRecDepth 8000 in
theorem indexFuncCall2_ok (l : List Call) (g : Nat) {fv} (hg : env.F.get g = some fv) (c0 : List AV) (c1 : List AV) (p : Call → Bool) (hl : l.length ≤ 1048576) (hp : ∀ k, k < l.length → Ret env.P g (.agg (Call.cs (l.getD k default)) :: [rfL c0, rfL c1]) (fun r => r = .b (p (l.getD k default)))) :
    Ret env.P 161 [slL 4 Call.cs l, .fn g [rfL c0, rfL c1]] (fun r => r = .i .i64 (idxI (l.findIdx? p))) := by
  refine ret_of (nt := 19) (rvs := [.tmp 4]) Try.func161 rfl rfl rfl rfl (fun X => ?_)
  repeat' (first | omega | (with_reducible show (_ : Int) < _; dsimp only; omega) | ((conv => whnf) <;> (first | rw [hg] | exact upto_succ (by assumption) (by assumption) | refine loopN l.length (fun k => [(8, .i .i64 k)]) (fun k => []) (fun k => ∀ j, j < k → p (l.getD j default) = false) ⟨fun _ h => by omega, ?_⟩ | refine And.intro ?_ ?_ | (intro _h; first | contradiction | (try simp only [decide_eq_true_eq, Bool.not_eq_true', Bool.not_eq_false', decide_eq_false_iff_not, Bool.not_eq_true, Decidable.not_not, Bool.true_eq_false, Bool.false_eq_true, pb_t, pb_f] at _h)) | exact rfl | exact True.intro | (refine dok ?_; kernel_rfl) | (refine doks ?_; kernel_rfl) | ((first | refine .inl ⟨_, hp _ (by omega), ?_⟩ | refine ⟨_, hp _ (by omega), ?_⟩); (try rintro _ rfl)) | (refine wrap_succ ?_; omega))))
  · exact leaf_i (idx_some (by omega) (by assumption) (by assumption))
  · exact leaf_i (idx_none fun j hj => by have := ‹∀ j, j < _ → p (l.getD j default) = false›; exact this j (by omega))

set_option maxRecDepth 8000 in
theorem containsFuncCall2_ok (l : List Call) (g : Nat) {fv} (hg : env.F.get g = some fv) (c0 : List AV) (c1 : List AV) (p : Call → Bool) (hl : l.length ≤ 1048576) (hp : ∀ k, k < l.length → Ret env.P g (.agg (Call.cs (l.getD k default)) :: [rfL c0, rfL c1]) (fun r => r = .b (p (l.getD k default)))) :
    Ret env.P 114 [slL 4 Call.cs l, .fn g [rfL c0, rfL c1]] (fun r => r = .b (l.any p)) := by
  refine ret_of (nt := 9) (rvs := [.tmp 4]) Try.func114 rfl rfl rfl rfl (fun X => ?_)
  repeat' (first | omega | (with_reducible show (_ : Int) < _; dsimp only; omega) | ((conv => whnf) <;> (first | refine And.intro ?_ ?_ | (intro _h; first | contradiction | (try simp only [decide_eq_true_eq, Bool.not_eq_true', Bool.not_eq_false', decide_eq_false_iff_not, Bool.not_eq_true, Decidable.not_not, Bool.true_eq_false, Bool.false_eq_true, pb_t, pb_f] at _h)) | exact rfl | exact True.intro | (refine dok ?_; kernel_rfl) | (refine doks ?_; kernel_rfl) | ((first | refine .inl ⟨_, indexFuncCall2_ok l g hg c0 c1 p hl hp, ?_⟩ | refine ⟨_, indexFuncCall2_ok l g hg c0 c1 p hl hp, ?_⟩); (try rintro _ rfl)) | (refine wrap_succ ?_; omega))))
  all_goals exact leaf_b (idx_any _ _)

set_option maxRecDepth 8000 in
theorem indexFuncInt64_ok (l : List Int) (g : Nat) {fv} (hg : env.F.get g = some fv) (p : Int → Bool) (hl : l.length ≤ 1048576) (hp : ∀ k, k < l.length → Ret env.P g (.i .i64 (l.getD k default) :: []) (fun r => r = .b (p (l.getD k default)))) :
    Ret env.P 182 [slL 1 intC l, .fn g []] (fun r => r = .i .i64 (idxI (l.findIdx? p))) := by
  refine ret_of (nt := 19) (rvs := [.tmp 4]) Try.func182 rfl rfl rfl rfl (fun X => ?_)
  repeat' (first | omega | (with_reducible show (_ : Int) < _; dsimp only; omega) | ((conv => whnf) <;> (first | rw [hg] | exact upto_succ (by assumption) (by assumption) | refine loopN l.length (fun k => [(8, .i .i64 k)]) (fun k => []) (fun k => ∀ j, j < k → p (l.getD j default) = false) ⟨fun _ h => by omega, ?_⟩ | refine And.intro ?_ ?_ | (intro _h; first | contradiction | (try simp only [decide_eq_true_eq, Bool.not_eq_true', Bool.not_eq_false', decide_eq_false_iff_not, Bool.not_eq_true, Decidable.not_not, Bool.true_eq_false, Bool.false_eq_true, pb_t, pb_f] at _h)) | exact rfl | exact True.intro | (refine dok ?_; kernel_rfl) | (refine doks ?_; kernel_rfl) | ((first | refine .inl ⟨_, hp _ (by omega), ?_⟩ | refine ⟨_, hp _ (by omega), ?_⟩); (try rintro _ rfl)) | (refine wrap_succ ?_; omega))))
  · exact leaf_i (idx_some (by omega) (by assumption) (by assumption))
  · exact leaf_i (idx_none fun j hj => by have := ‹∀ j, j < _ → p (l.getD j default) = false›; exact this j (by omega))

set_option maxRecDepth 8000 in
theorem containsFuncInt64_ok (l : List Int) (g : Nat) {fv} (hg : env.F.get g = some fv) (p : Int → Bool) (hl : l.length ≤ 1048576) (hp : ∀ k, k < l.length → Ret env.P g (.i .i64 (l.getD k default) :: []) (fun r => r = .b (p (l.getD k default)))) :
    Ret env.P 158 [slL 1 intC l, .fn g []] (fun r => r = .b (l.any p)) := by
  refine ret_of (nt := 9) (rvs := [.tmp 4]) Try.func158 rfl rfl rfl rfl (fun X => ?_)
  repeat' (first | omega | (with_reducible show (_ : Int) < _; dsimp only; omega) | ((conv => whnf) <;> (first | refine And.intro ?_ ?_ | (intro _h; first | contradiction | (try simp only [decide_eq_true_eq, Bool.not_eq_true', Bool.not_eq_false', decide_eq_false_iff_not, Bool.not_eq_true, Decidable.not_not, Bool.true_eq_false, Bool.false_eq_true, pb_t, pb_f] at _h)) | exact rfl | exact True.intro | (refine dok ?_; kernel_rfl) | (refine doks ?_; kernel_rfl) | ((first | refine .inl ⟨_, indexFuncInt64_ok l g hg p hl hp, ?_⟩ | refine ⟨_, indexFuncInt64_ok l g hg p hl hp, ?_⟩); (try rintro _ rfl)) | (refine wrap_succ ?_; omega))))
  all_goals exact leaf_b (idx_any _ _)

set_option maxRecDepth 8000 in
theorem onStack1_ok (c : Call) (w : Int) : Ret env.P 115 [.agg c.cs, rfL [.i .i64 w]] (fun r => r = .b (calP w c)) := by
  refine ret_of (nt := 8) (rvs := [.tmp 3]) Try.func115 rfl rfl rfl rfl (fun X => ?_)
  repeat' (first | omega | (with_reducible show (_ : Int) < _; dsimp only; omega) | ((conv => whnf) <;> (first | refine And.intro ?_ ?_ | (intro _h; first | contradiction | (try simp only [decide_eq_true_eq, Bool.not_eq_true', Bool.not_eq_false', decide_eq_false_iff_not, Bool.not_eq_true, Decidable.not_not, Bool.true_eq_false, Bool.false_eq_true, pb_t, pb_f] at _h)) | exact rfl | exact True.intro | (refine dok ?_; kernel_rfl) | (refine doks ?_; kernel_rfl) | (refine wrap_succ ?_; omega))))
  all_goals exact rfl

set_option maxRecDepth 8000 in
theorem onStack_ok (y : Yard) (hl : y.stack.length ≤ 1048576) (w : Int) : Ret env.P 54 [.agg y.cs, .i .i64 w] (fun r => r = .b (onS y.stack w)) := by
  refine ret_of (nt := 9) (rvs := [.tmp 4]) Try.func54 rfl rfl rfl rfl (fun X => ?_)
  repeat' (first | omega | (with_reducible show (_ : Int) < _; dsimp only; omega) | ((conv => whnf) <;> (first | refine And.intro ?_ ?_ | (intro _h; first | contradiction | (try simp only [decide_eq_true_eq, Bool.not_eq_true', Bool.not_eq_false', decide_eq_false_iff_not, Bool.not_eq_true, Decidable.not_not, Bool.true_eq_false, Bool.false_eq_true, pb_t, pb_f] at _h)) | exact rfl | exact True.intro | (refine dok ?_; kernel_rfl) | (refine doks ?_; kernel_rfl) | ((first | refine .inl ⟨_, Ret.wk (by repeat (first | exact WkL.nil | refine WkL.cons ?_ ?_ | exact Wk.refl _ | exact Wk.rfc rfl | refine Wk.fn ?_)) (containsFuncCall1_ok y.stack _ rfl [.i .i64 w] (calP w) hl (fun k hk => onStack1_ok _ _)), ?_⟩ | refine ⟨_, Ret.wk (by repeat (first | exact WkL.nil | refine WkL.cons ?_ ?_ | exact Wk.refl _ | exact Wk.rfc rfl | refine Wk.fn ?_)) (containsFuncCall1_ok y.stack _ rfl [.i .i64 w] (calP w) hl (fun k hk => onStack1_ok _ _)), ?_⟩); (try rintro _ rfl)) | (refine wrap_succ ?_; omega))))
  all_goals exact rfl

set_option maxRecDepth 8000 in
theorem stackOk1_ok (n : Int) : Ret env.P 159 [.i .i64 n] (fun r => r = .b (idBad n)) := by
  refine ret_of (nt := 6) (rvs := [.tmp 2]) Try.func159 rfl rfl rfl rfl (fun X => ?_)
  repeat' (first | omega | (with_reducible show (_ : Int) < _; dsimp only; omega) | ((conv => whnf) <;> (first | refine And.intro ?_ ?_ | (intro _h; first | contradiction | (try simp only [decide_eq_true_eq, Bool.not_eq_true', Bool.not_eq_false', decide_eq_false_iff_not, Bool.not_eq_true, Decidable.not_not, Bool.true_eq_false, Bool.false_eq_true, pb_t, pb_f] at _h)) | exact rfl | exact True.intro | (refine dok ?_; kernel_rfl) | (refine doks ?_; kernel_rfl) | ((first | refine .inl ⟨_, isId_ok _, ?_⟩ | refine ⟨_, isId_ok _, ?_⟩); (try rintro _ rfl)) | (refine wrap_succ ?_; omega))))
  all_goals exact rfl

set_option maxRecDepth 8000 in
theorem instances_ok (y : Yard) (h : y.shelf.tables.length ≤ 1048576) : Ret env.P 118 [.agg y.cs] (fun r => r = .i .i64 ((y.shelf.tables.length : Int) - 1)) := by
  refine ret_of (nt := 8) (rvs := [.tmp 2]) Try.func118 rfl rfl rfl rfl (fun X => ?_)
  repeat' (first | omega | (with_reducible show (_ : Int) < _; dsimp only; omega) | ((conv => whnf) <;> (first | refine And.intro ?_ ?_ | (intro _h; first | contradiction | (try simp only [decide_eq_true_eq, Bool.not_eq_true', Bool.not_eq_false', decide_eq_false_iff_not, Bool.not_eq_true, Decidable.not_not, Bool.true_eq_false, Bool.false_eq_true, pb_t, pb_f] at _h)) | exact rfl | exact True.intro | (refine dok ?_; kernel_rfl) | (refine doks ?_; kernel_rfl) | ((first | refine .inl ⟨_, sizeTable_ok _ h, ?_⟩ | refine ⟨_, sizeTable_ok _ h, ?_⟩); (try rintro _ rfl)) | (refine wrap_succ ?_; omega))))
  all_goals exact leaf_i (wrap_in (by omega) (by omega))

set_option maxRecDepth 8000 in
theorem isInstance_ok (y : Yard) (h : y.shelf.tables.length ≤ 1048576) (w : Int) : Ret env.P 60 [.agg y.cs, .i .i64 w] (fun r => r = .b (pb (y.isI w))) := by
  refine ret_of (nt := 9) (rvs := [.tmp 4]) Try.func60 rfl rfl rfl rfl (fun X => ?_)
  repeat' (first | omega | (with_reducible show (_ : Int) < _; dsimp only; omega) | ((conv => whnf) <;> (first | refine And.intro ?_ ?_ | (intro _h; first | contradiction | (try simp only [decide_eq_true_eq, Bool.not_eq_true', Bool.not_eq_false', decide_eq_false_iff_not, Bool.not_eq_true, Decidable.not_not, Bool.true_eq_false, Bool.false_eq_true, pb_t, pb_f] at _h)) | exact rfl | exact True.intro | (refine dok ?_; kernel_rfl) | (refine doks ?_; kernel_rfl) | ((first | refine .inl ⟨_, instances_ok y h, ?_⟩ | refine ⟨_, instances_ok y h, ?_⟩); (try rintro _ rfl)) | ((first | refine .inl ⟨_, within_ok _ _ _, ?_⟩ | refine ⟨_, within_ok _ _ _, ?_⟩); (try rintro _ rfl)) | (refine wrap_succ ?_; omega))))
  all_goals (refine leaf_p ?_; rw [decide_eq_true_eq]; unfold Yard.isI; omega)

/-- The yard that is asked about the calls below the k-th. -/
def below (l : List Call) (k : Nat) : Yard := ⟨⟨0, [], []⟩, l.take k, 0, []⟩
theorem below_le {l : List Call} (h : l.length ≤ 1048576) (k : Nat) : (below l k).stack.length ≤ 1048576 := by
  show (l.take k).length ≤ _
  rw [List.length_take]
  omega

set_option maxHeartbeats 2000000 in
set_option maxRecDepth 8000 in
theorem stackOk_ok (y : Yard) (h : y.ok) : Ret env.P 111 [.agg y.cs] (fun r => r = .b (pb y.goodS)) := by
  have hl : y.shelf.tables.length ≤ 1048576 := h.1.1.1
  have hs : y.stack.length ≤ 1048576 := h.2.1.1
  have ha : ∀ k, k < y.stack.length → (y.stack.getD k default).args.length ≤ 1048576 := fun k hk => (h.2.1.2 k hk).1
  refine ret_of (nt := 71) (rvs := [.tmp 2]) Try.func111 rfl rfl rfl rfl (fun X => ?_)
  repeat' (first | omega | (with_reducible show (_ : Int) < _; dsimp only; omega) | ((conv => whnf) <;> (first | ((first | refine .inl ⟨_, Ret.wk (.cons (Wk.agg (.cons (.refl _) (.cons .nilS (.cons .nilS (.cons (Wk.take (l := y.stack) (by omega) (fun _ _ => by simp only [Int.toNat_zero, Nat.zero_add])) (.cons (.refl _) (.cons .nilS .nil))))))) (.cons (.refl _) .nil)) (onStack_ok (below y.stack _) (below_le hs _) _), ?_⟩ | refine ⟨_, Ret.wk (.cons (Wk.agg (.cons (.refl _) (.cons .nilS (.cons .nilS (.cons (Wk.take (l := y.stack) (by omega) (fun _ _ => by simp only [Int.toNat_zero, Nat.zero_add])) (.cons (.refl _) (.cons .nilS .nil))))))) (.cons (.refl _) .nil)) (onStack_ok (below y.stack _) (below_le hs _) _), ?_⟩); (try rintro _ rfl)) | refine loopN y.stack.length (fun k => [(10, .i .i64 k)]) (fun k => [none, some (.box [.i .i64 (prevC y.stack k).id, .i .i64 (prevC y.stack k).caller, .i .i64 (prevC y.stack k).callee, .any])]) (fun k => y.UpC k) ⟨y.upC_zero, ?_⟩ | refine And.intro ?_ ?_ | (intro _h; first | contradiction | (try simp only [decide_eq_true_eq, Bool.not_eq_true', Bool.not_eq_false', decide_eq_false_iff_not, Bool.not_eq_true, Decidable.not_not, Bool.true_eq_false, Bool.false_eq_true, pb_t, pb_f] at _h)) | exact rfl | exact True.intro | (refine dok ?_; kernel_rfl) | (refine doks ?_; kernel_rfl) | ((first | refine .inl ⟨_, within_ok _ _ _, ?_⟩ | refine ⟨_, within_ok _ _ _, ?_⟩); (try rintro _ rfl)) | ((first | refine .inl ⟨_, isInstance_ok y hl _, ?_⟩ | refine ⟨_, isInstance_ok y hl _, ?_⟩); (try rintro _ rfl)) | ((first | refine .inl ⟨_, containsFuncInt64_ok _ _ rfl idBad (ha _ (by omega)) (fun k hk => stackOk1_ok _), ?_⟩ | refine ⟨_, containsFuncInt64_ok _ _ rfl idBad (ha _ (by omega)) (fun k hk => stackOk1_ok _), ?_⟩); (try rintro _ rfl)) | (refine wrap_succ ?_; omega))))
  all_goals (first | refine leaf_f ?_ | refine leaf_t ?_ | refine leaf_p ?_ | (conv => whnf) | skip)
  all_goals (try simp only [Int.sub_zero, Int.toNat_natCast, Classical.not_not, Bool.not_eq_false] at *)
  all_goals first
    | (refine Yard.notS ‹_› ?_; rintro ⟨g1, g2, g3, g4, g5, g6, g7⟩; first | omega | exact Bool.noConfusion (g7.symm.trans ‹onS (below _ _).stack _ = true›) | exact Bool.noConfusion (g6.symm.trans ‹List.any _ idBad = true›) | exact absurd g4 ‹_›)
    | exact Yard.upC_succ ‹_› ⟨by omega, by omega, ‹_›, ‹_›, by omega, ‹_›, ‹onS (below _ _).stack _ = false›⟩
    | (rw [decide_eq_true_eq]; exact ⟨fun q => ⟨fun k hk => (‹y.UpC _› : y.UpC _).h k (by omega), ‹_›, by omega⟩, fun q => by have := q.2.2; omega⟩)
    | exact fun q => ‹¬ (1 ≤ y.next ∧ y.next ≤ 1000000)› q.2.1

set_option maxRecDepth 8000 in
theorem deadOk_ok (y : Yard) (h : y.ok) : Ret env.P 112 [.agg y.cs] (fun r => r = .b (pb y.goodD)) := by
  have hl : y.shelf.tables.length ≤ 1048576 := h.1.1.1
  have hs : y.stack.length ≤ 1048576 := h.2.1.1
  have hd : y.dead.length ≤ 1048576 := h.2.2.1
  refine ret_of (nt := 48) (rvs := [.tmp 2]) Try.func112 rfl rfl rfl rfl (fun X => ?_)
  repeat' (first | omega | (with_reducible show (_ : Int) < _; dsimp only; omega) | ((conv => whnf) <;> (first | refine loopN y.dead.length (fun k => [(8, .i .i64 k)]) (fun k => []) (fun k => y.UpD k) ⟨y.upD_zero, ?_⟩ | refine And.intro ?_ ?_ | (intro _h; first | contradiction | (try simp only [decide_eq_true_eq, Bool.not_eq_true', Bool.not_eq_false', decide_eq_false_iff_not, Bool.not_eq_true, Decidable.not_not, Bool.true_eq_false, Bool.false_eq_true, pb_t, pb_f] at _h)) | exact rfl | exact True.intro | (refine dok ?_; kernel_rfl) | (refine doks ?_; kernel_rfl) | ((first | refine .inl ⟨_, isInstance_ok y hl _, ?_⟩ | refine ⟨_, isInstance_ok y hl _, ?_⟩); (try rintro _ rfl)) | ((first | refine .inl ⟨_, onStack_ok y hs _, ?_⟩ | refine ⟨_, onStack_ok y hs _, ?_⟩); (try rintro _ rfl)) | (refine wrap_succ ?_; omega))))
  all_goals (first | refine leaf_f ?_ | refine leaf_t ?_ | refine leaf_p ?_ | (conv => whnf) | skip)
  all_goals (try simp only [Int.toNat_natCast, Classical.not_not, Bool.not_eq_false] at *)
  all_goals (try simp (disch := omega) only [wrap_in] at *)
  all_goals first
    | (show (0 : Int) ≤ _; try (have g := ‹y.isI _›; unfold Yard.isI at g); omega)
    | (show (_ : Int) < _; try (have g := ‹y.isI _›; unfold Yard.isI at g); omega)
    | (refine Yard.notD ‹_› ?_; rintro ⟨g1, g2, g3, g4⟩; first | omega | exact absurd g1 ‹_› | exact Bool.noConfusion (g2.symm.trans ‹onS _ _ = true›) | (rw [prevD_pos ‹_›] at g4; omega))
    | exact Yard.upD_succ ‹_› ⟨‹_›, ‹_›, by omega, by first | (rw [prevD_pos ‹_›]; omega) | (rw [prevD_zero ‹_›]; have g := ‹y.isI _›; unfold Yard.isI at g; omega)⟩
    | exact fun k hk => (‹y.UpD _› : y.UpD _).h k (by omega)
    | trace_state

set_option maxRecDepth 8000 in
theorem borrowsOk1_ok (c : Call) (i : Int) (e : Entry) : Ret env.P 160 [.agg c.cs, rfL [.i .i64 i], rfL e.cs] (fun r => r = .b (borP i e c)) := by
  refine ret_of (nt := 23) (rvs := [.tmp 4]) Try.func160 rfl rfl rfl rfl (fun X => ?_)
  repeat' (first | omega | (with_reducible show (_ : Int) < _; dsimp only; omega) | ((conv => whnf) <;> (first | refine And.intro ?_ ?_ | (intro _h; first | contradiction | (try simp only [decide_eq_true_eq, Bool.not_eq_true', Bool.not_eq_false', decide_eq_false_iff_not, Bool.not_eq_true, Decidable.not_not, Bool.true_eq_false, Bool.false_eq_true, pb_t, pb_f] at _h)) | exact rfl | exact True.intro | (refine dok ?_; kernel_rfl) | (refine doks ?_; kernel_rfl) | (refine wrap_succ ?_; omega))))
  all_goals (refine leaf_b ?_; unfold borP; simp_all)

set_option maxRecDepth 8000 in
theorem borrowsOk_ok (y : Yard) (h : y.ok) : Ret env.P 113 [.agg y.cs] (fun r => r = .b (pb y.goodB)) := by
  have hl : y.shelf.tables.length ≤ 1048576 := h.1.1.1
  have hs : y.stack.length ≤ 1048576 := h.2.1.1
  refine ret_of (nt := 35) (rvs := [.tmp 2]) Try.func113 rfl rfl rfl rfl (fun X => ?_)
  repeat' (first | omega | (with_reducible show (_ : Int) < _; dsimp only; omega) | ((conv => whnf) <;> (first | refine loopAt 11 y.shelf.tables.length (fun i => [(11, .i .i64 i)]) (fun i => []) (fun i => y.UpB i 0) rfl ⟨y.upB_zero, ?_⟩ | (rename_i i _ _; have he : (y.shelf.tables.getD (i : Int).toNat default).entries.length ≤ 1048576 := (h.1.1.2 i (by omega)).1; refine loopAt 19 (y.shelf.tables.getD (i : Int).toNat default).entries.length (fun k => [(19, .i .i64 k)]) (fun k => []) (fun k => y.UpB i k) rfl ⟨by assumption, ?_⟩) | refine And.intro ?_ ?_ | (intro _h; first | contradiction | (try simp only [decide_eq_true_eq, Bool.not_eq_true', Bool.not_eq_false', decide_eq_false_iff_not, Bool.not_eq_true, Decidable.not_not, Bool.true_eq_false, Bool.false_eq_true, pb_t, pb_f] at _h)) | exact rfl | exact True.intro | (refine dok ?_; kernel_rfl) | (refine doks ?_; kernel_rfl) | ((first | refine .inl ⟨_, Ret.wk (by repeat (first | exact WkL.nil | refine WkL.cons ?_ ?_ | exact Wk.refl _ | exact Wk.rfc rfl | refine Wk.fn ?_)) (containsFuncCall2_ok y.stack _ rfl _ _ (borP _ _) hs (fun k hk => borrowsOk1_ok _ _ _)), ?_⟩ | refine ⟨_, Ret.wk (by repeat (first | exact WkL.nil | refine WkL.cons ?_ ?_ | exact Wk.refl _ | exact Wk.rfc rfl | refine Wk.fn ?_)) (containsFuncCall2_ok y.stack _ rfl _ _ (borP _ _) hs (fun k hk => borrowsOk1_ok _ _ _)), ?_⟩); (try rintro _ rfl)) | (refine wrap_succ ?_; omega))))
  all_goals (first | refine leaf_f ?_ | refine leaf_t ?_ | refine leaf_p ?_ | (conv => whnf) | skip)
  all_goals (try simp only [Int.toNat_natCast, Classical.not_not, Bool.not_eq_false] at *)
  all_goals first
    | exact Yard.notB ‹_› ‹_› (fun g => g.elim (fun g => Bool.noConfusion (g.symm.trans ‹Entry.own _ = false›)) (fun g => Bool.noConfusion (g.symm.trans ‹List.any _ _ = false›)))
    | exact Yard.upB_succ ‹_› (.inl ‹_›)
    | exact Yard.upB_succ ‹_› (.inr ‹_›)
    | exact Yard.upB_next ‹_› (by omega)
    | exact fun i k hi hk => (‹y.UpB _ 0› : y.UpB _ 0).h i k hi hk (by omega)

set_option maxRecDepth 8000 in
theorem yardOk_impl (y : Yard) (h : y.ok) : Ret env.P 53 [.agg y.cs] (fun r => r = .b (pb y.good)) := by
  have hl : y.shelf.tables.length ≤ 1048576 := h.1.1.1
  refine ret_of (nt := 25) (rvs := [.tmp 2]) Try.func53 rfl rfl rfl rfl (fun X => ?_)
  repeat' (first | omega | (with_reducible show (_ : Int) < _; dsimp only; omega) | ((conv => whnf) <;> (first | refine And.intro ?_ ?_ | (intro _h; first | contradiction | (try simp only [decide_eq_true_eq, Bool.not_eq_true', Bool.not_eq_false', decide_eq_false_iff_not, Bool.not_eq_true, Decidable.not_not, Bool.true_eq_false, Bool.false_eq_true, pb_t, pb_f] at _h)) | exact rfl | exact True.intro | (refine dok ?_; kernel_rfl) | (refine doks ?_; kernel_rfl) | ((first | refine .inl ⟨_, shelfOk_ok y.shelf h.1, ?_⟩ | refine ⟨_, shelfOk_ok y.shelf h.1, ?_⟩); (try rintro _ rfl)) | ((first | refine .inl ⟨_, sizeTable_ok _ hl, ?_⟩ | refine ⟨_, sizeTable_ok _ hl, ?_⟩); (try rintro _ rfl)) | ((first | refine .inl ⟨_, within_ok _ _ _, ?_⟩ | refine ⟨_, within_ok _ _ _, ?_⟩); (try rintro _ rfl)) | ((first | refine .inl ⟨_, stackOk_ok y h, ?_⟩ | refine ⟨_, stackOk_ok y h, ?_⟩); (try rintro _ rfl)) | ((first | refine .inl ⟨_, deadOk_ok y h, ?_⟩ | refine ⟨_, deadOk_ok y h, ?_⟩); (try rintro _ rfl)) | ((first | refine .inl ⟨_, borrowsOk_ok y h, ?_⟩ | refine ⟨_, borrowsOk_ok y h, ?_⟩); (try rintro _ rfl)) | (refine wrap_succ ?_; omega))))
  all_goals (first | refine leaf_f ?_ | refine leaf_t ?_ | refine leaf_p ?_ | (conv => whnf) | skip)
  all_goals (try simp only [pb_t] at *)
  all_goals first
    | exact ⟨fun q => ⟨‹_›, by omega, ‹_›, ‹_›, q⟩, fun q => q.2.2.2.2⟩
    | exact fun q => ‹¬ y.shelf.good› q.1
    | exact fun q => ‹¬ y.goodS› q.2.2.1
    | exact fun q => ‹¬ y.goodD› q.2.2.2.1
    | exact fun q => by have := q.2.1; omega
    | trace_state
end Go.Proofs.Ythhenipljdanjaa
