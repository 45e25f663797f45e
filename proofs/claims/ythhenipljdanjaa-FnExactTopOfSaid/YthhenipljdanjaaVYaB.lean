/-
  Yards that are read: the reference.
-/
import Derived.Test.YthhenipljdanjaaVShE
import Derived.Test.YthhenipljdanjaaVYaM
namespace Go.Proofs.Ythhenipljdanjaa
open Go Go.RowKit
set_option linter.unusedVariables false
set_option linter.unusedSimpArgs false

set_option maxRecDepth 8000 in
theorem l20On_ok (y : Yard) (hs : y.stack.length ≤ 1048576) (w : Int) : Ret env.P 50 [rfL y.cs, .i .i64 w] (fun r => r = .i .i64 (idxI (y.onI w))) := by
  refine ret_of (nt := 26) (rvs := [.tmp 4]) Try.func50 rfl rfl rfl rfl (fun X => ?_)
  repeat' (first | omega | (with_reducible show (_ : Int) < _; dsimp only; omega) | ((conv => whnf) <;> (first | refine loopN y.stack.length (fun k => [(5, .i .i64 k)]) (fun k => []) (fun k => ∀ j, j < k → ¬ (y.stack.getD j default).callee = w) ⟨fun _ h => by omega, ?_⟩ | exact upto_succ (by assumption) (by assumption) | refine And.intro ?_ ?_ | (intro _h; first | contradiction | (try simp only [decide_eq_true_eq, Bool.not_eq_true', Bool.not_eq_false', decide_eq_false_iff_not, Bool.not_eq_true, Decidable.not_not, Bool.true_eq_false, Bool.false_eq_true, pb_t, pb_f] at _h)) | exact rfl | exact True.intro | (refine dok ?_; kernel_rfl) | (refine doks ?_; kernel_rfl) | (refine wrap_succ ?_; omega))))
  · exact leaf_i (idx_some (by omega) (by simpa [calP] using _h) (fun j hj => by have := ‹∀ j, j < _ → ¬ (y.stack.getD j default).callee = w› j hj; simpa [calP] using this))
  · exact leaf_i (idx_none fun j hj => by have := ‹∀ j, j < _ → ¬ (y.stack.getD j default).callee = w› j (by omega); simpa [calP] using this)

set_option maxRecDepth 8000 in
theorem l20Instance_ok (y : Yard) (hl : y.shelf.tables.length ≤ 1048576) (w : Int) : Ret env.P 107 [rfL y.cs, .i .i64 w] (fun r => r = .b (pb (y.isI w))) := by
  refine ret_of (nt := 14) (rvs := [.tmp 4]) Try.func107 rfl rfl rfl rfl (fun X => ?_)
  repeat' (first | omega | (with_reducible show (_ : Int) < _; dsimp only; omega) | ((conv => whnf) <;> (first | refine And.intro ?_ ?_ | (intro _h; first | contradiction | (try simp only [decide_eq_true_eq, Bool.not_eq_true', Bool.not_eq_false', decide_eq_false_iff_not, Bool.not_eq_true, Decidable.not_not, Bool.true_eq_false, Bool.false_eq_true, pb_t, pb_f] at _h)) | exact rfl | exact True.intro | (refine dok ?_; kernel_rfl) | (refine doks ?_; kernel_rfl) | ((first | refine .inl ⟨_, l00In_ok _ _ _, ?_⟩ | refine ⟨_, l00In_ok _ _ _, ?_⟩); try rintro _ rfl; try rw [wrap_in (by omega) (by omega)]) | (refine wrap_succ ?_; omega))))
  all_goals (refine leaf_p ?_; rw [decide_eq_true_eq]; unfold Yard.isI; omega)

set_option maxHeartbeats 2000000 in
set_option maxRecDepth 8000 in
theorem l20Stack_ok (y : Yard) (h : y.ok) (hn : 1 ≤ y.next ∧ y.next ≤ 1000000) : Ret env.P 106 [rfL y.cs] (fun r => r = .b (pb y.sStack)) := by
  have hl : y.shelf.tables.length ≤ 1048576 := h.1.1.1
  have hs : y.stack.length ≤ 1048576 := h.2.1.1
  refine ret_of (nt := 102) (rvs := [.tmp 2]) Try.func106 rfl rfl rfl rfl (fun X => ?_)
  repeat' (first | omega | (with_reducible show (_ : Int) < _; dsimp only; omega) | ((conv => whnf) <;> (first | refine loopAt 3 y.stack.length (fun k => [(3, .i .i64 k)]) (fun k => []) (fun k => y.UpT k) rfl ⟨y.upT_zero, ?_⟩ | (rename_i i _ _ _ _ _ _ _ _; have he : (y.stack.getD (i : Int).toNat default).args.length ≤ 1048576 := (h.2.1.2 i (by omega)).1; refine loopAt 7 (y.stack.getD (i : Int).toNat default).args.length (fun k => [(7, .i .i64 k)]) (fun k => []) (fun k => UpA (y.stack.getD (i : Int).toNat default).args k) rfl ⟨upA_zero _, ?_⟩) | refine And.intro ?_ ?_ | (intro _h; first | contradiction | (try simp only [decide_eq_true_eq, Bool.not_eq_true', Bool.not_eq_false', decide_eq_false_iff_not, Bool.not_eq_true, Decidable.not_not, Bool.true_eq_false, Bool.false_eq_true, pb_t, pb_f] at _h)) | exact rfl | exact True.intro | (refine dok ?_; kernel_rfl) | (refine doks ?_; kernel_rfl) | ((first | refine .inl ⟨_, l00In_ok _ _ _, ?_⟩ | refine ⟨_, l00In_ok _ _ _, ?_⟩); try rintro _ rfl; try rw [wrap_in (by omega) (by omega)]) | ((first | refine .inl ⟨_, l20Instance_ok y hl _, ?_⟩ | refine ⟨_, l20Instance_ok y hl _, ?_⟩); (try rintro _ rfl)) | ((first | refine .inl ⟨_, l20On_ok y hs _, ?_⟩ | refine ⟨_, l20On_ok y hs _, ?_⟩); (try rintro _ rfl)) | (refine wrap_succ ?_; omega))))
  all_goals (first | refine leaf_f ?_ | refine leaf_t ?_ | refine leaf_p ?_ | (conv => whnf) | skip)
  all_goals (try simp only [Int.toNat_natCast, Classical.not_not, Bool.not_eq_false] at *)
  all_goals (try simp (disch := omega) only [wrap_in] at *)
  all_goals (try (have hp := Yard.upT_range hn ‹y.UpT _›))
  all_goals (try simp only [prevC_pos ‹(0 : Int) < _›] at *)
  all_goals (try simp (disch := omega) only [wrap_in, idx_eq] at *)
  all_goals first
    | (show (0 : Int) ≤ _; omega)
    | (show (_ : Int) < _; omega)
    | exact fun q => by have := q.1; omega
    | (refine Yard.notT ‹_› ?_; rintro ⟨g1, g2, g3, g4, g5, g6⟩; first | omega | exact absurd g3 ‹_› | exact absurd g4 ‹_› | (simp only [prevC_zero ‹¬ (0 : Int) < _›] at *; omega) | exact ‹¬ ((1 : Int) ≤ List.getD (Call.args _) _ _ ∧ _ ≤ (1000000 : Int))› (g6 _ (by omega)))
    | exact upA_succ ‹UpA _ _› ‹(1 : Int) ≤ List.getD (Call.args _) _ _ ∧ _ ≤ (1000000 : Int)›
    | exact Yard.upT_succ ‹y.UpT _› ⟨⟨by omega, by omega⟩, ‹_›, ‹_›, ‹_›, by omega, fun j hj => (‹UpA _ _› : UpA _ _).h j (by omega)⟩
    | exact Yard.upT_first ‹y.UpT _› ‹_› (by omega) (by omega) ‹_› ‹_› ‹_› (by omega) (fun j hj => (‹UpA _ _› : UpA _ _).h j (by omega))
    | exact ⟨by omega, fun k hk => (‹y.UpT _› : y.UpT _).h k (by omega)⟩

set_option maxRecDepth 8000 in
theorem l20Borrows_ok (y : Yard) (h : y.ok) : Ret env.P 108 [rfL y.cs] (fun r => r = .b (pb y.sBor)) := by
  have hl : y.shelf.tables.length ≤ 1048576 := h.1.1.1
  have hs : y.stack.length ≤ 1048576 := h.2.1.1
  refine ret_of (nt := 74) (rvs := [.tmp 2]) Try.func108 rfl rfl rfl rfl (fun X => ?_)
  repeat' (first | omega | (with_reducible show (_ : Int) < _; dsimp only; omega) | ((conv => whnf) <;> (first | ((first | refine .inl ⟨_, l20On_ok y hs _, ?_⟩ | refine ⟨_, l20On_ok y hs _, ?_⟩); (try rintro _ rfl); obtain ⟨q, hq, hlt⟩ | hq := on_cases y _ <;> (rw [hq]; simp only [idxI])) | refine loopAt 3 y.shelf.tables.length (fun i => [(3, .i .i64 i)]) (fun i => []) (fun i => y.UpX i 0) rfl ⟨y.upX_zero, ?_⟩ | (rename_i i _ _; have he : (y.shelf.tables.getD (i : Int).toNat default).entries.length ≤ 1048576 := (h.1.1.2 i (by omega)).1; refine loopAt 5 (y.shelf.tables.getD (i : Int).toNat default).entries.length (fun k => [(5, .i .i64 k)]) (fun k => []) (fun k => y.UpX i k) rfl ⟨by assumption, ?_⟩) | refine And.intro ?_ ?_ | (intro _h; first | contradiction | (try simp only [decide_eq_true_eq, Bool.not_eq_true', Bool.not_eq_false', decide_eq_false_iff_not, Bool.not_eq_true, Decidable.not_not, Bool.true_eq_false, Bool.false_eq_true, pb_t, pb_f] at _h)) | exact rfl | exact True.intro | (refine dok ?_; kernel_rfl) | (refine doks ?_; kernel_rfl) | (refine wrap_succ ?_; omega))))
  all_goals (first | refine leaf_f ?_ | refine leaf_t ?_ | refine leaf_p ?_ | (conv => whnf) | skip)
  all_goals (try simp only [Int.toNat_natCast, Classical.not_not, Bool.not_eq_false] at *)
  all_goals first
    | exact Yard.upX_succ ‹_› (.inl ‹_›)
    | exact Yard.notX ‹_› ‹_› (fun g => g.elim (fun g => Bool.noConfusion (g.symm.trans ‹Entry.own _ = false›)) (by rintro ⟨q', g1, g2, g3⟩; rw [hq] at g1; first | (cases g1; done) | (injection g1 with g1; subst g1; first | exact absurd g2 ‹_› | exact absurd g3 ‹_›)))
    | exact Yard.upX_succ ‹_› (.inr ⟨q, hq, ‹_›, ‹_›⟩)
    | exact Yard.upX_next ‹_› (by omega)
    | exact fun i k hi hk => (‹y.UpX _ 0› : y.UpX _ 0).h i k hi hk (by omega)

set_option maxHeartbeats 2000000 in
set_option maxRecDepth 8000 in
theorem l20Ok_ok (y : Yard) (h : y.ok) : Ret env.P 49 [rfL y.cs] (fun r => r = .b (pb y.sGood)) := by
  have hl : y.shelf.tables.length ≤ 1048576 := h.1.1.1
  have hs : y.stack.length ≤ 1048576 := h.2.1.1
  have hd : y.dead.length ≤ 1048576 := h.2.2.1
  refine ret_of (nt := 97) (rvs := [.tmp 2]) Try.func49 rfl rfl rfl rfl (fun X => ?_)
  repeat' (first | omega | (with_reducible show (_ : Int) < _; dsimp only; omega) | ((conv => whnf) <;> (first | ((first | refine .inl ⟨_, l20On_ok y hs _, ?_⟩ | refine ⟨_, l20On_ok y hs _, ?_⟩); (try rintro _ rfl); obtain ⟨q, hq, hlt⟩ | hq := on_cases y _ <;> (rw [hq]; simp only [idxI])) | refine loopN y.dead.length (fun k => [(3, .i .i64 k)]) (fun k => []) (fun k => y.UpD k) ⟨y.upD_zero, ?_⟩ | refine And.intro ?_ ?_ | (intro _h; first | contradiction | (try simp only [decide_eq_true_eq, Bool.not_eq_true', Bool.not_eq_false', decide_eq_false_iff_not, Bool.not_eq_true, Decidable.not_not, Bool.true_eq_false, Bool.false_eq_true, pb_t, pb_f] at _h)) | exact rfl | exact True.intro | (refine dok ?_; kernel_rfl) | (refine doks ?_; kernel_rfl) | ((first | refine .inl ⟨_, Ret.wk (.cons (Wk.rfcp rfl rfl) .nil) (l19Ok_ok y.shelf h.1), ?_⟩ | refine ⟨_, Ret.wk (.cons (Wk.rfcp rfl rfl) .nil) (l19Ok_ok y.shelf h.1), ?_⟩); (try rintro _ rfl)) | ((first | refine .inl ⟨_, l00In_ok _ _ _, ?_⟩ | refine ⟨_, l00In_ok _ _ _, ?_⟩); (try rintro _ rfl)) | ((first | refine .inl ⟨_, l20Stack_ok y h ‹_›, ?_⟩ | refine ⟨_, l20Stack_ok y h ‹_›, ?_⟩); (try rintro _ rfl)) | ((first | refine .inl ⟨_, l20Instance_ok y hl _, ?_⟩ | refine ⟨_, l20Instance_ok y hl _, ?_⟩); (try rintro _ rfl)) | ((first | refine .inl ⟨_, l20Borrows_ok y h, ?_⟩ | refine ⟨_, l20Borrows_ok y h, ?_⟩); (try rintro _ rfl)) | (refine wrap_succ ?_; omega))))
  all_goals (first | refine leaf_f ?_ | refine leaf_t ?_ | refine leaf_p ?_ | (conv => whnf) | skip)
  all_goals (try simp only [Int.toNat_natCast, Classical.not_not, Bool.not_eq_false] at *)
  all_goals (try simp (disch := omega) only [wrap_in] at *)
  all_goals first
    | (show (0 : Int) ≤ _; try (have g := ‹y.isI _›; unfold Yard.isI at g); omega)
    | (show (_ : Int) < _; try (have g := ‹y.isI _›; unfold Yard.isI at g); omega)
    | (refine Yard.notGD (Yard.notD ‹_› ?_); rintro ⟨g1, g2, g3, g4⟩; first | omega | exact absurd g1 ‹_› | (rw [on_some hq] at g2; cases g2) | (rw [prevD_pos ‹_›] at g4; omega))
    | exact Yard.upD_succ ‹_› ⟨‹_›, on_none hq, by omega, by first | (rw [prevD_pos ‹_›]; omega) | (rw [prevD_zero ‹_›]; have g := ‹y.isI _›; unfold Yard.isI at g; omega)⟩
    | exact fun q => by have := q.2.2.2.2.1; have := q.2.1; omega
    | exact fun q => ‹¬ y.sStack› q.2.2.2.1
    | exact fun q => ‹¬ y.shelf.sGood› q.1
    | exact fun q => ‹¬ (1 ≤ y.next ∧ y.next ≤ 1000000)› q.2.2.1
    | exact fun q => ‹¬ y.sBor› q.2.2.2.2.2.2
    | (simp only [pb_t]; exact ⟨fun q => ⟨‹_›, by omega, ‹_›, ‹_›, by omega, fun k hk => (‹y.UpD _› : y.UpD _).h k (by omega), q⟩, fun q => q.2.2.2.2.2.2⟩)