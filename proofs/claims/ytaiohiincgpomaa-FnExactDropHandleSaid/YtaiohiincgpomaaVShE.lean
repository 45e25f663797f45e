/-
  Shelves that are read: the reference.
-/
import Derived.Test.YtaiohiincgpomaaVShA
import Derived.Test.YtaiohiincgpomaaVShM
namespace Go.Proofs.Ytaiohiincgpomaa
open Go Go.RowKit
set_option linter.unusedVariables false
set_option linter.unusedSimpArgs false

set_option maxRecDepth 8000 in
theorem l19Entry_ok (t : Table) (h : t.ok) (num : Int) : Ret env.P 126 [.agg t.cs, .i .i64 num] (fun r => r = .i .i64 (idxI (t.find num))) := by
  have hl : t.entries.length ≤ 1048576 := h.1
  refine ret_of (nt := 22) (rvs := [.tmp 4]) Try.func126 rfl rfl rfl rfl (fun X => ?_)
  repeat' (first | omega | (with_reducible show (_ : Int) < _; dsimp only; omega) | (with_reducible show (_ : Nat) ≤ _; dsimp only; omega) | exact srcOk_1 rfl | exact srcOk_L (fun _ => ⟨rfl, rfl⟩) | exact srcOk_E (fun _ => ⟨rfl, rfl⟩) | ((conv => whnf) <;> (first | refine loopN t.entries.length (fun k => [(5, .i .i64 k)]) (fun k => []) (fun k => ∀ j, j < k → ¬ (t.entries.getD j default).num = num) ⟨fun _ h => by omega, ?_⟩ | exact upto_succ (by assumption) (by assumption) | refine And.intro ?_ ?_ | (intro _h; first | contradiction | (try simp only [decide_eq_true_eq, Bool.not_eq_true', Bool.not_eq_false', decide_eq_false_iff_not, Bool.not_eq_true, Decidable.not_not, Bool.true_eq_false, Bool.false_eq_true, pb_t, pb_f] at _h)) | (refine dt_go ?_) | exact rfl | exact True.intro | (refine dok ?_; kernel_rfl) | (refine doks ?_; kernel_rfl) | (refine wrap_succ ?_; omega))))
  · exact leaf_i (idx_some (by omega) (by simpa [numP] using _h) (fun j hj => by have := ‹∀ j, j < _ → ¬ (t.entries.getD j default).num = num› j hj; simpa [numP] using this))
  · exact leaf_i (idx_none fun j hj => by have := ‹∀ j, j < _ → ¬ (t.entries.getD j default).num = num› j (by omega); simpa [numP] using this)

set_option maxRecDepth 8000 in
theorem l19Thing_ok (s : Shelf) (h : s.ok) (id : Int) : Ret env.P 154 [rfL s.cs, .i .i64 id] (fun r => r = .i .i64 (idxI (s.thing id))) := by
  have hl : s.things.length ≤ 1048576 := h.2.1
  refine ret_of (nt := 26) (rvs := [.tmp 4]) Try.func154 rfl rfl rfl rfl (fun X => ?_)
  repeat' (first | omega | (with_reducible show (_ : Int) < _; dsimp only; omega) | (with_reducible show (_ : Nat) ≤ _; dsimp only; omega) | exact srcOk_1 rfl | exact srcOk_L (fun _ => ⟨rfl, rfl⟩) | exact srcOk_E (fun _ => ⟨rfl, rfl⟩) | ((conv => whnf) <;> (first | refine loopN s.things.length (fun k => [(5, .i .i64 k)]) (fun k => []) (fun k => ∀ j, j < k → ¬ (s.things.getD j default).id = id) ⟨fun _ h => by omega, ?_⟩ | exact upto_succ (by assumption) (by assumption) | refine And.intro ?_ ?_ | (intro _h; first | contradiction | (try simp only [decide_eq_true_eq, Bool.not_eq_true', Bool.not_eq_false', decide_eq_false_iff_not, Bool.not_eq_true, Decidable.not_not, Bool.true_eq_false, Bool.false_eq_true, pb_t, pb_f] at _h)) | (refine dt_go ?_) | exact rfl | exact True.intro | (refine dok ?_; kernel_rfl) | (refine doks ?_; kernel_rfl) | (refine wrap_succ ?_; omega))))
  · exact leaf_i (idx_some (by omega) (by simpa [idP] using _h) (fun j hj => by have := ‹∀ j, j < _ → ¬ (s.things.getD j default).id = id› j hj; simpa [idP] using this))
  · exact leaf_i (idx_none fun j hj => by have := ‹∀ j, j < _ → ¬ (s.things.getD j default).id = id› j (by omega); simpa [idP] using this)

set_option maxRecDepth 8000 in
theorem l19At_ok (s : Shelf) (h : s.ok) (who num : Int) : Ret env.P 73 [rfL s.cs, .i .i64 who, .i .i64 num] (fun r => r = entR (s.at_ who num)) := by
  have hl : s.tables.length ≤ 1048576 := h.1.1
  refine ret_of (nt := 42) (rvs := [.cell 6 55, .tmp 7]) Try.func73 rfl rfl rfl rfl (fun X => ?_)
  repeat' (first | omega | (with_reducible show (_ : Int) < _; dsimp only; omega) | (with_reducible show (_ : Nat) ≤ _; dsimp only; omega) | exact srcOk_1 rfl | exact srcOk_L (fun _ => ⟨rfl, rfl⟩) | exact srcOk_E (fun _ => ⟨rfl, rfl⟩) | ((conv => whnf) <;> (first | (refine .inl ⟨_, l19Entry_ok _ (h.1.2 who.toNat (by omega)) _, ?_⟩; rintro _ rfl; obtain ⟨q, hF, hk⟩ | hF := find_cases (s.tables.getD who.toNat default) num <;> (rw [hF]; simp only [idxI])) | refine And.intro ?_ ?_ | (intro _h; first | contradiction | (try simp only [decide_eq_true_eq, Bool.not_eq_true', Bool.not_eq_false', decide_eq_false_iff_not, Bool.not_eq_true, Decidable.not_not, Bool.true_eq_false, Bool.false_eq_true, pb_t, pb_f] at _h)) | (refine dt_go ?_) | exact rfl | exact True.intro | (refine dok ?_; kernel_rfl) | (refine doks ?_; kernel_rfl) | ((first | refine .inl ⟨_, l00In_ok _ _ _, ?_⟩ | refine ⟨_, l00In_ok _ _ _, ?_⟩); try rintro _ rfl; try rw [wrap_in (by omega) (by omega)]) | (refine wrap_succ ?_; omega))))
  · rw [at_out (by omega)]; rfl
  · rw [at_find (by omega), hF]; rfl
  · rw [at_find (by omega), hF]; rfl

set_option maxRecDepth 8000 in
theorem l19Lent_ok (s : Shelf) (h : s.ok) (who num : Int) : Ret env.P 105 [rfL s.cs, .i .i64 who, .i .i64 num] (fun r => r = .i .i64 (leF s.all [who, num])) := by
  have hl : s.tables.length ≤ 1048576 := h.1.1
  refine ret_of (nt := 62) (rvs := [.tmp 6]) Try.func105 rfl rfl rfl rfl (fun X => ?_)
  repeat' (first | omega | (with_reducible show (_ : Int) < _; dsimp only; omega) | (with_reducible show (_ : Nat) ≤ _; dsimp only; omega) | exact srcOk_1 rfl | exact srcOk_L (fun _ => ⟨rfl, rfl⟩) | exact srcOk_E (fun _ => ⟨rfl, rfl⟩) | ((conv => whnf) <;> (first | refine loopAt 8 s.tables.length (fun i => [(8, .i .i64 i), (7, .i .i64 (leF (s.upTo i 0) [who, num]))]) (fun i => []) (fun _ => True) rfl ⟨trivial, ?_⟩ | (rename_i i _ _; have he : (s.tables.getD (i : Int).toNat default).entries.length ≤ 1048576 := (h.1.2 i (by omega)).1; refine loopAt 9 (s.tables.getD (i : Int).toNat default).entries.length (fun k => [(9, .i .i64 k), (7, .i .i64 (leF (s.upTo i k) [who, num]))]) (fun k => []) (fun _ => True) rfl ⟨trivial, ?_⟩) | refine And.intro ?_ ?_ | (intro _h; first | contradiction | (try simp only [decide_eq_true_eq, Bool.not_eq_true', Bool.not_eq_false', decide_eq_false_iff_not, Bool.not_eq_true, Decidable.not_not, Bool.true_eq_false, Bool.false_eq_true, pb_t, pb_f] at _h)) | (refine dt_go ?_) | exact rfl | exact True.intro | (refine dok ?_; kernel_rfl) | (refine doks ?_; kernel_rfl) | (refine wrap_succ ?_; omega))))
  all_goals (first | (conv => whnf) | skip)
  all_goals (simp only [Int.toNat_natCast] at *)
  all_goals first
    | exact le_at_hit (by omega) (by assumption) (by assumption) (by assumption)
    | exact le_at_miss (by omega) (by assumption) (fun q => by simp_all)
    | exact le_at_own (by omega) (by simpa using _h)
    | exact congrFun (congrArg _ (upTo_ends (by omega) (by omega) (by omega))) _
    | exact leaf_i (congrFun (congrArg _ (upTo_all (by omega) (by omega))) _)

set_option maxRecDepth 8000 in
theorem l19Owners_ok (s : Shelf) (h : s.ok) (id : Int) : Ret env.P 106 [rfL s.cs, .i .i64 id] (fun r => r = .i .i64 (owF s.all [id])) := by
  have hl : s.tables.length ≤ 1048576 := h.1.1
  refine ret_of (nt := 53) (rvs := [.tmp 4]) Try.func106 rfl rfl rfl rfl (fun X => ?_)
  repeat' (first | omega | (with_reducible show (_ : Int) < _; dsimp only; omega) | (with_reducible show (_ : Nat) ≤ _; dsimp only; omega) | exact srcOk_1 rfl | exact srcOk_L (fun _ => ⟨rfl, rfl⟩) | exact srcOk_E (fun _ => ⟨rfl, rfl⟩) | ((conv => whnf) <;> (first | refine loopAt 6 s.tables.length (fun i => [(6, .i .i64 i), (5, .i .i64 (owF (s.upTo i 0) [id]))]) (fun i => []) (fun _ => True) rfl ⟨trivial, ?_⟩ | (rename_i i _ _; have he : (s.tables.getD (i : Int).toNat default).entries.length ≤ 1048576 := (h.1.2 i (by omega)).1; refine loopAt 7 (s.tables.getD (i : Int).toNat default).entries.length (fun k => [(7, .i .i64 k), (5, .i .i64 (owF (s.upTo i k) [id]))]) (fun k => []) (fun _ => True) rfl ⟨trivial, ?_⟩) | refine And.intro ?_ ?_ | (intro _h; first | contradiction | (try simp only [decide_eq_true_eq, Bool.not_eq_true', Bool.not_eq_false', decide_eq_false_iff_not, Bool.not_eq_true, Decidable.not_not, Bool.true_eq_false, Bool.false_eq_true, pb_t, pb_f] at _h)) | (refine dt_go ?_) | exact rfl | exact True.intro | (refine dok ?_; kernel_rfl) | (refine doks ?_; kernel_rfl) | (refine wrap_succ ?_; omega))))
  all_goals (first | (conv => whnf) | skip)
  all_goals (simp only [Int.toNat_natCast] at *)
  all_goals first
    | exact ow_at_hit (by omega) (by assumption) (by assumption)
    | exact ow_at_miss (by omega) (by assumption) (by assumption)
    | exact ow_at_lent (by omega) (by simpa using _h)
    | exact congrFun (congrArg _ (upTo_ends (by omega) (by omega) (by omega))) _
    | exact leaf_i (congrFun (congrArg _ (upTo_all (by omega) (by omega))) _)

set_option maxRecDepth 8000 in
theorem l19Ends_ok (s : Shelf) (h : s.ok) (e : Entry) : Ret env.P 104 [rfL s.cs, .agg e.cs] (fun r => r = .b (s.sEnds 85 e)) := by
  refine ret_of (nt := 33) (rvs := [.tmp 4]) Try.func104 rfl rfl rfl rfl (fun X => ?_)
  repeat' (first | omega | (with_reducible show (_ : Int) < _; dsimp only; omega) | (with_reducible show (_ : Nat) ≤ _; dsimp only; omega) | exact srcOk_1 rfl | exact srcOk_L (fun _ => ⟨rfl, rfl⟩) | exact srcOk_E (fun _ => ⟨rfl, rfl⟩) | ((conv => whnf) <;> (first | refine loopN 85 (fun k => [(5, .i .i64 k)]) (fun k => [some (.box (s.chain e k).cs)]) (fun k => s.sEnds 85 e = s.sEnds (85 - k) (s.chain e k)) ⟨rfl, ?_⟩ | (rename_i k _ _ _; refine .inl ⟨_, l19At_ok s h (s.chain e k).from_ (s.chain e k).fromNum, ?_⟩; rintro _ rfl; cases hE : s.at_ (s.chain e k).from_ (s.chain e k).fromNum) | (simp only [Shelf.chain, Shelf.orig, hE, Option.getD_some]) | refine And.intro ?_ ?_ | (intro _h; first | contradiction | (try simp only [decide_eq_true_eq, Bool.not_eq_true', Bool.not_eq_false', decide_eq_false_iff_not, Bool.not_eq_true, Decidable.not_not, Bool.true_eq_false, Bool.false_eq_true, pb_t, pb_f] at _h)) | (refine dt_go ?_) | exact rfl | exact True.intro | (refine dok ?_; kernel_rfl) | (refine doks ?_; kernel_rfl) | (refine wrap_succ ?_; omega))))
  all_goals (first | refine leaf_b ?_ | (conv => whnf) | skip)
  · rename_i k _ hI _
    rw [hI, show 85 - k = (84 - k) + 1 by omega, Shelf.sEnds_own _h]
  · rw [‹s.sEnds 85 e = s.sEnds (85 - k) (s.chain e k)›, Shelf.sEnds_none (by assumption) (show s.orig (s.chain e k) = none from hE)]
  · rw [‹s.sEnds 85 e = s.sEnds (85 - k) (s.chain e k)›, Shelf.sEnds_id (by assumption) (show s.orig (s.chain e k) = some _ from hE) (by assumption)]
  · rw [‹s.sEnds 85 e = s.sEnds (85 - k) (s.chain e k)›, show 85 - k = (85 - (k + 1)) + 1 by omega, Shelf.sEnds_on (by assumption) (show s.orig (s.chain e k) = some _ from hE) (by assumption)]
  · rename_i k _ hI
    rw [hI, show 85 - k = 0 by omega]; rfl

set_option maxHeartbeats 2000000 in
set_option maxRecDepth 8000 in
theorem l19Things_ok (s : Shelf) (h : s.ok) : Ret env.P 102 [rfL s.cs] (fun r => r = .b (pb ((1 ≤ s.next ∧ s.next ≤ 1000000) ∧ (1 ≤ s.tables.length ∧ s.tables.length ≤ 7) ∧ s.goodT))) := by
  have hl : s.tables.length ≤ 1048576 := h.1.1
  have ht : s.things.length ≤ 1048576 := h.2.1
  refine ret_of (nt := 90) (rvs := [.tmp 2]) Try.func102 rfl rfl rfl rfl (fun X => ?_)
  repeat' (first | omega | (with_reducible show (_ : Int) < _; dsimp only; omega) | (with_reducible show (_ : Nat) ≤ _; dsimp only; omega) | exact srcOk_1 rfl | exact srcOk_L (fun _ => ⟨rfl, rfl⟩) | exact srcOk_E (fun _ => ⟨rfl, rfl⟩) | ((conv => whnf) <;> (first | refine loopN s.things.length (fun k => [(3, .i .i64 k)]) (fun k => []) (fun k => s.UpT k) ⟨s.upT_zero, ?_⟩ | refine And.intro ?_ ?_ | (intro _h; first | contradiction | (try simp only [decide_eq_true_eq, Bool.not_eq_true', Bool.not_eq_false', decide_eq_false_iff_not, Bool.not_eq_true, Decidable.not_not, Bool.true_eq_false, Bool.false_eq_true, pb_t, pb_f] at _h)) | (refine dt_go ?_) | exact rfl | exact True.intro | (refine dok ?_; kernel_rfl) | (refine doks ?_; kernel_rfl) | ((first | refine .inl ⟨_, l00In_ok _ _ _, ?_⟩ | refine ⟨_, l00In_ok _ _ _, ?_⟩); try rintro _ rfl; try rw [wrap_in (by omega) (by omega)]) | (refine wrap_succ ?_; omega))))
  all_goals (first | refine leaf_f ?_ | refine leaf_t ?_ | refine leaf_p ?_ | (conv => whnf) | skip)
  all_goals (try simp only [Int.toNat_natCast] at *)
  all_goals (try simp (disch := omega) only [wrap_in] at *)
  all_goals first
    | (show (0 : Int) ≤ _; omega)
    | (show (_ : Int) < _; omega)
    | exact fun q => by have := q.2.2.2; omega
    | (refine notT ‹_› ?_; intro g; have := Shelf.upT_pos ‹s.UpT _›; first | omega | (rw [prevId_pos ‹_›] at g; omega))
    | exact Shelf.upT_succ ‹_› (by first | (rw [prevId_pos ‹_›]; omega) | (rw [prevId_zero ‹_›]; omega)) (by omega) ⟨by omega, by omega⟩ ⟨by omega, by omega⟩
    | exact ⟨‹_›, ⟨by omega, by omega⟩, fun k hk => (‹s.UpT _› : s.UpT _).h k (by omega), by omega⟩

set_option maxHeartbeats 4000000 in
set_option maxRecDepth 8000 in
theorem l19Shape_ok (s : Shelf) (h : s.ok) (t : Table) (ht : t.ok) : Ret env.P 103 [rfL s.cs, .agg t.cs] (fun r => r = .b (pb (s.shape t))) := by
  have hl : t.entries.length ≤ 1048576 := ht.1
  refine ret_of (nt := 92) (rvs := [.tmp 4]) Try.func103 rfl rfl rfl rfl (fun X => ?_)
  repeat' (first | omega | (with_reducible show (_ : Int) < _; dsimp only; omega) | (with_reducible show (_ : Nat) ≤ _; dsimp only; omega) | exact srcOk_1 rfl | exact srcOk_L (fun _ => ⟨rfl, rfl⟩) | exact srcOk_E (fun _ => ⟨rfl, rfl⟩) | ((conv => whnf) <;> (first | refine loopN t.entries.length (fun k => [(5, .i .i64 k)]) (fun k => []) (fun k => s.UpS t k) ⟨s.upS_zero t, ?_⟩ | refine And.intro ?_ ?_ | (intro _h; first | contradiction | (try simp only [decide_eq_true_eq, Bool.not_eq_true', Bool.not_eq_false', decide_eq_false_iff_not, Bool.not_eq_true, Decidable.not_not, Bool.true_eq_false, Bool.false_eq_true, pb_t, pb_f] at _h)) | (refine dt_go ?_) | exact rfl | exact True.intro | (refine dok ?_; kernel_rfl) | (refine doks ?_; kernel_rfl) | ((first | refine .inl ⟨_, l00In_ok _ _ _, ?_⟩ | refine ⟨_, l00In_ok _ _ _, ?_⟩); try rintro _ rfl; try rw [wrap_in (by omega) (by omega)]) | ((first | refine .inl ⟨_, l19Thing_ok s h _, ?_⟩ | refine ⟨_, l19Thing_ok s h _, ?_⟩); (try rintro _ rfl)) | (refine wrap_succ ?_; omega))))
  all_goals (first | refine leaf_f ?_ | refine leaf_t ?_ | refine leaf_p ?_ | (conv => whnf) | skip)
  all_goals (try simp only [Int.toNat_natCast, idx_neg, Bool.not_eq_false, Bool.not_eq_true, Decidable.not_not] at *)
  all_goals (try simp (disch := omega) only [wrap_in] at *)
  all_goals first
    | (show (0 : Int) ≤ _; omega)
    | (show (_ : Int) < _; omega)
    | exact fun q => by have := q.1.2.1; omega
    | exact fun q => by have := q.1.2.2; omega
    | (refine notS ‹_› ?_; rintro ⟨g, g1, g2⟩; have := Table.up_pos (‹s.UpS t _› : s.UpS t _).up; first | omega | (rw [prevNum_pos ‹_›] at g; omega) | (clear g; rw [if_neg (by rw [‹(Entry.own _) = false›]; decide)] at g2; omega) | (clear g; simp_all; done))
    | exact Shelf.upS_succ ‹_› (by first | (rw [prevNum_pos ‹_›]; omega) | (rw [prevNum_zero ‹_›]; omega)) (by omega) (by omega) ⟨by simp_all, by simp_all⟩
    | exact ⟨⟨fun k hk => (‹s.UpS t _› : s.UpS t _).up.h k (by omega), ‹_›, by omega⟩, fun k hk => (‹s.UpS t _› : s.UpS t _).h k (by omega)⟩

set_option maxHeartbeats 4000000 in
set_option maxRecDepth 8000 in
theorem l19Ok_ok (s : Shelf) (h : s.ok) : Ret env.P 49 [rfL s.cs] (fun r => r = .b (pb s.sGood)) := by
  have hl : s.tables.length ≤ 1048576 := h.1.1
  have ht : s.things.length ≤ 1048576 := h.2.1
  refine ret_of (nt := 97) (rvs := [.tmp 2]) Try.func49 rfl rfl rfl rfl (fun X => ?_)
  repeat' (first | omega | (with_reducible show (_ : Int) < _; dsimp only; omega) | (with_reducible show (_ : Nat) ≤ _; dsimp only; omega) | exact srcOk_1 rfl | exact srcOk_L (fun _ => ⟨rfl, rfl⟩) | exact srcOk_E (fun _ => ⟨rfl, rfl⟩) | ((conv => whnf) <;> (first | ((first | refine .inl ⟨_, l19Shape_ok s h _ (h.1.2 _ (by omega)), ?_⟩ | refine ⟨_, l19Shape_ok s h _ (h.1.2 _ (by omega)), ?_⟩); try rintro _ rfl) | refine loopAt 3 s.tables.length (fun k => [(3, .i .i64 k)]) (fun k => []) (fun k => s.UpG k) rfl ⟨s.upG_zero, ?_⟩ | refine loopAt 4 s.tables.length (fun k => [(4, .i .i64 k)]) (fun k => []) (fun k => s.UpR k 0) rfl ⟨s.upR_zero, ?_⟩ | refine loopAt 7 s.things.length (fun k => [(7, .i .i64 k)]) (fun k => []) (fun k => s.UpO k) rfl ⟨s.upO_zero, ?_⟩ | (rename_i i _ _; have he : (s.tables.getD (i : Int).toNat default).entries.length ≤ 1048576 := (h.1.2 i (by omega)).1; refine loopAt 5 (s.tables.getD (i : Int).toNat default).entries.length (fun k => [(5, .i .i64 k)]) (fun k => []) (fun k => s.UpR i k) rfl ⟨by assumption, ?_⟩) | refine And.intro ?_ ?_ | (intro _h; first | contradiction | (try simp only [decide_eq_true_eq, Bool.not_eq_true', Bool.not_eq_false', decide_eq_false_iff_not, Bool.not_eq_true, Decidable.not_not, Bool.true_eq_false, Bool.false_eq_true, pb_t, pb_f] at _h)) | (refine dt_go ?_) | exact rfl | exact True.intro | (refine dok ?_; kernel_rfl) | (refine doks ?_; kernel_rfl) | ((first | refine .inl ⟨_, l19Things_ok s h, ?_⟩ | refine ⟨_, l19Things_ok s h, ?_⟩); (try rintro _ rfl)) | ((first | refine .inl ⟨_, l19Ends_ok s h _, ?_⟩ | refine ⟨_, l19Ends_ok s h _, ?_⟩); (try rintro _ rfl)) | ((first | refine .inl ⟨_, l19Lent_ok s h _ _, ?_⟩ | refine ⟨_, l19Lent_ok s h _ _, ?_⟩); (try rintro _ rfl)) | ((first | refine .inl ⟨_, l19Owners_ok s h _, ?_⟩ | refine ⟨_, l19Owners_ok s h _, ?_⟩); (try rintro _ rfl)) | (refine wrap_succ ?_; omega))))
  all_goals (first | refine leaf_f ?_ | refine leaf_t ?_ | refine leaf_p ?_ | (conv => whnf) | skip)
  all_goals (try simp only [Int.toNat_natCast, Bool.not_eq_false, Bool.not_eq_true, Decidable.not_not] at *)
  all_goals first
    | exact fun q => ‹¬ (_ ∧ _ ∧ s.goodT)› q.1
    | exact Shelf.notG ‹_› ‹_›
    | exact Shelf.notO ‹_› ‹_›
    | (refine Shelf.notR ‹_› ‹_› ?_; rintro ⟨g1, g2⟩; simp_all; done)
    | exact Shelf.upG_succ ‹_› (Classical.not_not.1 ‹_›)
    | exact Shelf.upO_succ ‹_› ‹_›
    | exact Shelf.upR_succ ‹_› ‹_› ‹_›
    | exact Shelf.upR_next ‹_› (by omega)
    | exact Shelf.sGood_of (Classical.not_not.1 ‹_›) ‹s.UpG _› ‹_› ‹s.UpR _ 0› ‹_› ‹s.UpO _› ‹_›

set_option maxRecDepth 8000 in
theorem shelfOk_spec (s : Shelf) (h : s.ok) : Ret env.P 18 [.agg s.cs] (fun r => r = .b (pb s.sGood)) := by
  refine ret_of (nt := 4) (rvs := [.tmp 2]) Try.func18 rfl rfl rfl rfl (fun X => ?_)
  repeat' (first | omega | (with_reducible show (_ : Int) < _; dsimp only; omega) | (with_reducible show (_ : Nat) ≤ _; dsimp only; omega) | exact srcOk_1 rfl | exact srcOk_L (fun _ => ⟨rfl, rfl⟩) | exact srcOk_E (fun _ => ⟨rfl, rfl⟩) | ((conv => whnf) <;> (first | refine And.intro ?_ ?_ | (intro _h; first | contradiction | (try simp only [decide_eq_true_eq, Bool.not_eq_true', Bool.not_eq_false', decide_eq_false_iff_not, Bool.not_eq_true, Decidable.not_not, Bool.true_eq_false, Bool.false_eq_true, pb_t, pb_f] at _h)) | (refine dt_go ?_) | exact rfl | exact True.intro | (refine dok ?_; kernel_rfl) | (refine doks ?_; kernel_rfl) | ((first | refine .inl ⟨_, Ret.wk (by ((repeat (first | exact WkL.nil | refine WkL.cons ?_ ?_ | exact Wk.refl _ | exact Wk.rfc rfl | refine Wk.fn ?_ | exact Wk.nilS0 | exact shr_L (d := 0) (k := 4) rfl | exact shr_L (d := 1) (k := 3) rfl | exact shr_L (d := 2) (k := 2) rfl | exact shr_L (d := 0) (k := 4) (by simp only [markL_len]) | exact shr_L (d := 1) (k := 3) (by simp only [markL_len]) | refine Wk.agg ?_ | exact shr_L (d := 0) (k := 3) rfl | exact shr_L (d := 1) (k := 2) rfl | exact shr_ow (d := 1) (k := 2) | exact shr_ow (d := 0) (k := 3) | refine Wk.rfLo ?_)); first | done | fail)) (l19Ok_ok s h), ?_⟩ | refine ⟨_, Ret.wk (by ((repeat (first | exact WkL.nil | refine WkL.cons ?_ ?_ | exact Wk.refl _ | exact Wk.rfc rfl | refine Wk.fn ?_ | exact Wk.nilS0 | exact shr_L (d := 0) (k := 4) rfl | exact shr_L (d := 1) (k := 3) rfl | exact shr_L (d := 2) (k := 2) rfl | exact shr_L (d := 0) (k := 4) (by simp only [markL_len]) | exact shr_L (d := 1) (k := 3) (by simp only [markL_len]) | refine Wk.agg ?_ | exact shr_L (d := 0) (k := 3) rfl | exact shr_L (d := 1) (k := 2) rfl | exact shr_ow (d := 1) (k := 2) | exact shr_ow (d := 0) (k := 3) | refine Wk.rfLo ?_)); first | done | fail)) (l19Ok_ok s h), ?_⟩); (try rintro _ rfl)) | (refine wrap_succ ?_; omega))))
  all_goals exact rfl
end Go.Proofs.Ytaiohiincgpomaa
