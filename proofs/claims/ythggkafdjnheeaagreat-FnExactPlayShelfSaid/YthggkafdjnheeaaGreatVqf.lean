import Derived.Test.YthggkafdjnheeaaGreatVq1
import Derived.Test.YthggkafdjnheeaaGreatVq2
import Derived.Test.YthggkafdjnheeaaGreatVX
import Derived.Test.YthggkafdjnheeaaGreatVq3
import Derived.Test.YthggkafdjnheeaaGreatVqb
import Derived.Test.YthggkafdjnheeaaGreatVq5
import Derived.Test.YthggkafdjnheeaaGreatVq6
import Derived.Test.YthggkafdjnheeaaGreatVq9
import Derived.Test.YthggkafdjnheeaaGreatVqc
import Derived.Test.YthggkafdjnheeaaGreatVqd
namespace Go.Proofs.YthggkafdjnheeaaGreat
open Go Go.RowKit
set_option linter.unusedVariables false
set_option linter.unusedSimpArgs false
set_option maxRecDepth 8000
theorem l19Used_ok (b : Bool) (n h : Int) : Ret env.P 94 [.b b, .i .i64 n, .i .i64 h] (fun r => r = .b (decide ((b = true ∧ 1 ≤ n ∧ n ≤ h) ∨ (b = false ∧ n = 0)))) := by
  refine ret_of (nt := 13) (rvs := [.tmp 6]) Tryz.func94 rfl rfl rfl rfl (fun X => ?_)
  repeat' (first | exact aa | ((conv => whnf) <;> (first | refine And.intro ?_ ?_ | (intro _h; first | contradiction | (try simp only [dd] at _h)) | (refine dt_go ?_) | exact rfl | exact True.intro | exact dkk | exact dks | ((first | refine .inl ⟨_, l00In_ok _ _ _, ?_⟩ | refine ⟨_, l00In_ok _ _ _, ?_⟩); (try rintro _ rfl)) | (refine wrap_succ ?_; omega))))
  all_goals (refine leaf_b ?_; simp_all)
def ShelfAct.fine (a : ShelfAct) : Bool :=
  decide ((0 ≤ a.who ∧ a.who ≤ 6) ∧ (0 ≤ a.to ∧ a.to ≤ 6) ∧
  (if a.kind = 1 then (1 ≤ a.res ∧ a.res ≤ 8) ∧ (a.num = 0 ∧ a.to = 0 ∧ a.scope = 0)
   else if a.kind = 2 then (1 ≤ a.num ∧ a.num ≤ 1000000) ∧ (1 ≤ a.res ∧ a.res ≤ 8) ∧ a.scope = 0
   else if a.kind = 3 then (1 ≤ a.num ∧ a.num ≤ 1000000) ∧ (1 ≤ a.res ∧ a.res ≤ 8) ∧ (1 ≤ a.scope ∧ a.scope ≤ 1000000)
   else if a.kind = 4 then (1 ≤ a.num ∧ a.num ≤ 1000000) ∧ (a.res = 0 ∧ a.to = 0 ∧ a.scope = 0)
   else if a.kind = 5 then (1 ≤ a.scope ∧ a.scope ≤ 1000000) ∧ (a.who = 0 ∧ a.num = 0 ∧ a.res = 0 ∧ a.to = 0)
   else if a.kind = 6 then a.num = 0 ∧ a.res = 0 ∧ a.to = 0 ∧ a.scope = 0
   else False))
set_option maxHeartbeats 2000000 in
theorem shelfActOk_spec (a : ShelfAct) : Ret env.P 45 [.agg a.cs] (fun r => r = .b a.fine) := by
  obtain ⟨k, w, n, r, t, s⟩ := a
  refine ret_of (nt := 78) (rvs := [.tmp 2]) Tryz.func45 rfl rfl rfl rfl (fun X => ?_)
  repeat' (first | exact aa | ((conv => whnf) <;> (first | refine And.intro ?_ ?_ | (intro _h; first | contradiction | (try simp only [dd] at _h)) | (refine dt_go ?_) | exact rfl | exact True.intro | exact dkk | exact dks | ((first | refine .inl ⟨_, l00In_ok _ _ _, ?_⟩ | refine ⟨_, l00In_ok _ _ _, ?_⟩); (try rintro _ rfl)) | ((first | refine .inl ⟨_, l19Used_ok _ _ _, ?_⟩ | refine ⟨_, l19Used_ok _ _ _, ?_⟩); (try rintro _ rfl)) | (refine wrap_succ ?_; omega))))
  all_goals refine leaf_b ?_
  all_goals (rw [Bool.eq_iff_iff]; simp_all [ShelfAct.fine]; try (first | omega | (repeat' split) <;> omega))
set_option maxHeartbeats 2000000 in
theorem shelfActOk_impl (a : ShelfAct) : Ret env.P 41 [.agg a.cs] (fun r => r = .b a.fine) := by
  obtain ⟨k, w, n, r, t, s⟩ := a
  refine ret_of (nt := 106) (rvs := [.tmp 2]) Tryz.func41 rfl rfl rfl rfl (fun X => ?_)
  repeat' (first | exact aa | ((conv => whnf) <;> (first | refine And.intro ?_ ?_ | (intro _h; first | contradiction | (try simp only [dd] at _h)) | (refine dt_go ?_) | exact rfl | exact True.intro | exact dkk | exact dks | ((first | refine .inl ⟨_, within_ok _ _ _, ?_⟩ | refine ⟨_, within_ok _ _ _, ?_⟩); (try rintro _ rfl)) | ((first | refine .inl ⟨_, isRes_ok _, ?_⟩ | refine ⟨_, isRes_ok _, ?_⟩); (try rintro _ rfl)) | ((first | refine .inl ⟨_, isId_ok _, ?_⟩ | refine ⟨_, isId_ok _, ?_⟩); (try rintro _ rfl)) | (refine wrap_succ ?_; omega))))
  all_goals refine leaf_b ?_
  all_goals (rw [Bool.eq_iff_iff]; simp_all [ShelfAct.fine]; try (first | omega | (repeat' split) <;> omega))
set_option maxHeartbeats 4000000 in
theorem do_make (s s' : Shelf) (h : s.ok) (who num res to scope n c : Int) (z L : List Thing) (z1 : Thing) (hw : 0 ≤ who ∧ who < (s.tables.length : Int)) (hto : 0 ≤ to ∧ to < (s.tables.length : Int)) (hC : RetM env.P 95 [some (boxRow s.csO)] [.ptr 0 0 0, .i .i64 who, .i .i64 res, .i .i64 s.next] (fun r H => r = .tup [.i .i64 n, .i .i64 c] ∧ H = [some (boxRow s'.csO)])) : RetM env.P 47 [some (boxRow s.csO)] [.ptr 0 0 0, .agg (⟨1, who, num, res, to, scope⟩ : ShelfAct).cs] (fun r H => r = .i .i64 c ∧ H = [some (boxRow s'.csO)]) := by
  have hl : s.tables.length ≤ 1048576 := h.1.1
  refine ret_ofM (nt := 89) (rvs := [.tmp 4]) Tryz.func47 rfl rfl rfl rfl (fun X hX => ?_)
  repeat' (first | exact aa | ((conv => whnf) <;> (first | (refine dt_goC [0] ?_) | refine And.intro ?_ ?_ | (intro _h; first | contradiction | (try simp only [dd] at _h)) | (refine dt_go ?_) | exact rfl | exact True.intro | exact dkk | exact dks | ((first | refine .inl ⟨_, Ret.wka (l19Who_ok s h _), ?_⟩ | refine ⟨_, Ret.wka (l19Who_ok s h _), ?_⟩); (try rintro _ rfl)) | (refine .inr (.inl (.inl ⟨[0], _, _, _, hC, viewA, ⟨rfl, rfl⟩, ?_⟩)); rintro _ _ ⟨rfl, rfl⟩; refine ⟨rfl, _, lokA, ?_⟩) | (refine wrap_succ ?_; omega))))
  all_goals (conv => whnf)
  all_goals exact endM_pick [0] [some (boxRow s'.csO)] (.i .i64 c) (view_of rfl (.cons rfl (.self (rowPl_box rfl)) .nil)) rfl rfl (by rw [hX]; exact keepK (n := 1) rfl rfl) ⟨rfl, rfl⟩
set_option maxHeartbeats 4000000 in
theorem do_move (s s' : Shelf) (h : s.ok) (who num res to scope n c : Int) (z L : List Thing) (z1 : Thing) (hw : 0 ≤ who ∧ who < (s.tables.length : Int)) (hto : 0 ≤ to ∧ to < (s.tables.length : Int)) (hC : RetM env.P 96 [some (boxRow s.csO)] [.ptr 0 0 0, .i .i64 who, .i .i64 num, .i .i64 res, .i .i64 to] (fun r H => r = .tup [.i .i64 n, .i .i64 c] ∧ H = [some (boxRow s'.csO)])) : RetM env.P 47 [some (boxRow s.csO)] [.ptr 0 0 0, .agg (⟨2, who, num, res, to, scope⟩ : ShelfAct).cs] (fun r H => r = .i .i64 c ∧ H = [some (boxRow s'.csO)]) := by
  have hl : s.tables.length ≤ 1048576 := h.1.1
  refine ret_ofM (nt := 89) (rvs := [.tmp 4]) Tryz.func47 rfl rfl rfl rfl (fun X hX => ?_)
  repeat' (first | exact aa | ((conv => whnf) <;> (first | (refine dt_goC [0] ?_) | refine And.intro ?_ ?_ | (intro _h; first | contradiction | (try simp only [dd] at _h)) | (refine dt_go ?_) | exact rfl | exact True.intro | exact dkk | exact dks | ((first | refine .inl ⟨_, Ret.wka (l19Who_ok s h _), ?_⟩ | refine ⟨_, Ret.wka (l19Who_ok s h _), ?_⟩); (try rintro _ rfl)) | (refine .inr (.inl (.inl ⟨[0], _, _, _, hC, viewA, ⟨rfl, rfl⟩, ?_⟩)); rintro _ _ ⟨rfl, rfl⟩; refine ⟨rfl, _, lokA, ?_⟩) | (refine wrap_succ ?_; omega))))
  all_goals (conv => whnf)
  all_goals exact endM_pick [0] [some (boxRow s'.csO)] (.i .i64 c) (view_of rfl (.cons rfl (.self (rowPl_box rfl)) .nil)) rfl rfl (by rw [hX]; exact keepK (n := 1) rfl rfl) ⟨rfl, rfl⟩
set_option maxHeartbeats 4000000 in
theorem do_lend (s s' : Shelf) (h : s.ok) (who num res to scope n c : Int) (z L : List Thing) (z1 : Thing) (hw : 0 ≤ who ∧ who < (s.tables.length : Int)) (hto : 0 ≤ to ∧ to < (s.tables.length : Int)) (hC : RetM env.P 97 [some (boxRow s.csO)] [.ptr 0 0 0, .i .i64 who, .i .i64 num, .i .i64 res, .i .i64 to, .i .i64 scope] (fun r H => r = .tup [.i .i64 n, .i .i64 c] ∧ H = [some (boxRow s'.csO)])) : RetM env.P 47 [some (boxRow s.csO)] [.ptr 0 0 0, .agg (⟨3, who, num, res, to, scope⟩ : ShelfAct).cs] (fun r H => r = .i .i64 c ∧ H = [some (boxRow s'.csO)]) := by
  have hl : s.tables.length ≤ 1048576 := h.1.1
  refine ret_ofM (nt := 89) (rvs := [.tmp 4]) Tryz.func47 rfl rfl rfl rfl (fun X hX => ?_)
  repeat' (first | exact aa | ((conv => whnf) <;> (first | (refine dt_goC [0] ?_) | refine And.intro ?_ ?_ | (intro _h; first | contradiction | (try simp only [dd] at _h)) | (refine dt_go ?_) | exact rfl | exact True.intro | exact dkk | exact dks | ((first | refine .inl ⟨_, Ret.wka (l19Who_ok s h _), ?_⟩ | refine ⟨_, Ret.wka (l19Who_ok s h _), ?_⟩); (try rintro _ rfl)) | (refine .inr (.inl (.inl ⟨[0], _, _, _, hC, viewA, ⟨rfl, rfl⟩, ?_⟩)); rintro _ _ ⟨rfl, rfl⟩; refine ⟨rfl, _, lokA, ?_⟩) | (refine wrap_succ ?_; omega))))
  all_goals (conv => whnf)
  all_goals exact endM_pick [0] [some (boxRow s'.csO)] (.i .i64 c) (view_of rfl (.cons rfl (.self (rowPl_box rfl)) .nil)) rfl rfl (by rw [hX]; exact keepK (n := 1) rfl rfl) ⟨rfl, rfl⟩
set_option maxHeartbeats 4000000 in
theorem do_drop (s s' : Shelf) (h : s.ok) (who num res to scope n c : Int) (z L : List Thing) (z1 : Thing) (hw : 0 ≤ who ∧ who < (s.tables.length : Int)) (hto : 0 ≤ to ∧ to < (s.tables.length : Int)) (hC : RetM env.P 72 [some (boxRow s.csO)] [.ptr 0 0 0, .i .i64 who, .i .i64 num] (fun r H => r = .tup [.agg z1.cs, .i .i64 c] ∧ H = [some (boxRow s'.csO)])) : RetM env.P 47 [some (boxRow s.csO)] [.ptr 0 0 0, .agg (⟨4, who, num, res, to, scope⟩ : ShelfAct).cs] (fun r H => r = .i .i64 c ∧ H = [some (boxRow s'.csO)]) := by
  have hl : s.tables.length ≤ 1048576 := h.1.1
  refine ret_ofM (nt := 89) (rvs := [.tmp 4]) Tryz.func47 rfl rfl rfl rfl (fun X hX => ?_)
  repeat' (first | exact aa | ((conv => whnf) <;> (first | (refine dt_goC [0] ?_) | refine And.intro ?_ ?_ | (intro _h; first | contradiction | (try simp only [dd] at _h)) | (refine dt_go ?_) | exact rfl | exact True.intro | exact dkk | exact dks | ((first | refine .inl ⟨_, Ret.wka (l19Who_ok s h _), ?_⟩ | refine ⟨_, Ret.wka (l19Who_ok s h _), ?_⟩); (try rintro _ rfl)) | (refine .inr (.inl (.inl ⟨[0], _, _, _, hC, viewA, ⟨rfl, rfl⟩, ?_⟩)); rintro _ _ ⟨rfl, rfl⟩; refine ⟨rfl, _, lokA, ?_⟩) | (refine wrap_succ ?_; omega))))
  all_goals (conv => whnf)
  all_goals exact endM_pick [0] [some (boxRow s'.csO)] (.i .i64 c) (view_of rfl (.cons rfl (.self (rowPl_box rfl)) .nil)) rfl rfl (by rw [hX]; exact keepK (n := 1) rfl rfl) ⟨rfl, rfl⟩
set_option maxHeartbeats 4000000 in
theorem do_end (s s' : Shelf) (h : s.ok) (who num res to scope n c : Int) (z L : List Thing) (z1 : Thing) (hw : 0 ≤ who ∧ who < (s.tables.length : Int)) (hto : 0 ≤ to ∧ to < (s.tables.length : Int)) (hC : RetM env.P 98 [some (boxRow s.csO)] [.ptr 0 0 0, .i .i64 scope] (fun r H => r = .tup [] ∧ H = [some (boxRow s'.csO)])) : RetM env.P 47 [some (boxRow s.csO)] [.ptr 0 0 0, .agg (⟨5, who, num, res, to, scope⟩ : ShelfAct).cs] (fun r H => r = .i .i64 0 ∧ H = [some (boxRow s'.csO)]) := by
  have hl : s.tables.length ≤ 1048576 := h.1.1
  refine ret_ofM (nt := 89) (rvs := [.tmp 4]) Tryz.func47 rfl rfl rfl rfl (fun X hX => ?_)
  repeat' (first | exact aa | ((conv => whnf) <;> (first | (refine dt_goC [0] ?_) | refine And.intro ?_ ?_ | (intro _h; first | contradiction | (try simp only [dd] at _h)) | (refine dt_go ?_) | exact rfl | exact True.intro | exact dkk | exact dks | ((first | refine .inl ⟨_, Ret.wka (l19Who_ok s h _), ?_⟩ | refine ⟨_, Ret.wka (l19Who_ok s h _), ?_⟩); (try rintro _ rfl)) | (refine .inr (.inl (.inl ⟨[0], _, _, _, hC, viewA, ⟨rfl, rfl⟩, ?_⟩)); rintro _ _ ⟨rfl, rfl⟩; refine ⟨rfl, _, lokA, ?_⟩) | (refine wrap_succ ?_; omega))))
  all_goals (conv => whnf)
  all_goals exact endM_pick [0] [some (boxRow s'.csO)] (.i .i64 0) (view_of rfl (.cons rfl (.self (rowPl_box rfl)) .nil)) rfl rfl (by rw [hX]; exact keepK (n := 1) rfl rfl) ⟨rfl, rfl⟩
set_option maxHeartbeats 4000000 in
theorem do_kill (s s' : Shelf) (h : s.ok) (who num res to scope n c : Int) (z L : List Thing) (z1 : Thing) (hw : 0 ≤ who ∧ who < (s.tables.length : Int)) (hto : 0 ≤ to ∧ to < (s.tables.length : Int)) (hC : RetM env.P 61 [some (boxRow s.csO)] [.ptr 0 0 0, .i .i64 who] (fun r H => r = .row 1 L.length ∧ H = [some (boxRow s'.csO), some (rowL 3 Thing.cs L)])) : RetM env.P 47 [some (boxRow s.csO)] [.ptr 0 0 0, .agg (⟨6, who, num, res, to, scope⟩ : ShelfAct).cs] (fun r H => r = .i .i64 0 ∧ H = [some (boxRow s'.csO)]) := by
  have hl : s.tables.length ≤ 1048576 := h.1.1
  refine ret_ofM (nt := 89) (rvs := [.tmp 4]) Tryz.func47 rfl rfl rfl rfl (fun X hX => ?_)
  repeat' (first | exact aa | ((conv => whnf) <;> (first | (refine dt_goC [0] ?_) | refine And.intro ?_ ?_ | (intro _h; first | contradiction | (try simp only [dd] at _h)) | (refine dt_go ?_) | exact rfl | exact True.intro | exact dkk | exact dks | ((first | refine .inl ⟨_, Ret.wka (l19Who_ok s h _), ?_⟩ | refine ⟨_, Ret.wka (l19Who_ok s h _), ?_⟩); (try rintro _ rfl)) | (refine .inr (.inl (.inl ⟨[0], _, _, _, hC, viewA, ⟨rfl, rfl⟩, ?_⟩)); rintro _ _ ⟨rfl, rfl⟩; refine ⟨rfl, _, lokA, ?_⟩) | (refine wrap_succ ?_; omega))))
  all_goals (conv => whnf)
  all_goals exact endM_pick [0] [some (boxRow s'.csO)] (.i .i64 0) (view_of rfl (.cons rfl (.self (rowPl_box rfl)) .nil)) rfl rfl (by rw [hX]; exact keepK (n := 1) rfl rfl) ⟨rfl, rfl⟩
set_option maxHeartbeats 4000000 in
theorem do_out (s : Shelf) (h : s.ok) (a : ShelfAct) (ho : ¬ ((0 ≤ a.who ∧ a.who < (s.tables.length : Int)) ∧ (0 ≤ a.to ∧ a.to < (s.tables.length : Int)))) : RetM env.P 47 [some (boxRow s.csO)] [.ptr 0 0 0, .agg a.cs] (fun r H => r = .i .i64 1 ∧ H = [some (boxRow s.csO)]) := by
  have hl : s.tables.length ≤ 1048576 := h.1.1
  refine ret_ofM (nt := 89) (rvs := [.tmp 4]) Tryz.func47 rfl rfl rfl rfl (fun X hX => ?_)
  repeat' (first | exact aa | ((conv => whnf) <;> (first | refine And.intro ?_ ?_ | (intro _h; first | contradiction | (try simp only [dd] at _h)) | (refine dt_go ?_) | exact rfl | exact True.intro | exact dkk | exact dks | ((first | refine .inl ⟨_, Ret.wka (l19Who_ok s h _), ?_⟩ | refine ⟨_, Ret.wka (l19Who_ok s h _), ?_⟩); (try rintro _ rfl)) | (refine wrap_succ ?_; omega))))
  all_goals first
    | (exfalso; exact ho ⟨Classical.not_not.1 ‹_›, Classical.not_not.1 ‹_›⟩)
    | (exfalso; exact ho ⟨‹_›, ‹_›⟩)
    | skip
  all_goals (conv => whnf)
  all_goals exact endM_pick [0] [some (boxRow s.csO)] (.i .i64 1) (view_of rfl (.cons rfl (.self (rowPl_box rfl)) .nil)) rfl rfl (by rw [hX]; exact keepK (n := 1) rfl rfl) ⟨rfl, rfl⟩
set_option maxHeartbeats 4000000 in
theorem act_make (s s' : Shelf) (h : s.ok) (who num res to scope n c : Int) (z L : List Thing) (z1 : Thing) (hw : 0 ≤ who ∧ who < (s.tables.length : Int)) (hto : 0 ≤ to ∧ to < (s.tables.length : Int)) (hC : RetM env.P 85 [some (boxRow s.csO)] [.ptr 0 0 0, .i .i64 who, .i .i64 res, .i .i64 s.next] (fun r H => r = .tup [.i .i64 n, .i .i64 c] ∧ H = [some (boxRow s'.csO)])) : RetM env.P 43 [some (boxRow s.csO)] [.ptr 0 0 0, .agg (⟨1, who, num, res, to, scope⟩ : ShelfAct).cs] (fun r H => r = .i .i64 c ∧ H = [some (boxRow s'.csO)]) := by
  have hl : s.tables.length ≤ 1048576 := h.1.1
  refine ret_ofM (nt := 92) (rvs := [.tmp 4]) Tryz.func43 rfl rfl rfl rfl (fun X hX => ?_)
  repeat' (first | exact aa | ((conv => whnf) <;> (first | (refine dt_goC [0] ?_) | refine And.intro ?_ ?_ | (intro _h; first | contradiction | (try simp only [dd] at _h)) | (refine dt_go ?_) | exact rfl | exact True.intro | exact dkk | exact dks | ((first | refine .inl ⟨_, Ret.wka (isTable_ok s h _), ?_⟩ | refine ⟨_, Ret.wka (isTable_ok s h _), ?_⟩); (try rintro _ rfl)) | (refine .inr (.inl (.inl ⟨[0], _, _, _, hC, viewA, ⟨rfl, rfl⟩, ?_⟩)); rintro _ _ ⟨rfl, rfl⟩; refine ⟨rfl, _, lokA, ?_⟩) | (refine wrap_succ ?_; omega))))
  all_goals (conv => whnf)
  all_goals exact endM_pick [0] [some (boxRow s'.csO)] (.i .i64 c) (view_of rfl (.cons rfl (.self (rowPl_box rfl)) .nil)) rfl rfl (by rw [hX]; exact keepK (n := 1) rfl rfl) ⟨rfl, rfl⟩
set_option maxHeartbeats 4000000 in
theorem act_move (s s' : Shelf) (h : s.ok) (who num res to scope n c : Int) (z L : List Thing) (z1 : Thing) (hw : 0 ≤ who ∧ who < (s.tables.length : Int)) (hto : 0 ≤ to ∧ to < (s.tables.length : Int)) (hC : RetM env.P 86 [some (boxRow s.csO)] [.ptr 0 0 0, .i .i64 who, .i .i64 num, .i .i64 res, .i .i64 to] (fun r H => r = .tup [.i .i64 n, .i .i64 c] ∧ H = [some (boxRow s'.csO)])) : RetM env.P 43 [some (boxRow s.csO)] [.ptr 0 0 0, .agg (⟨2, who, num, res, to, scope⟩ : ShelfAct).cs] (fun r H => r = .i .i64 c ∧ H = [some (boxRow s'.csO)]) := by
  have hl : s.tables.length ≤ 1048576 := h.1.1
  refine ret_ofM (nt := 92) (rvs := [.tmp 4]) Tryz.func43 rfl rfl rfl rfl (fun X hX => ?_)
  repeat' (first | exact aa | ((conv => whnf) <;> (first | (refine dt_goC [0] ?_) | refine And.intro ?_ ?_ | (intro _h; first | contradiction | (try simp only [dd] at _h)) | (refine dt_go ?_) | exact rfl | exact True.intro | exact dkk | exact dks | ((first | refine .inl ⟨_, Ret.wka (isTable_ok s h _), ?_⟩ | refine ⟨_, Ret.wka (isTable_ok s h _), ?_⟩); (try rintro _ rfl)) | (refine .inr (.inl (.inl ⟨[0], _, _, _, hC, viewA, ⟨rfl, rfl⟩, ?_⟩)); rintro _ _ ⟨rfl, rfl⟩; refine ⟨rfl, _, lokA, ?_⟩) | (refine wrap_succ ?_; omega))))
  all_goals (conv => whnf)
  all_goals exact endM_pick [0] [some (boxRow s'.csO)] (.i .i64 c) (view_of rfl (.cons rfl (.self (rowPl_box rfl)) .nil)) rfl rfl (by rw [hX]; exact keepK (n := 1) rfl rfl) ⟨rfl, rfl⟩
set_option maxHeartbeats 4000000 in
theorem act_lend (s s' : Shelf) (h : s.ok) (who num res to scope n c : Int) (z L : List Thing) (z1 : Thing) (hw : 0 ≤ who ∧ who < (s.tables.length : Int)) (hto : 0 ≤ to ∧ to < (s.tables.length : Int)) (hC : RetM env.P 87 [some (boxRow s.csO)] [.ptr 0 0 0, .i .i64 who, .i .i64 num, .i .i64 res, .i .i64 to, .i .i64 scope] (fun r H => r = .tup [.i .i64 n, .i .i64 c] ∧ H = [some (boxRow s'.csO)])) : RetM env.P 43 [some (boxRow s.csO)] [.ptr 0 0 0, .agg (⟨3, who, num, res, to, scope⟩ : ShelfAct).cs] (fun r H => r = .i .i64 c ∧ H = [some (boxRow s'.csO)]) := by
  have hl : s.tables.length ≤ 1048576 := h.1.1
  refine ret_ofM (nt := 92) (rvs := [.tmp 4]) Tryz.func43 rfl rfl rfl rfl (fun X hX => ?_)
  repeat' (first | exact aa | ((conv => whnf) <;> (first | (refine dt_goC [0] ?_) | refine And.intro ?_ ?_ | (intro _h; first | contradiction | (try simp only [dd] at _h)) | (refine dt_go ?_) | exact rfl | exact True.intro | exact dkk | exact dks | ((first | refine .inl ⟨_, Ret.wka (isTable_ok s h _), ?_⟩ | refine ⟨_, Ret.wka (isTable_ok s h _), ?_⟩); (try rintro _ rfl)) | (refine .inr (.inl (.inl ⟨[0], _, _, _, hC, viewA, ⟨rfl, rfl⟩, ?_⟩)); rintro _ _ ⟨rfl, rfl⟩; refine ⟨rfl, _, lokA, ?_⟩) | (refine wrap_succ ?_; omega))))
  all_goals (conv => whnf)
  all_goals exact endM_pick [0] [some (boxRow s'.csO)] (.i .i64 c) (view_of rfl (.cons rfl (.self (rowPl_box rfl)) .nil)) rfl rfl (by rw [hX]; exact keepK (n := 1) rfl rfl) ⟨rfl, rfl⟩
set_option maxHeartbeats 4000000 in
theorem act_drop (s s' : Shelf) (h : s.ok) (who num res to scope n c : Int) (z L : List Thing) (z1 : Thing) (hw : 0 ≤ who ∧ who < (s.tables.length : Int)) (hto : 0 ≤ to ∧ to < (s.tables.length : Int)) (hC : RetM env.P 70 [some (boxRow s.csO)] [.ptr 0 0 0, .i .i64 who, .i .i64 num] (fun r H => r = .tup [.agg z1.cs, .i .i64 c] ∧ H = [some (boxRow s'.csO)])) : RetM env.P 43 [some (boxRow s.csO)] [.ptr 0 0 0, .agg (⟨4, who, num, res, to, scope⟩ : ShelfAct).cs] (fun r H => r = .i .i64 c ∧ H = [some (boxRow s'.csO)]) := by
  have hl : s.tables.length ≤ 1048576 := h.1.1
  refine ret_ofM (nt := 92) (rvs := [.tmp 4]) Tryz.func43 rfl rfl rfl rfl (fun X hX => ?_)
  repeat' (first | exact aa | ((conv => whnf) <;> (first | (refine dt_goC [0] ?_) | refine And.intro ?_ ?_ | (intro _h; first | contradiction | (try simp only [dd] at _h)) | (refine dt_go ?_) | exact rfl | exact True.intro | exact dkk | exact dks | ((first | refine .inl ⟨_, Ret.wka (isTable_ok s h _), ?_⟩ | refine ⟨_, Ret.wka (isTable_ok s h _), ?_⟩); (try rintro _ rfl)) | (refine .inr (.inl (.inl ⟨[0], _, _, _, hC, viewA, ⟨rfl, rfl⟩, ?_⟩)); rintro _ _ ⟨rfl, rfl⟩; refine ⟨rfl, _, lokA, ?_⟩) | (refine wrap_succ ?_; omega))))
  all_goals (conv => whnf)
  all_goals exact endM_pick [0] [some (boxRow s'.csO)] (.i .i64 c) (view_of rfl (.cons rfl (.self (rowPl_box rfl)) .nil)) rfl rfl (by rw [hX]; exact keepK (n := 1) rfl rfl) ⟨rfl, rfl⟩
set_option maxHeartbeats 4000000 in
theorem act_end (s s' : Shelf) (h : s.ok) (who num res to scope n c : Int) (z L : List Thing) (z1 : Thing) (hw : 0 ≤ who ∧ who < (s.tables.length : Int)) (hto : 0 ≤ to ∧ to < (s.tables.length : Int)) (hC : RetM env.P 88 [some (boxRow s.csO)] [.ptr 0 0 0, .i .i64 scope] (fun r H => r = .tup [] ∧ H = [some (boxRow s'.csO)])) : RetM env.P 43 [some (boxRow s.csO)] [.ptr 0 0 0, .agg (⟨5, who, num, res, to, scope⟩ : ShelfAct).cs] (fun r H => r = .i .i64 0 ∧ H = [some (boxRow s'.csO)]) := by
  have hl : s.tables.length ≤ 1048576 := h.1.1
  refine ret_ofM (nt := 92) (rvs := [.tmp 4]) Tryz.func43 rfl rfl rfl rfl (fun X hX => ?_)
  repeat' (first | exact aa | ((conv => whnf) <;> (first | (refine dt_goC [0] ?_) | refine And.intro ?_ ?_ | (intro _h; first | contradiction | (try simp only [dd] at _h)) | (refine dt_go ?_) | exact rfl | exact True.intro | exact dkk | exact dks | ((first | refine .inl ⟨_, Ret.wka (isTable_ok s h _), ?_⟩ | refine ⟨_, Ret.wka (isTable_ok s h _), ?_⟩); (try rintro _ rfl)) | (refine .inr (.inl (.inl ⟨[0], _, _, _, hC, viewA, ⟨rfl, rfl⟩, ?_⟩)); rintro _ _ ⟨rfl, rfl⟩; refine ⟨rfl, _, lokA, ?_⟩) | (refine wrap_succ ?_; omega))))
  all_goals (conv => whnf)
  all_goals exact endM_pick [0] [some (boxRow s'.csO)] (.i .i64 0) (view_of rfl (.cons rfl (.self (rowPl_box rfl)) .nil)) rfl rfl (by rw [hX]; exact keepK (n := 1) rfl rfl) ⟨rfl, rfl⟩
set_option maxHeartbeats 4000000 in
theorem act_kill (s s' : Shelf) (h : s.ok) (who num res to scope n c : Int) (z L : List Thing) (z1 : Thing) (hw : 0 ≤ who ∧ who < (s.tables.length : Int)) (hto : 0 ≤ to ∧ to < (s.tables.length : Int)) (hC : RetM env.P 64 [some (boxRow s.csO)] [.ptr 0 0 0, .i .i64 who] (fun r H => r = .row 1 L.length ∧ H = [some (boxRow s'.csO), some (rowL 3 Thing.cs L)])) : RetM env.P 43 [some (boxRow s.csO)] [.ptr 0 0 0, .agg (⟨6, who, num, res, to, scope⟩ : ShelfAct).cs] (fun r H => r = .i .i64 0 ∧ H = [some (boxRow s'.csO)]) := by
  have hl : s.tables.length ≤ 1048576 := h.1.1
  refine ret_ofM (nt := 92) (rvs := [.tmp 4]) Tryz.func43 rfl rfl rfl rfl (fun X hX => ?_)
  repeat' (first | exact aa | ((conv => whnf) <;> (first | (refine dt_goC [0] ?_) | refine And.intro ?_ ?_ | (intro _h; first | contradiction | (try simp only [dd] at _h)) | (refine dt_go ?_) | exact rfl | exact True.intro | exact dkk | exact dks | ((first | refine .inl ⟨_, Ret.wka (isTable_ok s h _), ?_⟩ | refine ⟨_, Ret.wka (isTable_ok s h _), ?_⟩); (try rintro _ rfl)) | (refine .inr (.inl (.inl ⟨[0], _, _, _, hC, viewA, ⟨rfl, rfl⟩, ?_⟩)); rintro _ _ ⟨rfl, rfl⟩; refine ⟨rfl, _, lokA, ?_⟩) | (refine wrap_succ ?_; omega))))
  all_goals (conv => whnf)
  all_goals exact endM_pick [0] [some (boxRow s'.csO)] (.i .i64 0) (view_of rfl (.cons rfl (.self (rowPl_box rfl)) .nil)) rfl rfl (by rw [hX]; exact keepK (n := 1) rfl rfl) ⟨rfl, rfl⟩
set_option maxHeartbeats 4000000 in
theorem act_out (s : Shelf) (h : s.ok) (a : ShelfAct) (ho : ¬ ((0 ≤ a.who ∧ a.who < (s.tables.length : Int)) ∧ (0 ≤ a.to ∧ a.to < (s.tables.length : Int)))) : RetM env.P 43 [some (boxRow s.csO)] [.ptr 0 0 0, .agg a.cs] (fun r H => r = .i .i64 2 ∧ H = [some (boxRow s.csO)]) := by
  have hl : s.tables.length ≤ 1048576 := h.1.1
  refine ret_ofM (nt := 92) (rvs := [.tmp 4]) Tryz.func43 rfl rfl rfl rfl (fun X hX => ?_)
  repeat' (first | exact aa | ((conv => whnf) <;> (first | refine And.intro ?_ ?_ | (intro _h; first | contradiction | (try simp only [dd] at _h)) | (refine dt_go ?_) | exact rfl | exact True.intro | exact dkk | exact dks | ((first | refine .inl ⟨_, Ret.wka (isTable_ok s h _), ?_⟩ | refine ⟨_, Ret.wka (isTable_ok s h _), ?_⟩); (try rintro _ rfl)) | (refine wrap_succ ?_; omega))))
  all_goals first
    | (exfalso; exact ho ⟨Classical.not_not.1 ‹_›, Classical.not_not.1 ‹_›⟩)
    | (exfalso; exact ho ⟨‹_›, ‹_›⟩)
    | skip
  all_goals (conv => whnf)
  all_goals exact endM_pick [0] [some (boxRow s.csO)] (.i .i64 2) (view_of rfl (.cons rfl (.self (rowPl_box rfl)) .nil)) rfl rfl (by rw [hX]; exact keepK (n := 1) rfl rfl) ⟨rfl, rfl⟩
theorem thing_qx {s : Shelf} (hg : s.good) {who num : Int} {x : Entry} (hx : s.at_ who num = some x) : ∃ qx, s.thing x.id = some qx ∧ qx < s.things.length ∧ lastX x.id s.things = s.things.getD qx default ∧ cutX x.id s.things = s.things.eraseIdx qx := by
  obtain ⟨qx, h1, h2⟩ := thing_some hg hx
  obtain ⟨h3, h4, _⟩ := cutX_erase (good_uniqX hg.2.2.1) (show s.things.findIdx? (idP x.id) = some qx from h1)
  exact ⟨qx, h1, h2, h4, h3⟩
abbrev ActC (g : FuncId) (s s' : Shelf) (av : List AV) (r0 : AV) (L : Hp) : Prop := RetM env.P g [some (boxRow s.csO)] (.ptr 0 0 0 :: av) (fun r H => r = r0 ∧ H = some (boxRow s'.csO) :: L)
section
variable {s : Shelf} (h : s.ok) (hg : s.good) {who num res to scope : Int} (hw : 0 ≤ who ∧ who < (s.tables.length : Int)) (hto : 0 ≤ to ∧ to < (s.tables.length : Int))
include h hg hw
theorem make_both (hr : 1 ≤ res ∧ res ≤ 8) : ∃ s' n c, s'.ok ∧ s'.good ∧ ActC 95 s s' [.i .i64 who, .i .i64 res, .i .i64 s.next] (.tup [.i .i64 n, .i .i64 c]) [] ∧ ActC 85 s s' [.i .i64 who, .i .i64 res, .i .i64 s.next] (.tup [.i .i64 n, .i .i64 c]) [] := by
  have ht := tab_good hg hw
  by_cases hf : s.noMake who.toNat
  · exact ⟨s, 0, 4, h, hg, l19Make_err s h who res s.next hw hf, make_err s h who res s.next hw ht.1 ht.2.2 hg.2.2.1.2 hg.1.2 hf⟩
  · have f1 : s.things.length < 24 := Nat.lt_of_not_le fun q => hf (.inl q)
    have f2 : s.next < 1000000 := Int.lt_of_not_ge fun q => hf (.inr (.inl q))
    have f3 : ¬ s.fullB who.toNat := fun q => hf (.inr (.inr q))
    have hn := hg.1.1
    exact ⟨s.made who.toNat res s.next, _, 0, made_ok h f1 ht.1, made_good hg (by omega) f1 f2 f3 hr ⟨by omega, by omega⟩, l19Make_fine s h who res s.next hw (by omega) ht.2.1 hf, make_fine s h who res s.next hw ht.1 ht.2.2 hg.2.2.1.2 hg.1.2 (by omega) ht.2.1 hf⟩
include hto
theorem move_both : ∃ s' n c, s'.ok ∧ s'.good ∧ ActC 96 s s' [.i .i64 who, .i .i64 num, .i .i64 res, .i .i64 to] (.tup [.i .i64 n, .i .i64 c]) [] ∧ ActC 86 s s' [.i .i64 who, .i .i64 num, .i .i64 res, .i .i64 to] (.tup [.i .i64 n, .i .i64 c]) [] := by
  cases hE : s.typ who num res with
  | none => exact ⟨s, 0, 11, h, hg, l19Move_none s h who num res to hg hw hto hE, move_none s h who num res to hg hw hto hE⟩
  | some e =>
    rcases at_cases s hw (num := num) with ⟨q, hq, hlt, hA⟩ | hA
    · have hr : (s.thingOf ((s.tables.getD who.toNat default).entries.getD q default)).res = res := by
        refine Classical.byContradiction fun hr => ?_
        rw [typ_not hA hr] at hE
        cases hE
      have hle : 0 ≤ ((s.tables.getD who.toNat default).entries.getD q default).lends := ((hg.2.2.2.1 who.toNat (by omega)).1 q hlt).2.2
      cases ho : ((s.tables.getD who.toNat default).entries.getD q default).own with
      | false => exact ⟨s, 0, 11, h, hg, l19Move_own s h who num res to hg hw hto q hq hr ho, move_own s h who num res to hg hw hto q hq hr ho⟩
      | true =>
        by_cases hl0 : ((s.tables.getD who.toNat default).entries.getD q default).lends = 0
        · by_cases hf : s.fullB to.toNat
          · exact ⟨s, 0, 4, h, hg, l19Move_full s h who num res to hg hw hto q hq hr ho hl0 hf, move_full s h who num res to hg hw hto q hq hr ho hl0 hf⟩
          · exact ⟨s.movedTo who num q to.toNat, _, 0, put_ok (cut_ok h) _ (Nat.le_trans cut_at.1 (tab_good hg hto).1), moved_good hg (by omega) (by omega) hlt (find_lt hq).2 ho hl0 hf, l19Move_fine s h who num res to hg hw hto q hq hr ho hl0 hf, move_fine s h who num res to hg hw hto q hq hr ho hl0 hf⟩
        · exact ⟨s, 0, 12, h, hg, l19Move_lent s h who num res to hg hw hto q hq hr ho (by omega), move_lent s h who num res to hg hw hto q hq hr ho hl0⟩
    · rw [typ_none hA] at hE
      cases hE
theorem lend_both (hsc : 1 ≤ scope ∧ scope ≤ 1000000) : ∃ s' n c, s'.ok ∧ s'.good ∧ ActC 97 s s' [.i .i64 who, .i .i64 num, .i .i64 res, .i .i64 to, .i .i64 scope] (.tup [.i .i64 n, .i .i64 c]) [] ∧ ActC 87 s s' [.i .i64 who, .i .i64 num, .i .i64 res, .i .i64 to, .i .i64 scope] (.tup [.i .i64 n, .i .i64 c]) [] := by
  cases hE : s.typ who num res with
  | none => exact ⟨s, 0, 11, h, hg, l19Lend_none s h who num res to scope hg hw hto hE, lend_none s h who num res to scope hg hw hto hE⟩
  | some e =>
    rcases at_cases s hw (num := num) with ⟨q, hq, hlt, hA⟩ | hA
    · have hr : (s.thingOf ((s.tables.getD who.toNat default).entries.getD q default)).res = res := by
        refine Classical.byContradiction fun hr => ?_
        rw [typ_not hA hr] at hE
        cases hE
      by_cases hf : s.fullB to.toNat
      · exact ⟨s, 0, 4, h, hg, l19Lend_full s h who num res to scope hg hw hto q hq hr hf, lend_full s h who num res to scope hg hw hto q hq hr hf⟩
      · have hl12 := (tab_good hg hto).1
        exact ⟨s.lentTo who num q to.toNat scope, _, 0, put_ok (setL_ok h) _ (by rw [setL_at.1]; exact hl12), lent_good hg hw (by omega) hlt (find_lt hq).2 hsc hf, l19Lend_fine s h who num res to scope hg hw hto q hq hr hf, lend_fine s h who num res to scope hg hw hto q hq hr hf⟩
    · rw [typ_none hA] at hE
      cases hE
omit hto
theorem drop_both : ∃ s' x c, s'.ok ∧ s'.good ∧ ActC 72 s s' [.i .i64 who, .i .i64 num] (.tup [.agg (Thing.cs x), .i .i64 c]) [] ∧ ActC 70 s s' [.i .i64 who, .i .i64 num] (.tup [.agg x.cs, .i .i64 c]) [] := by
  rcases at_cases s hw (num := num) with ⟨q, hq, hlt, hA⟩ | hA
  · have hle : 0 ≤ ((s.tables.getD who.toNat default).entries.getD q default).lends := ((hg.2.2.2.1 who.toNat (by omega)).1 q hlt).2.2
    have hmem : (s.tables.getD who.toNat default).entries.getD q default ∈ s.en who.toNat := getD_mem hlt
    have hnum : ((s.tables.getD who.toNat default).entries.getD q default).num = num := (find_lt hq).2
    have hw2 : who.toNat < s.tables.length := by omega
    generalize hE : (s.tables.getD who.toNat default).entries.getD q default = e at *
    obtain ⟨n, i, ow, ld, sc, fr, fn⟩ := e
    dsimp only at hle hnum
    subst hnum
    by_cases hl0 : ld = 0
    · cases ow with
      | true =>
        obtain ⟨qx, x1, x2, x3, x4⟩ := thing_qx hg hA
        have e1 : (s.cut who.toNat n).cutT i = ⟨s.next, (s.cut who.toNat n).tables, s.things.eraseIdx qx⟩ := by
          unfold Shelf.cutT
          rw [show (s.cut who.toNat n).things = s.things from rfl, x4]
          rfl
        have h1 := l19Drop_own s h who n hg hw _ _ _ _ _ _ hA (by omega)
        have h2 := drop_own s h who n hg hw q hq (by rw [hE]) (by rw [hE]; exact hl0) qx (by rw [hE]; exact x1) x2
        have h3 := dropped_good hg hw2 hmem rfl hl0
        rw [x3, e1] at h1
        dsimp only at h3
        rw [e1] at h3
        exact ⟨⟨s.next, (s.cut who.toNat n).tables, s.things.eraseIdx qx⟩, s.things.getD qx default, 0, ⟨(cut_ok h).1, by rw [List.length_eraseIdx_of_lt x2]; exact Nat.le_trans (Nat.sub_le _ _) h.2.1, fun _ _ => trivial⟩, h3, h1, h2⟩
      | false =>
        obtain ⟨⟨x, hx⟩, hne⟩ := orig_some hg hA rfl
        have hx' : (s.cut who.toNat n).at_ fr fn = some x := by rw [cut_at_other (by omega) hne]; exact hx
        obtain ⟨hf, p, hp, _⟩ := at_posD hx'
        have hf' : 0 ≤ fr ∧ fr < (s.tables.length : Int) := by rw [show (s.cut who.toNat n).tables.length = s.tables.length from setE_len] at hf; exact hf
        have h1 := l19Drop_borS s h who n hg hw n i ld sc fr fn hA (by omega) hf' p hp
        have h2 := drop_bor s h who n hg hw q hq (by rw [hE]) (by rw [hE]; exact hl0) (by rw [hE]; exact hf') p (by rw [hE]; exact hp)
        rw [hE] at h2
        exact ⟨_, ⟨0, 0, 0⟩, 0, setL_ok (cut_ok h), unlent_good hg hw2 hmem rfl hl0 (f := fr.toNat) (show fr = (fr.toNat : Int) by omega) (by omega) (find_lt hp).1 (find_lt hp).2, h1, h2⟩
    · exact ⟨s, ⟨0, 0, 0⟩, 12, h, hg, l19Drop_lent s h who n hg hw _ _ _ _ _ _ _ hA (by omega), drop_lent s h who n hg hw q hq (by rw [hE]; exact hl0)⟩
  · exact ⟨s, ⟨0, 0, 0⟩, 11, h, hg, l19Drop_none s h who num hg hw hA, drop_none s h who num hg hw hA⟩
theorem kill_both : ActC 61 s (s.killed who.toNat) [.i .i64 who] (.row 1 (s.dead who.toNat).length) [some (rowL 3 Thing.cs (s.dead who.toNat))] ∧ ActC 64 s (s.killed who.toNat) [.i .i64 who] (.row 1 (s.dead who.toNat).length) [some (rowL 3 Thing.cs (s.dead who.toNat))] :=
  ⟨l19Kill_good s h hg who hw, kill_ok s h hg who hw⟩
omit hw
theorem end_both : ∃ s', s'.ok ∧ s'.good ∧ ActC 98 s s' [.i .i64 scope] (.tup []) [] ∧ ActC 88 s s' [.i .i64 scope] (.tup []) [] := by
  have h1 := l19End_ok s h hg scope _ (l19Loose_ok s h hg.tidy (scK scope))
  rw [until_zero] at h1
  exact ⟨_, lendU_ok (keep_ok h), end_good hg (K0 := scK scope) fun i e ho => scK_own ho, h1, endScope_ok s h hg scope⟩
theorem act_both (a : ShelfAct) (ha : a.fine = true) : ∃ s' c c', s'.ok ∧ s'.good ∧ (c = 0 ↔ c' = 0) ∧ ActC 47 s s' [.agg a.cs] (.i .i64 c) [] ∧ ActC 43 s s' [.agg a.cs] (.i .i64 c') [] := by
  by_cases ho : (0 ≤ a.who ∧ a.who < (s.tables.length : Int)) ∧ (0 ≤ a.to ∧ a.to < (s.tables.length : Int))
  · obtain ⟨hw, hto⟩ := ho
    obtain ⟨k, who, num, res, to, scope⟩ := a
    dsimp only at hw hto
    unfold ShelfAct.fine at ha
    rw [decide_eq_true_eq] at ha
    obtain ⟨-, -, ha⟩ := ha
    dsimp only at ha
    split at ha
    · rename_i e; subst e
      obtain ⟨s', n, c, h1, h2, h3, h4⟩ := make_both h hg hw ha.1
      exact ⟨s', c, c, h1, h2, Iff.rfl, do_make s s' h who num res to scope n c [] [] default hw hto h3, act_make s s' h who num res to scope n c [] [] default hw hto h4⟩
    split at ha
    · rename_i e; subst e
      obtain ⟨s', n, c, h1, h2, h3, h4⟩ := move_both h hg hw hto (num := num) (res := res)
      exact ⟨s', c, c, h1, h2, Iff.rfl, do_move s s' h who num res to scope n c [] [] default hw hto h3, act_move s s' h who num res to scope n c [] [] default hw hto h4⟩
    split at ha
    · rename_i e; subst e
      obtain ⟨s', n, c, h1, h2, h3, h4⟩ := lend_both h hg hw hto (num := num) (res := res) ha.2.2
      exact ⟨s', c, c, h1, h2, Iff.rfl, do_lend s s' h who num res to scope n c [] [] default hw hto h3, act_lend s s' h who num res to scope n c [] [] default hw hto h4⟩
    split at ha
    · rename_i e; subst e
      obtain ⟨s', x, c, h1, h2, h3, h4⟩ := drop_both h hg hw (num := num)
      exact ⟨s', c, c, h1, h2, Iff.rfl, do_drop s s' h who num res to scope 0 c [] [] x hw hto h3, act_drop s s' h who num res to scope 0 c [] [] x hw hto h4⟩
    split at ha
    · rename_i e; subst e
      obtain ⟨s', h1, h2, h3, h4⟩ := end_both h hg (scope := scope)
      exact ⟨s', 0, 0, h1, h2, Iff.rfl, do_end s s' h who num res to scope 0 0 [] [] default hw hto h3, act_end s s' h who num res to scope 0 0 [] [] default hw hto h4⟩
    split at ha
    · rename_i e; subst e
      obtain ⟨h3, h4⟩ := kill_both h hg hw
      exact ⟨s.killed who.toNat, 0, 0, lendU_ok (keep_ok (bared_ok h)), killed_good hg (by omega), Iff.rfl, do_kill s _ h who num res to scope 0 0 [] _ default hw hto h3, act_kill s _ h who num res to scope 0 0 [] _ default hw hto h4⟩
    · cases ha
  · exact ⟨s, 1, 2, h, hg, ⟨fun q => (by cases q), fun q => (by cases q)⟩, do_out s h a ho, act_out s h a ho⟩
end
structure StepF (F : Shelf → ShelfAct → Shelf × Int × Int) : Prop where
  h : ∀ s a, s.ok → s.good → a.fine = true → (F s a).1.ok ∧ (F s a).1.good ∧ ((F s a).2.1 = 0 ↔ (F s a).2.2 = 0) ∧ ActC 47 s (F s a).1 [.agg a.cs] (.i .i64 (F s a).2.1) [] ∧ ActC 43 s (F s a).1 [.agg a.cs] (.i .i64 (F s a).2.2) []
theorem step_is : ∃ F, StepF F := by
  have h : ∀ s a, ∃ p : Shelf × Int × Int, s.ok → s.good → ShelfAct.fine a = true → p.1.ok ∧ p.1.good ∧ (p.2.1 = 0 ↔ p.2.2 = 0) ∧ ActC 47 s p.1 [.agg a.cs] (.i .i64 p.2.1) [] ∧ ActC 43 s p.1 [.agg a.cs] (.i .i64 p.2.2) [] := fun s a => by
    by_cases q : s.ok ∧ s.good ∧ a.fine = true
    · obtain ⟨s', c, c', h1, h2, h3, h4, h5⟩ := act_both q.1 q.2.1 a q.2.2
      exact ⟨(s', c, c'), fun _ _ _ => ⟨h1, h2, h3, h4, h5⟩⟩
    · exact ⟨(s, 0, 0), fun q1 q2 q3 => absurd ⟨q1, q2, q3⟩ q⟩
  exact ⟨fun s a => Classical.choose (h s a), ⟨fun s a => Classical.choose_spec (h s a)⟩⟩
def playK (F : Shelf → ShelfAct → Shelf × Int × Int) (s : Shelf) (l : List ShelfAct) : Nat → Shelf × Nat
  | 0 => (s, 0)
  | k + 1 => ((F (playK F s l k).1 (l.getD k default)).1, if (F (playK F s l k).1 (l.getD k default)).2.1 = 0 then (playK F s l k).2 + 1 else (playK F s l k).2)
theorem all_fine {l : List ShelfAct} (h : l.all ShelfAct.fine = true) {k : Nat} (hk : k < l.length) : (l.getD k default).fine = true := List.all_eq_true.1 h _ (getD_mem hk)
theorem play_ok {F : Shelf → ShelfAct → Shelf × Int × Int} (hF : StepF F) {s : Shelf} (h : s.ok) (hg : s.good) {l : List ShelfAct} (hl : l.all ShelfAct.fine = true) : ∀ {k : Nat}, k ≤ l.length → (playK F s l k).1.ok ∧ (playK F s l k).1.good ∧ (playK F s l k).2 ≤ k
  | 0, _ => ⟨h, hg, Nat.le_refl _⟩
  | k + 1, hk => by
    obtain ⟨h1, h2, h3⟩ := play_ok hF h hg hl (Nat.le_of_succ_le hk)
    obtain ⟨q1, q2, _⟩ := hF.h _ _ h1 h2 (all_fine hl hk)
    refine ⟨q1, q2, ?_⟩
    unfold playK
    dsimp only
    split
    · exact Nat.succ_le_succ h3
    · exact Nat.le_succ_of_le h3
def Shelf.playS (s : Shelf) (l : List ShelfAct) : Prop := s.sGood ∧ l.length ≤ 60 ∧ l.all ShelfAct.fine = true
theorem playS_iff {s : Shelf} {l : List ShelfAct} : s.playS l ↔ (s.good ∧ l.length ≤ 60 ∧ l.all ShelfAct.fine = true) := by
  unfold Shelf.playS
  rw [good_iff]
structure FineTo (l : List ShelfAct) (k : Nat) : Prop where
  le : k ≤ l.length
  h : ∀ j, j < k → (l.getD j default).fine = true
theorem FineTo.zero (l : List ShelfAct) : FineTo l 0 := ⟨Nat.zero_le _, fun j hj => absurd hj (Nat.not_lt_zero _)⟩
theorem FineTo.succ {l : List ShelfAct} {k : Nat} (h : FineTo l k) (hk : k < l.length) (hf : (l.getD k default).fine = true) : FineTo l (k + 1) := ⟨hk, fun j hj => by
  rcases Nat.lt_or_eq_of_le (Nat.le_of_lt_succ hj) with q | rfl
  · exact h.h j q
  · exact hf⟩
theorem FineTo.all {l : List ShelfAct} {k : Nat} (h : FineTo l k) (hk : ¬ k < l.length) : l.all ShelfAct.fine = true := List.all_eq_true.2 fun a ha => by
  obtain ⟨j, hj, rfl⟩ := List.getElem_of_mem ha
  have := h.h j (by omega)
  rwa [List.getD_eq_getElem?_getD, List.getElem?_eq_getElem hj] at this
set_option maxHeartbeats 4000000 in
theorem play_spec1 (s : Shelf) (l : List ShelfAct) (h : s.ok) (hl : l.length ≤ 1048576) (hn : ¬ s.playS l) : RetM env.P 10 [] [.agg s.cs, slL 6 ShelfAct.cs l] (fun r H => r = .tup [.agg [.i .i64 0, .nils, .nils], .i .i64 0, .i .i64 1] ∧ H = []) := by
  refine ret_ofM (nt := 49) (rvs := [.cell 4 27, .tmp 5, .tmp 6]) Tryz.func10 rfl rfl rfl rfl (fun X hX => ?_)
  repeat' (first | exact aa | ((conv => whnf) <;> (first | (refine loopTF 7 (fun k : Nat => [(7, .i .i64 k)]) (fun k => []) (fun k => FineTo l k) (fun k => l.length - k) 0 rfl ⟨.zero l, ?_⟩) | refine And.intro ?_ ?_ | (intro _h; first | contradiction | (try simp only [dd] at _h)) | (refine dt_go ?_) | exact rfl | exact True.intro | exact dkk | exact dks | ((first | refine .inl ⟨_, Ret.wka (l19Ok_ok s h), ?_⟩ | refine ⟨_, Ret.wka (l19Ok_ok s h), ?_⟩); (try rintro _ rfl)) | ((first | refine .inl ⟨_, shelfActOk_spec _, ?_⟩ | refine ⟨_, shelfActOk_spec _, ?_⟩); (try rintro _ rfl)) | (refine wrap_succ ?_; omega))))
  · conv => whnf
    exact endM_pick [] [] (.tup [.agg [.i .i64 0, .nils, .nils], .i .i64 0, .i .i64 1]) (view_of rfl .nil) rfl rfl (fun k hk => by rw [hX] at hk; exact absurd hk (Nat.not_lt_zero _)) ⟨rfl, rfl⟩
  · conv => whnf
    exact endM_pick [] [] (.tup [.agg [.i .i64 0, .nils, .nils], .i .i64 0, .i .i64 1]) (view_of rfl .nil) rfl rfl (fun k hk => by rw [hX] at hk; exact absurd hk (Nat.not_lt_zero _)) ⟨rfl, rfl⟩
  · rename_i k hI hlt
    have hk : k < l.length := Int.ofNat_lt.1 hlt
    have hf : (l.getD k default).fine = true := by simpa using _h
    conv => whnf
    refine roundET_end ?_
    refine ⟨k + 1, [], hI.succ hk hf, (show l.length - (k + 1) < l.length - k by omega), ?_⟩
    repeat' (first | exact aa | ((conv => whnf) <;> (first | refine And.intro ?_ ?_ | (intro _h; first | contradiction | (try simp only [dd] at _h)) | (refine dt_go ?_) | exact rfl | exact True.intro | exact dkk | exact dks | (refine wrap_succ ?_; omega))))
  · rename_i k hI
    exact absurd ⟨Classical.not_not.1 ‹¬ ¬ s.sGood›, by omega, hI.all (fun q => _h (Int.ofNat_lt.2 q))⟩ hn
  · conv => whnf
    exact endM_pick [] [] (.tup [.agg [.i .i64 0, .nils, .nils], .i .i64 0, .i .i64 1]) (view_of rfl .nil) rfl rfl (fun k hk => by rw [hX] at hk; exact absurd hk (Nat.not_lt_zero _)) ⟨rfl, rfl⟩
set_option maxHeartbeats 4000000 in
theorem play_specF {F : Shelf → ShelfAct → Shelf × Int × Int} (hF : StepF F) (s : Shelf) (l : List ShelfAct) (h : s.ok) (hm : s.playS l) : RetM env.P 10 [] [.agg s.cs, slL 6 ShelfAct.cs l] (fun r H => r = .tup [.agg (playK F s l l.length).1.resO, .i .i64 ((playK F s l l.length).2 : Nat), .i .i64 0] ∧ H = (playK F s l l.length).1.rowsO) := by
  obtain ⟨hg, hl, hf⟩ := playS_iff.1 hm
  have h1 : 1 ≤ s.tables.length := hg.2.1.1
  have m1 := hm.1
  have hstep : ∀ k, k < l.length → ActC 47 (playK F s l k).1 (playK F s l (k + 1)).1 [.agg (l.getD k default).cs] (.i .i64 (F (playK F s l k).1 (l.getD k default)).2.1) [] := fun k hk => by
    have q := play_ok hF h hg hf (Nat.le_of_lt hk)
    exact (hF.h _ _ q.1 q.2.1 (all_fine hf hk)).2.2.2.1
  refine ret_ofM (nt := 49) (rvs := [.cell 4 27, .tmp 5, .tmp 6]) Tryz.func10 rfl rfl rfl rfl (fun X hX => ?_)
  repeat' (first | exact aa | ((conv => whnf) <;> (first | (refine loopTF 7 (fun k : Nat => [(7, .i .i64 k)]) (fun k => []) (fun k => FineTo l k) (fun k => l.length - k) 0 rfl ⟨.zero l, ?_⟩) | (refine lw_turn _ (turn_close (id := 4) (i := 0) (j := 1) (id' := 2) rfl (show 0 < 1 by decide) (show 1 < 3 by decide) rfl rfl (show 4 ≠ 2 by decide) rfl (rowO_le (Nat.le_refl _))) ?_; refine lw_turn _ (turn_close (id := 4) (i := 0) (j := 2) (id' := 3) rfl (show 0 < 1 by decide) (show 2 < 3 by decide) rfl rfl (show 4 ≠ 3 by decide) rfl (rowO_le (Nat.le_refl _))) ?_; refine lw_turn _ (turn_box (id := 4) (ds := (playK F s l 0).1.csO) rfl rfl rfl (.cons (.refl _) (.cons (.refl _) (.cons (.refl _) .nil)))) ?_; refine loopTF 10 (fun k : Nat => [(10, .i .i64 k), (9, .i .i64 ((playK F s l k).2 : Nat))]) (fun k => [none, none, none, none, some (.box (playK F s l k).1.csO)]) (fun k => k ≤ l.length) (fun k => l.length - k) 0 rfl ⟨Nat.zero_le _, ?_⟩) | refine And.intro ?_ ?_ | (intro _h; first | contradiction | (try simp only [dd] at _h)) | (refine dt_go ?_) | exact rfl | exact True.intro | exact dkk | exact dks | ((first | refine .inl ⟨_, Ret.wka (l19Ok_ok s h), ?_⟩ | refine ⟨_, Ret.wka (l19Ok_ok s h), ?_⟩); (try rintro _ rfl)) | ((first | refine .inl ⟨_, shelfActOk_spec _, ?_⟩ | refine ⟨_, shelfActOk_spec _, ?_⟩); (try rintro _ rfl)) | (refine .inr (.inl (.inr ⟨_, RetM.wka (l19Own_ok s h h1), ?_⟩)); rintro _ _ ⟨rfl, rfl⟩; refine ⟨⟨rfl, nssA⟩, _, lokA, ?_⟩) | (refine .inr (.inl (.inl ⟨[4], _, _, _, hstep _ (by omega), viewA, ⟨rfl, rfl⟩, ?_⟩)); rintro _ _ ⟨rfl, rfl⟩; refine ⟨rfl, _, lokA, ?_⟩) | (refine wrap_succ ?_; omega))))
  · rename_i k hI hlt
    rw [show (l.getD ((k : Nat) : Int).toNat default).fine = true from all_fine hf (Int.ofNat_lt.1 hlt)] at _h
    cases _h
  · rename_i k hI hlt
    have hk : k < l.length := Int.ofNat_lt.1 hlt
    have hf : (l.getD k default).fine = true := by simpa using _h
    conv => whnf
    refine roundET_end ?_
    refine ⟨k + 1, [], hI.succ hk hf, (show l.length - (k + 1) < l.length - k by omega), ?_⟩
    repeat' (first | exact aa | ((conv => whnf) <;> (first | refine And.intro ?_ ?_ | (intro _h; first | contradiction | (try simp only [dd] at _h)) | (refine dt_go ?_) | exact rfl | exact True.intro | exact dkk | exact dks | (refine wrap_succ ?_; omega))))
  · rename_i k hI hlt
    have hk : k < l.length := Int.ofNat_lt.1 hlt
    have he : (playK F s l (k + 1)).2 = (playK F s l k).2 + 1 := if_pos _h
    have hq := (play_ok hF h hg hf (Nat.le_of_lt hk)).2.2
    conv => whnf
    refine roundET_end ?_
    refine ⟨k + 1, [], hk, (show l.length - (k + 1) < l.length - k by omega), ?_⟩
    repeat' (first | exact aa | ((conv => whnf) <;> (first | exact (wrap_succ (by omega)).trans (congrArg _ he.symm) | refine And.intro ?_ ?_ | (intro _h; first | contradiction | (try simp only [dd] at _h)) | (refine dt_go ?_) | exact rfl | exact True.intro | exact dkk | exact dks | (refine wrap_succ ?_; omega))))
  · rename_i k hI hlt
    have hk : k < l.length := Int.ofNat_lt.1 hlt
    have he : (playK F s l (k + 1)).2 = (playK F s l k).2 := if_neg _h
    conv => whnf
    refine roundET_end ?_
    refine ⟨k + 1, [], hk, (show l.length - (k + 1) < l.length - k by omega), ?_⟩
    repeat' (first | exact aa | ((conv => whnf) <;> (first | exact congrArg _ he.symm | refine And.intro ?_ ?_ | (intro _h; first | contradiction | (try simp only [dd] at _h)) | (refine dt_go ?_) | exact rfl | exact True.intro | exact dkk | exact dks | (refine wrap_succ ?_; omega))))
  · rename_i k hI
    obtain rfl : k = l.length := by omega
    conv => whnf
    exact endM_pick [5, 6] (playK F s l l.length).1.rowsO (.tup [.agg (playK F s l l.length).1.resO, .i .i64 ((playK F s l l.length).2 : Nat), .i .i64 0]) (view_of rfl (.cons rfl (.self (rowPl_L fun _ => rfl)) (.cons rfl (.self (rowPl_L fun _ => rfl)) .nil))) rfl rfl (fun k hk => by rw [hX] at hk; exact absurd hk (Nat.not_lt_zero _)) ⟨rfl, rfl⟩
  · exact absurd m1 _h
theorem play1_ok (a : ShelfAct) : Ret env.P 40 [.agg a.cs] (fun r => r = .b (!a.fine)) := by
  refine ret_of (nt := 6) (rvs := [.tmp 2]) Tryz.func40 rfl rfl rfl rfl (fun X => ?_)
  repeat' (first | exact aa | ((conv => whnf) <;> (first | refine And.intro ?_ ?_ | (intro _h; first | contradiction | (try simp only [dd] at _h)) | (refine dt_go ?_) | exact rfl | exact True.intro | exact dkk | exact dks | ((first | refine .inl ⟨_, shelfActOk_impl _, ?_⟩ | refine ⟨_, shelfActOk_impl _, ?_⟩); (try rintro _ rfl)) | (refine wrap_succ ?_; omega))))
  all_goals exact rfl
theorem indexFuncShelfAct_ok (l : List ShelfAct) (g : Nat) {fv} (hg : env.F.get g = some fv) (p : ShelfAct → Bool) (hl : l.length ≤ 1048576) (hp : ∀ k, k < l.length → Ret env.P g (.agg (ShelfAct.cs (l.getD k default)) :: []) (fun r => r = .b (p (l.getD k default)))) :
    Ret env.P 80 [slL 6 ShelfAct.cs l, .fn g []] (fun r => r = .i .i64 (idxI (l.findIdx? p))) := by
  refine ret_of (nt := 19) (rvs := [.tmp 4]) Tryz.func80 rfl rfl rfl rfl (fun X => ?_)
  repeat' (first | exact aa | ((conv => whnf) <;> (first | rw [hg] | exact upto_succ (by assumption) (by assumption) | refine loopN l.length (fun k => [(8, .i .i64 k)]) (fun k => []) (fun k => ∀ j, j < k → p (l.getD j default) = false) ⟨fun _ h => by omega, ?_⟩ | refine And.intro ?_ ?_ | (intro _h; first | contradiction | (try simp only [dd] at _h)) | (refine dt_go ?_) | exact rfl | exact True.intro | exact dkk | exact dks | ((first | refine .inl ⟨_, hp _ (by omega), ?_⟩ | refine ⟨_, hp _ (by omega), ?_⟩); (try rintro _ rfl)) | (refine wrap_succ ?_; omega))))
  · exact leaf_i (idx_some (by omega) (by assumption) (by assumption))
  · exact leaf_i (idx_none fun j hj => by have := ‹∀ j, j < _ → p (l.getD j default) = false›; exact this j (by omega))
theorem containsFuncShelfAct_ok (l : List ShelfAct) (g : Nat) {fv} (hg : env.F.get g = some fv) (p : ShelfAct → Bool) (hl : l.length ≤ 1048576) (hp : ∀ k, k < l.length → Ret env.P g (.agg (ShelfAct.cs (l.getD k default)) :: []) (fun r => r = .b (p (l.getD k default)))) :
    Ret env.P 39 [slL 6 ShelfAct.cs l, .fn g []] (fun r => r = .b (l.any p)) := by
  refine ret_of (nt := 9) (rvs := [.tmp 4]) Tryz.func39 rfl rfl rfl rfl (fun X => ?_)
  repeat' (first | exact aa | ((conv => whnf) <;> (first | refine And.intro ?_ ?_ | (intro _h; first | contradiction | (try simp only [dd] at _h)) | (refine dt_go ?_) | exact rfl | exact True.intro | exact dkk | exact dks | ((first | refine .inl ⟨_, indexFuncShelfAct_ok l g hg p hl hp, ?_⟩ | refine ⟨_, indexFuncShelfAct_ok l g hg p hl hp, ?_⟩); (try rintro _ rfl)) | (refine wrap_succ ?_; omega))))
  all_goals exact leaf_b (idx_any _ _)
set_option maxHeartbeats 4000000 in
theorem play_impl1 (s : Shelf) (l : List ShelfAct) (h : s.ok) (hl0 : l.length ≤ 1048576) (hn : ¬ (s.good ∧ l.length ≤ 60 ∧ l.all ShelfAct.fine = true)) : RetM env.P 9 [] [.agg s.cs, slL 6 ShelfAct.cs l] (fun r H => r = .tup [.agg [.i .i64 0, .nils, .nils], .i .i64 0, .i .i64 1] ∧ H = []) := by
  have hany : (l.any fun a => !a.fine) = !(l.all ShelfAct.fine) := by rw [List.not_all_eq_any_not]
  refine ret_ofM (nt := 44) (rvs := [.cell 4 27, .tmp 5, .tmp 6]) Tryz.func9 rfl rfl rfl rfl (fun X hX => ?_)
  repeat' (first | exact aa | ((conv => whnf) <;> (first | refine And.intro ?_ ?_ | (intro _h; first | contradiction | (try simp only [dd] at _h)) | (refine dt_go ?_) | exact rfl | exact True.intro | exact dkk | exact dks | ((first | refine .inl ⟨_, shelfOk_ok s h, ?_⟩ | refine ⟨_, shelfOk_ok s h, ?_⟩); (try rintro _ rfl)) | ((first | refine .inl ⟨_, Ret.wka (containsFuncShelfAct_ok l 40 rfl (fun a => !a.fine) hl0 (fun k hk => play1_ok _)), ?_⟩ | refine ⟨_, Ret.wka (containsFuncShelfAct_ok l 40 rfl (fun a => !a.fine) hl0 (fun k hk => play1_ok _)), ?_⟩); (try rintro _ rfl)) | (refine wrap_succ ?_; omega))))
  · conv => whnf
    exact endM_pick [] [] (.tup [.agg [.i .i64 0, .nils, .nils], .i .i64 0, .i .i64 1]) (view_of rfl .nil) rfl rfl (fun k hk => by rw [hX] at hk; exact absurd hk (Nat.not_lt_zero _)) ⟨rfl, rfl⟩
  · refine absurd ⟨Classical.not_not.1 ‹¬ ¬ s.good›, by omega, ?_⟩ hn
    rw [hany] at _h
    simpa using _h
  · conv => whnf
    exact endM_pick [] [] (.tup [.agg [.i .i64 0, .nils, .nils], .i .i64 0, .i .i64 1]) (view_of rfl .nil) rfl rfl (fun k hk => by rw [hX] at hk; exact absurd hk (Nat.not_lt_zero _)) ⟨rfl, rfl⟩
  · conv => whnf
    exact endM_pick [] [] (.tup [.agg [.i .i64 0, .nils, .nils], .i .i64 0, .i .i64 1]) (view_of rfl .nil) rfl rfl (fun k hk => by rw [hX] at hk; exact absurd hk (Nat.not_lt_zero _)) ⟨rfl, rfl⟩
set_option maxHeartbeats 4000000 in
theorem play_implF {F : Shelf → ShelfAct → Shelf × Int × Int} (hF : StepF F) (s : Shelf) (l : List ShelfAct) (h : s.ok) (hm : s.good ∧ l.length ≤ 60 ∧ l.all ShelfAct.fine = true) : RetM env.P 9 [] [.agg s.cs, slL 6 ShelfAct.cs l] (fun r H => r = .tup [.agg (playK F s l l.length).1.resO, .i .i64 ((playK F s l l.length).2 : Nat), .i .i64 0] ∧ H = (playK F s l l.length).1.rowsO) := by
  obtain ⟨hg, hl, hf⟩ := hm
  have h1 : 1 ≤ s.tables.length := hg.2.1.1
  have hl0 : l.length ≤ 1048576 := by omega
  have hany : (l.any fun a => !a.fine) = false := by
    rw [show (l.any fun a => !a.fine) = !(l.all ShelfAct.fine) by rw [List.not_all_eq_any_not], hf]; rfl
  have hstep : ∀ k, k < l.length → ActC 43 (playK F s l k).1 (playK F s l (k + 1)).1 [.agg (l.getD k default).cs] (.i .i64 (F (playK F s l k).1 (l.getD k default)).2.2) [] := fun k hk => by
    have q := play_ok hF h hg hf (Nat.le_of_lt hk)
    exact (hF.h _ _ q.1 q.2.1 (all_fine hf hk)).2.2.2.2
  refine ret_ofM (nt := 44) (rvs := [.cell 4 27, .tmp 5, .tmp 6]) Tryz.func9 rfl rfl rfl rfl (fun X hX => ?_)
  repeat' (first | exact aa | ((conv => whnf) <;> (first | (refine loopNT l.length (fun k => [(28, .i .i64 k), (8, .i .i64 ((playK F s l k).2 : Nat))]) (fun k => [none, none, some (.box (playK F s l k).1.csO)]) (fun k => True) ⟨trivial, ?_⟩) | refine And.intro ?_ ?_ | (intro _h; first | contradiction | (try simp only [dd] at _h)) | (refine dt_go ?_) | exact rfl | exact True.intro | exact dkk | exact dks | ((first | refine .inl ⟨_, shelfOk_ok s h, ?_⟩ | refine ⟨_, shelfOk_ok s h, ?_⟩); (try rintro _ rfl)) | ((first | refine .inl ⟨_, Ret.wka (containsFuncShelfAct_ok l 40 rfl (fun a => !a.fine) hl0 (fun k hk => play1_ok _)), ?_⟩ | refine ⟨_, Ret.wka (containsFuncShelfAct_ok l 40 rfl (fun a => !a.fine) hl0 (fun k hk => play1_ok _)), ?_⟩); (try rintro _ rfl)) | (refine .inr (.inl (.inr ⟨_, RetM.wka (shelfOf_ok s h h1), ?_⟩)); rintro _ _ ⟨rfl, rfl⟩; refine ⟨⟨rfl, nssA⟩, _, lokA, ?_⟩) | (refine .inr (.inl (.inl ⟨[2], _, _, _, hstep _ (by omega), viewA, ⟨rfl, rfl⟩, ?_⟩)); rintro _ _ ⟨rfl, rfl⟩; refine ⟨rfl, _, lokA, ?_⟩) | (refine wrap_succ ?_; omega))))
  · rw [hany] at _h
    cases _h
  · rename_i k _ _ hlt
    have hk : k < l.length := Int.ofNat_lt.1 hlt
    have hq := play_ok hF h hg hf (Nat.le_of_lt hk)
    have he : (playK F s l (k + 1)).2 = (playK F s l k).2 + 1 := if_pos ((hF.h _ _ hq.1 hq.2.1 (all_fine hf hk)).2.2.1.2 _h)
    have hq2 := hq.2.2
    conv => whnf
    refine roundNT_end ?_
    repeat' (first | exact aa | ((conv => whnf) <;> (first | exact (wrap_succ (by omega)).trans (congrArg _ he.symm) | refine And.intro ?_ ?_ | (intro _h; first | contradiction | (try simp only [dd] at _h)) | (refine dt_go ?_) | exact rfl | exact True.intro | exact dkk | exact dks | (refine wrap_succ ?_; omega))))
  · rename_i k _ _ hlt
    have hk : k < l.length := Int.ofNat_lt.1 hlt
    have hq := play_ok hF h hg hf (Nat.le_of_lt hk)
    have he : (playK F s l (k + 1)).2 = (playK F s l k).2 := if_neg fun q => _h ((hF.h _ _ hq.1 hq.2.1 (all_fine hf hk)).2.2.1.1 q)
    conv => whnf
    refine roundNT_end ?_
    repeat' (first | exact aa | ((conv => whnf) <;> (first | exact congrArg _ he.symm | refine And.intro ?_ ?_ | (intro _h; first | contradiction | (try simp only [dd] at _h)) | (refine dt_go ?_) | exact rfl | exact True.intro | exact dkk | exact dks | (refine wrap_succ ?_; omega))))
  · rename_i k _ _
    obtain rfl : k = l.length := by omega
    conv => whnf
    exact endM_pick [3, 4] (playK F s l l.length).1.rowsO (.tup [.agg (playK F s l l.length).1.resO, .i .i64 ((playK F s l l.length).2 : Nat), .i .i64 0]) (view_of rfl (.cons rfl (.self (rowPl_L fun _ => rfl)) (.cons rfl (.self (rowPl_L fun _ => rfl)) .nil))) rfl rfl (fun k hk => by rw [hX] at hk; exact absurd hk (Nat.not_lt_zero _)) ⟨rfl, rfl⟩
  · exact absurd hg _h
end Go.Proofs.YthggkafdjnheeaaGreat
