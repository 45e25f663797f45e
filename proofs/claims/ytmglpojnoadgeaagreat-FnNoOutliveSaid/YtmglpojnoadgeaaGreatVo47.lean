/- Texts for VHandlesOneP. -/
import Derived.Test.YtmglpojnoadgeaaGreatVo30
namespace Go.Proofs.YtmglpojnoadgeaaGreat
open Go Go.RowKit
set_option linter.unusedVariables false
set_option linter.unusedSimpArgs false
set_option maxRecDepth 8000
def Shelf.dropS (s : Shelf) (who num : Int) : Prop := s.sGood ∧ (0 ≤ who ∧ who < (s.tables.length : Int)) ∧ (1 ≤ num ∧ num ≤ 1000000)
theorem dropS_iff {s : Shelf} {who num : Int} : s.dropS who num ↔ s.args who num := by
 unfold Shelf.dropS Shelf.args
 rw [good_iff]
set_option maxHeartbeats 2000000 in
theorem drop_spec1 (s : Shelf) (h : s.ok) (who num : Int) (hn : ¬ s.dropS who num) : RetM env.P 16 [] [.agg s.cs, .i .i64 who, .i .i64 num] (fun r H => r = .tup [.agg [.i .i64 0, .nils, .nils], .agg [.i .i64 0, .i .i64 0, .i .i64 0], .i .i64 1] ∧ H = []) := by
 refine ret_ofM (nt := 40) (rvs := [.cell 6 27, .cell 7 37, .tmp 8]) Tryz.func16 rfl rfl rfl rfl (fun X hX => ?_)
 repeat' (first | exact aa | ((conv => whnf) <;> (first | exact absurd ⟨Classical.not_not.1 ‹_›, ‹_›, ‹_›⟩ hn | refine And.intro ?_ ?_ | (intro _h; first | contradiction | (try simp only [dd] at _h)) | (refine dt_go ?_) | exact rfl | exact True.intro | exact dkk | exact dks | ((first | refine .inl ⟨_, Ret.wka (l19Ok_ok s h), ?_⟩ | refine ⟨_, Ret.wka (l19Ok_ok s h), ?_⟩); (try rintro _ rfl)) | ((first | refine .inl ⟨_, Ret.wka (l19Who_ok s h _), ?_⟩ | refine ⟨_, Ret.wka (l19Who_ok s h _), ?_⟩); (try rintro _ rfl)) | ((first | refine .inl ⟨_, l00In_ok _ _ _, ?_⟩ | refine ⟨_, l00In_ok _ _ _, ?_⟩); (try rintro _ rfl)) | (refine wrap_succ ?_; omega))))
 all_goals first
  | (exfalso; exact hn ⟨Classical.not_not.1 ‹_›, ‹_›, ‹_›⟩)
  | (exfalso; exact hn ⟨‹_›, ‹_›, ‹_›⟩)
  | skip
 all_goals (conv => whnf)
 all_goals exact endM_pick [] [] (.tup [.agg [.i .i64 0, .nils, .nils], .agg [.i .i64 0, .i .i64 0, .i .i64 0], .i .i64 1]) (view_of rfl .nil) rfl rfl (fun k hk => by rw [hX] at hk; exact absurd hk (Nat.not_lt_zero _)) ⟨rfl, rfl⟩
set_option maxHeartbeats 2000000 in
theorem drop_specE (s : Shelf) (h : s.ok) (who num c : Int) (hc : ¬ c = 0) (hm : s.dropS who num) (hL : RetM env.P 48 [some (boxRow s.csO)] [.ptr 0 0 0, .i .i64 who, .i .i64 num] (fun r H => r = .tup [.agg [.i .i64 0, .i .i64 0, .i .i64 0], .i .i64 c] ∧ H = [some (boxRow s.csO)])) : RetM env.P 16 [] [.agg s.cs, .i .i64 who, .i .i64 num] (fun r H => r = .tup [.agg [.i .i64 0, .nils, .nils], .agg [.i .i64 0, .i .i64 0, .i .i64 0], .i .i64 c] ∧ H = []) := by
 have h1 : 1 ≤ s.tables.length := (dropS_iff.1 hm).1.2.1.1
 obtain ⟨m1, m2, m3⟩ := hm
 refine ret_ofM (nt := 40) (rvs := [.cell 6 27, .cell 7 37, .tmp 8]) Tryz.func16 rfl rfl rfl rfl (fun X hX => ?_)
 repeat' (first | exact aa | ((conv => whnf) <;> (first | (refine .inr (.inr ⟨[some (boxRow s.cs), some (boxRow [.i .i64 0, .nils, .nils]), some (boxRow [.i .i64 0, .i .i64 0, .i .i64 0]), none, none, some (boxRow s.csO)], (by intro X; refine Turn.trans (turn_close (id := 5) (i := 0) (j := 1) (id' := 3) rfl (show 0 < 1 by decide) (show 1 < 3 by decide) rfl rfl (show 5 ≠ 3 by decide) rfl (rowO_le (Nat.le_refl _))) ?_; refine Turn.trans (turn_close (id := 5) (i := 0) (j := 2) (id' := 4) rfl (show 0 < 1 by decide) (show 2 < 3 by decide) rfl rfl (show 5 ≠ 4 by decide) rfl (rowO_le (Nat.le_refl _))) ?_; exact turn_box (id := 5) (ds := s.csO) rfl rfl rfl (.cons (.refl _) (.cons (.refl _) (.cons (.refl _) .nil)))), (fun i _ q => (by cases q)), .inl ⟨[5], _, _, _, hL, (view_of rfl (.cons rfl (.self (rowPl_box rfl)) .nil)), ⟨rfl, rfl⟩, ?_⟩⟩); rintro _ _ ⟨rfl, rfl⟩; refine ⟨rfl, _, (lok_pl (.cons (rowPl_box rfl) .nil)), ?_⟩) | refine And.intro ?_ ?_ | (intro _h; first | contradiction | (try simp only [dd] at _h)) | (refine dt_go ?_) | exact rfl | exact True.intro | exact dkk | exact dks | ((first | refine .inl ⟨_, Ret.wka (l19Ok_ok s h), ?_⟩ | refine ⟨_, Ret.wka (l19Ok_ok s h), ?_⟩); (try rintro _ rfl)) | ((first | refine .inl ⟨_, Ret.wka (l19Who_ok s h _), ?_⟩ | refine ⟨_, Ret.wka (l19Who_ok s h _), ?_⟩); (try rintro _ rfl)) | ((first | refine .inl ⟨_, l00In_ok _ _ _, ?_⟩ | refine ⟨_, l00In_ok _ _ _, ?_⟩); (try rintro _ rfl)) | (refine .inr (.inl (.inr (.inl ⟨_, RetM.wka (l19Own_ok s h h1), ?_⟩))); rintro _ _ ⟨rfl, rfl⟩; refine ⟨⟨rfl, nssA⟩, _, lokA, ?_⟩) | (refine wrap_succ ?_; omega))))
 all_goals (first | contradiction | skip)
 all_goals (conv => whnf)
 all_goals exact endM_pick [] [] (.tup [.agg [.i .i64 0, .nils, .nils], .agg [.i .i64 0, .i .i64 0, .i .i64 0], .i .i64 c]) (view_of rfl .nil) rfl rfl (fun k hk => by rw [hX] at hk; exact absurd hk (Nat.not_lt_zero _)) ⟨rfl, rfl⟩
set_option maxHeartbeats 2000000 in
theorem drop_specF (s s' : Shelf) (h : s.ok) (who num : Int) (x : Thing) (hm : s.dropS who num) (hL : RetM env.P 48 [some (boxRow s.csO)] [.ptr 0 0 0, .i .i64 who, .i .i64 num] (fun r H => r = .tup [.agg x.cs, .i .i64 0] ∧ H = [some (boxRow s'.csO)])) : RetM env.P 16 [] [.agg s.cs, .i .i64 who, .i .i64 num] (fun r H => r = .tup [.agg s'.resO, .agg x.cs, .i .i64 0] ∧ H = s'.rowsO) := by
 have h1 : 1 ≤ s.tables.length := (dropS_iff.1 hm).1.2.1.1
 obtain ⟨m1, m2, m3⟩ := hm
 refine ret_ofM (nt := 40) (rvs := [.cell 6 27, .cell 7 37, .tmp 8]) Tryz.func16 rfl rfl rfl rfl (fun X hX => ?_)
 repeat' (first | exact aa | ((conv => whnf) <;> (first | (refine .inr (.inr ⟨[some (boxRow s.cs), some (boxRow [.i .i64 0, .nils, .nils]), some (boxRow [.i .i64 0, .i .i64 0, .i .i64 0]), none, none, some (boxRow s.csO)], (by intro X; refine Turn.trans (turn_close (id := 5) (i := 0) (j := 1) (id' := 3) rfl (show 0 < 1 by decide) (show 1 < 3 by decide) rfl rfl (show 5 ≠ 3 by decide) rfl (rowO_le (Nat.le_refl _))) ?_; refine Turn.trans (turn_close (id := 5) (i := 0) (j := 2) (id' := 4) rfl (show 0 < 1 by decide) (show 2 < 3 by decide) rfl rfl (show 5 ≠ 4 by decide) rfl (rowO_le (Nat.le_refl _))) ?_; exact turn_box (id := 5) (ds := s.csO) rfl rfl rfl (.cons (.refl _) (.cons (.refl _) (.cons (.refl _) .nil)))), (fun i _ q => (by cases q)), .inl ⟨[5], _, _, _, hL, (view_of rfl (.cons rfl (.self (rowPl_box rfl)) .nil)), ⟨rfl, rfl⟩, ?_⟩⟩); rintro _ _ ⟨rfl, rfl⟩; refine ⟨rfl, _, (lok_pl (.cons (rowPl_box rfl) .nil)), ?_⟩) | (refine dt_turn (turn_open (id := 5) (i := 0) (j := 1) rfl (show 0 < 1 by decide) (show 1 < 3 by decide) rfl) ?_; refine dt_turn (turn_open (id := 5) (i := 0) (j := 2) rfl (show 0 < 1 by decide) (show 2 < 3 by decide) rfl) ?_; refine dt_go ?_) | refine And.intro ?_ ?_ | (intro _h; first | contradiction | (try simp only [dd] at _h)) | (refine dt_go ?_) | exact rfl | exact True.intro | exact dkk | exact dks | ((first | refine .inl ⟨_, Ret.wka (l19Ok_ok s h), ?_⟩ | refine ⟨_, Ret.wka (l19Ok_ok s h), ?_⟩); (try rintro _ rfl)) | ((first | refine .inl ⟨_, Ret.wka (l19Who_ok s h _), ?_⟩ | refine ⟨_, Ret.wka (l19Who_ok s h _), ?_⟩); (try rintro _ rfl)) | ((first | refine .inl ⟨_, l00In_ok _ _ _, ?_⟩ | refine ⟨_, l00In_ok _ _ _, ?_⟩); (try rintro _ rfl)) | (refine .inr (.inl (.inr (.inl ⟨_, RetM.wka (l19Own_ok s h h1), ?_⟩))); rintro _ _ ⟨rfl, rfl⟩; refine ⟨⟨rfl, nssA⟩, _, lokA, ?_⟩) | (refine wrap_succ ?_; omega))))
 all_goals (first | contradiction | skip)
 all_goals (conv => whnf)
 all_goals exact endM_pick [7, 8] s'.rowsO (.tup [.agg s'.resO, .agg x.cs, .i .i64 0]) (view_of rfl (.cons rfl (.self (rowPl_L fun _ => rfl)) (.cons rfl (.self (rowPl_L fun _ => rfl)) .nil))) rfl rfl (fun k hk => by rw [hX] at hk; exact absurd hk (Nat.not_lt_zero _)) ⟨rfl, rfl⟩
set_option maxHeartbeats 2000000 in
theorem drop_impl1 (s : Shelf) (h : s.ok) (who num : Int) (hn : ¬ s.args who num) : RetM env.P 15 [] [.agg s.cs, .i .i64 who, .i .i64 num] (fun r H => r = .tup [.agg [.i .i64 0, .nils, .nils], .agg [.i .i64 0, .i .i64 0, .i .i64 0], .i .i64 1] ∧ H = []) := by
 refine ret_ofM (nt := 38) (rvs := [.cell 6 27, .cell 7 37, .tmp 8]) Tryz.func15 rfl rfl rfl rfl (fun X hX => ?_)
 repeat' (first | exact aa | ((conv => whnf) <;> (first | refine And.intro ?_ ?_ | (intro _h; first | contradiction | (try simp only [dd] at _h)) | (refine dt_go ?_) | exact rfl | exact True.intro | exact dkk | exact dks | ((first | refine .inl ⟨_, shelfArgs_ok s h _ _, ?_⟩ | refine ⟨_, shelfArgs_ok s h _ _, ?_⟩); (try rintro _ rfl)) | (refine wrap_succ ?_; omega))))
 all_goals first
  | (exfalso; exact hn (Classical.not_not.1 ‹_›))
  | (exfalso; exact hn ‹_›)
  | skip
 all_goals (conv => whnf)
 all_goals exact endM_pick [] [] (.tup [.agg [.i .i64 0, .nils, .nils], .agg [.i .i64 0, .i .i64 0, .i .i64 0], .i .i64 1]) (view_of rfl .nil) rfl rfl (fun k hk => by rw [hX] at hk; exact absurd hk (Nat.not_lt_zero _)) ⟨rfl, rfl⟩
set_option maxHeartbeats 2000000 in
theorem drop_implE (s : Shelf) (h : s.ok) (who num c : Int) (hc : ¬ c = 0) (hm : s.args who num) (hL : RetM env.P 45 [some (boxRow s.csO)] [.ptr 0 0 0, .i .i64 who, .i .i64 num] (fun r H => r = .tup [.agg [.i .i64 0, .i .i64 0, .i .i64 0], .i .i64 c] ∧ H = [some (boxRow s.csO)])) : RetM env.P 15 [] [.agg s.cs, .i .i64 who, .i .i64 num] (fun r H => r = .tup [.agg [.i .i64 0, .nils, .nils], .agg [.i .i64 0, .i .i64 0, .i .i64 0], .i .i64 c] ∧ H = []) := by
 have h1 : 1 ≤ s.tables.length := hm.1.2.1.1
 refine ret_ofM (nt := 38) (rvs := [.cell 6 27, .cell 7 37, .tmp 8]) Tryz.func15 rfl rfl rfl rfl (fun X hX => ?_)
 repeat' (first | exact aa | ((conv => whnf) <;> (first | refine And.intro ?_ ?_ | (intro _h; first | contradiction | (try simp only [dd] at _h)) | (refine dt_go ?_) | exact rfl | exact True.intro | exact dkk | exact dks | ((first | refine .inl ⟨_, shelfArgs_ok s h _ _, ?_⟩ | refine ⟨_, shelfArgs_ok s h _ _, ?_⟩); (try rintro _ rfl)) | (refine .inr (.inl (.inr (.inl ⟨_, RetM.wka (shelfOf_ok s h h1), ?_⟩))); rintro _ _ ⟨rfl, rfl⟩; refine ⟨⟨rfl, nssA⟩, _, lokA, ?_⟩) | (refine .inr (.inl (.inl ⟨[3], _, _, _, hL, viewA, ⟨rfl, rfl⟩, ?_⟩)); rintro _ _ ⟨rfl, rfl⟩; refine ⟨rfl, _, lokA, ?_⟩) | (refine wrap_succ ?_; omega))))
 all_goals (first | contradiction | skip)
 all_goals (conv => whnf)
 all_goals exact endM_pick [] [] (.tup [.agg [.i .i64 0, .nils, .nils], .agg [.i .i64 0, .i .i64 0, .i .i64 0], .i .i64 c]) (view_of rfl .nil) rfl rfl (fun k hk => by rw [hX] at hk; exact absurd hk (Nat.not_lt_zero _)) ⟨rfl, rfl⟩
set_option maxHeartbeats 2000000 in
theorem drop_implF (s s' : Shelf) (h : s.ok) (who num : Int) (x : Thing) (hm : s.args who num) (hL : RetM env.P 45 [some (boxRow s.csO)] [.ptr 0 0 0, .i .i64 who, .i .i64 num] (fun r H => r = .tup [.agg x.cs, .i .i64 0] ∧ H = [some (boxRow s'.csO)])) : RetM env.P 15 [] [.agg s.cs, .i .i64 who, .i .i64 num] (fun r H => r = .tup [.agg s'.resO, .agg x.cs, .i .i64 0] ∧ H = s'.rowsO) := by
 have h1 : 1 ≤ s.tables.length := hm.1.2.1.1
 refine ret_ofM (nt := 38) (rvs := [.cell 6 27, .cell 7 37, .tmp 8]) Tryz.func15 rfl rfl rfl rfl (fun X hX => ?_)
 repeat' (first | exact aa | ((conv => whnf) <;> (first | (refine dt_turn (turn_open (id := 3) (i := 0) (j := 1) rfl (show 0 < 1 by decide) (show 1 < 3 by decide) rfl) ?_; refine dt_turn (turn_open (id := 3) (i := 0) (j := 2) rfl (show 0 < 1 by decide) (show 2 < 3 by decide) rfl) ?_; refine dt_go ?_) | refine And.intro ?_ ?_ | (intro _h; first | contradiction | (try simp only [dd] at _h)) | (refine dt_go ?_) | exact rfl | exact True.intro | exact dkk | exact dks | ((first | refine .inl ⟨_, shelfArgs_ok s h _ _, ?_⟩ | refine ⟨_, shelfArgs_ok s h _ _, ?_⟩); (try rintro _ rfl)) | (refine .inr (.inl (.inr (.inl ⟨_, RetM.wka (shelfOf_ok s h h1), ?_⟩))); rintro _ _ ⟨rfl, rfl⟩; refine ⟨⟨rfl, nssA⟩, _, lokA, ?_⟩) | (refine .inr (.inl (.inl ⟨[3], _, _, _, hL, viewA, ⟨rfl, rfl⟩, ?_⟩)); rintro _ _ ⟨rfl, rfl⟩; refine ⟨rfl, _, lokA, ?_⟩) | (refine wrap_succ ?_; omega))))
 all_goals (first | contradiction | skip)
 all_goals (conv => whnf)
 all_goals exact endM_pick [5, 6] s'.rowsO (.tup [.agg s'.resO, .agg x.cs, .i .i64 0]) (view_of rfl (.cons rfl (.self (rowPl_L fun _ => rfl)) (.cons rfl (.self (rowPl_L fun _ => rfl)) .nil))) rfl rfl (fun k hk => by rw [hX] at hk; exact absurd hk (Nat.not_lt_zero _)) ⟨rfl, rfl⟩
end Go.Proofs.YtmglpojnoadgeaaGreat
