/- Texts for VHandlesOneP. -/
import Derived.Test.YtmglpojnoadgeaaGreatVo42
namespace Go.Proofs.YtmglpojnoadgeaaGreat
open Go Go.RowKit
set_option linter.unusedVariables false
set_option linter.unusedSimpArgs false
set_option maxRecDepth 8000
theorem back_zero {σ : Nat → Nat} {m : Nat} {es : Nat → Nat → AV} : RowBack σ m (rowL 3 Thing.cs []) ⟨3, 0, es, .arr⟩ := ⟨rfl, rfl, .refl _, fun i j hi => absurd hi (Nat.not_lt_zero _)⟩
def Shelf.killS (s : Shelf) (who : Int) : Prop := s.sGood ∧ (0 ≤ who ∧ who < (s.tables.length : Int))
theorem killS_iff {s : Shelf} {who : Int} : s.killS who ↔ (s.good ∧ (0 ≤ who ∧ who < (s.tables.length : Int))) := by
 unfold Shelf.killS
 rw [good_iff]
set_option maxHeartbeats 2000000 in
theorem kill_spec1 (s : Shelf) (h : s.ok) (who : Int) (hn : ¬ s.killS who) : RetM env.P 19 [] [.agg s.cs, .i .i64 who] (fun r H => r = .tup [.agg [.i .i64 0, .nils, .nils], .row 0 0] ∧ H = [some (rowL 3 Thing.cs [])]) := by
 refine ret_ofM (nt := 22) (rvs := [.cell 4 27, .tmp 5]) Tryz.func19 rfl rfl rfl rfl (fun X hX => ?_)
 repeat' (first | exact aa | ((conv => whnf) <;> (first | exact absurd ⟨Classical.not_not.1 ‹_›, ‹_›⟩ hn | refine And.intro ?_ ?_ | (intro _h; first | contradiction | (try simp only [dd] at _h)) | (refine dt_go ?_) | exact rfl | exact True.intro | exact dkk | exact dks | ((first | refine .inl ⟨_, Ret.wka (l19Ok_ok s h), ?_⟩ | refine ⟨_, Ret.wka (l19Ok_ok s h), ?_⟩); (try rintro _ rfl)) | ((first | refine .inl ⟨_, Ret.wka (l19Who_ok s h _), ?_⟩ | refine ⟨_, Ret.wka (l19Who_ok s h _), ?_⟩); (try rintro _ rfl)) | (refine wrap_succ ?_; omega))))
 all_goals first
  | (exfalso; exact hn ⟨Classical.not_not.1 ‹_›, ‹_›⟩)
  | (exfalso; exact hn ⟨‹_›, ‹_›⟩)
  | skip
 all_goals (conv => whnf)
 all_goals exact endM_pick [2] [some (rowL 3 Thing.cs [])] (.tup [.agg [.i .i64 0, .nils, .nils], .row 0 0]) (view_of rfl (.cons rfl back_zero .nil)) rfl rfl (fun k hk => by rw [hX] at hk; exact absurd hk (Nat.not_lt_zero _)) ⟨rfl, rfl⟩
set_option maxHeartbeats 2000000 in
theorem kill_specF (s : Shelf) (h : s.ok) (who : Int) (hm : s.killS who) : RetM env.P 19 [] [.agg s.cs, .i .i64 who] (fun r H => r = .tup [.agg (s.killed who.toNat).resO, .row 2 (s.dead who.toNat).length] ∧ H = (s.killed who.toNat).rowsO ++ [some (rowL 3 Thing.cs (s.dead who.toNat))]) := by
 have hg := (killS_iff.1 hm).1
 have h1 : 1 ≤ s.tables.length := hg.2.1.1
 obtain ⟨m1, m2⟩ := hm
 refine ret_ofM (nt := 22) (rvs := [.cell 4 27, .tmp 5]) Tryz.func19 rfl rfl rfl rfl (fun X hX => ?_)
 repeat' (first | exact aa | ((conv => whnf) <;> (first | (refine .inr (.inr ⟨[some (boxRow s.cs), some (boxRow [.i .i64 0, .nils, .nils]), none, none, some (boxRow s.csO)], (by intro X; refine Turn.trans (turn_close (id := 4) (i := 0) (j := 1) (id' := 2) rfl (show 0 < 1 by decide) (show 1 < 3 by decide) rfl rfl (show 4 ≠ 2 by decide) rfl (rowO_le (Nat.le_refl _))) ?_; refine Turn.trans (turn_close (id := 4) (i := 0) (j := 2) (id' := 3) rfl (show 0 < 1 by decide) (show 2 < 3 by decide) rfl rfl (show 4 ≠ 3 by decide) rfl (rowO_le (Nat.le_refl _))) ?_; exact turn_box (id := 4) (ds := s.csO) rfl rfl rfl (.cons (.refl _) (.cons (.refl _) (.cons (.refl _) .nil)))), (fun i _ q => (by cases q)), .inl ⟨[4], _, _, _, l19Kill_good s h hg who m2, (view_of rfl (.cons rfl (.self (rowPl_box rfl)) .nil)), ⟨rfl, rfl⟩, ?_⟩⟩); rintro _ _ ⟨rfl, rfl⟩; refine ⟨rfl, _, (lok_pl (.cons (rowPl_box rfl) (.cons (rowPl_L fun _ => rfl) .nil))), ?_⟩) | refine And.intro ?_ ?_ | (intro _h; first | contradiction | (try simp only [dd] at _h)) | (refine dt_go ?_) | exact rfl | exact True.intro | exact dkk | exact dks | ((first | refine .inl ⟨_, Ret.wka (l19Ok_ok s h), ?_⟩ | refine ⟨_, Ret.wka (l19Ok_ok s h), ?_⟩); (try rintro _ rfl)) | ((first | refine .inl ⟨_, Ret.wka (l19Who_ok s h _), ?_⟩ | refine ⟨_, Ret.wka (l19Who_ok s h _), ?_⟩); (try rintro _ rfl)) | (refine .inr (.inl (.inr (.inl ⟨_, RetM.wka (l19Own_ok s h h1), ?_⟩))); rintro _ _ ⟨rfl, rfl⟩; refine ⟨⟨rfl, nssA⟩, _, lokA, ?_⟩) | (refine wrap_succ ?_; omega))))
 all_goals (first | contradiction | skip)
 all_goals (conv => whnf)
 all_goals exact endM_pick [6, 7, 5] ((s.killed who.toNat).rowsO ++ [some (rowL 3 Thing.cs (s.dead who.toNat))]) (.tup [.agg (s.killed who.toNat).resO, .row 2 (s.dead who.toNat).length]) (view_of rfl (.cons rfl (.self (rowPl_L fun _ => rfl)) (.cons rfl (.self (rowPl_L fun _ => rfl)) (.cons rfl (.self (rowPl_L fun _ => rfl)) .nil)))) rfl rfl (fun k hk => by rw [hX] at hk; exact absurd hk (Nat.not_lt_zero _)) ⟨rfl, rfl⟩
set_option maxHeartbeats 2000000 in
theorem kill_impl1 (s : Shelf) (h : s.ok) (who : Int) (hn : ¬ (s.good ∧ (0 ≤ who ∧ who < (s.tables.length : Int)))) : RetM env.P 18 [] [.agg s.cs, .i .i64 who] (fun r H => r = .tup [.agg [.i .i64 0, .nils, .nils], .nils] ∧ H = []) := by
 refine ret_ofM (nt := 23) (rvs := [.cell 4 27, .tmp 5]) Tryz.func18 rfl rfl rfl rfl (fun X hX => ?_)
 repeat' (first | exact aa | ((conv => whnf) <;> (first | refine And.intro ?_ ?_ | (intro _h; first | contradiction | (try simp only [dd] at _h)) | (refine dt_go ?_) | exact rfl | exact True.intro | exact dkk | exact dks | ((first | refine .inl ⟨_, shelfArgs_ok s h _ _, ?_⟩ | refine ⟨_, shelfArgs_ok s h _ _, ?_⟩); (try rintro _ rfl)) | (refine wrap_succ ?_; omega))))
 all_goals first
  | (exfalso; have hq := Classical.not_not.1 ‹¬ ¬ s.args who 1›; exact hn ⟨hq.1, hq.2.1⟩)
  | skip
 all_goals (conv => whnf)
 all_goals exact endM_pick [] [] (.tup [.agg [.i .i64 0, .nils, .nils], .nils]) (view_of rfl .nil) rfl rfl (fun k hk => by rw [hX] at hk; exact absurd hk (Nat.not_lt_zero _)) ⟨rfl, rfl⟩
set_option maxHeartbeats 2000000 in
theorem kill_implF (s : Shelf) (h : s.ok) (who : Int) (hm : s.good ∧ (0 ≤ who ∧ who < (s.tables.length : Int))) : RetM env.P 18 [] [.agg s.cs, .i .i64 who] (fun r H => r = .tup [.agg (s.killed who.toNat).resO, .row 2 (s.dead who.toNat).length] ∧ H = (s.killed who.toNat).rowsO ++ [some (rowL 3 Thing.cs (s.dead who.toNat))]) := by
 have h1 : 1 ≤ s.tables.length := hm.1.2.1.1
 have ha : s.args who 1 := ⟨hm.1, hm.2, by decide⟩
 refine ret_ofM (nt := 23) (rvs := [.cell 4 27, .tmp 5]) Tryz.func18 rfl rfl rfl rfl (fun X hX => ?_)
 repeat' (first | exact aa | ((conv => whnf) <;> (first | refine And.intro ?_ ?_ | (intro _h; first | contradiction | (try simp only [dd] at _h)) | (refine dt_go ?_) | exact rfl | exact True.intro | exact dkk | exact dks | ((first | refine .inl ⟨_, shelfArgs_ok s h _ _, ?_⟩ | refine ⟨_, shelfArgs_ok s h _ _, ?_⟩); (try rintro _ rfl)) | (refine .inr (.inl (.inr (.inl ⟨_, RetM.wka (shelfOf_ok s h h1), ?_⟩))); rintro _ _ ⟨rfl, rfl⟩; refine ⟨⟨rfl, nssA⟩, _, lokA, ?_⟩) | (refine .inr (.inl (.inl ⟨[2], _, _, _, kill_ok s h hm.1 who hm.2, viewA, ⟨rfl, rfl⟩, ?_⟩)); rintro _ _ ⟨rfl, rfl⟩; refine ⟨rfl, _, lokA, ?_⟩) | (refine wrap_succ ?_; omega))))
 all_goals (first | contradiction | skip)
 all_goals (conv => whnf)
 all_goals exact endM_pick [4, 5, 3] ((s.killed who.toNat).rowsO ++ [some (rowL 3 Thing.cs (s.dead who.toNat))]) (.tup [.agg (s.killed who.toNat).resO, .row 2 (s.dead who.toNat).length]) (view_of rfl (.cons rfl (.self (rowPl_L fun _ => rfl)) (.cons rfl (.self (rowPl_L fun _ => rfl)) (.cons rfl (.self (rowPl_L fun _ => rfl)) .nil)))) rfl rfl (fun k hk => by rw [hX] at hk; exact absurd hk (Nat.not_lt_zero _)) ⟨rfl, rfl⟩
end Go.Proofs.YtmglpojnoadgeaaGreat
