/- Texts for VMakeInP. -/
import Derived.Test.YtmchgnbeoefhhaaGreatVm23
import Derived.Test.YtmchgnbeoefhhaaGreatVm28
namespace Go.Proofs.YtmchgnbeoefhhaaGreat
open Go Go.RowKit
set_option linter.unusedVariables false
set_option linter.unusedSimpArgs false
set_option maxRecDepth 8000
def Yard.makeS (y : Yard) (res rep : Int) : Prop := y.sGood ∧ (1 ≤ res ∧ res ≤ 8) ∧ (0 ≤ rep ∧ rep ≤ 2147483647)
def Yard.makeI (y : Yard) (res rep : Int) : Prop := y.good ∧ (1 ≤ res ∧ res ≤ 8) ∧ (0 ≤ rep ∧ rep ≤ 2147483647)
theorem makeIn_iff {y : Yard} {res rep : Int} : y.makeS res rep ↔ y.makeI res rep := by
 unfold Yard.makeS Yard.makeI
 rw [yard_iff]
theorem top_in {y : Yard} (h : y.good) (hs : ¬ y.stack.length = 0) : y.isI (topV y.stack) := by
 unfold topV
 rw [if_neg hs]
 exact (h.2.2.1.1 (y.stack.length - 1) (by omega)).2.2.2.1
theorem top_who {y : Yard} (h : y.good) (hs : ¬ y.stack.length = 0) : 0 ≤ topV y.stack ∧ topV y.stack < (y.shelf.tables.length : Int) := by
 have := top_in h hs
 exact ⟨by have := this.1; omega, this.2⟩
set_option maxHeartbeats 2000000 in
theorem makeIn_spec1 (y : Yard) (h : y.ok) (res rep : Int) (hn : ¬ y.makeS res rep) : RetM env.P 6 [] [.agg y.cs, .i .i64 res, .i .i64 rep] (fun r H => r = .tup [.agg yaZ, .i .i64 0, .i .i64 1] ∧ H = []) := by
 refine ret_ofM (nt := 45) (rvs := [.cell 6 37, .tmp 7, .tmp 8]) Tryz.func6 rfl rfl rfl rfl (fun X hX => ?_)
 repeat' (first | exact aa | ((conv => whnf) <;> (first | exact absurd ⟨Classical.not_not.1 ‹_›, ‹_›, ‹_›⟩ hn | refine And.intro ?_ ?_ | (intro _h; first | contradiction | (try simp only [dd] at _h)) | (refine dt_go ?_) | exact rfl | exact True.intro | exact dkk | exact dks | ((first | refine .inl ⟨_, Ret.wka (l20Ok_ok y h), ?_⟩ | refine ⟨_, Ret.wka (l20Ok_ok y h), ?_⟩); (try rintro _ rfl)) | ((first | refine .inl ⟨_, l00In_ok _ _ _, ?_⟩ | refine ⟨_, l00In_ok _ _ _, ?_⟩); (try rintro _ rfl)) | (refine wrap_succ ?_; omega))))
 all_goals first
  | (exfalso; exact hn ⟨Classical.not_not.1 ‹_›, ‹_›, ‹_›⟩)
  | (exfalso; exact hn ⟨‹_›, ‹_›, ‹_›⟩)
  | skip
 all_goals (conv => whnf)
 all_goals exact endM_pick [] [] (.tup [.agg yaZ, .i .i64 0, .i .i64 1]) (view_of rfl .nil) rfl rfl (fun k hk => by rw [hX] at hk; exact absurd hk (Nat.not_lt_zero _)) ⟨rfl, rfl⟩
set_option maxHeartbeats 2000000 in
theorem makeIn_spec5 (y : Yard) (h : y.ok) (res rep : Int) (hm : y.makeS res rep) (hs : y.stack.length = 0) : RetM env.P 6 [] [.agg y.cs, .i .i64 res, .i .i64 rep] (fun r H => r = .tup [.agg yaZ, .i .i64 0, .i .i64 5] ∧ H = []) := by
 obtain ⟨m1, m2, m3⟩ := hm
 refine ret_ofM (nt := 45) (rvs := [.cell 6 37, .tmp 7, .tmp 8]) Tryz.func6 rfl rfl rfl rfl (fun X hX => ?_)
 repeat' (first | exact aa | ((conv => whnf) <;> (first | refine And.intro ?_ ?_ | (intro _h; first | contradiction | (try simp only [dd] at _h)) | (refine dt_go ?_) | exact rfl | exact True.intro | exact dkk | exact dks | ((first | refine .inl ⟨_, Ret.wka (l20Ok_ok y h), ?_⟩ | refine ⟨_, Ret.wka (l20Ok_ok y h), ?_⟩); (try rintro _ rfl)) | ((first | refine .inl ⟨_, l00In_ok _ _ _, ?_⟩ | refine ⟨_, l00In_ok _ _ _, ?_⟩); (try rintro _ rfl)) | (refine wrap_succ ?_; omega))))
 all_goals (first | contradiction | skip)
 all_goals (conv => whnf)
 all_goals exact endM_pick [] [] (.tup [.agg yaZ, .i .i64 0, .i .i64 5]) (view_of rfl .nil) rfl rfl (fun k hk => by rw [hX] at hk; exact absurd hk (Nat.not_lt_zero _)) ⟨rfl, rfl⟩
set_option maxHeartbeats 4000000 in
theorem makeIn_spec4 (y : Yard) (h : y.ok) (res rep : Int) (hm : y.makeS res rep) (hs : ¬ y.stack.length = 0) (hf : y.shelf.noMake (topV y.stack).toNat) : RetM env.P 6 [] [.agg y.cs, .i .i64 res, .i .i64 rep] (fun r H => r = .tup [.agg yaZ, .i .i64 0, .i .i64 4] ∧ H = []) := by
 have hg := (makeIn_iff.1 hm).1
 have hw := top_who hg hs
 have h1 : 1 ≤ y.shelf.tables.length := by have := hg.2.1.1; omega
 obtain ⟨m1, m2, m3⟩ := hm
 refine ret_ofM (nt := 45) (rvs := [.cell 6 37, .tmp 7, .tmp 8]) Tryz.func6 rfl rfl rfl rfl (fun X hX => ?_)
 repeat' (first | exact aa | ((conv => whnf) <;> (first | (refine .inr (.inr ⟨[some (boxRow y.cs), some (boxRow yaZ), none, none, none, none, some (boxRow y.csO)], (by intro X; refine Turn.trans (turn_close (id := 6) (i := 0) (j := 1) (id' := 2) rfl (show 0 < 1 by decide) (show 1 < 6 by decide) rfl rfl (show 6 ≠ 2 by decide) rfl (rowO_le (Nat.le_refl _))) ?_; refine Turn.trans (turn_close (id := 6) (i := 0) (j := 2) (id' := 3) rfl (show 0 < 1 by decide) (show 2 < 6 by decide) rfl rfl (show 6 ≠ 3 by decide) rfl (rowO_le (Nat.le_refl _))) ?_; refine Turn.trans (turn_close (id := 6) (i := 0) (j := 3) (id' := 4) rfl (show 0 < 1 by decide) (show 3 < 6 by decide) rfl rfl (show 6 ≠ 4 by decide) rfl (rowO_le (Nat.le_refl _))) ?_; refine Turn.trans (turn_close (id := 6) (i := 0) (j := 5) (id' := 5) rfl (show 0 < 1 by decide) (show 5 < 6 by decide) rfl rfl (show 6 ≠ 5 by decide) rfl (rowO_le (Nat.le_refl _))) ?_; exact turn_box (id := 6) (ds := y.csO) rfl rfl rfl (.cons (.refl _) (.cons (.refl _) (.cons (.refl _) (.cons (.refl _) (.cons (.refl _) (.cons (.refl _) .nil))))))), (fun i _ q => (by cases q)), .inl ⟨[6], _, _, _, l19Make_errY y y.shelf h.1 _ res rep hw hf, (view_of rfl (.cons rfl (.self (rowPl_box rfl)) .nil)), ⟨rfl, rfl⟩, ?_⟩⟩); rintro _ _ ⟨rfl, rfl⟩; refine ⟨rfl, _, (lok_pl (.cons (rowPl_box rfl) .nil)), ?_⟩) | refine And.intro ?_ ?_ | (intro _h; first | contradiction | (try simp only [dd] at _h)) | (refine dt_go ?_) | exact rfl | exact True.intro | exact dkk | exact dks | ((first | refine .inl ⟨_, Ret.wka (l20Ok_ok y h), ?_⟩ | refine ⟨_, Ret.wka (l20Ok_ok y h), ?_⟩); (try rintro _ rfl)) | ((first | refine .inl ⟨_, l00In_ok _ _ _, ?_⟩ | refine ⟨_, l00In_ok _ _ _, ?_⟩); (try rintro _ rfl)) | (refine .inr (.inl (.inr (.inl ⟨_, RetM.wka (l20Own_ok y h h1), ?_⟩))); rintro _ _ ⟨rfl, rfl⟩; refine ⟨⟨rfl, nssA⟩, _, lokA, ?_⟩) | ((first | refine .inl ⟨_, Ret.wka (l20Runs_ok y h), ?_⟩ | refine ⟨_, Ret.wka (l20Runs_ok y h), ?_⟩); (try rintro _ rfl)) | (refine wrap_succ ?_; omega))))
 all_goals (first | contradiction | skip)
 all_goals (try (conv => whnf))
 all_goals exact endM_pick [] [] (.tup [.agg yaZ, .i .i64 0, .i .i64 4]) (view_of rfl .nil) rfl rfl (fun k hk => by rw [hX] at hk; exact absurd hk (Nat.not_lt_zero _)) ⟨rfl, rfl⟩
set_option maxHeartbeats 4000000 in
theorem makeIn_spec0 (y : Yard) (h : y.ok) (res rep : Int) (hm : y.makeS res rep) (hs : ¬ y.stack.length = 0) (hf : ¬ y.shelf.noMake (topV y.stack).toNat) : RetM env.P 6 [] [.agg y.cs, .i .i64 res, .i .i64 rep] (fun r H => r = .tup [.agg ((y.shelf.made (topV y.stack).toNat res rep).yd y).resO, .i .i64 (y.shelf.tables.getD (topV y.stack).toNat default).next, .i .i64 0] ∧ H = ((y.shelf.made (topV y.stack).toNat res rep).yd y).rowsO) := by
 have hg := (makeIn_iff.1 hm).1
 have hw := top_who hg hs
 have h1 : 1 ≤ y.shelf.tables.length := by have := hg.2.1.1; omega
 have ht := tab_good hg.1 hw
 have hn : 0 ≤ y.shelf.next := by have := hg.1.1.1; omega
 obtain ⟨m1, m2, m3⟩ := hm
 refine ret_ofM (nt := 45) (rvs := [.cell 6 37, .tmp 7, .tmp 8]) Tryz.func6 rfl rfl rfl rfl (fun X hX => ?_)
 repeat' (first | exact aa | ((conv => whnf) <;> (first | (refine .inr (.inr ⟨[some (boxRow y.cs), some (boxRow yaZ), none, none, none, none, some (boxRow y.csO)], (by intro X; refine Turn.trans (turn_close (id := 6) (i := 0) (j := 1) (id' := 2) rfl (show 0 < 1 by decide) (show 1 < 6 by decide) rfl rfl (show 6 ≠ 2 by decide) rfl (rowO_le (Nat.le_refl _))) ?_; refine Turn.trans (turn_close (id := 6) (i := 0) (j := 2) (id' := 3) rfl (show 0 < 1 by decide) (show 2 < 6 by decide) rfl rfl (show 6 ≠ 3 by decide) rfl (rowO_le (Nat.le_refl _))) ?_; refine Turn.trans (turn_close (id := 6) (i := 0) (j := 3) (id' := 4) rfl (show 0 < 1 by decide) (show 3 < 6 by decide) rfl rfl (show 6 ≠ 4 by decide) rfl (rowO_le (Nat.le_refl _))) ?_; refine Turn.trans (turn_close (id := 6) (i := 0) (j := 5) (id' := 5) rfl (show 0 < 1 by decide) (show 5 < 6 by decide) rfl rfl (show 6 ≠ 5 by decide) rfl (rowO_le (Nat.le_refl _))) ?_; exact turn_box (id := 6) (ds := y.csO) rfl rfl rfl (.cons (.refl _) (.cons (.refl _) (.cons (.refl _) (.cons (.refl _) (.cons (.refl _) (.cons (.refl _) .nil))))))), (fun i _ q => (by cases q)), .inl ⟨[6], _, _, _, l19Make_fineY y y.shelf h.1 _ res rep hw hn ht.2.1 hf, (view_of rfl (.cons rfl (.self (rowPl_box rfl)) .nil)), ⟨rfl, rfl⟩, ?_⟩⟩); rintro _ _ ⟨rfl, rfl⟩; refine ⟨rfl, _, (lok_pl (.cons (rowPl_box rfl) .nil)), ?_⟩) | refine And.intro ?_ ?_ | (intro _h; first | contradiction | (try simp only [dd] at _h)) | (refine dt_go ?_) | exact rfl | exact True.intro | exact dkk | exact dks | ((first | refine .inl ⟨_, Ret.wka (l20Ok_ok y h), ?_⟩ | refine ⟨_, Ret.wka (l20Ok_ok y h), ?_⟩); (try rintro _ rfl)) | ((first | refine .inl ⟨_, l00In_ok _ _ _, ?_⟩ | refine ⟨_, l00In_ok _ _ _, ?_⟩); (try rintro _ rfl)) | (refine .inr (.inl (.inr (.inl ⟨_, RetM.wka (l20Own_ok y h h1), ?_⟩))); rintro _ _ ⟨rfl, rfl⟩; refine ⟨⟨rfl, nssA⟩, _, lokA, ?_⟩) | ((first | refine .inl ⟨_, Ret.wka (l20Runs_ok y h), ?_⟩ | refine ⟨_, Ret.wka (l20Runs_ok y h), ?_⟩); (try rintro _ rfl)) | (refine wrap_succ ?_; omega))))
 all_goals (first | contradiction | skip)
 all_goals (try (conv => whnf))
 all_goals first
  | exact endM_pick [7, 8, 9, 10] ((y.shelf.made (topV y.stack).toNat res rep).yd y).rowsO (.tup [.agg ((y.shelf.made (topV y.stack).toNat res rep).yd y).resO, .i .i64 (y.shelf.tables.getD (topV y.stack).toNat default).next, .i .i64 0]) (view_of rfl (.cons rfl (.self (rowPl_L fun _ => rfl)) (.cons rfl (.self (rowPl_L fun _ => rfl)) (.cons rfl (.self (rowPl_L fun _ => rfl)) (.cons rfl (.self (rowPl_L fun _ => rfl)) .nil)))))  rfl rfl (fun k hk => by rw [hX] at hk; exact absurd hk (Nat.not_lt_zero _)) ⟨rfl, rfl⟩
  | trace_state
end Go.Proofs.YtmchgnbeoefhhaaGreat
