/- Texts for VMakeInP. -/
import Derived.Test.YtmchgnbeoefhhaaGreatVm29
import Derived.Test.YtmchgnbeoefhhaaGreatVm31
namespace Go.Proofs.YtmchgnbeoefhhaaGreat
open Go Go.RowKit
set_option linter.unusedVariables false
set_option linter.unusedSimpArgs false
set_option maxRecDepth 8000
set_option maxHeartbeats 2000000 in
theorem makeIn_impl1 (y : Yard) (h : y.ok) (res rep : Int) (hn : ¬ y.makeI res rep) : RetM env.P 8 [] [.agg y.cs, .i .i64 res, .i .i64 rep] (fun r H => r = .tup [.agg yaZ, .i .i64 0, .i .i64 1] ∧ H = []) := by
 refine ret_ofM (nt := 51) (rvs := [.cell 6 37, .tmp 7, .tmp 8]) Tryz.func8 rfl rfl rfl rfl (fun X hX => ?_)
 repeat' (first | exact aa | ((conv => whnf) <;> (first | exact absurd ⟨Classical.not_not.1 ‹_›, ‹_›, ‹_›⟩ hn | refine And.intro ?_ ?_ | (intro _h; first | contradiction | (try simp only [dd] at _h)) | (refine dt_go ?_) | exact rfl | exact True.intro | exact dkk | exact dks | ((first | refine .inl ⟨_, yardOk_impl y h, ?_⟩ | refine ⟨_, yardOk_impl y h, ?_⟩); (try rintro _ rfl)) | ((first | refine .inl ⟨_, isRes_ok _, ?_⟩ | refine ⟨_, isRes_ok _, ?_⟩); (try rintro _ rfl)) | ((first | refine .inl ⟨_, within_ok _ _ _, ?_⟩ | refine ⟨_, within_ok _ _ _, ?_⟩); (try rintro _ rfl)) | (refine wrap_succ ?_; omega))))
 all_goals first
  | (exfalso; exact hn ⟨Classical.not_not.1 ‹_›, ‹_›, ‹_›⟩)
  | (exfalso; exact hn ⟨‹_›, ‹_›, ‹_›⟩)
  | skip
 all_goals (conv => whnf)
 all_goals exact endM_pick [] [] (.tup [.agg yaZ, .i .i64 0, .i .i64 1]) (view_of rfl .nil) rfl rfl (fun k hk => by rw [hX] at hk; exact absurd hk (Nat.not_lt_zero _)) ⟨rfl, rfl⟩
set_option maxHeartbeats 4000000 in
theorem makeIn_impl5 (y : Yard) (h : y.ok) (res rep : Int) (hm : y.makeI res rep) (hs : y.stack.length = 0) : RetM env.P 8 [] [.agg y.cs, .i .i64 res, .i .i64 rep] (fun r H => r = .tup [.agg yaZ, .i .i64 0, .i .i64 5] ∧ H = []) := by
 have h1 : 1 ≤ y.shelf.tables.length := by have := hm.1.2.1.1; omega
 have h0 : topV y.stack = 0 := topV_zero (by omega)
 have htop := fun (a b c : AV) => top_ok y.stack h.2.1.1 a b c
 rw [h0] at htop
 obtain ⟨m1, m2, m3⟩ := hm
 refine ret_ofM (nt := 51) (rvs := [.cell 6 37, .tmp 7, .tmp 8]) Tryz.func8 rfl rfl rfl rfl (fun X hX => ?_)
 repeat' (first | exact aa | ((conv => whnf) <;> (first | (refine .inr (.inl (.inl ⟨[], _, _, _, yardOf_ok y h h1, (view_of rfl .nil), ⟨rfl, rfl⟩, ?_⟩)); rintro _ _ ⟨rfl, rfl⟩; refine ⟨rfl, _, lok_yb, ?_⟩) | ((first | refine .inl ⟨_, Ret.wk (.cons (Wk.rfLo (.cons (Wk.refl _) (.cons (shr_ow (d := 1) (k := 2)) (.cons (Wk.refl _) (.cons (Wk.refl _) .nil))))) .nil) (htop _ _ _), ?_⟩ | refine ⟨_, Ret.wk (.cons (Wk.rfLo (.cons (Wk.refl _) (.cons (shr_ow (d := 1) (k := 2)) (.cons (Wk.refl _) (.cons (Wk.refl _) .nil))))) .nil) (htop _ _ _), ?_⟩); (try rintro _ rfl)) | refine And.intro ?_ ?_ | (intro _h; first | contradiction | (try simp only [dd] at _h)) | (refine dt_go ?_) | exact rfl | exact True.intro | exact dkk | exact dks | ((first | refine .inl ⟨_, yardOk_impl y h, ?_⟩ | refine ⟨_, yardOk_impl y h, ?_⟩); (try rintro _ rfl)) | ((first | refine .inl ⟨_, isRes_ok _, ?_⟩ | refine ⟨_, isRes_ok _, ?_⟩); (try rintro _ rfl)) | ((first | refine .inl ⟨_, within_ok _ _ _, ?_⟩ | refine ⟨_, within_ok _ _ _, ?_⟩); (try rintro _ rfl)) | (refine wrap_succ ?_; omega))))
 all_goals (first | contradiction | skip)
 all_goals (try (conv => whnf))
 all_goals first
  | exact endM_pick [] [] (.tup [.agg yaZ, .i .i64 0, .i .i64 5]) (view_of rfl .nil) rfl rfl (fun k hk => by rw [hX] at hk; exact absurd hk (Nat.not_lt_zero _)) ⟨rfl, rfl⟩
  | trace_state
set_option maxHeartbeats 4000000 in
theorem makeIn_impl4 (y : Yard) (h : y.ok) (res rep : Int) (hm : y.makeI res rep) (hs : ¬ y.stack.length = 0) (hf : y.shelf.noMake (topV y.stack).toNat) : RetM env.P 8 [] [.agg y.cs, .i .i64 res, .i .i64 rep] (fun r H => r = .tup [.agg yaZ, .i .i64 0, .i .i64 4] ∧ H = []) := by
 have hw := top_who hm.1 hs
 have hi := top_in hm.1 hs
 have hi0 : ¬ topV y.stack = 0 := by have := hi.1; omega
 have h1 : 1 ≤ y.shelf.tables.length := by have := hm.1.2.1.1; omega
 have ht := tab_good hm.1.1 hw
 have hM := make_err y.shelf h.1 (topV y.stack) res rep hw ht.1 ht.2.2 hm.1.1.2.2.1.2 hm.1.1.1.2 hf
 obtain ⟨m1, m2, m3⟩ := hm
 refine ret_ofM (nt := 51) (rvs := [.cell 6 37, .tmp 7, .tmp 8]) Tryz.func8 rfl rfl rfl rfl (fun X hX => ?_)
 repeat' (first | exact aa | ((conv => whnf) <;> (first | (refine dt_goC (id := 6) [3] ?_) | (refine .inr (.inl (.inl ⟨[], _, _, _, yardOf_ok y h h1, (view_of rfl .nil), ⟨rfl, rfl⟩, ?_⟩)); rintro _ _ ⟨rfl, rfl⟩; refine ⟨rfl, _, lok_yb, ?_⟩) | ((first | refine .inl ⟨_, Ret.wk (.cons (Wk.rfLo (.cons (Wk.refl _) (.cons (shr_ow (d := 1) (k := 2)) (.cons (Wk.refl _) (.cons (Wk.refl _) .nil))))) .nil) (top_ok y.stack h.2.1.1 _ _ _), ?_⟩ | refine ⟨_, Ret.wk (.cons (Wk.rfLo (.cons (Wk.refl _) (.cons (shr_ow (d := 1) (k := 2)) (.cons (Wk.refl _) (.cons (Wk.refl _) .nil))))) .nil) (top_ok y.stack h.2.1.1 _ _ _), ?_⟩); (try rintro _ rfl)) | refine And.intro ?_ ?_ | (intro _h; first | contradiction | (try simp only [dd] at _h)) | (refine dt_go ?_) | exact rfl | exact True.intro | exact dkk | exact dks | ((first | refine .inl ⟨_, yardOk_impl y h, ?_⟩ | refine ⟨_, yardOk_impl y h, ?_⟩); (try rintro _ rfl)) | ((first | refine .inl ⟨_, isRes_ok _, ?_⟩ | refine ⟨_, isRes_ok _, ?_⟩); (try rintro _ rfl)) | ((first | refine .inl ⟨_, within_ok _ _ _, ?_⟩ | refine ⟨_, within_ok _ _ _, ?_⟩); (try rintro _ rfl)) | (refine .inr (.inl (.inl ⟨[3], _, _, _, hM, viewA, ⟨rfl, rfl⟩, ?_⟩)); rintro _ _ ⟨rfl, rfl⟩; refine ⟨rfl, _, lokA, ?_⟩) | (refine wrap_succ ?_; omega))))
 all_goals (first | contradiction | skip)
 all_goals (try (conv => whnf))
 all_goals first
  | exact endM_pick [] [] (.tup [.agg yaZ, .i .i64 0, .i .i64 4]) (view_of rfl .nil) rfl rfl (fun k hk => by rw [hX] at hk; exact absurd hk (Nat.not_lt_zero _)) ⟨rfl, rfl⟩
  | trace_state
set_option maxHeartbeats 8000000 in
theorem makeIn_impl0 (y : Yard) (h : y.ok) (res rep : Int) (hm : y.makeI res rep) (hs : ¬ y.stack.length = 0) (hf : ¬ y.shelf.noMake (topV y.stack).toNat) : RetM env.P 8 [] [.agg y.cs, .i .i64 res, .i .i64 rep] (fun r H => r = .tup [.agg ((y.shelf.made (topV y.stack).toNat res rep).yd y).resO, .i .i64 (y.shelf.tables.getD (topV y.stack).toNat default).next, .i .i64 0] ∧ H = ((y.shelf.made (topV y.stack).toNat res rep).yd y).rowsO) := by
 have hw := top_who hm.1 hs
 have hi := top_in hm.1 hs
 have hi0 : ¬ topV y.stack = 0 := by have := hi.1; omega
 have h1 : 1 ≤ y.shelf.tables.length := by have := hm.1.2.1.1; omega
 have ht := tab_good hm.1.1 hw
 have hn : 0 ≤ y.shelf.next := by have := hm.1.1.1.1; omega
 have hM := make_fine y.shelf h.1 (topV y.stack) res rep hw ht.1 ht.2.2 hm.1.1.2.2.1.2 hm.1.1.1.2 hn ht.2.1 hf
 have ho : ((y.shelf.made (topV y.stack).toNat res rep).yd y).ok := ⟨made_ok h.1 (Nat.lt_of_not_le fun q => hf (.inl q)) ht.1, h.2⟩
 have hl1 : 1 ≤ ((y.shelf.made (topV y.stack).toNat res rep).yd y).shelf.tables.length := by
  show 1 ≤ (y.shelf.made (topV y.stack).toNat res rep).tables.length
  simp only [Shelf.made, Shelf.put, Shelf.plus, List.length_set]
  exact h1
 obtain ⟨m1, m2, m3⟩ := hm
 refine ret_ofM (nt := 51) (rvs := [.cell 6 37, .tmp 7, .tmp 8]) Tryz.func8 rfl rfl rfl rfl (fun X hX => ?_)
 repeat' (first | exact aa | ((conv => whnf) <;> (first | (refine dt_goC (id := 6) [3] ?_) | (refine .inr (.inl (.inl ⟨[], _, _, _, yardOf_ok y h h1, (view_of rfl .nil), ⟨rfl, rfl⟩, ?_⟩)); rintro _ _ ⟨rfl, rfl⟩; refine ⟨rfl, _, lok_yb, ?_⟩) | ((first | refine .inl ⟨_, Ret.wk (.cons (Wk.rfLo (.cons (Wk.refl _) (.cons (shr_ow (d := 1) (k := 2)) (.cons (Wk.refl _) (.cons (Wk.refl _) .nil))))) .nil) (top_ok y.stack h.2.1.1 _ _ _), ?_⟩ | refine ⟨_, Ret.wk (.cons (Wk.rfLo (.cons (Wk.refl _) (.cons (shr_ow (d := 1) (k := 2)) (.cons (Wk.refl _) (.cons (Wk.refl _) .nil))))) .nil) (top_ok y.stack h.2.1.1 _ _ _), ?_⟩); (try rintro _ rfl)) | ((refine .inr (.inl (.inr (.inl ⟨_, RetM.wk (by ((repeat (first | exact WkL.nil | refine WkL.cons ?_ ?_ | exact Wk.refl _ | exact Wk.rfc rfl | refine Wk.fn ?_ | exact Wk.nilS0 | exact shr_L (d := 0) (k := 4) rfl | exact shr_L (d := 1) (k := 3) rfl | exact shr_L (d := 2) (k := 2) rfl | exact shr_L (d := 0) (k := 4) (by simp only [markL_len]) | exact shr_L (d := 1) (k := 3) (by simp only [markL_len]) | refine Wk.agg ?_ | exact shr_L (d := 0) (k := 3) rfl | exact shr_L (d := 1) (k := 2) rfl | exact shr_ow (d := 1) (k := 2) | exact shr_ow (d := 0) (k := 3) | exact shr_ow (d := 1) (k := 1) | exact shr_ow (d := 0) (k := 2) | refine Wk.rfLo ?_)); first | done | fail)) (yard_ok ((y.shelf.made (topV y.stack).toNat res rep).yd y) ho hl1), ?_⟩))); rintro _ _ ⟨rfl, rfl⟩; refine ⟨⟨rfl, nssA⟩, _, lokA, ?_⟩)) | refine And.intro ?_ ?_ | (intro _h; first | contradiction | (try simp only [dd] at _h)) | (refine dt_go ?_) | exact rfl | exact True.intro | exact dkk | exact dks | ((first | refine .inl ⟨_, yardOk_impl y h, ?_⟩ | refine ⟨_, yardOk_impl y h, ?_⟩); (try rintro _ rfl)) | ((first | refine .inl ⟨_, isRes_ok _, ?_⟩ | refine ⟨_, isRes_ok _, ?_⟩); (try rintro _ rfl)) | ((first | refine .inl ⟨_, within_ok _ _ _, ?_⟩ | refine ⟨_, within_ok _ _ _, ?_⟩); (try rintro _ rfl)) | (refine .inr (.inl (.inl ⟨[3], _, _, _, hM, viewA, ⟨rfl, rfl⟩, ?_⟩)); rintro _ _ ⟨rfl, rfl⟩; refine ⟨rfl, _, lokA, ?_⟩) | (refine wrap_succ ?_; omega))))
 all_goals (first | contradiction | skip)
 all_goals (try (conv => whnf))
 all_goals first
  | exact endM_pick [4, 5, 6, 7] ((y.shelf.made (topV y.stack).toNat res rep).yd y).rowsO (.tup [.agg ((y.shelf.made (topV y.stack).toNat res rep).yd y).resO, .i .i64 (y.shelf.tables.getD (topV y.stack).toNat default).next, .i .i64 0]) (view_of rfl (.cons rfl (.self (rowPl_L fun _ => rfl)) (.cons rfl (.self (rowPl_L fun _ => rfl)) (.cons rfl (.self (rowPl_L fun _ => rfl)) (.cons rfl (.self (rowPl_L fun _ => rfl)) .nil)))))  rfl rfl (fun k hk => by rw [hX] at hk; exact absurd hk (Nat.not_lt_zero _)) ⟨rfl, rfl⟩
  | trace_state
end Go.Proofs.YtmchgnbeoefhhaaGreat
