/- Texts for VHandlesOneP. -/
import Derived.Test.YtmglpojnoadgeaaGreatVo17
namespace Go.Proofs.YtmglpojnoadgeaaGreat
open Go Go.RowKit
set_option linter.unusedVariables false
set_option linter.unusedSimpArgs false
set_option maxRecDepth 8000
theorem rowPl_mp (ak : Bool) (f : List Int → Int) (sts : List (Int × List Int)) : RowPl (mpRow ak f sts) := ⟨fun i j hi => absurd hi (Nat.not_lt_zero _)⟩
theorem entriesOk1_ok (x : Thing) (f : List Int → Int) : Ret env.P 80 [.agg x.cs, rfL [.fm false f]] (fun r => r = .b (!decide (f [x.id] = 1))) := by
 refine ret_of (nt := 9) (rvs := [.tmp 3]) Tryz.func80 rfl rfl rfl rfl (fun X => ?_)
 repeat' (first | exact aa | ((conv => whnf) <;> (first | refine And.intro ?_ ?_ | (intro _h; first | contradiction | (try simp only [dd] at _h)) | (refine dt_go ?_) | exact rfl | exact True.intro | exact dkk | exact dks | (refine wrap_succ ?_; omega))))
 all_goals exact rfl
set_option maxHeartbeats 4000000 in
theorem entriesOk_ok (s : Shelf) (h : s.ok) : Ret env.P 43 [rfL s.cs] (fun r => r = .b (pb s.goodAll)) := by
 have hl : s.tables.length ≤ 1048576 := h.1.1
 have ht : s.things.length ≤ 1048576 := h.2.1
 refine ret_of (nt := 91) (rvs := [.tmp 2]) Tryz.func43 rfl rfl rfl rfl (fun X => ?_)
 repeat' (first | exact aa | ((conv => whnf) <;> (first | (refine .inr (.inl (.inl ⟨[], [], [rfL s.cs], _, counts_ok s h, view0, ⟨rfl, rfl⟩, ?_⟩)); rintro _ _ ⟨rfl, rfl⟩; refine ⟨rfl, _, lok_2 (rowPl_mp _ _ _) (rowPl_mp _ _ _), ?_⟩) | refine loopAt 21 s.tables.length (fun i => [(21, .i .i64 i)]) (fun i => []) (fun i => s.UpE i 0) rfl ⟨s.upE_zero, ?_⟩ | (rename_i i _ _; have he : (s.tables.getD (i : Int).toNat default).entries.length ≤ 1048576 := (h.1.2 i (by omega)).1; refine loopAt 29 (s.tables.getD (i : Int).toNat default).entries.length (fun k => [(29, .i .i64 k)]) (fun k => []) (fun k => s.UpE i k) rfl ⟨by assumption, ?_⟩) | refine And.intro ?_ ?_ | (intro _h; first | contradiction | (try simp only [dd] at _h)) | (refine dt_go ?_) | exact rfl | exact True.intro | exact dkk | exact dks | ((first | refine .inl ⟨_, thing_ok s h _, ?_⟩ | refine ⟨_, thing_ok s h _, ?_⟩); (try rintro _ rfl)) | ((first | refine .inl ⟨_, lentOk_ok s h _, ?_⟩ | refine ⟨_, lentOk_ok s h _, ?_⟩); (try rintro _ rfl)) | ((first | refine .inl ⟨_, Ret.wke (containsFuncThing1_ok s.things _ rfl [.fm false (owF s.all)] (fun x => !decide (owF s.all [x.id] = 1)) ht (fun k hk => entriesOk1_ok _ _)), ?_⟩ | refine ⟨_, Ret.wke (containsFuncThing1_ok s.things _ rfl [.fm false (owF s.all)] (fun x => !decide (owF s.all [x.id] = 1)) ht (fun k hk => entriesOk1_ok _ _)), ?_⟩); (try rintro _ rfl)) | (refine wrap_succ ?_; omega))))
 all_goals (first | refine leaf_f ?_ | refine leaf_t ?_ | refine leaf_p ?_ | (conv => whnf) | skip)
 all_goals (try simp only [Int.toNat_natCast] at *)
 all_goals (try simp only [idx_neg, Bool.not_eq_false, Bool.not_eq_true, Decidable.not_not] at *)
 all_goals first
  | (refine Shelf.notE (Int.ofNat_lt.1 ‹_›) (Int.ofNat_lt.1 ‹_›) ?_; rintro ⟨q1, q2, q3⟩; simp_all; done)
  | (refine Shelf.upE_succ (by assumption) ⟨?_, ?_, ?_⟩ <;> simp_all; done)
  | exact Shelf.upE_next ‹s.UpE i _› (by omega)
  | exact goodAll_iff (by assumption) (by omega)
theorem shelfOk_ok (s : Shelf) (h : s.ok) : Ret env.P 12 [.agg s.cs] (fun r => r = .b (pb s.good)) := by
 have hl : s.tables.length ≤ 1048576 := h.1.1
 refine ret_of (nt := 29) (rvs := [.tmp 2]) Tryz.func12 rfl rfl rfl rfl (fun X => ?_)
 repeat' (first | exact aa | ((conv => whnf) <;> (first | refine And.intro ?_ ?_ | (intro _h; first | contradiction | (try simp only [dd] at _h)) | (refine dt_go ?_) | exact rfl | exact True.intro | exact dkk | exact dks | ((first | refine .inl ⟨_, within_ok _ _ _, ?_⟩ | refine ⟨_, within_ok _ _ _, ?_⟩); (try rintro _ rfl)) | ((first | refine .inl ⟨_, sizeTable_ok s.tables hl, ?_⟩ | refine ⟨_, sizeTable_ok s.tables hl, ?_⟩); (try rintro _ rfl)) | ((first | refine .inl ⟨_, thingsOk_ok s h, ?_⟩ | refine ⟨_, thingsOk_ok s h, ?_⟩); (try rintro _ rfl)) | ((first | refine .inl ⟨_, Ret.wke (entriesOk_ok s h), ?_⟩ | refine ⟨_, Ret.wke (entriesOk_ok s h), ?_⟩); (try rintro _ rfl)) | ((first | refine .inl ⟨_, containsFuncTable_ok s.tables _ rfl (fun t => !pb t.good) hl (fun k hk => shelfOk1_ok _ (h.1.2 k hk)), ?_⟩ | refine ⟨_, containsFuncTable_ok s.tables _ rfl (fun t => !pb t.good) hl (fun k hk => shelfOk1_ok _ (h.1.2 k hk)), ?_⟩); (try rintro _ rfl)) | (refine wrap_succ ?_; omega))))
 all_goals (first | refine leaf_f ?_ | refine leaf_t ?_ | refine leaf_p ?_ | (conv => whnf) | skip)
 ·exact fun q => ‹¬ s.goodT› q.2.2.1
 ·rw [pb_t]
  exact ⟨fun q => ⟨by assumption, ⟨by omega, by omega⟩, Classical.not_not.1 (by assumption), allGood_iff.1 (by assumption), q⟩, fun q => q.2.2.2.2⟩
 ·exact fun q => ‹¬ (s.tables.any fun t => !pb t.good) = false› (allGood_iff.2 q.2.2.2.1)
 ·exact fun q => by have := q.2.1; omega
 ·exact fun q => ‹¬ (1 ≤ s.next ∧ s.next ≤ 1000000)› q.1
end Go.Proofs.YtmglpojnoadgeaaGreat
