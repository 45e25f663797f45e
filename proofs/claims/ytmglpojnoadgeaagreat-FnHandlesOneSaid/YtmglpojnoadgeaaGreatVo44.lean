/- Texts for VHandlesOneP. -/
import Derived.Test.YtmglpojnoadgeaaGreatVo43
namespace Go.Proofs.YtmglpojnoadgeaaGreat
open Go Go.RowKit
set_option linter.unusedVariables false
set_option linter.unusedSimpArgs false
set_option maxRecDepth 8000
structure StepF (F : Shelf → ShelfAct → Shelf × Int × Int) : Prop where
 h : ∀ s a, s.ok → s.good → a.fine = true → (F s a).1.ok ∧ (F s a).1.good ∧ ((F s a).2.1 = 0 ↔ (F s a).2.2 = 0) ∧ ActC 33 s (F s a).1 [.agg a.cs] (.i .i64 (F s a).2.1) [] ∧ ActC 29 s (F s a).1 [.agg a.cs] (.i .i64 (F s a).2.2) []
theorem step_is : ∃ F, StepF F := by
 have h : ∀ s a, ∃ p : Shelf × Int × Int, s.ok → s.good → ShelfAct.fine a = true → p.1.ok ∧ p.1.good ∧ (p.2.1 = 0 ↔ p.2.2 = 0) ∧ ActC 33 s p.1 [.agg a.cs] (.i .i64 p.2.1) [] ∧ ActC 29 s p.1 [.agg a.cs] (.i .i64 p.2.2) [] := fun s a => by
  by_cases q : s.ok ∧ s.good ∧ a.fine = true
  ·obtain ⟨s', c, c', h1, h2, h3, h4, h5⟩ := act_both q.1 q.2.1 a q.2.2
   exact ⟨(s', c, c'), fun _ _ _ => ⟨h1, h2, h3, h4, h5⟩⟩
  ·exact ⟨(s, 0, 0), fun q1 q2 q3 => absurd ⟨q1, q2, q3⟩ q⟩
 exact ⟨fun s a => Classical.choose (h s a), ⟨fun s a => Classical.choose_spec (h s a)⟩⟩
def playK (F : Shelf → ShelfAct → Shelf × Int × Int) (s : Shelf) (l : List ShelfAct) : Nat → Shelf × Nat
 | 0 => (s, 0)
 | k + 1 => ((F (playK F s l k).1 (l.getD k default)).1, if (F (playK F s l k).1 (l.getD k default)).2.1 = 0 then (playK F s l k).2 + 1 else (playK F s l k).2)
theorem all_fine {l : List ShelfAct} (h : l.all ShelfAct.fine = true) {k : Nat} (hk : k < l.length) : (l.getD k default).fine = true := List.all_eq_true.1 h _ (getD_mem hk)
theorem play_ok {F : Shelf → ShelfAct → Shelf × Int × Int} (hF : StepF F) {s : Shelf} (h : s.ok) (hg : s.good) {l : List ShelfAct} (hl : l.all ShelfAct.fine = true) : ∀ {k : Nat}, k ≤ l.length → (playK F s l k).1.ok ∧ (playK F s l k).1.good ∧ (playK F s l k).2 ≤ k
 | 0, _ => ⟨h, hg, Nat.le_refl _⟩
 | k + 1, hk => by
  obtain ⟨h1, h2, h3⟩ := play_ok hF h hg hl (Nat.le_of_succ_le hk)
  obtain ⟨q1, q2, _⟩ := hF.h _ _ h1 h2 (all_fine hl hk)
  refine ⟨q1, q2, ?_⟩
  unfold playK
  dsimp only
  split
  ·exact Nat.succ_le_succ h3
  ·exact Nat.le_succ_of_le h3
def Shelf.playS (s : Shelf) (l : List ShelfAct) : Prop := s.sGood ∧ l.length ≤ 60 ∧ l.all ShelfAct.fine = true
theorem playS_iff {s : Shelf} {l : List ShelfAct} : s.playS l ↔ (s.good ∧ l.length ≤ 60 ∧ l.all ShelfAct.fine = true) := by
 unfold Shelf.playS
 rw [good_iff]
structure FineTo (l : List ShelfAct) (k : Nat) : Prop where
 le : k ≤ l.length
 h : ∀ j, j < k → (l.getD j default).fine = true
theorem FineTo.zero (l : List ShelfAct) : FineTo l 0 := ⟨Nat.zero_le _, fun j hj => absurd hj (Nat.not_lt_zero _)⟩
theorem FineTo.succ {l : List ShelfAct} {k : Nat} (h : FineTo l k) (hk : k < l.length) (hf : (l.getD k default).fine = true) : FineTo l (k + 1) := ⟨hk, fun j hj => by
 rcases Nat.lt_or_eq_of_le (Nat.le_of_lt_succ hj) with q | rfl
 ·exact h.h j q
 ·exact hf⟩
theorem FineTo.all {l : List ShelfAct} {k : Nat} (h : FineTo l k) (hk : ¬ k < l.length) : l.all ShelfAct.fine = true := List.all_eq_true.2 fun a ha => by
 obtain ⟨j, hj, rfl⟩ := List.getElem_of_mem ha
 have := h.h j (by omega)
 rwa [List.getD_eq_getElem?_getD, List.getElem?_eq_getElem hj] at this
set_option maxHeartbeats 4000000 in
theorem play_spec1 (s : Shelf) (l : List ShelfAct) (h : s.ok) (hl : l.length ≤ 1048576) (hn : ¬ s.playS l) : RetM env.P 8 [] [.agg s.cs, slL 6 ShelfAct.cs l] (fun r H => r = .tup [.agg [.i .i64 0, .nils, .nils], .i .i64 0, .i .i64 1] ∧ H = []) := by
 refine ret_ofM (nt := 49) (rvs := [.cell 4 27, .tmp 5, .tmp 6]) Tryz.func8 rfl rfl rfl rfl (fun X hX => ?_)
 repeat' (first | exact aa | ((conv => whnf) <;> (first | (refine loopTF 7 (fun k : Nat => [(7, .i .i64 k)]) (fun k => []) (fun k => FineTo l k) (fun k => l.length - k) 0 rfl ⟨.zero l, ?_⟩) | refine And.intro ?_ ?_ | (intro _h; first | contradiction | (try simp only [dd] at _h)) | (refine dt_go ?_) | exact rfl | exact True.intro | exact dkk | exact dks | ((first | refine .inl ⟨_, Ret.wka (l19Ok_ok s h), ?_⟩ | refine ⟨_, Ret.wka (l19Ok_ok s h), ?_⟩); (try rintro _ rfl)) | ((first | refine .inl ⟨_, shelfActOk_spec _, ?_⟩ | refine ⟨_, shelfActOk_spec _, ?_⟩); (try rintro _ rfl)) | (refine wrap_succ ?_; omega))))
 ·conv => whnf
  exact endM_pick [] [] (.tup [.agg [.i .i64 0, .nils, .nils], .i .i64 0, .i .i64 1]) (view_of rfl .nil) rfl rfl (fun k hk => by rw [hX] at hk; exact absurd hk (Nat.not_lt_zero _)) ⟨rfl, rfl⟩
 ·conv => whnf
  exact endM_pick [] [] (.tup [.agg [.i .i64 0, .nils, .nils], .i .i64 0, .i .i64 1]) (view_of rfl .nil) rfl rfl (fun k hk => by rw [hX] at hk; exact absurd hk (Nat.not_lt_zero _)) ⟨rfl, rfl⟩
 ·rename_i k hI hlt
  have hk : k < l.length := Int.ofNat_lt.1 hlt
  have hf : (l.getD k default).fine = true := by simpa using _h
  conv => whnf
  refine roundET_end ?_
  refine ⟨k + 1, [], hI.succ hk hf, (show l.length - (k + 1) < l.length - k by omega), ?_⟩
  repeat' (first | exact aa | ((conv => whnf) <;> (first | refine And.intro ?_ ?_ | (intro _h; first | contradiction | (try simp only [dd] at _h)) | (refine dt_go ?_) | exact rfl | exact True.intro | exact dkk | exact dks | (refine wrap_succ ?_; omega))))
 ·rename_i k hI
  exact absurd ⟨Classical.not_not.1 ‹¬ ¬ s.sGood›, by omega, hI.all (fun q => _h (Int.ofNat_lt.2 q))⟩ hn
 ·conv => whnf
  exact endM_pick [] [] (.tup [.agg [.i .i64 0, .nils, .nils], .i .i64 0, .i .i64 1]) (view_of rfl .nil) rfl rfl (fun k hk => by rw [hX] at hk; exact absurd hk (Nat.not_lt_zero _)) ⟨rfl, rfl⟩
set_option maxHeartbeats 4000000 in
theorem play_specF {F : Shelf → ShelfAct → Shelf × Int × Int} (hF : StepF F) (s : Shelf) (l : List ShelfAct) (h : s.ok) (hm : s.playS l) : RetM env.P 8 [] [.agg s.cs, slL 6 ShelfAct.cs l] (fun r H => r = .tup [.agg (playK F s l l.length).1.resO, .i .i64 ((playK F s l l.length).2 : Nat), .i .i64 0] ∧ H = (playK F s l l.length).1.rowsO) := by
 obtain ⟨hg, hl, hf⟩ := playS_iff.1 hm
 have h1 : 1 ≤ s.tables.length := hg.2.1.1
 have m1 := hm.1
 have hstep : ∀ k, k < l.length → ActC 33 (playK F s l k).1 (playK F s l (k + 1)).1 [.agg (l.getD k default).cs] (.i .i64 (F (playK F s l k).1 (l.getD k default)).2.1) [] := fun k hk => by
  have q := play_ok hF h hg hf (Nat.le_of_lt hk)
  exact (hF.h _ _ q.1 q.2.1 (all_fine hf hk)).2.2.2.1
 refine ret_ofM (nt := 49) (rvs := [.cell 4 27, .tmp 5, .tmp 6]) Tryz.func8 rfl rfl rfl rfl (fun X hX => ?_)
 repeat' (first | exact aa | ((conv => whnf) <;> (first | (refine loopTF 7 (fun k : Nat => [(7, .i .i64 k)]) (fun k => []) (fun k => FineTo l k) (fun k => l.length - k) 0 rfl ⟨.zero l, ?_⟩) | (refine lw_turn _ (turn_close (id := 4) (i := 0) (j := 1) (id' := 2) rfl (show 0 < 1 by decide) (show 1 < 3 by decide) rfl rfl (show 4 ≠ 2 by decide) rfl (rowO_le (Nat.le_refl _))) ?_; refine lw_turn _ (turn_close (id := 4) (i := 0) (j := 2) (id' := 3) rfl (show 0 < 1 by decide) (show 2 < 3 by decide) rfl rfl (show 4 ≠ 3 by decide) rfl (rowO_le (Nat.le_refl _))) ?_; refine lw_turn _ (turn_box (id := 4) (ds := (playK F s l 0).1.csO) rfl rfl rfl (.cons (.refl _) (.cons (.refl _) (.cons (.refl _) .nil)))) ?_; refine loopTF 10 (fun k : Nat => [(10, .i .i64 k), (9, .i .i64 ((playK F s l k).2 : Nat))]) (fun k => [none, none, none, none, some (.box (playK F s l k).1.csO)]) (fun k => k ≤ l.length) (fun k => l.length - k) 0 rfl ⟨Nat.zero_le _, ?_⟩) | refine And.intro ?_ ?_ | (intro _h; first | contradiction | (try simp only [dd] at _h)) | (refine dt_go ?_) | exact rfl | exact True.intro | exact dkk | exact dks | ((first | refine .inl ⟨_, Ret.wka (l19Ok_ok s h), ?_⟩ | refine ⟨_, Ret.wka (l19Ok_ok s h), ?_⟩); (try rintro _ rfl)) | ((first | refine .inl ⟨_, shelfActOk_spec _, ?_⟩ | refine ⟨_, shelfActOk_spec _, ?_⟩); (try rintro _ rfl)) | (refine .inr (.inl (.inr (.inl ⟨_, RetM.wka (l19Own_ok s h h1), ?_⟩))); rintro _ _ ⟨rfl, rfl⟩; refine ⟨⟨rfl, nssA⟩, _, lokA, ?_⟩) | (refine .inr (.inl (.inl ⟨[4], _, _, _, hstep _ (by omega), viewA, ⟨rfl, rfl⟩, ?_⟩)); rintro _ _ ⟨rfl, rfl⟩; refine ⟨rfl, _, lokA, ?_⟩) | (refine wrap_succ ?_; omega))))
 ·rename_i k hI hlt
  rw [show (l.getD ((k : Nat) : Int).toNat default).fine = true from all_fine hf (Int.ofNat_lt.1 hlt)] at _h
  cases _h
 ·rename_i k hI hlt
  have hk : k < l.length := Int.ofNat_lt.1 hlt
  have hf : (l.getD k default).fine = true := by simpa using _h
  conv => whnf
  refine roundET_end ?_
  refine ⟨k + 1, [], hI.succ hk hf, (show l.length - (k + 1) < l.length - k by omega), ?_⟩
  repeat' (first | exact aa | ((conv => whnf) <;> (first | refine And.intro ?_ ?_ | (intro _h; first | contradiction | (try simp only [dd] at _h)) | (refine dt_go ?_) | exact rfl | exact True.intro | exact dkk | exact dks | (refine wrap_succ ?_; omega))))
 ·rename_i k hI hlt
  have hk : k < l.length := Int.ofNat_lt.1 hlt
  have he : (playK F s l (k + 1)).2 = (playK F s l k).2 + 1 := if_pos _h
  have hq := (play_ok hF h hg hf (Nat.le_of_lt hk)).2.2
  conv => whnf
  refine roundET_end ?_
  refine ⟨k + 1, [], hk, (show l.length - (k + 1) < l.length - k by omega), ?_⟩
  repeat' (first | exact aa | ((conv => whnf) <;> (first | exact (wrap_succ (by omega)).trans (congrArg _ he.symm) | refine And.intro ?_ ?_ | (intro _h; first | contradiction | (try simp only [dd] at _h)) | (refine dt_go ?_) | exact rfl | exact True.intro | exact dkk | exact dks | (refine wrap_succ ?_; omega))))
 ·rename_i k hI hlt
  have hk : k < l.length := Int.ofNat_lt.1 hlt
  have he : (playK F s l (k + 1)).2 = (playK F s l k).2 := if_neg _h
  conv => whnf
  refine roundET_end ?_
  refine ⟨k + 1, [], hk, (show l.length - (k + 1) < l.length - k by omega), ?_⟩
  repeat' (first | exact aa | ((conv => whnf) <;> (first | exact congrArg _ he.symm | refine And.intro ?_ ?_ | (intro _h; first | contradiction | (try simp only [dd] at _h)) | (refine dt_go ?_) | exact rfl | exact True.intro | exact dkk | exact dks | (refine wrap_succ ?_; omega))))
 ·rename_i k hI
  obtain rfl : k = l.length := by omega
  conv => whnf
  exact endM_pick [5, 6] (playK F s l l.length).1.rowsO (.tup [.agg (playK F s l l.length).1.resO, .i .i64 ((playK F s l l.length).2 : Nat), .i .i64 0]) (view_of rfl (.cons rfl (.self (rowPl_L fun _ => rfl)) (.cons rfl (.self (rowPl_L fun _ => rfl)) .nil))) rfl rfl (fun k hk => by rw [hX] at hk; exact absurd hk (Nat.not_lt_zero _)) ⟨rfl, rfl⟩
 ·exact absurd m1 _h
theorem play1_ok (a : ShelfAct) : Ret env.P 26 [.agg a.cs] (fun r => r = .b (!a.fine)) := by
 refine ret_of (nt := 6) (rvs := [.tmp 2]) Tryz.func26 rfl rfl rfl rfl (fun X => ?_)
 repeat' (first | exact aa | ((conv => whnf) <;> (first | refine And.intro ?_ ?_ | (intro _h; first | contradiction | (try simp only [dd] at _h)) | (refine dt_go ?_) | exact rfl | exact True.intro | exact dkk | exact dks | ((first | refine .inl ⟨_, shelfActOk_impl _, ?_⟩ | refine ⟨_, shelfActOk_impl _, ?_⟩); (try rintro _ rfl)) | (refine wrap_succ ?_; omega))))
 all_goals exact rfl
theorem indexFuncShelfAct_ok (l : List ShelfAct) (g : Nat) {fv} (hg : env.F.get g = some fv) (p : ShelfAct → Bool) (hl : l.length ≤ 1048576) (hp : ∀ k, k < l.length → Ret env.P g (.agg (ShelfAct.cs (l.getD k default)) :: []) (fun r => r = .b (p (l.getD k default)))) :
  Ret env.P 56 [slL 6 ShelfAct.cs l, .fn g []] (fun r => r = .i .i64 (idxI (l.findIdx? p))) := by
 refine ret_of (nt := 19) (rvs := [.tmp 4]) Tryz.func56 rfl rfl rfl rfl (fun X => ?_)
 repeat' (first | exact aa | ((conv => whnf) <;> (first | rw [hg] | exact upto_succ (by assumption) (by assumption) | refine loopN l.length (fun k => [(8, .i .i64 k)]) (fun k => []) (fun k => ∀ j, j < k → p (l.getD j default) = false) ⟨fun _ h => by omega, ?_⟩ | refine And.intro ?_ ?_ | (intro _h; first | contradiction | (try simp only [dd] at _h)) | (refine dt_go ?_) | exact rfl | exact True.intro | exact dkk | exact dks | ((first | refine .inl ⟨_, hp _ (by omega), ?_⟩ | refine ⟨_, hp _ (by omega), ?_⟩); (try rintro _ rfl)) | (refine wrap_succ ?_; omega))))
 ·exact leaf_i (idx_some (by omega) (by assumption) (by assumption))
 ·exact leaf_i (idx_none fun j hj => by have := ‹∀ j, j < _ → p (l.getD j default) = false›; exact this j (by omega))
theorem containsFuncShelfAct_ok (l : List ShelfAct) (g : Nat) {fv} (hg : env.F.get g = some fv) (p : ShelfAct → Bool) (hl : l.length ≤ 1048576) (hp : ∀ k, k < l.length → Ret env.P g (.agg (ShelfAct.cs (l.getD k default)) :: []) (fun r => r = .b (p (l.getD k default)))) :
  Ret env.P 25 [slL 6 ShelfAct.cs l, .fn g []] (fun r => r = .b (l.any p)) := by
 refine ret_of (nt := 9) (rvs := [.tmp 4]) Tryz.func25 rfl rfl rfl rfl (fun X => ?_)
 repeat' (first | exact aa | ((conv => whnf) <;> (first | refine And.intro ?_ ?_ | (intro _h; first | contradiction | (try simp only [dd] at _h)) | (refine dt_go ?_) | exact rfl | exact True.intro | exact dkk | exact dks | ((first | refine .inl ⟨_, indexFuncShelfAct_ok l g hg p hl hp, ?_⟩ | refine ⟨_, indexFuncShelfAct_ok l g hg p hl hp, ?_⟩); (try rintro _ rfl)) | (refine wrap_succ ?_; omega))))
 all_goals exact leaf_b (idx_any _ _)
set_option maxHeartbeats 4000000 in
theorem play_impl1 (s : Shelf) (l : List ShelfAct) (h : s.ok) (hl0 : l.length ≤ 1048576) (hn : ¬ (s.good ∧ l.length ≤ 60 ∧ l.all ShelfAct.fine = true)) : RetM env.P 7 [] [.agg s.cs, slL 6 ShelfAct.cs l] (fun r H => r = .tup [.agg [.i .i64 0, .nils, .nils], .i .i64 0, .i .i64 1] ∧ H = []) := by
 have hany : (l.any fun a => !a.fine) = !(l.all ShelfAct.fine) := by rw [List.not_all_eq_any_not]
 refine ret_ofM (nt := 44) (rvs := [.cell 4 27, .tmp 5, .tmp 6]) Tryz.func7 rfl rfl rfl rfl (fun X hX => ?_)
 repeat' (first | exact aa | ((conv => whnf) <;> (first | refine And.intro ?_ ?_ | (intro _h; first | contradiction | (try simp only [dd] at _h)) | (refine dt_go ?_) | exact rfl | exact True.intro | exact dkk | exact dks | ((first | refine .inl ⟨_, shelfOk_ok s h, ?_⟩ | refine ⟨_, shelfOk_ok s h, ?_⟩); (try rintro _ rfl)) | ((first | refine .inl ⟨_, Ret.wka (containsFuncShelfAct_ok l 26 rfl (fun a => !a.fine) hl0 (fun k hk => play1_ok _)), ?_⟩ | refine ⟨_, Ret.wka (containsFuncShelfAct_ok l 26 rfl (fun a => !a.fine) hl0 (fun k hk => play1_ok _)), ?_⟩); (try rintro _ rfl)) | (refine wrap_succ ?_; omega))))
 ·conv => whnf
  exact endM_pick [] [] (.tup [.agg [.i .i64 0, .nils, .nils], .i .i64 0, .i .i64 1]) (view_of rfl .nil) rfl rfl (fun k hk => by rw [hX] at hk; exact absurd hk (Nat.not_lt_zero _)) ⟨rfl, rfl⟩
 ·refine absurd ⟨Classical.not_not.1 ‹¬ ¬ s.good›, by omega, ?_⟩ hn
  rw [hany] at _h
  simpa using _h
 ·conv => whnf
  exact endM_pick [] [] (.tup [.agg [.i .i64 0, .nils, .nils], .i .i64 0, .i .i64 1]) (view_of rfl .nil) rfl rfl (fun k hk => by rw [hX] at hk; exact absurd hk (Nat.not_lt_zero _)) ⟨rfl, rfl⟩
 ·conv => whnf
  exact endM_pick [] [] (.tup [.agg [.i .i64 0, .nils, .nils], .i .i64 0, .i .i64 1]) (view_of rfl .nil) rfl rfl (fun k hk => by rw [hX] at hk; exact absurd hk (Nat.not_lt_zero _)) ⟨rfl, rfl⟩
set_option maxHeartbeats 4000000 in
theorem play_implF {F : Shelf → ShelfAct → Shelf × Int × Int} (hF : StepF F) (s : Shelf) (l : List ShelfAct) (h : s.ok) (hm : s.good ∧ l.length ≤ 60 ∧ l.all ShelfAct.fine = true) : RetM env.P 7 [] [.agg s.cs, slL 6 ShelfAct.cs l] (fun r H => r = .tup [.agg (playK F s l l.length).1.resO, .i .i64 ((playK F s l l.length).2 : Nat), .i .i64 0] ∧ H = (playK F s l l.length).1.rowsO) := by
 obtain ⟨hg, hl, hf⟩ := hm
 have h1 : 1 ≤ s.tables.length := hg.2.1.1
 have hl0 : l.length ≤ 1048576 := by omega
 have hany : (l.any fun a => !a.fine) = false := by
  rw [show (l.any fun a => !a.fine) = !(l.all ShelfAct.fine) by rw [List.not_all_eq_any_not], hf]; rfl
 have hstep : ∀ k, k < l.length → ActC 29 (playK F s l k).1 (playK F s l (k + 1)).1 [.agg (l.getD k default).cs] (.i .i64 (F (playK F s l k).1 (l.getD k default)).2.2) [] := fun k hk => by
  have q := play_ok hF h hg hf (Nat.le_of_lt hk)
  exact (hF.h _ _ q.1 q.2.1 (all_fine hf hk)).2.2.2.2
 refine ret_ofM (nt := 44) (rvs := [.cell 4 27, .tmp 5, .tmp 6]) Tryz.func7 rfl rfl rfl rfl (fun X hX => ?_)
 repeat' (first | exact aa | ((conv => whnf) <;> (first | (refine loopNT l.length (fun k => [(28, .i .i64 k), (8, .i .i64 ((playK F s l k).2 : Nat))]) (fun k => [none, none, some (.box (playK F s l k).1.csO)]) (fun k => True) ⟨trivial, ?_⟩) | refine And.intro ?_ ?_ | (intro _h; first | contradiction | (try simp only [dd] at _h)) | (refine dt_go ?_) | exact rfl | exact True.intro | exact dkk | exact dks | ((first | refine .inl ⟨_, shelfOk_ok s h, ?_⟩ | refine ⟨_, shelfOk_ok s h, ?_⟩); (try rintro _ rfl)) | ((first | refine .inl ⟨_, Ret.wka (containsFuncShelfAct_ok l 26 rfl (fun a => !a.fine) hl0 (fun k hk => play1_ok _)), ?_⟩ | refine ⟨_, Ret.wka (containsFuncShelfAct_ok l 26 rfl (fun a => !a.fine) hl0 (fun k hk => play1_ok _)), ?_⟩); (try rintro _ rfl)) | (refine .inr (.inl (.inr (.inl ⟨_, RetM.wka (shelfOf_ok s h h1), ?_⟩))); rintro _ _ ⟨rfl, rfl⟩; refine ⟨⟨rfl, nssA⟩, _, lokA, ?_⟩) | (refine .inr (.inl (.inl ⟨[2], _, _, _, hstep _ (by omega), viewA, ⟨rfl, rfl⟩, ?_⟩)); rintro _ _ ⟨rfl, rfl⟩; refine ⟨rfl, _, lokA, ?_⟩) | (refine wrap_succ ?_; omega))))
 ·rw [hany] at _h
  cases _h
 ·rename_i k _ _ hlt
  have hk : k < l.length := Int.ofNat_lt.1 hlt
  have hq := play_ok hF h hg hf (Nat.le_of_lt hk)
  have he : (playK F s l (k + 1)).2 = (playK F s l k).2 + 1 := if_pos ((hF.h _ _ hq.1 hq.2.1 (all_fine hf hk)).2.2.1.2 _h)
  have hq2 := hq.2.2
  conv => whnf
  refine roundNT_end ?_
  repeat' (first | exact aa | ((conv => whnf) <;> (first | exact (wrap_succ (by omega)).trans (congrArg _ he.symm) | refine And.intro ?_ ?_ | (intro _h; first | contradiction | (try simp only [dd] at _h)) | (refine dt_go ?_) | exact rfl | exact True.intro | exact dkk | exact dks | (refine wrap_succ ?_; omega))))
 ·rename_i k _ _ hlt
  have hk : k < l.length := Int.ofNat_lt.1 hlt
  have hq := play_ok hF h hg hf (Nat.le_of_lt hk)
  have he : (playK F s l (k + 1)).2 = (playK F s l k).2 := if_neg fun q => _h ((hF.h _ _ hq.1 hq.2.1 (all_fine hf hk)).2.2.1.1 q)
  conv => whnf
  refine roundNT_end ?_
  repeat' (first | exact aa | ((conv => whnf) <;> (first | exact congrArg _ he.symm | refine And.intro ?_ ?_ | (intro _h; first | contradiction | (try simp only [dd] at _h)) | (refine dt_go ?_) | exact rfl | exact True.intro | exact dkk | exact dks | (refine wrap_succ ?_; omega))))
 ·rename_i k _ _
  obtain rfl : k = l.length := by omega
  conv => whnf
  exact endM_pick [3, 4] (playK F s l l.length).1.rowsO (.tup [.agg (playK F s l l.length).1.resO, .i .i64 ((playK F s l l.length).2 : Nat), .i .i64 0]) (view_of rfl (.cons rfl (.self (rowPl_L fun _ => rfl)) (.cons rfl (.self (rowPl_L fun _ => rfl)) .nil))) rfl rfl (fun k hk => by rw [hX] at hk; exact absurd hk (Nat.not_lt_zero _)) ⟨rfl, rfl⟩
 ·exact absurd hg _h
end Go.Proofs.YtmglpojnoadgeaaGreat
