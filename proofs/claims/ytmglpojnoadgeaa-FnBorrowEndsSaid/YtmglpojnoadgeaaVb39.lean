/- Texts for VBorrowEndsP. -/
import Derived.Test.YtmglpojnoadgeaaVb38
namespace Go.Proofs.Ytmglpojnoadgeaa
open Go Go.RowKit
set_option linter.unusedVariables false
set_option linter.unusedSimpArgs false
set_option maxRecDepth 8000
set_option maxHeartbeats 2000000 in
theorem endScope_ok (s : Shelf) (h : s.ok) (hg : s.good) (sc : Int) : RetM env.P 24 [some (boxRow s.csO)] [.ptr 0 0 0, .i .i64 sc] (fun r H => r = .tup [] ∧ H = [some (boxRow (s.keep (s.fixK (scK sc))).relend.csO)]) := by
  refine ret_ofM (nt := 7) (rvs := []) Try.func24 rfl rfl rfl rfl (fun X hX => ?_)
  repeat' (first | exact aa | ((conv => whnf) <;> (first | (refine .inr (.inl (.inl ⟨[0, 1], _, _, _, removeAll_ok s h hg.tidy 53 rfl sc (fun w e => !scK sc 0 e) (fun w e => endScope1_ok w e sc) (scK sc) (fun i e => by rw [Bool.not_not]; rfl), (view_of rfl (.cons rfl (.self (rowPl_box rfl)) (.cons rfl (.self (rowPl_box rfl)) .nil))), ⟨rfl, rfl⟩, ?_⟩)); rintro _ _ ⟨rfl, rfl⟩; refine ⟨rfl, _, lok_pl (.cons (rowPl_box rfl) (.cons (rowPl_box rfl) .nil)), ?_⟩) | refine And.intro ?_ ?_ | (intro _h; first | contradiction | (try simp only [dd] at _h)) | (refine dt_go ?_) | exact rfl | exact True.intro | exact dkk | exact dks | (refine wrap_succ ?_; omega))))
  all_goals (conv => whnf)
  all_goals exact endM_pick [0] [some (boxRow (s.keep (s.fixK (scK sc))).relend.csO)] (.tup []) (view_of rfl (.cons rfl (.self (rowPl_box rfl)) .nil)) rfl rfl (by rw [hX]; exact keepK (n := 1) rfl rfl) ⟨rfl, rfl⟩
def Shelf.endS (s : Shelf) (sc : Int) : Prop := s.sGood ∧ (1 ≤ sc ∧ sc ≤ 1000000)
theorem endS_iff {s : Shelf} {sc : Int} : s.endS sc ↔ (s.good ∧ (1 ≤ sc ∧ sc ≤ 1000000)) := by
  unfold Shelf.endS
  rw [good_iff]
set_option maxHeartbeats 2000000 in
theorem end_spec1 (s : Shelf) (h : s.ok) (sc : Int) (hn : ¬ s.endS sc) : RetM env.P 9 [] [.agg s.cs, .i .i64 sc] (fun r H => r = .agg [.i .i64 0, .nils, .nils] ∧ H = []) := by
  refine ret_ofM (nt := 18) (rvs := [.cell 4 27]) Try.func9 rfl rfl rfl rfl (fun X hX => ?_)
  repeat' (first | exact aa | ((conv => whnf) <;> (first | exact absurd ⟨Classical.not_not.1 ‹_›, ‹_›⟩ hn | refine And.intro ?_ ?_ | (intro _h; first | contradiction | (try simp only [dd] at _h)) | (refine dt_go ?_) | exact rfl | exact True.intro | exact dkk | exact dks | ((first | refine .inl ⟨_, Ret.wka (l19Ok_ok s h), ?_⟩ | refine ⟨_, Ret.wka (l19Ok_ok s h), ?_⟩); (try rintro _ rfl)) | ((first | refine .inl ⟨_, l00In_ok _ _ _, ?_⟩ | refine ⟨_, l00In_ok _ _ _, ?_⟩); (try rintro _ rfl)) | (refine wrap_succ ?_; omega))))
  all_goals first
    | (exfalso; exact hn ⟨Classical.not_not.1 ‹_›, ‹_›⟩)
    | (exfalso; exact hn ⟨‹_›, ‹_›⟩)
    | skip
  all_goals (conv => whnf)
  all_goals exact endM_pick [] [] (.agg [.i .i64 0, .nils, .nils]) (view_of rfl .nil) rfl rfl (fun k hk => by rw [hX] at hk; exact absurd hk (Nat.not_lt_zero _)) ⟨rfl, rfl⟩
set_option maxHeartbeats 2000000 in
theorem end_specF (s s' : Shelf) (h : s.ok) (sc : Int) (hm : s.endS sc) (hL : RetM env.P 28 [some (boxRow s.csO)] [.ptr 0 0 0, .i .i64 sc] (fun r H => r = .tup [] ∧ H = [some (boxRow s'.csO)])) : RetM env.P 9 [] [.agg s.cs, .i .i64 sc] (fun r H => r = .agg s'.resO ∧ H = s'.rowsO) := by
  have h1 : 1 ≤ s.tables.length := (endS_iff.1 hm).1.2.1.1
  obtain ⟨m1, m2⟩ := hm
  refine ret_ofM (nt := 18) (rvs := [.cell 4 27]) Try.func9 rfl rfl rfl rfl (fun X hX => ?_)
  repeat' (first | exact aa | ((conv => whnf) <;> (first | (refine .inr (.inr ⟨[some (boxRow s.cs), some (boxRow [.i .i64 0, .nils, .nils]), none, none, some (boxRow s.csO)], (by intro X; refine Turn.trans (turn_close (id := 4) (i := 0) (j := 1) (id' := 2) rfl (show 0 < 1 by decide) (show 1 < 3 by decide) rfl rfl (show 4 ≠ 2 by decide) rfl (rowO_le (Nat.le_refl _))) ?_; refine Turn.trans (turn_close (id := 4) (i := 0) (j := 2) (id' := 3) rfl (show 0 < 1 by decide) (show 2 < 3 by decide) rfl rfl (show 4 ≠ 3 by decide) rfl (rowO_le (Nat.le_refl _))) ?_; exact turn_box (id := 4) (ds := s.csO) rfl rfl rfl (.cons (.refl _) (.cons (.refl _) (.cons (.refl _) .nil)))), (fun i _ q => (by cases q)), .inl ⟨[4], _, _, _, hL, (view_of rfl (.cons rfl (.self (rowPl_box rfl)) .nil)), ⟨rfl, rfl⟩, ?_⟩⟩); rintro _ _ ⟨rfl, rfl⟩; refine ⟨rfl, _, (lok_pl (.cons (rowPl_box rfl) .nil)), ?_⟩) | refine And.intro ?_ ?_ | (intro _h; first | contradiction | (try simp only [dd] at _h)) | (refine dt_go ?_) | exact rfl | exact True.intro | exact dkk | exact dks | ((first | refine .inl ⟨_, Ret.wka (l19Ok_ok s h), ?_⟩ | refine ⟨_, Ret.wka (l19Ok_ok s h), ?_⟩); (try rintro _ rfl)) | ((first | refine .inl ⟨_, l00In_ok _ _ _, ?_⟩ | refine ⟨_, l00In_ok _ _ _, ?_⟩); (try rintro _ rfl)) | (refine .inr (.inl (.inr (.inl ⟨_, RetM.wka (l19Own_ok s h h1), ?_⟩))); rintro _ _ ⟨rfl, rfl⟩; refine ⟨⟨rfl, nssA⟩, _, lokA, ?_⟩) | (refine wrap_succ ?_; omega))))
  all_goals (first | contradiction | skip)
  all_goals (conv => whnf)
  all_goals exact endM_pick [5, 6] s'.rowsO (.agg s'.resO) (view_of rfl (.cons rfl (.self (rowPl_L fun _ => rfl)) (.cons rfl (.self (rowPl_L fun _ => rfl)) .nil))) rfl rfl (fun k hk => by rw [hX] at hk; exact absurd hk (Nat.not_lt_zero _)) ⟨rfl, rfl⟩
set_option maxHeartbeats 2000000 in
theorem end_impl1 (s : Shelf) (h : s.ok) (sc : Int) (hn : ¬ (s.good ∧ (1 ≤ sc ∧ sc ≤ 1000000))) : RetM env.P 7 [] [.agg s.cs, .i .i64 sc] (fun r H => r = .agg [.i .i64 0, .nils, .nils] ∧ H = []) := by
  refine ret_ofM (nt := 24) (rvs := [.cell 4 27]) Try.func7 rfl rfl rfl rfl (fun X hX => ?_)
  repeat' (first | exact aa | ((conv => whnf) <;> (first | refine And.intro ?_ ?_ | (intro _h; first | contradiction | (try simp only [dd] at _h)) | (refine dt_go ?_) | exact rfl | exact True.intro | exact dkk | exact dks | ((first | refine .inl ⟨_, shelfOk_ok s h, ?_⟩ | refine ⟨_, shelfOk_ok s h, ?_⟩); (try rintro _ rfl)) | ((first | refine .inl ⟨_, isId_ok _, ?_⟩ | refine ⟨_, isId_ok _, ?_⟩); (try rintro _ rfl)) | (refine wrap_succ ?_; omega))))
  all_goals first
    | (exfalso; exact hn ⟨Classical.not_not.1 ‹_›, ‹_›⟩)
    | (exfalso; exact hn ⟨‹_›, ‹_›⟩)
    | skip
  all_goals (conv => whnf)
  all_goals exact endM_pick [] [] (.agg [.i .i64 0, .nils, .nils]) (view_of rfl .nil) rfl rfl (fun k hk => by rw [hX] at hk; exact absurd hk (Nat.not_lt_zero _)) ⟨rfl, rfl⟩
set_option maxHeartbeats 2000000 in
theorem end_implF (s s' : Shelf) (h : s.ok) (sc : Int) (hm : s.good ∧ (1 ≤ sc ∧ sc ≤ 1000000)) (hL : RetM env.P 24 [some (boxRow s.csO)] [.ptr 0 0 0, .i .i64 sc] (fun r H => r = .tup [] ∧ H = [some (boxRow s'.csO)])) : RetM env.P 7 [] [.agg s.cs, .i .i64 sc] (fun r H => r = .agg s'.resO ∧ H = s'.rowsO) := by
  have h1 : 1 ≤ s.tables.length := hm.1.2.1.1
  obtain ⟨m1, m2⟩ := hm
  refine ret_ofM (nt := 24) (rvs := [.cell 4 27]) Try.func7 rfl rfl rfl rfl (fun X hX => ?_)
  repeat' (first | exact aa | ((conv => whnf) <;> (first | refine And.intro ?_ ?_ | (intro _h; first | contradiction | (try simp only [dd] at _h)) | (refine dt_go ?_) | exact rfl | exact True.intro | exact dkk | exact dks | ((first | refine .inl ⟨_, shelfOk_ok s h, ?_⟩ | refine ⟨_, shelfOk_ok s h, ?_⟩); (try rintro _ rfl)) | ((first | refine .inl ⟨_, isId_ok _, ?_⟩ | refine ⟨_, isId_ok _, ?_⟩); (try rintro _ rfl)) | (refine .inr (.inl (.inr (.inl ⟨_, RetM.wka (shelfOf_ok s h h1), ?_⟩))); rintro _ _ ⟨rfl, rfl⟩; refine ⟨⟨rfl, nssA⟩, _, lokA, ?_⟩) | (refine .inr (.inl (.inl ⟨[2], _, _, _, hL, viewA, ⟨rfl, rfl⟩, ?_⟩)); rintro _ _ ⟨rfl, rfl⟩; refine ⟨rfl, _, lokA, ?_⟩) | (refine wrap_succ ?_; omega))))
  all_goals (first | contradiction | skip)
  all_goals (conv => whnf)
  all_goals exact endM_pick [3, 4] s'.rowsO (.agg s'.resO) (view_of rfl (.cons rfl (.self (rowPl_L fun _ => rfl)) (.cons rfl (.self (rowPl_L fun _ => rfl)) .nil))) rfl rfl (fun k hk => by rw [hX] at hk; exact absurd hk (Nat.not_lt_zero _)) ⟨rfl, rfl⟩
set_option maxHeartbeats 2000000 in
set_option maxRecDepth 8000 in
theorem sameShelf_spec (a b : Shelf) (h : a.ok) : Ret env.P 8 [.agg a.cs, .agg b.cs] (fun r => r = .b (decide (a = b))) := by
  obtain ⟨a0, a1, a2⟩ := a
  obtain ⟨b0, b1, b2⟩ := b
  have h1 : okL Table.ok a1 := h.1
  have h2 : okL Thing.ok a2 := h.2
  have hl1 := h1.1
  have hl2 := h2.1
  refine ret_of (nt := 100) (rvs := [.tmp 4]) Try.func8 rfl rfl rfl rfl (fun X => ?_)
  repeat' (first | exact aa | ((conv => whnf) <;> (first | refine loopAt 5 a2.length (fun k => [(5, .i .i64 k)]) (fun k => []) (fun k => ∀ j, j < k → a2.getD j default = b2.getD j default) rfl ⟨fun _ h => by omega, ?_⟩ | refine loopAt 6 a1.length (fun k => [(6, .i .i64 k)]) (fun k => []) (fun k => ∀ j, j < k → a1.getD j default = b1.getD j default) rfl ⟨fun _ h => by omega, ?_⟩ | (rename_i i _ _ _ _; have he : (a1.getD (i : Int).toNat default).entries.length ≤ 1048576 := (h1.2 (i : Int).toNat (by omega)).1; refine loopAt 9 (a1.getD (i : Int).toNat default).entries.length (fun k => [(9, .i .i64 k)]) (fun k => []) (fun k => ∀ j, j < k → (a1.getD (i : Int).toNat default).entries.getD j default = (b1.getD (i : Int).toNat default).entries.getD j default) rfl ⟨fun _ h => by omega, ?_⟩) | exact upto_succ (by assumption) (Thing.etaC (by simpa using _h)) | exact upto_succ (by assumption) (Entry.etaC (by simpa using _h)) | exact upto_succ (by assumption) (Table.eta (a := a1.getD (i : Int).toNat default) (b := b1.getD (i : Int).toNat default) (by assumption) (list_eq (by omega) (fun j hj => ‹∀ j, j < _ → (Table.entries _).getD j default = (Table.entries _).getD j default› j (by omega)))) | refine And.intro ?_ ?_ | (intro _h; first | contradiction | (try simp only [dd] at _h)) | (refine dt_go ?_) | exact rfl | exact True.intro | exact dkk | exact dks | (refine wrap_succ ?_; omega))))
  all_goals first
    | exact leaf_ne (by intro e; injection e; subst_vars; first | omega | contradiction | (simp at _h; done))
    | exact leaf_eq (Shelf.eta (a := ⟨a0, a1, a2⟩) (b := ⟨b0, b1, b2⟩) (by assumption) (list_eq (l := a1) (m := b1) (by omega) fun j hj => (‹∀ j, j < _ → a1.getD j default = b1.getD j default› : ∀ j, j < _ → a1.getD j default = b1.getD j default) j (by omega)) (list_eq (l := a2) (m := b2) (by omega) fun j hj => (‹∀ j, j < _ → a2.getD j default = b2.getD j default› : ∀ j, j < _ → a2.getD j default = b2.getD j default) j (by omega)))
set_option maxRecDepth 8000
set_option maxHeartbeats 4000000 in
theorem do_make (s s' : Shelf) (h : s.ok) (who num res to scope n c : Int) (z L : List Thing) (z1 : Thing) (hw : 0 ≤ who ∧ who < (s.tables.length : Int)) (hto : 0 ≤ to ∧ to < (s.tables.length : Int)) (hC : RetM env.P 93 [some (boxRow s.csO)] [.ptr 0 0 0, .i .i64 who, .i .i64 res, .i .i64 s.next] (fun r H => r = .tup [.i .i64 n, .i .i64 c] ∧ H = [some (boxRow s'.csO)])) : RetM env.P 75 [some (boxRow s.csO)] [.ptr 0 0 0, .agg (⟨1, who, num, res, to, scope⟩ : ShelfAct).cs] (fun r H => r = .i .i64 c ∧ H = [some (boxRow s'.csO)]) := by
  have hl : s.tables.length ≤ 1048576 := h.1.1
  refine ret_ofM (nt := 89) (rvs := [.tmp 4]) Try.func75 rfl rfl rfl rfl (fun X hX => ?_)
  repeat' (first | exact aa | ((conv => whnf) <;> (first | (refine dt_goC [0] ?_) | refine And.intro ?_ ?_ | (intro _h; first | contradiction | (try simp only [dd] at _h)) | (refine dt_go ?_) | exact rfl | exact True.intro | exact dkk | exact dks | ((first | refine .inl ⟨_, Ret.wka (l19Who_ok s h _), ?_⟩ | refine ⟨_, Ret.wka (l19Who_ok s h _), ?_⟩); (try rintro _ rfl)) | (refine .inr (.inl (.inl ⟨[0], _, _, _, hC, viewA, ⟨rfl, rfl⟩, ?_⟩)); rintro _ _ ⟨rfl, rfl⟩; refine ⟨rfl, _, lokA, ?_⟩) | (refine wrap_succ ?_; omega))))
  all_goals (conv => whnf)
  all_goals exact endM_pick [0] [some (boxRow s'.csO)] (.i .i64 c) (view_of rfl (.cons rfl (.self (rowPl_box rfl)) .nil)) rfl rfl (by rw [hX]; exact keepK (n := 1) rfl rfl) ⟨rfl, rfl⟩
set_option maxHeartbeats 4000000 in
theorem do_move (s s' : Shelf) (h : s.ok) (who num res to scope n c : Int) (z L : List Thing) (z1 : Thing) (hw : 0 ≤ who ∧ who < (s.tables.length : Int)) (hto : 0 ≤ to ∧ to < (s.tables.length : Int)) (hC : RetM env.P 40 [some (boxRow s.csO)] [.ptr 0 0 0, .i .i64 who, .i .i64 num, .i .i64 res, .i .i64 to] (fun r H => r = .tup [.i .i64 n, .i .i64 c] ∧ H = [some (boxRow s'.csO)])) : RetM env.P 75 [some (boxRow s.csO)] [.ptr 0 0 0, .agg (⟨2, who, num, res, to, scope⟩ : ShelfAct).cs] (fun r H => r = .i .i64 c ∧ H = [some (boxRow s'.csO)]) := by
  have hl : s.tables.length ≤ 1048576 := h.1.1
  refine ret_ofM (nt := 89) (rvs := [.tmp 4]) Try.func75 rfl rfl rfl rfl (fun X hX => ?_)
  repeat' (first | exact aa | ((conv => whnf) <;> (first | (refine dt_goC [0] ?_) | refine And.intro ?_ ?_ | (intro _h; first | contradiction | (try simp only [dd] at _h)) | (refine dt_go ?_) | exact rfl | exact True.intro | exact dkk | exact dks | ((first | refine .inl ⟨_, Ret.wka (l19Who_ok s h _), ?_⟩ | refine ⟨_, Ret.wka (l19Who_ok s h _), ?_⟩); (try rintro _ rfl)) | (refine .inr (.inl (.inl ⟨[0], _, _, _, hC, viewA, ⟨rfl, rfl⟩, ?_⟩)); rintro _ _ ⟨rfl, rfl⟩; refine ⟨rfl, _, lokA, ?_⟩) | (refine wrap_succ ?_; omega))))
  all_goals (conv => whnf)
  all_goals exact endM_pick [0] [some (boxRow s'.csO)] (.i .i64 c) (view_of rfl (.cons rfl (.self (rowPl_box rfl)) .nil)) rfl rfl (by rw [hX]; exact keepK (n := 1) rfl rfl) ⟨rfl, rfl⟩
set_option maxHeartbeats 4000000 in
theorem do_lend (s s' : Shelf) (h : s.ok) (who num res to scope n c : Int) (z L : List Thing) (z1 : Thing) (hw : 0 ≤ who ∧ who < (s.tables.length : Int)) (hto : 0 ≤ to ∧ to < (s.tables.length : Int)) (hC : RetM env.P 94 [some (boxRow s.csO)] [.ptr 0 0 0, .i .i64 who, .i .i64 num, .i .i64 res, .i .i64 to, .i .i64 scope] (fun r H => r = .tup [.i .i64 n, .i .i64 c] ∧ H = [some (boxRow s'.csO)])) : RetM env.P 75 [some (boxRow s.csO)] [.ptr 0 0 0, .agg (⟨3, who, num, res, to, scope⟩ : ShelfAct).cs] (fun r H => r = .i .i64 c ∧ H = [some (boxRow s'.csO)]) := by
  have hl : s.tables.length ≤ 1048576 := h.1.1
  refine ret_ofM (nt := 89) (rvs := [.tmp 4]) Try.func75 rfl rfl rfl rfl (fun X hX => ?_)
  repeat' (first | exact aa | ((conv => whnf) <;> (first | (refine dt_goC [0] ?_) | refine And.intro ?_ ?_ | (intro _h; first | contradiction | (try simp only [dd] at _h)) | (refine dt_go ?_) | exact rfl | exact True.intro | exact dkk | exact dks | ((first | refine .inl ⟨_, Ret.wka (l19Who_ok s h _), ?_⟩ | refine ⟨_, Ret.wka (l19Who_ok s h _), ?_⟩); (try rintro _ rfl)) | (refine .inr (.inl (.inl ⟨[0], _, _, _, hC, viewA, ⟨rfl, rfl⟩, ?_⟩)); rintro _ _ ⟨rfl, rfl⟩; refine ⟨rfl, _, lokA, ?_⟩) | (refine wrap_succ ?_; omega))))
  all_goals (conv => whnf)
  all_goals exact endM_pick [0] [some (boxRow s'.csO)] (.i .i64 c) (view_of rfl (.cons rfl (.self (rowPl_box rfl)) .nil)) rfl rfl (by rw [hX]; exact keepK (n := 1) rfl rfl) ⟨rfl, rfl⟩
set_option maxHeartbeats 4000000 in
theorem do_drop (s s' : Shelf) (h : s.ok) (who num res to scope n c : Int) (z L : List Thing) (z1 : Thing) (hw : 0 ≤ who ∧ who < (s.tables.length : Int)) (hto : 0 ≤ to ∧ to < (s.tables.length : Int)) (hC : RetM env.P 95 [some (boxRow s.csO)] [.ptr 0 0 0, .i .i64 who, .i .i64 num] (fun r H => r = .tup [.agg z1.cs, .i .i64 c] ∧ H = [some (boxRow s'.csO)])) : RetM env.P 75 [some (boxRow s.csO)] [.ptr 0 0 0, .agg (⟨4, who, num, res, to, scope⟩ : ShelfAct).cs] (fun r H => r = .i .i64 c ∧ H = [some (boxRow s'.csO)]) := by
  have hl : s.tables.length ≤ 1048576 := h.1.1
  refine ret_ofM (nt := 89) (rvs := [.tmp 4]) Try.func75 rfl rfl rfl rfl (fun X hX => ?_)
  repeat' (first | exact aa | ((conv => whnf) <;> (first | (refine dt_goC [0] ?_) | refine And.intro ?_ ?_ | (intro _h; first | contradiction | (try simp only [dd] at _h)) | (refine dt_go ?_) | exact rfl | exact True.intro | exact dkk | exact dks | ((first | refine .inl ⟨_, Ret.wka (l19Who_ok s h _), ?_⟩ | refine ⟨_, Ret.wka (l19Who_ok s h _), ?_⟩); (try rintro _ rfl)) | (refine .inr (.inl (.inl ⟨[0], _, _, _, hC, viewA, ⟨rfl, rfl⟩, ?_⟩)); rintro _ _ ⟨rfl, rfl⟩; refine ⟨rfl, _, lokA, ?_⟩) | (refine wrap_succ ?_; omega))))
  all_goals (conv => whnf)
  all_goals exact endM_pick [0] [some (boxRow s'.csO)] (.i .i64 c) (view_of rfl (.cons rfl (.self (rowPl_box rfl)) .nil)) rfl rfl (by rw [hX]; exact keepK (n := 1) rfl rfl) ⟨rfl, rfl⟩
set_option maxHeartbeats 4000000 in
theorem do_end (s s' : Shelf) (h : s.ok) (who num res to scope n c : Int) (z L : List Thing) (z1 : Thing) (hw : 0 ≤ who ∧ who < (s.tables.length : Int)) (hto : 0 ≤ to ∧ to < (s.tables.length : Int)) (hC : RetM env.P 28 [some (boxRow s.csO)] [.ptr 0 0 0, .i .i64 scope] (fun r H => r = .tup [] ∧ H = [some (boxRow s'.csO)])) : RetM env.P 75 [some (boxRow s.csO)] [.ptr 0 0 0, .agg (⟨5, who, num, res, to, scope⟩ : ShelfAct).cs] (fun r H => r = .i .i64 0 ∧ H = [some (boxRow s'.csO)]) := by
  have hl : s.tables.length ≤ 1048576 := h.1.1
  refine ret_ofM (nt := 89) (rvs := [.tmp 4]) Try.func75 rfl rfl rfl rfl (fun X hX => ?_)
  repeat' (first | exact aa | ((conv => whnf) <;> (first | (refine dt_goC [0] ?_) | refine And.intro ?_ ?_ | (intro _h; first | contradiction | (try simp only [dd] at _h)) | (refine dt_go ?_) | exact rfl | exact True.intro | exact dkk | exact dks | ((first | refine .inl ⟨_, Ret.wka (l19Who_ok s h _), ?_⟩ | refine ⟨_, Ret.wka (l19Who_ok s h _), ?_⟩); (try rintro _ rfl)) | (refine .inr (.inl (.inl ⟨[0], _, _, _, hC, viewA, ⟨rfl, rfl⟩, ?_⟩)); rintro _ _ ⟨rfl, rfl⟩; refine ⟨rfl, _, lokA, ?_⟩) | (refine wrap_succ ?_; omega))))
  all_goals (conv => whnf)
  all_goals exact endM_pick [0] [some (boxRow s'.csO)] (.i .i64 0) (view_of rfl (.cons rfl (.self (rowPl_box rfl)) .nil)) rfl rfl (by rw [hX]; exact keepK (n := 1) rfl rfl) ⟨rfl, rfl⟩
set_option maxHeartbeats 4000000 in
theorem do_kill (s s' : Shelf) (h : s.ok) (who num res to scope n c : Int) (z L : List Thing) (z1 : Thing) (hw : 0 ≤ who ∧ who < (s.tables.length : Int)) (hto : 0 ≤ to ∧ to < (s.tables.length : Int)) (hC : RetM env.P 96 [some (boxRow s.csO)] [.ptr 0 0 0, .i .i64 who] (fun r H => r = .row 1 L.length ∧ H = [some (boxRow s'.csO), some (rowL 3 Thing.cs L)])) : RetM env.P 75 [some (boxRow s.csO)] [.ptr 0 0 0, .agg (⟨6, who, num, res, to, scope⟩ : ShelfAct).cs] (fun r H => r = .i .i64 0 ∧ H = [some (boxRow s'.csO)]) := by
  have hl : s.tables.length ≤ 1048576 := h.1.1
  refine ret_ofM (nt := 89) (rvs := [.tmp 4]) Try.func75 rfl rfl rfl rfl (fun X hX => ?_)
  repeat' (first | exact aa | ((conv => whnf) <;> (first | (refine dt_goC [0] ?_) | refine And.intro ?_ ?_ | (intro _h; first | contradiction | (try simp only [dd] at _h)) | (refine dt_go ?_) | exact rfl | exact True.intro | exact dkk | exact dks | ((first | refine .inl ⟨_, Ret.wka (l19Who_ok s h _), ?_⟩ | refine ⟨_, Ret.wka (l19Who_ok s h _), ?_⟩); (try rintro _ rfl)) | (refine .inr (.inl (.inl ⟨[0], _, _, _, hC, viewA, ⟨rfl, rfl⟩, ?_⟩)); rintro _ _ ⟨rfl, rfl⟩; refine ⟨rfl, _, lokA, ?_⟩) | (refine wrap_succ ?_; omega))))
  all_goals (conv => whnf)
  all_goals exact endM_pick [0] [some (boxRow s'.csO)] (.i .i64 0) (view_of rfl (.cons rfl (.self (rowPl_box rfl)) .nil)) rfl rfl (by rw [hX]; exact keepK (n := 1) rfl rfl) ⟨rfl, rfl⟩
set_option maxHeartbeats 4000000 in
theorem do_out (s : Shelf) (h : s.ok) (a : ShelfAct) (ho : ¬ ((0 ≤ a.who ∧ a.who < (s.tables.length : Int)) ∧ (0 ≤ a.to ∧ a.to < (s.tables.length : Int)))) : RetM env.P 75 [some (boxRow s.csO)] [.ptr 0 0 0, .agg a.cs] (fun r H => r = .i .i64 1 ∧ H = [some (boxRow s.csO)]) := by
  have hl : s.tables.length ≤ 1048576 := h.1.1
  refine ret_ofM (nt := 89) (rvs := [.tmp 4]) Try.func75 rfl rfl rfl rfl (fun X hX => ?_)
  repeat' (first | exact aa | ((conv => whnf) <;> (first | refine And.intro ?_ ?_ | (intro _h; first | contradiction | (try simp only [dd] at _h)) | (refine dt_go ?_) | exact rfl | exact True.intro | exact dkk | exact dks | ((first | refine .inl ⟨_, Ret.wka (l19Who_ok s h _), ?_⟩ | refine ⟨_, Ret.wka (l19Who_ok s h _), ?_⟩); (try rintro _ rfl)) | (refine wrap_succ ?_; omega))))
  all_goals first
    | (exfalso; exact ho ⟨Classical.not_not.1 ‹_›, Classical.not_not.1 ‹_›⟩)
    | (exfalso; exact ho ⟨‹_›, ‹_›⟩)
    | skip
  all_goals (conv => whnf)
  all_goals exact endM_pick [0] [some (boxRow s.csO)] (.i .i64 1) (view_of rfl (.cons rfl (.self (rowPl_box rfl)) .nil)) rfl rfl (by rw [hX]; exact keepK (n := 1) rfl rfl) ⟨rfl, rfl⟩
structure Shelf.H0 (s : Shelf) : Prop where
  nx : 1 ≤ s.next ∧ s.next ≤ 1000000
  tb : 1 ≤ s.tables.length ∧ s.tables.length ≤ 7
  ids : s.things.Pairwise fun a b => a.id < b.id
  fine : ∀ x ∈ s.things, 0 < x.id ∧ x.fine s.next
  tl : s.things.length ≤ 24
  nums : ∀ i, i < s.tables.length → (s.en i).Pairwise fun a b => a.num < b.num
  num : ∀ i, i < s.tables.length → ∀ e ∈ s.en i, 0 < e.num ∧ e.num < (s.tables.getD i default).next
  tn : ∀ i, i < s.tables.length → (1 ≤ (s.tables.getD i default).next ∧ (s.tables.getD i default).next ≤ 1000000) ∧ (s.en i).length ≤ 12
  thing : ∀ i, i < s.tables.length → ∀ e ∈ s.en i, ∃ x ∈ s.things, x.id = e.id
  plain : ∀ i, i < s.tables.length → ∀ e ∈ s.en i, e.plain
  ends : ∀ i, i < s.tables.length → ∀ e ∈ s.en i, ∃ n, s.sEnds n e = true
theorem Shelf.H.h0 {s : Shelf} (h : s.H) : s.H0 := ⟨h.nx, h.tb, h.ids, h.fine, h.tl, h.nums, h.num, h.tn, h.thing, h.plain, h.ends⟩
theorem Shelf.H0.full {s : Shelf} (h : s.H0) (ho : ∀ x ∈ s.things, s.all.countP (owsP x.id) = 1) : s.H := ⟨h.nx, h.tb, h.ids, h.fine, h.tl, h.nums, h.num, h.tn, h.thing, h.plain, h.ends, ho⟩
theorem keep_H0 {s : Shelf} (h : s.H0) {K : Nat → Entry → Bool} {T : List Thing} (hT : T.Sublist s.things)
    (ho : ∀ i, i < s.tables.length → ∀ e ∈ s.en i, K i e = true → e.own = false → ∃ x, s.at_ e.from_ e.fromNum = some x ∧ K e.from_.toNat x = true)
    (ht : ∀ i, i < s.tables.length → ∀ e ∈ s.en i, K i e = true → ∃ x ∈ T, x.id = e.id) : ((⟨s.next, s.tables, T⟩ : Shelf).keep K).H0 := by
  have hlen : ((⟨s.next, s.tables, T⟩ : Shelf).keep K).tables.length = s.tables.length := keep_len
  have hen : ∀ i, ((⟨s.next, s.tables, T⟩ : Shelf).keep K).en i = (s.en i).filter (K i) := fun i => by unfold Shelf.en; rw [keep_tab]
  have htn : ∀ i, (((⟨s.next, s.tables, T⟩ : Shelf).keep K).tables.getD i default).next = (s.tables.getD i default).next := fun i => by rw [keep_tab]
  have hmem : ∀ {i e}, e ∈ ((⟨s.next, s.tables, T⟩ : Shelf).keep K).en i → e ∈ s.en i ∧ K i e = true := fun {i e} he => by rw [hen] at he; exact List.mem_filter.1 he
  have hu : ∀ i, uniq ((⟨s.next, s.tables, T⟩ : Shelf).tables.getD i default).entries := fun i => by
    show uniq (s.tables.getD i default).entries
    by_cases hi : i < s.tables.length
    · intro a b ha hb e
      have := h.nums i hi
      rw [List.pairwise_iff_getElem] at this
      have hlt : ∀ {a b}, a < b → b < (s.en i).length → ((s.en i).getD a default).num < ((s.en i).getD b default).num := fun {a b} hab hb => by
        have := this a b (by omega) hb hab
        rw [List.getD_eq_getElem?_getD, List.getElem?_eq_getElem (by omega), List.getD_eq_getElem?_getD, List.getElem?_eq_getElem hb]
        exact this
      rcases Nat.lt_trichotomy a b with q | q | q
      · have := hlt q hb; unfold Shelf.en at this; omega
      · exact q
      · have := hlt q ha; unfold Shelf.en at this; omega
    · rw [List.getD_eq_getElem?_getD, List.getElem?_eq_none (by omega)]
      intro a b ha; cases ha
  have hE : ∀ (n : Nat) (i : Nat) (e : Entry), i < s.tables.length → e ∈ s.en i → K i e = true → s.sEnds n e = true → ((⟨s.next, s.tables, T⟩ : Shelf).keep K).sEnds n e = true := by
    intro n
    induction n with
    | zero => intro i e _ _ _ q; cases q
    | succ n ih =>
      intro i e hi he hKe q
      cases hoe : e.own with
      | true => exact Shelf.sEnds_own hoe
      | false =>
        obtain ⟨x, hx, hKx⟩ := ho i hi e he hKe hoe
        have hx' : ((⟨s.next, s.tables, T⟩ : Shelf).keep K).orig e = some x := by
          unfold Shelf.orig
          rw [keep_at hu, show (⟨s.next, s.tables, T⟩ : Shelf).at_ e.from_ e.fromNum = s.at_ e.from_ e.fromNum from rfl, hx]
          simp only [Option.filter, hKx, if_true]
        obtain ⟨h1, h2, k, h3, h4⟩ := at_in hx
        by_cases hid : x.id = e.id
        · rw [Shelf.sEnds_on hoe hx hid] at q
          rw [Shelf.sEnds_on hoe hx' hid]
          exact ih _ x h1 (h4 ▸ getD_mem h3) hKx q
        · rw [Shelf.sEnds_id hoe hx hid] at q; cases q
  refine ⟨h.nx, hlen ▸ h.tb, h.ids.sublist hT, fun x hx => h.fine x (hT.subset hx), Nat.le_trans hT.length_le h.tl, fun i hi => ?_, fun i hi e he => ?_, fun i hi => ?_, fun i hi e he => ht i (hlen ▸ hi) e (hmem he).1 (hmem he).2, fun i hi e he => h.plain i (hlen ▸ hi) e (hmem he).1, fun i hi e he => ?_⟩
  · rw [hen]; exact (h.nums i (hlen ▸ hi)).sublist List.filter_sublist
  · rw [htn]; exact h.num i (hlen ▸ hi) e (hmem he).1
  · rw [htn, hen]
    have := h.tn i (hlen ▸ hi)
    exact ⟨this.1, Nat.le_trans (List.length_filter_le _ _) this.2⟩
  · obtain ⟨n, hn⟩ := h.ends i (hlen ▸ hi) e (hmem he).1
    exact ⟨n, hE n i e (hlen ▸ hi) (hmem he).1 (hmem he).2 hn⟩
theorem put_len2 {s : Shelf} {w : Nat} {e : Entry} : (s.put w e).tables.length = s.tables.length := List.length_set
theorem put_tab2 {s : Shelf} {w i : Nat} {e : Entry} (hw : w < s.tables.length) : (s.put w e).tables.getD i default = if i = w then (s.tables.getD w default).put e else s.tables.getD i default := getD_set hw
theorem put_en {s : Shelf} {w i : Nat} {e : Entry} (hw : w < s.tables.length) : (s.put w e).en i = if i = w then s.en w ++ [{ e with num := (s.tables.getD w default).next }] else s.en i := by
  unfold Shelf.en
  rw [put_tab2 hw]
  split <;> rfl
theorem put_at {s : Shelf} {w : Nat} {e x : Entry} (hw : w < s.tables.length) {a b : Int} (h : s.at_ a b = some x) : (s.put w e).at_ a b = some x := by
  rw [at_eq] at h ⊢
  have hT : (s.put w e).isT a = s.isT a := by unfold Shelf.isT; rw [put_len2]
  rw [hT]
  split at h
  · rename_i ht
    rw [if_pos ht]
    have := put_en (s := s) (e := e) (i := a.toNat) hw
    unfold Shelf.en at this
    rw [this]
    split
    · rename_i q
      rw [q] at h
      rw [List.find?_append, h]
      rfl
    · exact h
  · cases h
theorem put_sEnds {s : Shelf} {w : Nat} {e : Entry} (hw : w < s.tables.length) : ∀ (n : Nat) (x : Entry), s.sEnds n x = true → (s.put w e).sEnds n x = true
  | 0, _, h => by cases h
  | n + 1, x, h => by
    cases ho : x.own with
    | true => exact Shelf.sEnds_own ho
    | false =>
      cases hx : s.orig x with
      | none => rw [Shelf.sEnds_none ho hx] at h; cases h
      | some y =>
        by_cases hi : y.id = x.id
        · rw [Shelf.sEnds_on ho hx hi] at h
          rw [Shelf.sEnds_on ho (put_at hw hx) hi]
          exact put_sEnds hw n y h
        · rw [Shelf.sEnds_id ho hx hi] at h; cases h
theorem put_H0 {s : Shelf} (h : s.H0) {w : Nat} (hw : w < s.tables.length) {e : Entry} (hf : ¬ s.fullB w) (ht : ∃ x ∈ s.things, x.id = e.id) (hp : e.plain) (hb : e.own = false → ∃ x n, s.at_ e.from_ e.fromNum = some x ∧ x.id = e.id ∧ s.sEnds n x = true) : (s.put w e).H0 := by
  have hf1 : (s.en w).length < 12 := by unfold Shelf.fullB at hf; unfold Shelf.en; omega
  have hf2 : (s.tables.getD w default).next < 1000000 := by unfold Shelf.fullB at hf; omega
  have hlen : (s.put w e).tables.length = s.tables.length := put_len2
  have hnx : ∀ i, i < s.tables.length → (s.tables.getD i default).next ≤ ((s.put w e).tables.getD i default).next := fun i hi => by
    rw [put_tab2 hw]
    split
    · rename_i q; subst q; show _ ≤ (s.tables.getD i default).next + 1; omega
    · exact Int.le_refl _
  have mem : ∀ {P : Nat → Entry → Prop}, (∀ i, i < s.tables.length → ∀ x ∈ s.en i, P i x) → P w { e with num := (s.tables.getD w default).next } → ∀ i, i < (s.put w e).tables.length → ∀ x ∈ (s.put w e).en i, P i x := by
    intro P h1 h2 i hi x hx
    rw [put_en hw] at hx
    split at hx
    · rename_i q
      subst q
      rcases List.mem_append.1 hx with q | q
      · exact h1 _ hw x q
      · rw [List.mem_singleton] at q; subst q; exact h2
    · exact h1 i (hlen ▸ hi) x hx
  refine ⟨h.nx, hlen ▸ h.tb, h.ids, h.fine, h.tl, fun i hi => ?_, mem (P := fun i x => 0 < x.num ∧ x.num < ((s.put w e).tables.getD i default).next) (fun i hi x hx => ?_) ?_, fun i hi => ?_, mem (P := fun i x => ∃ y ∈ s.things, y.id = x.id) h.thing ht, mem (P := fun i x => x.plain) h.plain hp, mem (P := fun i x => ∃ n, (s.put w e).sEnds n x = true) (fun i hi x hx => ?_) ?_⟩
  · rw [put_en hw]
    split
    · rw [List.pairwise_append]
      refine ⟨h.nums w hw, List.pairwise_singleton _ _, fun a ha b hb => ?_⟩
      rw [List.mem_singleton] at hb
      subst hb
      exact (h.num w hw a ha).2
    · exact h.nums i (hlen ▸ hi)
  · have h1 := h.num i hi x hx
    have h2 := hnx i hi
    exact ⟨h1.1, by omega⟩
  · rw [put_tab2 hw, if_pos rfl]
    have h1 := (h.tn w hw).1.1
    exact ⟨by show 0 < (s.tables.getD w default).next; omega, by show (s.tables.getD w default).next < (s.tables.getD w default).next + 1; omega⟩
  · have h1 := h.tn w hw
    rw [put_tab2 hw, put_en hw]
    split
    · refine ⟨⟨by show 1 ≤ (s.tables.getD w default).next + 1; omega, by show (s.tables.getD w default).next + 1 ≤ 1000000; omega⟩, ?_⟩
      rw [List.length_append, List.length_singleton]
      omega
    · exact h.tn i (hlen ▸ hi)
  · obtain ⟨n, hn⟩ := h.ends i hi x hx
    exact ⟨n, put_sEnds hw n x hn⟩
  · rcases Bool.eq_false_or_eq_true e.own with ho | ho
    · exact ⟨1, Shelf.sEnds_own ho⟩
    · obtain ⟨x, n, h1, h2, h3⟩ := hb ho
      exact ⟨n + 1, by rw [Shelf.sEnds_on (show ({ e with num := (s.tables.getD w default).next } : Entry).own = false from ho) (show (s.put w e).orig { e with num := (s.tables.getD w default).next } = some x from put_at hw h1) h2]; exact put_sEnds hw n x h3⟩
end Go.Proofs.Ytmglpojnoadgeaa
