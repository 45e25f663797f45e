/- Texts for VHandlesOneP. -/
import Derived.Test.YtmglpojnoadgeaaGreatVo20
namespace Go.Proofs.YtmglpojnoadgeaaGreat
open Go Go.RowKit
set_option linter.unusedVariables false
set_option linter.unusedSimpArgs false
set_option maxRecDepth 8000
def newT (n : Nat) : List Table := List.replicate n ⟨1, []⟩
theorem newT_len (n : Nat) : (newT n).length = n := by simp [newT]
theorem newT_at {n i : Nat} (h : i < n) : (newT n).getD i default = ⟨1, []⟩ := by
 unfold newT
 rw [List.getD_eq_getElem?_getD, List.getElem?_replicate, if_pos h]; rfl
theorem newT_succ (n : Nat) : newT (n + 1) = newT n ++ [⟨1, []⟩] := List.replicate_succ'
theorem l19New_ok (n : Nat) (h1 : 1 ≤ n) (h7 : n ≤ 7) : RetM env.P 52 [] [.i .i64 n] (fun r H => r = .agg [.i .i64 1, .row 0 n, .nils] ∧ H = [some (rowL 2 Table.csO (newT n))]) := by
 refine ret_ofM (nt := 18) (rvs := [.cell 2 27]) Tryz.func52 rfl rfl rfl rfl (fun X hX => ?_)
 conv => whnf
 refine lw_turn _ (turn_box (id := 1) (ds := [.i .i64 1, .ow 2 0 (elE Table.csO (newT 0)), .nils]) rfl rfl rfl (.cons (.refl _) (.cons (.nil _ _) (.cons (.refl _) .nil)))) ?_
 refine loopNT n (fun k => [(4, .i .i64 k)]) (fun k => [none, some (.box [.i .i64 1, .ow 2 k (elE Table.csO (newT k)), .nils])]) (fun k => True) ⟨trivial, ?_⟩
 repeat' (first | exact aa | ((conv => whnf) <;> (first | refine And.intro ?_ ?_ | (intro _h; first | contradiction | (try simp only [dd] at _h)) | (refine dt_go ?_) | exact rfl | exact True.intro | exact dkk | exact dks | (refine wrap_succ ?_; omega))))
 ·rename_i k _ _
  conv => whnf
  refine roundNT_turn (turn_close (id := 1) (i := 0) (j := 1) (id' := 4) rfl (show 0 < 1 by decide) (show 1 < 3 by decide) rfl rfl (show 1 ≠ 4 by decide) rfl ⟨Nat.le_refl _, snoc_idf (newT_len k).symm fun j hj => ?_⟩) ?_
  ·rcases (show j = 0 ∨ j = 1 by have : j < 2 := hj; omega) with rfl | rfl <;> exact trivial
  refine roundNT_turn (turn_box (id := 1) (ds := [.i .i64 1, .ow 2 (k + 1) (elE Table.csO (newT k ++ [⟨1, []⟩])), .nils]) rfl rfl rfl (.cons (.refl _) (.cons (.ow (fun i j _ _ => HoldC.h _ j) (snoc_eq (newT_len k).symm fun j hj => ?_)) (.cons (.refl _) .nil)))) ?_
  ·rcases (show j = 0 ∨ j = 1 by have : j < 2 := hj; omega) with rfl | rfl
   ·exact .refl _
   ·exact .nil _ _
  refine roundNT_end ?_
  repeat' (first | exact aa | ((conv => whnf) <;> (first | refine And.intro ?_ ?_ | (intro _h; first | contradiction | (try simp only [dd] at _h)) | (refine dt_go ?_) | exact rfl | exact True.intro | exact dkk | exact dks | (refine wrap_succ ?_; omega))))
  rw [newT_succ]
 ·rename_i k _ _
  obtain rfl : k = n := by omega
  exact endM_pick [2] [some (rowL 2 Table.csO (newT k))] (.agg [.i .i64 1, .row 0 k, .nils]) (view_of rfl (.cons rfl (.L (newT_len k) (fun _ => rfl)) .nil)) rfl rfl (fun k hk => by rw [hX] at hk; exact absurd hk (Nat.not_lt_zero _)) ⟨rfl, rfl⟩
section
attribute [local irreducible] IntKind.wrap
structure Draws : Prop where
 act : ∀ (s : Shelf) (a : ShelfAct), s.ok → s.good → a.fine = true → RetM env.P 33 [some (boxRow s.csO)] [.ptr 0 0 0, .agg a.cs] (fun r H => ∃ (s' : Shelf) (c : Int), (s'.ok ∧ s'.good) ∧ r = .i .i64 c ∧ H = [some (boxRow s'.csO)])
 new : ∀ n : Nat, 1 ≤ n → n ≤ 7 → Shelf.good ⟨1, newT n, []⟩
theorem newS_ok {n : Nat} (h : n ≤ 7) : Shelf.ok ⟨1, newT n, []⟩ := ⟨⟨by rw [newT_len]; omega, fun k hk => ⟨by
 rw [newT_at (by rw [newT_len] at hk; exact hk)]; exact Nat.zero_le _, fun _ _ => trivial⟩⟩, Nat.zero_le _, fun k hk => absurd hk (Nat.not_lt_zero _)⟩
theorem owLen {sz n m : Nat} {g g' : Nat → Nat → AV} (e : n = m) (hf : ∀ i j, i < n → j < sz → (g' i j).idfO) (h : ∀ i j, i < n → j < sz → OwEq (g i j) (g' i j)) : OwEq (.ow sz n g) (.ow sz m g') := by subst e; exact .ow hf h
theorem newT_boxEq (n : Nat) : OwEq (.ow 2 n (elE Table.csO (newT n))) (owL 2 Table.csO (newT n)) := owLen (newT_len n).symm (fun i j _ _ => HoldC.h _ j) (fun i j _ _ => .refl _)
structure DrS where
 t : Src
 x : Shelf
 k : Int
set_option maxHeartbeats 8000000 in
theorem l19Draw_ok (D : Draws) (s : Src) (h : s.rm 300) : RetM env.P 21 [some (boxRow s.cs)] [.ptr 0 0 0] (fun r H => ∃ (x : Shelf) (t : Src), (x.ok ∧ x.good) ∧ (s.at' ≤ t.at' ∧ t.at' ≤ s.at' + 260 ∧ t.code.length = s.code.length) ∧ r = .agg [.i .i64 x.next, .row 1 x.tables.length, .row 2 x.things.length] ∧ H = [some (boxRow t.cs), some (rowL 2 Table.csO x.tables), some (rowL 3 Thing.cs x.things)]) := by
 obtain ⟨h1, h2, h3⟩ := h
 refine ret_ofM (nt := 19) (rvs := [.cell 2 27]) Tryz.func21 rfl rfl rfl rfl (fun X hX => ?_)
 repeat' (first | exact aa | ((conv => whnf) <;> (first | (refine Src.rm_i ?_ ?_ ?_) | refine And.intro ?_ ?_ | (intro _h; first | contradiction | (try simp only [dd] at _h)) | (refine dt_go ?_) | exact rfl | exact True.intro | exact dkk | exact dks | (refine .inr (.inl (.inl ⟨[0], _, _, _, pick_ex _ ?_ _ ?_, viewA, ⟨rfl, rfl⟩, ?_⟩)); rotate_left 2; rintro _ _ ⟨_, _, _, _, rfl, rfl⟩; refine ⟨rfl, _, lokA, ?_⟩) | (refine wrap_succ ?_; omega))))
 all_goals (conv => whnf)
 rename_i v t hv ht
 rw [wrap_in (by omega) (by omega)]
 obtain ⟨n, rfl⟩ : ∃ n : Nat, v = (n : Int) - 1 := ⟨(v + 1).toNat, by omega⟩
 rw [show (1 : Int) + ((n : Int) - 1) = (n : Int) by omega]
 repeat' (first | exact aa | ((conv => whnf) <;> (first | (refine Src.rm_i ?_ ?_ ?_) | refine And.intro ?_ ?_ | (intro _h; first | contradiction | (try simp only [dd] at _h)) | (refine dt_go ?_) | exact rfl | exact True.intro | exact dkk | exact dks | (refine .inr (.inl (.inl ⟨[0], _, _, _, pick_ex _ ?_ _ ?_, viewA, ⟨rfl, rfl⟩, ?_⟩)); rotate_left 2; rintro _ _ ⟨_, _, _, _, rfl, rfl⟩; refine ⟨rfl, _, lokA, ?_⟩) | (refine .inr (.inl (.inl ⟨[], _, _, _, l19New_ok n (by omega) (by omega), viewA, ⟨rfl, rfl⟩, ?_⟩)); rintro _ _ ⟨rfl, rfl⟩; refine ⟨rfl, _, lokA, ?_⟩) | (refine wrap_succ ?_; omega))))
 rename_i v t2 hv2 ht2
 conv => whnf
 refine lw_turn _ (turn_close (id := 3) (i := 0) (j := 1) (id' := 2) rfl (show 0 < 1 by decide) (show 1 < 3 by decide) rfl rfl (show 3 ≠ 2 by decide) rfl (rowO_le (Nat.le_of_eq (newT_len n).symm))) ?_
 refine lw_turn _ (turn_box (id := 3) (ds := Shelf.csO ⟨1, newT n, []⟩) rfl rfl rfl (.cons (.refl _) (.cons (newT_boxEq n) (.cons (.nil _ _) .nil)))) ?_
 refine loopFT (fun y : DrS => [(4, .i .i64 y.k)]) (fun y => [some (.box y.t.cs), none, none, some (.box y.x.csO)]) (fun y => (s.at' ≤ y.t.at' ∧ y.t.at' + 10 * y.k ≤ s.at' + 240 ∧ y.t.code.length = s.code.length) ∧ (0 ≤ y.k ∧ y.k ≤ 23) ∧ (y.x.ok ∧ y.x.good)) (fun y => y.k.toNat) ⟨t2, ⟨1, newT n, []⟩, v⟩ ⟨⟨⟨by dsimp only; omega, by dsimp only; omega, by dsimp only; omega⟩, ⟨by dsimp only; omega, by dsimp only; omega⟩, newS_ok (by omega), D.new n (by omega) (by omega)⟩, ?_⟩
 repeat' (first | exact aa | ((conv => whnf) <;> (first | refine And.intro ?_ ?_ | (intro _h; first | contradiction | (try simp only [dd] at _h)) | (refine dt_go ?_) | exact rfl | exact True.intro | exact dkk | exact dks | (refine wrap_succ ?_; omega))))
 ·rename_i y hy
  obtain ⟨⟨q1, q2, q3⟩, ⟨k1, k2⟩, ho, hg⟩ := hy
  repeat' (first | exact aa | ((conv => whnf) <;> (first | (refine Src.rm_i ?_ ?_ ?_) | ((refine .inr (.inr ⟨[some (boxRow y.t.cs), some (boxRow [.i .i64 0, .nils, .nils]), none, some (boxRow (y.x.bx 4)), some (rowL 2 Table.csO y.x.tables), some (rowL 3 Thing.cs y.x.things)], (by intro X; exact Turn.trans (turn_open (id := 3) (i := 0) (j := 1) rfl (show 0 < 1 by decide) (show 1 < 3 by decide) rfl) (Turn.trans (turn_open (id := 3) (i := 0) (j := 2) rfl (show 0 < 1 by decide) (show 2 < 3 by decide) rfl) (turn_box (id := 3) (ds := y.x.bx 4) rfl rfl rfl (.cons (.refl _) (.cons (.refl _) (.cons (.refl _) .nil)))))), (fun i _ q => (by cases q)), .inl ⟨[0, 3, 4, 5], _, _, _, l19Act_ok y.x (soft_good hg) y.t ?_, (view_of rfl (.cons rfl (.self (rowPl_box rfl)) (.cons rfl (rowBack_box rfl rfl) (.cons rfl (.self (rowPl_L fun _ => rfl)) (.cons rfl (.self (rowPl_L fun _ => rfl)) .nil))))), ⟨rfl, rfl⟩, ?_⟩⟩)); rotate_left 1; rintro _ _ ⟨a, t3, ha, ht3, rfl, rfl⟩; refine ⟨rfl, _, (lok_L (.pl (rowPl_box rfl) (.box rfl rfl (.pl (rowPl_L fun _ => rfl) (.pl (rowPl_L fun _ => rfl) .nil))))), ?_⟩) | ((refine .inr (.inr ⟨[some (boxRow t3.cs), some (boxRow [.i .i64 0, .nils, .nils]), none, some (boxRow y.x.csO), none, none], (by intro X; exact Turn.trans (turn_close (id := 3) (i := 0) (j := 1) (id' := 4) rfl (show 0 < 1 by decide) (show 1 < 3 by decide) rfl rfl (show 3 ≠ 4 by decide) rfl (rowO_le (Nat.le_refl _))) (Turn.trans (turn_close (id := 3) (i := 0) (j := 2) (id' := 5) rfl (show 0 < 1 by decide) (show 2 < 3 by decide) rfl rfl (show 3 ≠ 5 by decide) rfl (rowO_le (Nat.le_refl _))) (turn_box (id := 3) (ds := y.x.csO) rfl rfl rfl (.cons (.refl _) (.cons (.refl _) (.cons (.refl _) .nil)))))), (fun i _ q => (by cases q)), .inl ⟨[3], _, _, _, D.act y.x _ ho hg ha, viewA, ⟨rfl, rfl⟩, ?_⟩⟩)); rintro _ _ ⟨x2, c, hx2, rfl, rfl⟩; refine ⟨rfl, _, lokA, ?_⟩) | refine And.intro ?_ ?_ | (intro _h; first | contradiction | (try simp only [dd] at _h)) | (refine dt_go ?_) | exact rfl | exact True.intro | exact dkk | exact dks | (refine wrap_succ ?_; omega))))
  conv => whnf
  refine roundET_end ?_
  refine ⟨⟨t3, x2, IntKind.i64.wrap (y.k - 1)⟩, [], ?_, ?_, ?_⟩
  ·rw [wrap_in (by omega) (by omega)]
   exact ⟨⟨by dsimp only; omega, by dsimp only; omega, by dsimp only; omega⟩, ⟨by dsimp only; omega, by dsimp only; omega⟩, hx2⟩
  ·rw [wrap_in (by omega) (by omega)]
   show (y.k - 1).toNat < y.k.toNat
   omega
  repeat' (first | exact aa | ((conv => whnf) <;> (first | refine And.intro ?_ ?_ | (intro _h; first | contradiction | (try simp only [dd] at _h)) | (refine dt_go ?_) | exact rfl | exact True.intro | exact dkk | exact dks | (refine wrap_succ ?_; omega))))
  all_goals trace_state
 ·rename_i y hy
  obtain ⟨⟨q1, q2, q3⟩, ⟨k1, k2⟩, ho, hg⟩ := hy
  conv => whnf
  exact endM_pick [0, 4, 5] [some (boxRow (Src.cs y.t)), some (rowL 2 Table.csO y.x.tables), some (rowL 3 Thing.cs y.x.things)] (.agg [.i .i64 y.x.next, .row 1 y.x.tables.length, .row 2 y.x.things.length]) (view_of rfl (.cons rfl (.self (rowPl_box rfl)) (.cons rfl (.self (rowPl_L fun _ => rfl)) (.cons rfl (.self (rowPl_L fun _ => rfl)) .nil)))) rfl rfl (by rw [hX]; exact keepK (n := 1) rfl rfl) ⟨y.x, y.t, ⟨ho, hg⟩, ⟨by omega, by omega, by omega⟩, rfl, rfl⟩
end
section
attribute [local irreducible] IntKind.wrap
theorem lit_at (l : List Int) {i : Nat} (hi : i < l.length) : litE (l.map fun n => [AV.i .i64 n]) i 0 = .i .i64 (l.getD i default) := by
 unfold litE
 rw [List.getD_eq_getElem?_getD (l := l.map _), List.getElem?_map, List.getD_eq_getElem?_getD (l := l), List.getElem?_eq_getElem hi]
 rfl
theorem rowBack_lit {σ : Nat → Nat} {m : Nat} (l : List Int) : RowBack σ m (rowL 1 intC l) ⟨1, l.length, litE (l.map fun n => [AV.i .i64 n]), .arr⟩ := ⟨rfl, rfl, .refl _, fun i j hi hj => by
 obtain rfl : j = 0 := Nat.lt_one_iff.1 hj
 exact ⟨lit_at l hi, rfl⟩⟩
theorem among_row (s : Src) (h : s.rm 1) (l : List Int) (h0 : 0 < l.length) (hn : l.length ≤ 200) : RetM env.P 55 [some (boxRow s.cs), some (rowL 1 intC l)] [.ptr 0 0 0, .row 1 l.length] (fun r H => ∃ (v : Int) (t : Src), v ∈ l ∧ (s.at' ≤ t.at' ∧ t.at' ≤ s.at' + 1 ∧ t.code.length = s.code.length) ∧ r = .i .i64 v ∧ H = [some (boxRow t.cs), some (rowL 1 intC l)]) := by
 have hl : (l.length : Int) ≤ 200 := by omega
 refine ret_ofM (nt := 12) (rvs := [.tmp 4]) Tryz.func55 rfl rfl rfl rfl (fun X hX => ?_)
 repeat' (first | exact aa | ((conv => whnf) <;> (first | refine And.intro ?_ ?_ | (intro _h; first | contradiction | (try simp only [dd] at _h)) | (refine dt_go ?_) | exact rfl | exact True.intro | exact dkk | exact dks | (refine .inr (.inl (.inl ⟨[0], _, _, _, pick_ex s h (l.length : Int) hl, viewA, ⟨rfl, rfl⟩, ?_⟩)); rintro _ _ ⟨v, t, hv, ht, rfl, rfl⟩; refine ⟨rfl, _, lokA, ?_⟩) | (refine wrap_succ ?_; omega))))
 all_goals (conv => whnf)
 exact endM_pick [0, 1] [some (boxRow t.cs), some (rowL 1 intC l)] (.i .i64 _) (view_of rfl (.cons rfl (.self (rowPl_box rfl)) (.cons rfl (.self (rowPl_L fun _ => rfl)) .nil))) rfl rfl (by rw [hX]; exact keepK (n := 2) rfl rfl) ⟨_, t, getD_mem (k := v.toNat) (by omega), ht, rfl, rfl⟩
theorem l00Max_ok (a b : Int) : Ret env.P 81 [.i .i64 a, .i .i64 b] (fun r => r = .i .i64 (if a > b then a else b)) := by
 refine ret_of (nt := 10) (rvs := [.tmp 4]) Tryz.func81 rfl rfl rfl rfl (fun X => ?_)
 repeat' (first | exact aa | ((conv => whnf) <;> (first | refine And.intro ?_ ?_ | (intro _h; first | contradiction | (try simp only [dd] at _h)) | (refine dt_go ?_) | exact rfl | exact True.intro | exact dkk | exact dks | (refine wrap_succ ?_; omega))))
 all_goals (refine leaf_i ?_; first | rw [if_pos (by omega)] | rw [if_neg (by omega)])
set_option maxHeartbeats 8000000 in
theorem l19Name_ok (x : Shelf) (hx : x.Soft) (s : Src) (h : s.rm 20) : RetM env.P 44 [some (boxRow s.cs), some (rowL 2 Table.csO x.tables), some (rowL 3 Thing.cs x.things)] [.ptr 0 0 0, .agg [.i .i64 x.next, .row 1 x.tables.length, .row 2 x.things.length]] (fun r H => ∃ (a b c : Int) (t : Src), (s.at' ≤ t.at' ∧ t.at' ≤ s.at' + 20 ∧ t.code.length = s.code.length) ∧ r = .tup [.i .i64 a, .i .i64 b, .i .i64 c] ∧ H = [some (boxRow t.cs), some (rowL 2 Table.csO x.tables), some (rowL 3 Thing.cs x.things)]) := by
 obtain ⟨h1, h2, h3⟩ := h
 refine ret_ofM (nt := 51) (rvs := [.tmp 4, .tmp 5, .tmp 6]) Tryz.func44 rfl rfl rfl rfl (fun X hX => ?_)
 repeat' (first | exact aa | ((conv => whnf) <;> (first | (refine dt_goC (id := 10) [0, 5] ?_) | (refine dt_goC (id := 12) [0, 5] ?_) | (refine Src.rm_i ?_ ?_ ?_) | ((refine .inr (.inl (.inl ⟨[0, 3, 1, 2], _, _, _, l19Act_ok x hx s ?_, (view_of rfl (.cons rfl (.self (rowPl_box rfl)) (.cons rfl (rowBack_box rfl rfl) (.cons rfl (.self (rowPl_L fun _ => rfl)) (.cons rfl (.self (rowPl_L fun _ => rfl)) .nil))))), ⟨rfl, rfl⟩, ?_⟩))); rotate_left 1; rintro _ _ ⟨a, t3, ha, ht3, rfl, rfl⟩; refine ⟨rfl, _, (lok_L (.pl (rowPl_box rfl) (.box rfl rfl (.pl (rowPl_L fun _ => rfl) (.pl (rowPl_L fun _ => rfl) .nil))))), ?_⟩) | ((refine .inr (.inl (.inl ⟨[0, 5], _, _, _, among_row _ ?_ [-1, 6, 7] (by decide) (by decide), (view_of rfl (.cons rfl (.self (rowPl_box rfl)) (.cons rfl (rowBack_lit [-1, 6, 7]) .nil))), ⟨rfl, rfl⟩, ?_⟩))); rotate_left 1; rintro _ _ ⟨_, _, _, _, rfl, rfl⟩; refine ⟨rfl, _, lokA, ?_⟩) | ((refine .inr (.inl (.inl ⟨[0, 5], _, _, _, among_row _ ?_ [0, 1000001] (by decide) (by decide), (view_of rfl (.cons rfl (.self (rowPl_box rfl)) (.cons rfl (rowBack_lit [0, 1000001]) .nil))), ⟨rfl, rfl⟩, ?_⟩))); rotate_left 1; rintro _ _ ⟨_, _, _, _, rfl, rfl⟩; refine ⟨rfl, _, lokA, ?_⟩) | ((refine .inr (.inl (.inl ⟨[0, 5], _, _, _, among_row _ ?_ [0, 8, 9] (by decide) (by decide), (view_of rfl (.cons rfl (.self (rowPl_box rfl)) (.cons rfl (rowBack_lit [0, 8, 9]) .nil))), ⟨rfl, rfl⟩, ?_⟩))); rotate_left 1; rintro _ _ ⟨_, _, _, _, rfl, rfl⟩; refine ⟨rfl, _, lokA, ?_⟩) | refine And.intro ?_ ?_ | (intro _h; first | contradiction | (try simp only [dd] at _h)) | (refine dt_go ?_) | exact rfl | exact True.intro | exact dkk | exact dks | ((first | refine .inl ⟨_, l00Max_ok _ _, ?_⟩ | refine ⟨_, l00Max_ok _ _, ?_⟩); (try rintro _ rfl)) | (refine .inr (.inl (.inl ⟨[0], _, _, _, pick_ex _ ?_ _ ?_, viewA, ⟨rfl, rfl⟩, ?_⟩)); rotate_left 2; rintro _ _ ⟨_, _, _, _, rfl, rfl⟩; refine ⟨rfl, _, lokA, ?_⟩) | (refine wrap_succ ?_; omega))))
 all_goals (conv => whnf)
 all_goals exact endM_pick [0, 1, 2] [some (boxRow (Src.cs _)), some (rowL 2 Table.csO x.tables), some (rowL 3 Thing.cs x.things)] (.tup [.i .i64 _, .i .i64 _, .i .i64 _]) (view_of rfl (.cons rfl (.self (rowPl_box rfl)) (.cons rfl (.self (rowPl_L fun _ => rfl)) (.cons rfl (.self (rowPl_L fun _ => rfl)) .nil)))) rfl rfl (by rw [hX]; exact keepK (n := 3) rfl rfl) ⟨_, _, _, _, ⟨by omega, by omega, by omega⟩, rfl, rfl⟩
end
end Go.Proofs.YtmglpojnoadgeaaGreat
