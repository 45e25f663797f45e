/- Texts for VHandlesOneP. -/
import Derived.Test.YtmglpojnoadgeaaGreatVo26
namespace Go.Proofs.YtmglpojnoadgeaaGreat
open Go Go.RowKit
set_option linter.unusedVariables false
set_option linter.unusedSimpArgs false
set_option maxRecDepth 8000
section
attribute [local irreducible] IntKind.wrap
structure AcS where
 t : Src
 y : Shelf
 k : Int
 l : List ShelfAct
theorem rho_keep3 {X : Ctx} {x y z : Option Row} {r : List Nat} {id : Nat} (hX : X.H0 = [x, y, z]) (h : id < X.H0.length) : rhoF (0 :: 1 :: 2 :: r) id = id := by
 rw [hX] at h
 have h' : id < 3 := h
 rcases (show id = 0 ∨ id = 1 ∨ id = 2 by omega) with rfl | rfl | rfl <;> rfl
theorem len_snoc1 {α : Type} {l : List α} {a : α} : l.length + 1 = (l ++ [a]).length := by rw [List.length_append]; rfl
def fineL (l : List ShelfAct) : Prop := ∀ k, k < l.length → (l.getD k default).fine = true
theorem fineL_snoc {l : List ShelfAct} {a : ShelfAct} (h : fineL l) (ha : a.fine = true) : fineL (l ++ [a]) := fun k hk => by
 rw [List.length_append, List.length_singleton] at hk
 by_cases q : k < l.length
 ·rw [List.getD_eq_getElem?_getD, List.getElem?_append_left q, ← List.getD_eq_getElem?_getD]; exact h k q
 ·obtain rfl : k = l.length := by omega
  rw [List.getD_eq_getElem?_getD, List.getElem?_append_right (Nat.le_refl _), Nat.sub_self]; exact ha
set_option maxHeartbeats 8000000 in
theorem l19Acts_ok (D : Draws) (x : Shelf) (hx : x.ok ∧ x.good) (s : Src) (h : s.rm 600) : RetM env.P 22 [some (boxRow s.cs), some (rowL 2 Table.csO x.tables), some (rowL 3 Thing.cs x.things)] [.ptr 0 0 0, .agg [.i .i64 x.next, .row 1 x.tables.length, .row 2 x.things.length], .i .i64 40] (fun r H => ∃ (l : List ShelfAct) (t : Src), (l.length ≤ 40 ∧ fineL l) ∧ (s.at' ≤ t.at' ∧ t.at' ≤ s.at' + 420 ∧ t.code.length = s.code.length) ∧ r = .row 3 l.length ∧ H = [some (boxRow t.cs), some (rowL 2 Table.csO x.tables), some (rowL 3 Thing.cs x.things), some (rowL 6 ShelfAct.cs l)]) := by
 obtain ⟨h1, h2, h3⟩ := h
 have hx1 : 1 ≤ x.tables.length := (bent7 hx).1
 refine ret_ofPM (nt := 29) (rvs := [.tmp 6]) Tryz.func22 rfl rfl rfl rfl (fun X hX => ?_)
 refine pw_cut 3 (fun _ : Unit => True) (fun _ => [(0, .ptr 0 0 0), (2, .i .i64 40), (7, .ptr 6 0 0), (8, .row 7 0)]) (fun _ => [some (boxRow s.cs), some (rowL 2 Table.csO x.tables), some (rowL 3 Thing.cs x.things), some (boxRow [.i .i64 x.next, .row 1 x.tables.length, .row 2 x.things.length]), none, none, some (boxRow x.csO), some (rowL 6 ShelfAct.cs [])]) ?_ (fun _ _ => ?_)
 ·repeat' (first | exact aa | ((conv => whnf) <;> (first | refine And.intro ?_ ?_ | (intro _h; first | contradiction | (try simp only [dd] at _h)) | (refine dt_go ?_) | exact rfl | exact True.intro | exact dkk | exact dks | (refine .inr (.inl (.inr (.inl ⟨_, RetM.wka (l19Own_ok x hx.1 hx1), ?_⟩))); rintro _ _ ⟨rfl, rfl⟩; refine ⟨⟨rfl, nssA⟩, _, lokA, ?_⟩) | (refine wrap_succ ?_; omega))))
  conv => whnf
  refine cut_turn (turn_close (id := 6) (i := 0) (j := 1) (id' := 4) rfl (show 0 < 1 by decide) (show 1 < 3 by decide) rfl rfl (show 6 ≠ 4 by decide) rfl (rowO_le (Nat.le_refl _))) ?_
  refine cut_turn (turn_close (id := 6) (i := 0) (j := 2) (id' := 5) rfl (show 0 < 1 by decide) (show 2 < 3 by decide) rfl rfl (show 6 ≠ 5 by decide) rfl (rowO_le (Nat.le_refl _))) ?_
  refine cut_turn (turn_box (id := 6) (ds := x.csO) rfl rfl rfl (.cons (.refl _) (.cons (.refl _) (.cons (.refl _) .nil)))) ?_
  refine cut_turn (turn_eq (id := 7) (x := rowL 6 ShelfAct.cs []) rfl rfl rfl rfl rfl (fun i j hi _ => absurd hi (Nat.not_lt_zero _))) ?_
  exact cut_go () trivial (by repeat' (first | exact trivial | refine And.intro rfl ?_)) (by repeat' (first | exact trivial | refine And.intro (.inl rfl) ?_ | refine And.intro (.inr rfl) ?_ | refine And.intro rfl ?_))
 refine wpc_ok _ _ _ _ ?_
 (try dsimp only)
 repeat' (first | exact aa | ((conv => whnf) <;> (first | (refine Src.rm_i ?_ ?_ ?_) | refine And.intro ?_ ?_ | (intro _h; first | contradiction | (try simp only [dd] at _h)) | (refine dt_go ?_) | exact rfl | exact True.intro | exact dkk | exact dks | (refine .inr (.inl (.inl ⟨[0], _, _, _, pick_ex _ ?_ _ ?_, viewA, ⟨rfl, rfl⟩, ?_⟩)); rotate_left 2; rintro _ _ ⟨_, _, _, _, rfl, rfl⟩; refine ⟨rfl, _, lokA, ?_⟩) | (refine wrap_succ ?_; omega))))
 rename_i v t2 hv2 ht2
 conv => whnf
 refine loopFT (fun y : AcS => [(9, .i .i64 y.k), (8, .row 7 y.l.length)]) (fun y => [some (.box y.t.cs), none, none, none, none, none, some (.box y.y.csO), some (.arr ⟨6, y.l.length, elE ShelfAct.cs y.l, .arr⟩)]) (fun y => (s.at' ≤ y.t.at' ∧ y.t.at' + 10 * y.k ≤ s.at' + 401 ∧ y.t.code.length = s.code.length) ∧ (0 ≤ y.k ∧ (y.l.length : Int) + y.k ≤ 39) ∧ (y.y.ok ∧ y.y.good) ∧ fineL y.l) (fun y => y.k.toNat) ⟨t2, x, v, []⟩ ⟨⟨⟨by dsimp only; omega, by dsimp only; omega, by dsimp only; omega⟩, ⟨by dsimp only; omega, by show ((0 : Nat) : Int) + v ≤ 39; omega⟩, hx, fun k hk => absurd hk (Nat.not_lt_zero _)⟩, ?_⟩
 repeat' (first | exact aa | ((conv => whnf) <;> (first | exact arr_zero rfl rfl | exact arr_same rfl rfl (fun a j => low_cells rfl) | exact low_cells rfl | exact rho_keep3 hX _h | refine And.intro ?_ ?_ | (intro _h; first | contradiction | (try simp only [dd] at _h)) | (refine dt_go ?_) | exact rfl | exact True.intro | exact dkk | exact dks | (refine wrap_succ ?_; omega))))
 ·rename_i y hy
  obtain ⟨⟨q1, q2, q3⟩, ⟨k1, k2⟩, ⟨ho, hg⟩, hf⟩ := hy
  repeat' (first | exact aa | ((conv => whnf) <;> (first | (refine Src.rm_i ?_ ?_ ?_) | ((refine .inr (.inr ⟨[some (boxRow y.t.cs), some (rowL 2 Table.csO x.tables), some (rowL 3 Thing.cs x.things), some (boxRow [.i .i64 x.next, .row 1 x.tables.length, .row 2 x.things.length]), none, none, some (boxRow (y.y.bx 8)), some (rowL 6 ShelfAct.cs y.l), some (rowL 2 Table.csO y.y.tables), some (rowL 3 Thing.cs y.y.things)], (by intro X; exact Turn.trans (turn_open (id := 6) (i := 0) (j := 1) rfl (show 0 < 1 by decide) (show 1 < 3 by decide) rfl) (Turn.trans (turn_open (id := 6) (i := 0) (j := 2) rfl (show 0 < 1 by decide) (show 2 < 3 by decide) rfl) (turn_box (id := 6) (ds := y.y.bx 8) rfl rfl rfl (.cons (.refl _) (.cons (.refl _) (.cons (.refl _) .nil)))))), (fun i _ q => (by cases q)), .inl ⟨[0, 6, 8, 9], _, _, _, l19Act_ok y.y (soft_good hg) y.t ?_, (view_of rfl (.cons rfl (.self (rowPl_box rfl)) (.cons rfl (rowBack_box rfl rfl) (.cons rfl (.self (rowPl_L fun _ => rfl)) (.cons rfl (.self (rowPl_L fun _ => rfl)) .nil))))), ⟨rfl, rfl⟩, ?_⟩⟩)); rotate_left 1; rintro _ _ ⟨a, t3, ha, ht3, rfl, rfl⟩; refine ⟨rfl, _, (lok_L (.pl (rowPl_box rfl) (.box rfl rfl (.pl (rowPl_L fun _ => rfl) (.pl (rowPl_L fun _ => rfl) .nil))))), ?_⟩) | ((refine .inr (.inr ⟨[some (boxRow t3.cs), some (rowL 2 Table.csO x.tables), some (rowL 3 Thing.cs x.things), some (boxRow [.i .i64 x.next, .row 1 x.tables.length, .row 2 x.things.length]), none, none, some (boxRow y.y.csO), some (rowL 6 ShelfAct.cs y.l), none, none, some (boxRow a.cs)], (by intro X; exact Turn.trans (turn_close (id := 6) (i := 0) (j := 1) (id' := 8) rfl (show 0 < 1 by decide) (show 1 < 3 by decide) rfl rfl (show 6 ≠ 8 by decide) rfl (rowO_le (Nat.le_refl _))) (Turn.trans (turn_close (id := 6) (i := 0) (j := 2) (id' := 9) rfl (show 0 < 1 by decide) (show 2 < 3 by decide) rfl rfl (show 6 ≠ 9 by decide) rfl (rowO_le (Nat.le_refl _))) (Turn.trans (turn_box (id := 6) (ds := y.y.csO) rfl rfl rfl (.cons (.refl _) (.cons (.refl _) (.cons (.refl _) .nil)))) (turn_box (id := 10) (ds := a.cs) rfl rfl rfl (.cons (.refl _) (.cons (.refl _) (.cons (.refl _) (.cons (.refl _) (.cons (.refl _) (.cons (.refl _) .nil)))))))))) , (fun i _ q => (by cases q)), .inl ⟨[6], _, _, _, D.act y.y _ ho hg ha, viewA, ⟨rfl, rfl⟩, ?_⟩⟩)); rintro _ _ ⟨x2, c, hx2, rfl, rfl⟩; refine ⟨rfl, _, lokA, ?_⟩) | refine And.intro ?_ ?_ | (intro _h; first | contradiction | (try simp only [dd] at _h)) | (refine dt_go ?_) | exact rfl | exact True.intro | exact dkk | exact dks | (refine wrap_succ ?_; omega))))
  conv => whnf
  refine roundET_turn (turn_eq (id := 12) (x := rowL 6 ShelfAct.cs (y.l ++ [a])) rfl rfl (by show (_ ++ [_]).length = _; rw [List.length_append]; rfl) rfl rfl (snoc_eq (l := y.l) (sz := 6) (a := a) (c := ShelfAct.cs) rfl (fun j hj => .refl _))) ?_
  refine roundET_end ?_
  refine ⟨⟨t3, x2, IntKind.i64.wrap (y.k - 1), y.l ++ [a]⟩, [0, 1, 2, 3, 4, 5, 6, 12], ?_, ?_, ?_⟩
  ·rw [wrap_in (by omega) (by omega)]
   exact ⟨⟨by dsimp only; omega, by dsimp only; omega, by dsimp only; omega⟩, ⟨by dsimp only; omega, by dsimp only; rw [List.length_append, List.length_singleton]; omega⟩, hx2, fineL_snoc hf ha⟩
  ·rw [wrap_in (by omega) (by omega)]
   show (y.k - 1).toNat < y.k.toNat
   omega
  repeat' (first | exact aa | ((conv => whnf) <;> (first | exact arr_same rfl rfl (fun a j => low_cells rfl) | exact low_cells rfl | exact rho_keep3 hX _h | exact len_snoc1 | refine And.intro ?_ ?_ | (intro _h; first | contradiction | (try simp only [dd] at _h)) | (refine dt_go ?_) | exact rfl | exact True.intro | exact dkk | exact dks | (refine wrap_succ ?_; omega))))
  all_goals trace_state
 ·rename_i y hy
  obtain ⟨⟨q1, q2, q3⟩, ⟨k1, k2⟩, ⟨ho, hg⟩, hf⟩ := hy
  conv => whnf
  exact endM_pick [0, 1, 2, 7] [some (boxRow (Src.cs y.t)), some (rowL 2 Table.csO x.tables), some (rowL 3 Thing.cs x.things), some (rowL 6 ShelfAct.cs y.l)] (.row 3 y.l.length) (view_of rfl (.cons rfl (.self (rowPl_box rfl)) (.cons rfl (.self (rowPl_L fun _ => rfl)) (.cons rfl (.self (rowPl_L fun _ => rfl)) (.cons rfl (.self (rowPl_L fun _ => rfl)) .nil))))) rfl rfl (by rw [hX]; exact keepK (n := 3) rfl rfl) ⟨y.l, y.t, ⟨by omega, hf⟩, ⟨by omega, by omega, by omega⟩, rfl, rfl⟩
set_option maxHeartbeats 8000000 in
theorem drawPlayShelf_ok (D : Draws) (l : List UInt8) (hl : l.length ≤ 1048576) : RetM env.P 6 [] [slL 1 byteC l] (fun r H => ∃ (x : Shelf) (q : List ShelfAct), (x.Soft ∧ q.length ≤ 41) ∧ r = .tup [.agg x.resO, .row 2 q.length] ∧ H = x.rowsO ++ [some (rowL 6 ShelfAct.cs q)]) := by
 refine ret_ofM (nt := 28) (rvs := [.cell 2 27, .tmp 3]) Tryz.func6 rfl rfl rfl rfl (fun X hX => ?_)
 repeat' (first | exact aa | ((conv => whnf) <;> (first | (refine Src.rm_i ?_ ?_ ?_) | refine And.intro ?_ ?_ | (intro _h; first | contradiction | (try simp only [dd] at _h)) | (refine dt_go ?_) | exact rfl | exact True.intro | exact dkk | exact dks | (refine .inr (.inl (.inl ⟨[], _, _, _, from_gen l hl, viewA, ⟨rfl, rfl⟩, ?_⟩)); rintro _ _ ⟨_, _, rfl, rfl⟩; refine ⟨rfl, _, lokA, ?_⟩) | (refine .inr (.inl (.inl ⟨[1], _, _, _, l19Draw_ok D _ ?_, viewA, ⟨rfl, rfl⟩, ?_⟩)); rotate_left 1; rintro _ _ ⟨_, _, _, _, rfl, rfl⟩; refine ⟨rfl, _, lokA, ?_⟩) | (refine .inr (.inl (.inl ⟨[1, 2, 3], _, _, _, l19Acts_ok D _ ‹Shelf.ok _ ∧ Shelf.good _› _ ?_, viewA, ⟨rfl, rfl⟩, ?_⟩)); rotate_left 1; rintro _ _ ⟨_, _, _, _, rfl, rfl⟩; refine ⟨rfl, _, lokA, ?_⟩) | (refine .inr (.inl (.inl ⟨[1], _, _, _, pick_ex _ ?_ _ ?_, viewA, ⟨rfl, rfl⟩, ?_⟩)); rotate_left 2; rintro _ _ ⟨_, _, _, _, rfl, rfl⟩; refine ⟨rfl, _, lokA, ?_⟩) | (refine .inr (.inl (.inl ⟨[1], _, _, _, l19Bent_ok D _ ?_, viewA, ⟨rfl, rfl⟩, ?_⟩)); rotate_left 1; rintro _ _ ⟨_, _, _, _, rfl, rfl⟩; refine ⟨rfl, _, lokA, ?_⟩) | (refine wrap_succ ?_; omega))))
 all_goals (conv => whnf)
 ·exact endM_pick [6, 7, 5] (Shelf.rowsO _ ++ [some (rowL 6 ShelfAct.cs _)]) (.tup [.agg (Shelf.resO _), .row 2 _]) (view_of rfl (.cons rfl (.self (rowPl_L fun _ => rfl)) (.cons rfl (.self (rowPl_L fun _ => rfl)) (.cons rfl (.self (rowPl_L fun _ => rfl)) .nil)))) rfl rfl (fun k hk => by rw [hX] at hk; exact absurd hk (Nat.not_lt_zero _)) ⟨_, _, ⟨‹Shelf.Soft _›, Nat.le_succ_of_le (And.left ‹_ ∧ fineL _›)⟩, rfl, rfl⟩
 ·rename_i s0 hs0 x0 t0 hx0 ht0 q t1 hq ht1 v t2 hv ht2 hn
  refine endM_turn (turn_eq (id := 7) (x := rowL 6 ShelfAct.cs (q ++ [(⟨9, 0, 0, 0, 0, 0⟩ : ShelfAct)])) rfl rfl len_snoc1.symm rfl rfl (fun i j hi hj => snoc_eq (l := q) (sz := 6) (a := ⟨9, 0, 0, 0, 0, 0⟩) (c := ShelfAct.cs) rfl (fun j hj => by exact .refl _) i j hi hj)) ?_
  exact endM_pick [2, 3, 7] (Shelf.rowsO _ ++ [some (rowL 6 ShelfAct.cs (q ++ [(⟨9, 0, 0, 0, 0, 0⟩ : ShelfAct)]))]) (.tup [.agg (Shelf.resO _), .row 2 _]) (view_of rfl (.cons rfl (.self (rowPl_L fun _ => rfl)) (.cons rfl (.self (rowPl_L fun _ => rfl)) (.cons rfl (.self (rowPl_L fun _ => rfl)) .nil)))) rfl rfl (fun k hk => by rw [hX] at hk; exact absurd hk (Nat.not_lt_zero _)) ⟨_, _, ⟨soft_good hx0.2, by rw [← len_snoc1]; exact Nat.succ_le_succ hq.1⟩, (by rw [← len_snoc1]), rfl⟩
 ·exact endM_pick [2, 3, 5] (Shelf.rowsO _ ++ [some (rowL 6 ShelfAct.cs _)]) (.tup [.agg (Shelf.resO _), .row 2 _]) (view_of rfl (.cons rfl (.self (rowPl_L fun _ => rfl)) (.cons rfl (.self (rowPl_L fun _ => rfl)) (.cons rfl (.self (rowPl_L fun _ => rfl)) .nil)))) rfl rfl (fun k hk => by rw [hX] at hk; exact absurd hk (Nat.not_lt_zero _)) ⟨_, _, ⟨soft_good (And.right ‹Shelf.ok _ ∧ Shelf.good _›), Nat.le_succ_of_le (And.left ‹_ ∧ fineL _›)⟩, rfl, rfl⟩
set_option maxHeartbeats 8000000 in
theorem drawDropHandle_ok (D : Draws) (l : List UInt8) (hl : l.length ≤ 1048576) : RetM env.P 14 [] [slL 1 byteC l] (fun r H => ∃ (x : Shelf) (who num : Int), x.Soft ∧ r = .tup [.agg x.resO, .i .i64 who, .i .i64 num] ∧ H = x.rowsO) := by
 refine ret_ofM (nt := 24) (rvs := [.cell 2 27, .tmp 3, .tmp 4]) Tryz.func14 rfl rfl rfl rfl (fun X hX => ?_)
 repeat' (first | exact aa | ((conv => whnf) <;> (first | (refine Src.rm_i ?_ ?_ ?_) | refine And.intro ?_ ?_ | (intro _h; first | contradiction | (try simp only [dd] at _h)) | (refine dt_go ?_) | exact rfl | exact True.intro | exact dkk | exact dks | (refine .inr (.inl (.inl ⟨[], _, _, _, from_gen l hl, viewA, ⟨rfl, rfl⟩, ?_⟩)); rintro _ _ ⟨_, _, rfl, rfl⟩; refine ⟨rfl, _, lokA, ?_⟩) | (refine .inr (.inl (.inl ⟨[1], _, _, _, l19Bent_ok D _ ?_, viewA, ⟨rfl, rfl⟩, ?_⟩)); rotate_left 1; rintro _ _ ⟨_, _, _, _, rfl, rfl⟩; refine ⟨rfl, _, lokA, ?_⟩) | (refine .inr (.inl (.inl ⟨[1, 2, 3], _, _, _, l19Name_ok _ ‹Shelf.Soft _› _ ?_, viewA, ⟨rfl, rfl⟩, ?_⟩)); rotate_left 1; rintro _ _ ⟨_, _, _, _, _, rfl, rfl⟩; refine ⟨rfl, _, lokA, ?_⟩) | (refine wrap_succ ?_; omega))))
 all_goals (conv => whnf)
 all_goals exact endM_pick [2, 3] (Shelf.rowsO _) (.tup [.agg (Shelf.resO _), .i .i64 _, .i .i64 _]) (view_of rfl (.cons rfl (.self (rowPl_L fun _ => rfl)) (.cons rfl (.self (rowPl_L fun _ => rfl)) .nil))) rfl rfl (fun k hk => by rw [hX] at hk; exact absurd hk (Nat.not_lt_zero _)) ⟨_, _, _, ‹_›, rfl, rfl⟩
end
end Go.Proofs.YtmglpojnoadgeaaGreat
