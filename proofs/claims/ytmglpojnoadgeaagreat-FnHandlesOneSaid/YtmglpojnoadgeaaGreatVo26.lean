/- Texts for VHandlesOneP. -/
import Derived.Test.YtmglpojnoadgeaaGreatVo21
import Derived.Test.YtmglpojnoadgeaaGreatVo25
namespace Go.Proofs.YtmglpojnoadgeaaGreat
open Go Go.RowKit
set_option linter.unusedVariables false
set_option linter.unusedSimpArgs false
section
attribute [local irreducible] IntKind.wrap
theorem bent7 {x : Shelf} (h : x.ok ∧ x.good) : 1 ≤ x.tables.length ∧ x.tables.length ≤ 7 := h.2.2.1
theorem bent200 {x : Shelf} (h : x.ok ∧ x.good) : (x.tables.length : Int) ≤ 200 := by have := bent7 h; omega
theorem wr_n {n : Nat} (h : 0 < (n : Int)) (h12 : n ≤ 12) : IntKind.i64.wrap ((n : Int) - 1) = (n : Int) - 1 := wrap_in (by omega) (by omega)
theorem wr_0 {n : Nat} (h : 0 < (n : Int)) (h12 : n ≤ 12) : 0 ≤ IntKind.i64.wrap ((n : Int) - 1) := by rw [wr_n h h12]; omega
theorem wr_1 {n : Nat} (h : 0 < (n : Int)) (h12 : n ≤ 12) : IntKind.i64.wrap ((n : Int) - 1) < (n : Int) := by rw [wr_n h h12]; omega
theorem wr_k {n : Nat} (h : 0 < (n : Int)) (h12 : n ≤ 12) : (IntKind.i64.wrap ((n : Int) - 1)).toNat < n := by rw [wr_n h h12]; omega
theorem set_rows {l : List Entry} {k n : Nat} {e : Entry} {es : Nat → Nat → AV} (hk : k < l.length) (h1 : ∀ j, j < 7 → es k j = (Entry.cs e).getD j .any) (h2 : ∀ i j, i ≠ k → es i j = elE Entry.cs l i j) : ∀ i j, i < n → j < 7 → OwEq (es i j) (elE Entry.cs (l.set k e) i j) := fun i j hi hj => by
 have hr : elE Entry.cs (l.set k e) i j = (Entry.cs (if i = k then e else l.getD i default)).getD j .any := by
  unfold elE
  rw [getD_set hk]
 rw [hr]
 by_cases q : i = k
 ·subst q
  rw [if_pos rfl, h1 j hj]
  exact .refl _
 ·rw [if_neg q, h2 i j q]
  exact .refl _
theorem setN_rows {s : Shelf} {w n : Nat} {v : Int} (hw : w < s.tables.length) : ∀ i j, i < n → j < 2 → OwEq (upd (elE Table.csO s.tables) w 0 [.i .i64 v] i j) (elE Table.csO (s.setN w v).tables i j) := fun i j hi hj => by
 have hr : elE Table.csO (s.setN w v).tables i j = (Table.csO (if i = w then ⟨v, (s.tables.getD w default).entries⟩ else s.tables.getD i default)).getD j .any := by
  unfold elE
  rw [setN_at hw]
 rw [hr, upd_one]
 by_cases e1 : i = w
 ·subst e1
  rw [if_pos rfl]
  rcases (show j = 0 ∨ j = 1 by omega) with rfl | rfl
  ·rw [if_pos ⟨rfl, rfl⟩]
   exact .refl _
  ·rw [if_neg (by omega)]
   exact .refl _
 ·rw [if_neg (fun q => e1 q.1), if_neg e1]
  exact .refl _
set_option maxRecDepth 8000 in
set_option maxHeartbeats 16000000 in
theorem l19Bent_ok (D : Draws) (s : Src) (h : s.rm 400) : RetM env.P 24 [some (boxRow s.cs)] [.ptr 0 0 0] (fun r H => ∃ (x : Shelf) (t : Src), x.Soft ∧ (s.at' ≤ t.at' ∧ t.at' ≤ s.at' + 300 ∧ t.code.length = s.code.length) ∧ r = .agg [.i .i64 x.next, .row 1 x.tables.length, .row 2 x.things.length] ∧ H = [some (boxRow t.cs), some (rowL 2 Table.csO x.tables), some (rowL 3 Thing.cs x.things)]) := by
 obtain ⟨h1, h2, h3⟩ := h
 refine ret_ofPM (nt := 133) (rvs := [.cell 2 27]) Tryz.func24 rfl rfl rfl rfl (fun X hX => ?_)
 refine pw_cut 3 (fun y : Shelf × Src × Int => (y.1.ok ∧ y.1.good) ∧ (s.at' ≤ y.2.1.at' ∧ y.2.1.at' ≤ s.at' + 261 ∧ y.2.1.code.length = s.code.length) ∧ (0 ≤ y.2.2 ∧ y.2.2 < y.1.tables.length))
  (fun y => [(0, .ptr 0 0 0), (2, .ptr 1 0 0), (3, .ptr 4 0 0), (4, .i .i64 y.2.2)])
  (fun y => [some (boxRow y.2.1.cs), some (boxRow [.i .i64 0, .nils, .nils]), some (rowL 2 Table.csO y.1.tables), some (rowL 3 Thing.cs y.1.things), some (boxRow (y.1.bx 2))]) ?_ (fun y hy => ?_)
 ·repeat' (first | exact aa | ((conv => whnf) <;> (first | exact bent200 ‹_› | (refine Src.rm_i ?_ ?_ ?_) | refine And.intro ?_ ?_ | (intro _h; first | contradiction | (try simp only [dd] at _h)) | (refine dt_go ?_) | exact rfl | exact True.intro | exact dkk | exact dks | (refine .inr (.inl (.inl ⟨[0], _, _, _, l19Draw_ok D _ ?_, viewA, ⟨rfl, rfl⟩, ?_⟩)); rotate_left 1; rintro _ _ ⟨_, _, _, _, rfl, rfl⟩; refine ⟨rfl, _, lokA, ?_⟩) | (refine .inr (.inl (.inl ⟨[0], _, _, _, pick_ex _ ?_ _ ?_, viewA, ⟨rfl, rfl⟩, ?_⟩)); rotate_left 2; rintro _ _ ⟨_, _, _, _, rfl, rfl⟩; refine ⟨rfl, _, lokA, ?_⟩) | (refine wrap_succ ?_; omega))))
  all_goals (conv => whnf)
  all_goals (have hq7 := bent7 ‹Shelf.ok _ ∧ Shelf.good _›; refine cut_turn (turn_box (id := 4) (ds := Shelf.bx _ 2) rfl rfl rfl (.cons (.refl _) (.cons (.refl _) (.cons (.refl _) .nil)))) ?_; refine cut_go (_, _, _) ?_ (by repeat' (first | exact trivial | refine And.intro rfl ?_)) (by repeat' (first | exact trivial | refine And.intro (.inl rfl) ?_ | refine And.intro (.inr rfl) ?_ | refine And.intro rfl ?_)); dsimp only; refine ⟨‹_›, ⟨?_, ?_, ?_⟩, ⟨?_, ?_⟩⟩ <;> omega)
 ·obtain ⟨x, t, who⟩ := y
  obtain ⟨hx, ht, hw⟩ := hy
  dsimp only at hx ht hw
  dsimp only
  have hs := soft_good hx.2
  have hl7 := hs.t7
  have hw2 : who.toNat < x.tables.length := by omega
  have hl12 := hs.e12 who.toNat
  have hl2 : x.things.length ≤ 1048576 := by have := hs.n25; omega
  refine wpc_ok _ _ _ _ ?_
  repeat' (first | exact aa | ((conv => whnf) <;> (first | (refine ld_skip rfl rfl rfl rfl upd_self ?_) | (refine bool_skip any_self ?_) | (first | rw [ld_self rfl] | rw [ld_selfA rfl]) | exact capB2 hl2 (by decide) | exact capN2 hl2 | (refine Src.rm_i ?_ ?_ ?_) | ((refine .inr (.inl (.inl ⟨[0, 5], _, _, _, among_row _ ?_ [0, 1, 1000000, 1000001] (by decide) (by decide), (view_of rfl (.cons rfl (.self (rowPl_box rfl)) (.cons rfl (rowBack_lit [0, 1, 1000000, 1000001]) .nil))), ⟨rfl, rfl⟩, ?_⟩))); rotate_left 1; rintro _ _ ⟨_, _, _, _, rfl, rfl⟩; refine ⟨rfl, _, lokA, ?_⟩) | (refine dt_goC (id := 17) [0, 5, 2] ?_) | (refine dt_goM (id := 15) [5] ?_) | exact wr_0 ‹_› hl12 | exact wr_1 ‹_› hl12 | ((refine .inr (.inl (.inl ⟨[0, 5], _, _, _, among_row _ ?_ [1, 1000000, 0] (by decide) (by decide), (view_of rfl (.cons rfl (.self (rowPl_box rfl)) (.cons rfl (rowBack_lit [1, 1000000, 0]) .nil))), ⟨rfl, rfl⟩, ?_⟩))); rotate_left 1; rintro _ _ ⟨_, _, _, _, rfl, rfl⟩; refine ⟨rfl, _, lokA, ?_⟩) | refine And.intro ?_ ?_ | (intro _h; first | contradiction | (try simp only [dd] at _h)) | (refine dt_go ?_) | exact rfl | exact True.intro | exact dkk | exact dks | (refine .inr (.inl (.inl ⟨[0], _, _, _, pick_ex _ ?_ _ ?_, viewA, ⟨rfl, rfl⟩, ?_⟩)); rotate_left 2; rintro _ _ ⟨_, _, _, _, rfl, rfl⟩; refine ⟨rfl, _, lokA, ?_⟩) | (refine wrap_succ ?_; omega))))
  all_goals (conv => whnf)
  ·
   exact endM_pick [0, 2, 3] [some (boxRow (Src.cs _)), some (rowL 2 Table.csO (x.setX _).tables), some (rowL 3 Thing.cs (x.setX _).things)] (.agg [.i .i64 _, .row 1 _, .row 2 _]) (view_of rfl (.cons rfl (.self (rowPl_box rfl)) (.cons rfl (.self (rowPl_L fun _ => rfl)) (.cons rfl (.self (rowPl_L fun _ => rfl)) .nil)))) rfl rfl (by rw [hX]; exact keepK (n := 1) rfl rfl) ⟨x.setX _, _, soft_next hs _, ⟨by omega, by omega, by omega⟩, rfl, rfl⟩
  ·
   refine endM_turn (turn_eq (id := 6) (x := rowL 3 Thing.cs (x.addT ⟨IntKind.i64.wrap (x.next - 1), 1, 0⟩).things) rfl rfl (by show (_ ++ [_]).length = _; rw [List.length_append]; rfl) rfl rfl (snoc_eq (l := x.things) (sz := 3) (a := ⟨IntKind.i64.wrap (x.next - 1), 1, 0⟩) (c := Thing.cs) rfl (fun j hj => .refl _))) ?_
   exact endM_pick [0, 2, 6] [some (boxRow (Src.cs _)), some (rowL 2 Table.csO (x.addT ⟨IntKind.i64.wrap (x.next - 1), 1, 0⟩).tables), some (rowL 3 Thing.cs (x.addT ⟨IntKind.i64.wrap (x.next - 1), 1, 0⟩).things)] (.agg [.i .i64 _, .row 1 _, .row 2 _]) (view_of rfl (.cons rfl (.self (rowPl_box rfl)) (.cons rfl (.self (rowPl_L fun _ => rfl)) (.cons rfl (.self (rowPl_L fun _ => rfl)) .nil)))) rfl rfl (by rw [hX]; exact keepK (n := 1) rfl rfl) ⟨x.addT ⟨IntKind.i64.wrap (x.next - 1), 1, 0⟩, _, soft_addT hs hx.2.2.2.1.2 _ ⟨by show (1 : Int) ≤ 1; omega, by show (1 : Int) ≤ 8; omega⟩, ⟨by omega, by omega, by omega⟩, (by show AV.agg [.i .i64 x.next, .row 1 _, .row 2 _] = AV.agg [.i .i64 x.next, .row 1 _, .row 2 (x.things ++ [_]).length]; rw [List.length_append]; rfl), rfl⟩
  ·
   have hk : 0 < (x.tables.getD who.toNat default).entries.length := by omega
   refine endM_turn (turn_eq (id := 5) (x := rowL 7 Entry.cs ((x.tables.getD who.toNat default).entries.set 0 { (x.tables.getD who.toNat default).entries.getD 0 default with lends := IntKind.i64.wrap (((x.tables.getD who.toNat default).entries.getD 0 default).lends + 1) })) rfl rfl List.length_set rfl rfl (set_rows hk (fun j hj => ?_) (fun i j hne => ?_))) ?_
   ·rcases (show j = 0 ∨ j = 1 ∨ j = 2 ∨ j = 3 ∨ j = 4 ∨ j = 5 ∨ j = 6 by omega) with rfl | rfl | rfl | rfl | rfl | rfl | rfl <;> (dsimp only [upd, avc]; first | rfl | (simp only [Nat.beq_refl]; rfl))
   ·dsimp only [upd, avc]
    first | (simp only [beq_ff hne, Bool.and_false, Bool.false_and, cond_false]; done) | (obtain ⟨i, rfl⟩ : ∃ q, i = q + 1 := ⟨i - 1, by omega⟩; rw [show (i + 1).beq (Int.toNat 0) = false from rfl, Bool.and_false, cond_false])
   refine endM_turn (turn_close (id := 2) (i := who.toNat) (j := 1) (id' := 5) rfl hw2 (show 1 < 2 by decide) (by exact upd_self) rfl (show 2 ≠ 5 by decide) rfl (rowO_le (Nat.le_of_eq List.length_set.symm))) ?_
   refine endM_turn (turn_eq (id := 2) (x := rowL 2 Table.csO (x.setE who.toNat ((x.tables.getD who.toNat default).entries.set 0 { (x.tables.getD who.toNat default).entries.getD 0 default with lends := IntKind.i64.wrap (((x.tables.getD who.toNat default).entries.getD 0 default).lends + 1) })).tables) rfl rfl setE_len rfl rfl (setE_rows (l := ((x.tables.getD who.toNat default).entries.set 0 { (x.tables.getD who.toNat default).entries.getD 0 default with lends := IntKind.i64.wrap (((x.tables.getD who.toNat default).entries.getD 0 default).lends + 1) })) hw2 List.length_set.symm (fun i j _ _ => .refl _))) ?_
   exact endM_pick [0, 2, 3] [some (boxRow (Src.cs _)), some (rowL 2 Table.csO (x.setE who.toNat ((x.tables.getD who.toNat default).entries.set 0 { (x.tables.getD who.toNat default).entries.getD 0 default with lends := IntKind.i64.wrap (((x.tables.getD who.toNat default).entries.getD 0 default).lends + 1) })).tables), some (rowL 3 Thing.cs (x.setE who.toNat ((x.tables.getD who.toNat default).entries.set 0 { (x.tables.getD who.toNat default).entries.getD 0 default with lends := IntKind.i64.wrap (((x.tables.getD who.toNat default).entries.getD 0 default).lends + 1) })).things)] (.agg [.i .i64 _, .row 1 _, .row 2 _]) (view_of rfl (.cons rfl (.self (rowPl_box rfl)) (.cons rfl (.self (rowPl_L fun _ => rfl)) (.cons rfl (.self (rowPl_L fun _ => rfl)) .nil)))) rfl rfl (by rw [hX]; exact keepK (n := 1) rfl rfl) ⟨x.setE who.toNat ((x.tables.getD who.toNat default).entries.set 0 { (x.tables.getD who.toNat default).entries.getD 0 default with lends := IntKind.i64.wrap (((x.tables.getD who.toNat default).entries.getD 0 default).lends + 1) }), _, soft_entry hs hw2 hk ⟨rfl, rfl⟩, ⟨by omega, by omega, by omega⟩, (by rw [setE_len]; rfl), rfl⟩
  ·
   refine endM_turn (turn_close (id := 2) (i := who.toNat) (j := 1) (id' := 5) rfl hw2 (show 1 < 2 by decide) (by exact upd_self) rfl (show 2 ≠ 5 by decide) rfl (rowO_le (Nat.le_refl _))) ?_
   refine endM_turn (turn_eq (id := 2) (x := rowL 2 Table.csO x.tables) rfl rfl rfl rfl rfl tab_back) ?_
   exact endM_pick [0, 2, 3] [some (boxRow (Src.cs _)), some (rowL 2 Table.csO (x).tables), some (rowL 3 Thing.cs (x).things)] (.agg [.i .i64 _, .row 1 _, .row 2 _]) (view_of rfl (.cons rfl (.self (rowPl_box rfl)) (.cons rfl (.self (rowPl_L fun _ => rfl)) (.cons rfl (.self (rowPl_L fun _ => rfl)) .nil)))) rfl rfl (by rw [hX]; exact keepK (n := 1) rfl rfl) ⟨x, _, hs, ⟨by omega, by omega, by omega⟩, rfl, rfl⟩
  ·
   have hk : (IntKind.i64.wrap (((x.tables.getD who.toNat default).entries.length : Int) - 1)).toNat < (x.tables.getD who.toNat default).entries.length := wr_k ‹_› hl12
   refine endM_turn (turn_eq (id := 5) (x := rowL 7 Entry.cs ((x.tables.getD who.toNat default).entries.set (IntKind.i64.wrap (((x.tables.getD who.toNat default).entries.length : Int) - 1)).toNat { (x.tables.getD who.toNat default).entries.getD (IntKind.i64.wrap (((x.tables.getD who.toNat default).entries.length : Int) - 1)).toNat default with own := !((x.tables.getD who.toNat default).entries.getD (IntKind.i64.wrap (((x.tables.getD who.toNat default).entries.length : Int) - 1)).toNat default).own })) rfl rfl List.length_set rfl rfl (set_rows hk (fun j hj => ?_) (fun i j hne => ?_))) ?_
   ·rcases (show j = 0 ∨ j = 1 ∨ j = 2 ∨ j = 3 ∨ j = 4 ∨ j = 5 ∨ j = 6 by omega) with rfl | rfl | rfl | rfl | rfl | rfl | rfl <;> (dsimp only [upd, avc]; first | rfl | (simp only [Nat.beq_refl]; rfl))
   ·dsimp only [upd, avc]
    first | (simp only [beq_ff hne, Bool.and_false, Bool.false_and, cond_false]; done) | (obtain ⟨i, rfl⟩ : ∃ q, i = q + 1 := ⟨i - 1, by omega⟩; rw [show (i + 1).beq (Int.toNat 0) = false from rfl, Bool.and_false, cond_false])
   refine endM_turn (turn_close (id := 2) (i := who.toNat) (j := 1) (id' := 5) rfl hw2 (show 1 < 2 by decide) (by exact upd_self) rfl (show 2 ≠ 5 by decide) rfl (rowO_le (Nat.le_of_eq List.length_set.symm))) ?_
   refine endM_turn (turn_eq (id := 2) (x := rowL 2 Table.csO (x.setE who.toNat ((x.tables.getD who.toNat default).entries.set (IntKind.i64.wrap (((x.tables.getD who.toNat default).entries.length : Int) - 1)).toNat { (x.tables.getD who.toNat default).entries.getD (IntKind.i64.wrap (((x.tables.getD who.toNat default).entries.length : Int) - 1)).toNat default with own := !((x.tables.getD who.toNat default).entries.getD (IntKind.i64.wrap (((x.tables.getD who.toNat default).entries.length : Int) - 1)).toNat default).own })).tables) rfl rfl setE_len rfl rfl (setE_rows (l := ((x.tables.getD who.toNat default).entries.set (IntKind.i64.wrap (((x.tables.getD who.toNat default).entries.length : Int) - 1)).toNat { (x.tables.getD who.toNat default).entries.getD (IntKind.i64.wrap (((x.tables.getD who.toNat default).entries.length : Int) - 1)).toNat default with own := !((x.tables.getD who.toNat default).entries.getD (IntKind.i64.wrap (((x.tables.getD who.toNat default).entries.length : Int) - 1)).toNat default).own })) hw2 List.length_set.symm (fun i j _ _ => .refl _))) ?_
   exact endM_pick [0, 2, 3] [some (boxRow (Src.cs _)), some (rowL 2 Table.csO (x.setE who.toNat ((x.tables.getD who.toNat default).entries.set (IntKind.i64.wrap (((x.tables.getD who.toNat default).entries.length : Int) - 1)).toNat { (x.tables.getD who.toNat default).entries.getD (IntKind.i64.wrap (((x.tables.getD who.toNat default).entries.length : Int) - 1)).toNat default with own := !((x.tables.getD who.toNat default).entries.getD (IntKind.i64.wrap (((x.tables.getD who.toNat default).entries.length : Int) - 1)).toNat default).own })).tables), some (rowL 3 Thing.cs (x.setE who.toNat ((x.tables.getD who.toNat default).entries.set (IntKind.i64.wrap (((x.tables.getD who.toNat default).entries.length : Int) - 1)).toNat { (x.tables.getD who.toNat default).entries.getD (IntKind.i64.wrap (((x.tables.getD who.toNat default).entries.length : Int) - 1)).toNat default with own := !((x.tables.getD who.toNat default).entries.getD (IntKind.i64.wrap (((x.tables.getD who.toNat default).entries.length : Int) - 1)).toNat default).own })).things)] (.agg [.i .i64 _, .row 1 _, .row 2 _]) (view_of rfl (.cons rfl (.self (rowPl_box rfl)) (.cons rfl (.self (rowPl_L fun _ => rfl)) (.cons rfl (.self (rowPl_L fun _ => rfl)) .nil)))) rfl rfl (by rw [hX]; exact keepK (n := 1) rfl rfl) ⟨x.setE who.toNat ((x.tables.getD who.toNat default).entries.set (IntKind.i64.wrap (((x.tables.getD who.toNat default).entries.length : Int) - 1)).toNat { (x.tables.getD who.toNat default).entries.getD (IntKind.i64.wrap (((x.tables.getD who.toNat default).entries.length : Int) - 1)).toNat default with own := !((x.tables.getD who.toNat default).entries.getD (IntKind.i64.wrap (((x.tables.getD who.toNat default).entries.length : Int) - 1)).toNat default).own }), _, soft_entry hs hw2 hk ⟨rfl, rfl⟩, ⟨by omega, by omega, by omega⟩, (by rw [setE_len]; rfl), rfl⟩
  ·
   refine endM_turn (turn_close (id := 2) (i := who.toNat) (j := 1) (id' := 5) rfl hw2 (show 1 < 2 by decide) (by exact upd_self) rfl (show 2 ≠ 5 by decide) rfl (rowO_le (Nat.le_refl _))) ?_
   refine endM_turn (turn_eq (id := 2) (x := rowL 2 Table.csO x.tables) rfl rfl rfl rfl rfl tab_back) ?_
   exact endM_pick [0, 2, 3] [some (boxRow (Src.cs _)), some (rowL 2 Table.csO (x).tables), some (rowL 3 Thing.cs (x).things)] (.agg [.i .i64 _, .row 1 _, .row 2 _]) (view_of rfl (.cons rfl (.self (rowPl_box rfl)) (.cons rfl (.self (rowPl_L fun _ => rfl)) (.cons rfl (.self (rowPl_L fun _ => rfl)) .nil)))) rfl rfl (by rw [hX]; exact keepK (n := 1) rfl rfl) ⟨x, _, hs, ⟨by omega, by omega, by omega⟩, rfl, rfl⟩
  ·
   refine endM_turn (turn_eq (id := 2) (x := rowL 2 Table.csO (x.setN who.toNat _).tables) rfl rfl List.length_set rfl rfl (setN_rows hw2)) ?_
   exact endM_pick [0, 2, 3] [some (boxRow (Src.cs _)), some (rowL 2 Table.csO (x.setN who.toNat _).tables), some (rowL 3 Thing.cs (x.setN who.toNat _).things)] (.agg [.i .i64 _, .row 1 _, .row 2 _]) (view_of rfl (.cons rfl (.self (rowPl_box rfl)) (.cons rfl (.self (rowPl_L fun _ => rfl)) (.cons rfl (.self (rowPl_L fun _ => rfl)) .nil)))) rfl rfl (by rw [hX]; exact keepK (n := 1) rfl rfl) ⟨x.setN who.toNat _, _, soft_setN hs hw2 _, ⟨by omega, by omega, by omega⟩, (by rw [show (x.setN who.toNat _).tables.length = x.tables.length from List.length_set]; rfl), rfl⟩
  ·
   have hk : (IntKind.i64.wrap (((x.tables.getD who.toNat default).entries.length : Int) - 1)).toNat < (x.tables.getD who.toNat default).entries.length := wr_k ‹_› hl12
   refine endM_turn (turn_eq (id := 5) (x := rowL 7 Entry.cs ((x.tables.getD who.toNat default).entries.set (IntKind.i64.wrap (((x.tables.getD who.toNat default).entries.length : Int) - 1)).toNat { (x.tables.getD who.toNat default).entries.getD (IntKind.i64.wrap (((x.tables.getD who.toNat default).entries.length : Int) - 1)).toNat default with from_ := who, fromNum := ((x.tables.getD who.toNat default).entries.getD (IntKind.i64.wrap (((x.tables.getD who.toNat default).entries.length : Int) - 1)).toNat default).num })) rfl rfl List.length_set rfl rfl (set_rows hk (fun j hj => ?_) (fun i j hne => ?_))) ?_
   ·rcases (show j = 0 ∨ j = 1 ∨ j = 2 ∨ j = 3 ∨ j = 4 ∨ j = 5 ∨ j = 6 by omega) with rfl | rfl | rfl | rfl | rfl | rfl | rfl <;> (dsimp only [upd, avc]; first | rfl | (simp only [Nat.beq_refl]; rfl))
   ·dsimp only [upd, avc]
    first | (simp only [beq_ff hne, Bool.and_false, Bool.false_and, cond_false]; done) | (obtain ⟨i, rfl⟩ : ∃ q, i = q + 1 := ⟨i - 1, by omega⟩; rw [show (i + 1).beq (Int.toNat 0) = false from rfl, Bool.and_false, cond_false])
   refine endM_turn (turn_close (id := 2) (i := who.toNat) (j := 1) (id' := 5) rfl hw2 (show 1 < 2 by decide) (by exact upd_self) rfl (show 2 ≠ 5 by decide) rfl (rowO_le (Nat.le_of_eq List.length_set.symm))) ?_
   refine endM_turn (turn_eq (id := 2) (x := rowL 2 Table.csO (x.setE who.toNat ((x.tables.getD who.toNat default).entries.set (IntKind.i64.wrap (((x.tables.getD who.toNat default).entries.length : Int) - 1)).toNat { (x.tables.getD who.toNat default).entries.getD (IntKind.i64.wrap (((x.tables.getD who.toNat default).entries.length : Int) - 1)).toNat default with from_ := who, fromNum := ((x.tables.getD who.toNat default).entries.getD (IntKind.i64.wrap (((x.tables.getD who.toNat default).entries.length : Int) - 1)).toNat default).num })).tables) rfl rfl setE_len rfl rfl (setE_rows (l := ((x.tables.getD who.toNat default).entries.set (IntKind.i64.wrap (((x.tables.getD who.toNat default).entries.length : Int) - 1)).toNat { (x.tables.getD who.toNat default).entries.getD (IntKind.i64.wrap (((x.tables.getD who.toNat default).entries.length : Int) - 1)).toNat default with from_ := who, fromNum := ((x.tables.getD who.toNat default).entries.getD (IntKind.i64.wrap (((x.tables.getD who.toNat default).entries.length : Int) - 1)).toNat default).num })) hw2 List.length_set.symm (fun i j _ _ => .refl _))) ?_
   exact endM_pick [0, 2, 3] [some (boxRow (Src.cs _)), some (rowL 2 Table.csO (x.setE who.toNat ((x.tables.getD who.toNat default).entries.set (IntKind.i64.wrap (((x.tables.getD who.toNat default).entries.length : Int) - 1)).toNat { (x.tables.getD who.toNat default).entries.getD (IntKind.i64.wrap (((x.tables.getD who.toNat default).entries.length : Int) - 1)).toNat default with from_ := who, fromNum := ((x.tables.getD who.toNat default).entries.getD (IntKind.i64.wrap (((x.tables.getD who.toNat default).entries.length : Int) - 1)).toNat default).num })).tables), some (rowL 3 Thing.cs (x.setE who.toNat ((x.tables.getD who.toNat default).entries.set (IntKind.i64.wrap (((x.tables.getD who.toNat default).entries.length : Int) - 1)).toNat { (x.tables.getD who.toNat default).entries.getD (IntKind.i64.wrap (((x.tables.getD who.toNat default).entries.length : Int) - 1)).toNat default with from_ := who, fromNum := ((x.tables.getD who.toNat default).entries.getD (IntKind.i64.wrap (((x.tables.getD who.toNat default).entries.length : Int) - 1)).toNat default).num })).things)] (.agg [.i .i64 _, .row 1 _, .row 2 _]) (view_of rfl (.cons rfl (.self (rowPl_box rfl)) (.cons rfl (.self (rowPl_L fun _ => rfl)) (.cons rfl (.self (rowPl_L fun _ => rfl)) .nil)))) rfl rfl (by rw [hX]; exact keepK (n := 1) rfl rfl) ⟨x.setE who.toNat ((x.tables.getD who.toNat default).entries.set (IntKind.i64.wrap (((x.tables.getD who.toNat default).entries.length : Int) - 1)).toNat { (x.tables.getD who.toNat default).entries.getD (IntKind.i64.wrap (((x.tables.getD who.toNat default).entries.length : Int) - 1)).toNat default with from_ := who, fromNum := ((x.tables.getD who.toNat default).entries.getD (IntKind.i64.wrap (((x.tables.getD who.toNat default).entries.length : Int) - 1)).toNat default).num }), _, soft_entry hs hw2 hk ⟨rfl, rfl⟩, ⟨by omega, by omega, by omega⟩, (by rw [setE_len]; rfl), rfl⟩
  ·
   refine endM_turn (turn_close (id := 2) (i := who.toNat) (j := 1) (id' := 5) rfl hw2 (show 1 < 2 by decide) (by exact upd_self) rfl (show 2 ≠ 5 by decide) rfl (rowO_le (Nat.le_refl _))) ?_
   refine endM_turn (turn_eq (id := 2) (x := rowL 2 Table.csO x.tables) rfl rfl rfl rfl rfl tab_back) ?_
   exact endM_pick [0, 2, 3] [some (boxRow (Src.cs _)), some (rowL 2 Table.csO (x).tables), some (rowL 3 Thing.cs (x).things)] (.agg [.i .i64 _, .row 1 _, .row 2 _]) (view_of rfl (.cons rfl (.self (rowPl_box rfl)) (.cons rfl (.self (rowPl_L fun _ => rfl)) (.cons rfl (.self (rowPl_L fun _ => rfl)) .nil)))) rfl rfl (by rw [hX]; exact keepK (n := 1) rfl rfl) ⟨x, _, hs, ⟨by omega, by omega, by omega⟩, rfl, rfl⟩
  ·
   exact endM_pick [0, 2, 3] [some (boxRow (Src.cs _)), some (rowL 2 Table.csO (x).tables), some (rowL 3 Thing.cs (x).things)] (.agg [.i .i64 _, .row 1 _, .row 2 _]) (view_of rfl (.cons rfl (.self (rowPl_box rfl)) (.cons rfl (.self (rowPl_L fun _ => rfl)) (.cons rfl (.self (rowPl_L fun _ => rfl)) .nil)))) rfl rfl (by rw [hX]; exact keepK (n := 1) rfl rfl) ⟨x, _, hs, ⟨by omega, by omega, by omega⟩, rfl, rfl⟩
end
section
attribute [local irreducible] IntKind.wrap
theorem rd_u8 {P : Program} {t : TypeId} (hu : P.underlying t = some (.int .u8)) : Rd P t UInt8 byteC := fun cs h => by
 obtain ⟨n, rfl, hw⟩ := h.int_inv hu
 have h2 : 0 ≤ n ∧ n ≤ 255 := by
  simp only [Lit.wf, Bool.and_eq_true, decide_eq_true_eq] at hw
  exact hw
 refine ⟨UInt8.ofNat n.toNat, .cons ?_ .nil⟩
 have e : ((UInt8.ofNat n.toNat).toNat : Int) = n := by
  rw [UInt8.toNat_ofNat']; omega
 show Wk (.i .u8 n) (.i .u8 ((UInt8.ofNat n.toNat).toNat : Int))
 rw [e]; exact .refl _
set_option maxRecDepth 8000 in
theorem c2Big_ok (l : List UInt8) : Ret env.P 5 [slL 1 byteC l, .nils] (fun r => r = .b (pb (1048576 < (l.length : Int)))) := by
 refine ret_of (nt := 13) (rvs := [.tmp 4]) Tryz.func5 rfl rfl rfl rfl (fun X => ?_)
 repeat' (first | exact aa | ((conv => whnf) <;> (first | refine And.intro ?_ ?_ | (intro _h; first | contradiction | (try simp only [dd] at _h)) | (refine dt_go ?_) | exact rfl | exact True.intro | exact dkk | exact dks | (refine wrap_succ ?_; omega))))
 all_goals (conv => whnf)
 all_goals first | exact leaf_b (pb_f.mpr ‹_›).symm | exact leaf_b (pb_t.mpr ‹_›).symm | exact leaf_b (pb_f.mpr ‹_›) | exact leaf_b (pb_t.mpr ‹_›) | trace_state
theorem from_gen (l : List UInt8) (hl : l.length ≤ 1048576) : RetM env.P 20 [] [slL 1 byteC l] (fun r H => ∃ s : Src, (s.at' = 0 ∧ s.code.length ≤ 1048576) ∧ r = .ptr 0 0 0 ∧ H = [some (boxRow s.cs)]) :=
 (from_ok l).mono fun r H h => ⟨_, ⟨rfl, hl⟩, h⟩
end
set_option maxRecDepth 8000
def cutL (num : Int) (l : List Entry) : List Entry := l.filter (fun e => !numP num e)
def Shelf.cut (s : Shelf) (w : Nat) (num : Int) : Shelf := s.setE w (cutL num (s.tables.getD w default).entries)
theorem cutL_le {num : Int} {l : List Entry} : (cutL num l).length ≤ l.length := List.length_filter_le _ _
theorem cutL_hit {num : Int} {l : List Entry} {k : Nat} (hk : k < l.length) (h : (l.getD k default).num = num) : cutL num (l.take (k + 1)) = cutL num (l.take k) := by
 have hp : (!numP num (l.getD k default)) = false := by simp only [numP, h, decide_true, Bool.not_true]
 rw [take_snoc hk]
 unfold cutL
 rw [List.filter_append]
 simp only [List.filter, hp, List.append_nil]
theorem cutL_miss {num : Int} {l : List Entry} {k : Nat} (hk : k < l.length) (h : ¬ (l.getD k default).num = num) : cutL num (l.take (k + 1)) = cutL num (l.take k) ++ [l.getD k default] := by
 have hp : (!numP num (l.getD k default)) = true := by simp only [numP, h, decide_false, Bool.not_false]
 rw [take_snoc hk]
 unfold cutL
 rw [List.filter_append]
 simp only [List.filter, hp]
theorem cutT_le {num : Int} {l : List Entry} {i : Nat} : (cutL num (l.take i)).length ≤ i ∧ (cutL num (l.take i)).length ≤ l.length := by
 have h1 := cutL_le (num := num) (l := l.take i)
 rw [List.length_take] at h1
 omega
theorem arr_zero {r : List Nat} {n sz cap cap' : Nat} {e e' : Nat → Nat → AV} {k : RK} (hc : cap = 0) (hc' : cap' = 0) : ArrP r n ⟨sz, cap, e, k⟩ ⟨sz, cap', e', k⟩ := by
 subst hc hc'
 exact ⟨rfl, rfl, rfl, fun i j hi => absurd hi (Nat.not_lt_zero _), fun i j hi => absurd hi (Nat.not_lt_zero _)⟩
theorem cutL_all {num : Int} {l : List Entry} {k : Nat} (hk : ¬ k < l.length) : cutL num (l.take k) = cutL num l := by rw [List.take_of_length_le (by omega)]
theorem arr_snoc {α : Type} [Inhabited α] {r : List Nat} {n sz k cap cap' : Nat} {c : α → List AV} {l l' : List α} {a : α} {g : Nat → Nat → AV} {bx : RK} (e : l' = l ++ [a]) (hk : k = l.length) (hc : cap' = cap) (hcap : cap = l.length + 1) (hlow : ∀ a j, fx r n ((c a).getD j .any) = true)
  (h1 : ∀ j, j < sz → g 0 j = (c a).getD j .any) : ArrP r n ⟨sz, cap, elE c l', bx⟩ ⟨sz, cap', catE k (elE c l) g, bx⟩ :=
 ⟨rfl, hc, rfl, fun i j hi hj => by
  show catE k (elE c l) g i j = elE c l' i j
  subst e
  rw [catE_at]
  unfold elE
  rw [getD_snoc]
  by_cases h' : i < k
  ·rw [if_pos h', if_pos (by omega)]
  ·rw [if_neg h', if_neg (by omega)]
   by_cases h2 : i = l.length
   ·rw [if_pos h2, show i - k = 0 by omega]; exact h1 j hj
   ·exfalso; have : i < cap := hi; have hcl := hcap; omega, fun i j _ _ => hlow _ _⟩
theorem fx_Tr {r : List Nat} {n w id m i j : Nat} {l : List Table} (h : id < n) (hr : rhoF r id = id) : fx r n (upd (elE Table.csO l) w 1 [.row id m] i j) = true := by
 rw [upd_one]
 split
 ·simp [fx, hr, h]
 ·exact low_cells rfl
theorem rho_keep {X : Ctx} {x : Option Row} {r : List Nat} {id : Nat} (hX : X.H0 = [x]) (h : id < X.H0.length) : rhoF (0 :: r) id = id := by
 rw [hX] at h
 obtain rfl : id = 0 := by simpa using h
 rfl
def delS (t : Nat) : Fr → Fr
 | [] => []
 | (d, v) :: f => bif Nat.beq d t then delS t f else (d, v) :: delS t f
theorem lk_delS {t u : Nat} : ∀ {f : Fr}, lk (delS t f) u = lk f u ∨ lk (delS t f) u = .any
 | [] => .inl rfl
 | (d, v) :: f => by
  unfold delS
  cases hb : Nat.beq d t with
  | true =>
   rw [cond_true]
   by_cases hu : d = u
   ·right
    have hd := Nat.eq_of_beq_eq_true hb
    subst hd
    subst hu
    clear hb
    induction f with
    | nil => rfl
    | cons p f ih =>
     obtain ⟨e, z⟩ := p
     unfold delS
     cases hb : Nat.beq e d with
     | true => exact ih
     | false =>
      rw [cond_false, lk_cons, if_neg (fun q => by rw [q, Nat.beq_refl] at hb; cases hb)]
      exact ih
   ·rw [lk_cons, if_neg hu]
    exact lk_delS
  | false =>
   rw [cond_false, lk_cons, lk_cons]
   split
   ·exact .inl rfl
   ·exact lk_delS
theorem lw_del {P : Program} {nt : Nat} {X : Ctx} {f : Fr} {Hh : Hp} {c : Code} {Q : Exit → Fr → Hp → Prop} (t : Nat) (h : LW P nt X c (delS t f) Hh Q) : LW P nt X c f Hh Q :=
 ⟨fun a w s => h.pw a w (by
  obtain ⟨blk, FP, s⟩ := s
  refine ⟨blk, FP, s.defers, s.size, s.keeps, s.rows, s.apart, fun u => ?_, s.ext⟩
  rcases lk_delS (t := t) (u := u) (f := f) with e | e
  ·rw [e]; exact s.fr u
  ·rw [e]; exact .any _)⟩
theorem setE_rows3 {s : Shelf} {w n m m0 id m1 id1 : Nat} {l : List Entry} {es : Nat → Nat → AV} (hw : w < s.tables.length) (hm : m = l.length) (he : ∀ i j, i < m → j < 7 → OwEq (es i j) (elE Entry.cs l i j)) : ∀ i j, i < n → j < 2 → OwEq (upd (upd (upd (elE Table.csO s.tables) w 1 [.row id m0]) w 1 [.row id1 m1]) w 1 [.ow 7 m es] i j) (elE Table.csO (s.setE w l).tables i j) := fun i j hi hj => by
 have := setE_rows (n := n) (m0 := m0) (id := id) hw hm he i j hi hj
 rw [upd_one, upd_one] at this
 rw [upd_one, upd_one, upd_one]
 split <;> rename_i e
 ·rw [if_pos e] at this
  exact this
 ·rw [if_neg e, if_neg e] at this
  exact this
set_option maxHeartbeats 2000000 in
theorem l19Cut_ok (s : Shelf) (h : s.ok) (who num : Int) (hw : 0 ≤ who ∧ who < (s.tables.length : Int)) (h7 : s.tables.length ≤ 7) : RetM env.P 86 [some (boxRow s.csO)] [.ptr 0 0 0, .i .i64 who, .i .i64 num] (fun r H => r = .tup [] ∧ H = [some (boxRow (s.cut who.toNat num).csO)]) := by
 have hl : s.tables.length ≤ 1048576 := h.1.1
 have hw2 : who.toNat < s.tables.length := by omega
 have he : (s.tables.getD who.toNat default).entries.length ≤ 1048576 := entLe h _
 refine ret_ofM (nt := 46) (rvs := []) Tryz.func86 rfl rfl rfl rfl (fun X hX => ?_)
 repeat' (first | exact aa | ((conv => whnf) <;> (first | (refine lw_del 9 ?_; refine loopF (fun k : Nat => [(8, .i .i64 k), (6, .row 1 (cutL num ((s.tables.getD who.toNat default).entries.take k)).length)]) (fun k => [none, some (.arr ⟨7, (cutL num ((s.tables.getD who.toNat default).entries.take k)).length, elE Entry.cs (cutL num ((s.tables.getD who.toNat default).entries.take k)), .arr⟩)]) (fun k => k ≤ (s.tables.getD who.toNat default).entries.length) (fun k => (s.tables.getD who.toNat default).entries.length - k) 0 ⟨Nat.zero_le _, ?_⟩) | exact arr_zero rfl rfl | exact low_cells rfl | exact fx_Tr (n := 4) (show 3 < 4 by decide) rfl | exact rho_keep hX _h | exact capB2 (Nat.le_trans cutT_le.2 he) (by decide) | exact capN2 (Nat.le_trans cutT_le.2 he) | refine And.intro ?_ ?_ | (intro _h; first | contradiction | (try simp only [dd] at _h)) | (refine dt_go ?_) | exact rfl | exact True.intro | exact dkk | exact dks | (refine wrap_succ ?_; omega))))
 ·rename_i k _ _
  have hk : k < (s.tables.getD who.toNat default).entries.length := by omega
  have hc := cutL_miss (num := num) hk (by simpa using _h)
  have hlen : (cutL num ((s.tables.getD who.toNat default).entries.take (k + 1))).length = (cutL num ((s.tables.getD who.toNat default).entries.take k)).length + 1 := by rw [hc, List.length_append, List.length_singleton]
  refine ⟨k + 1, [0, 5, 2, 3], hk, (show (s.tables.getD who.toNat default).entries.length - (k + 1) < (s.tables.getD who.toNat default).entries.length - k by omega), ?_⟩
  repeat' (first | exact aa | ((conv => whnf) <;> (first | exact arr_zero rfl rfl | exact low_cells rfl | exact fx_Tr (n := 4) (show 3 < 4 by decide) rfl | exact rho_keep hX _h | exact capB2 (Nat.le_trans cutT_le.2 he) (by decide) | exact capN2 (Nat.le_trans cutT_le.2 he) | exact hlen | exact hlen.symm | exact arr_snoc hc rfl hlen.symm hlen (fun a j => low_cells rfl) (fun j hj => rfl) | refine And.intro ?_ ?_ | (intro _h; first | contradiction | (try simp only [dd] at _h)) | (refine dt_go ?_) | exact rfl | exact True.intro | exact dkk | exact dks | (refine wrap_succ ?_; omega))))
 ·rename_i k _ _
  have hk : k < (s.tables.getD who.toNat default).entries.length := by omega
  have hc := cutL_hit (num := num) hk (by simpa using _h)
  have hlen : (cutL num ((s.tables.getD who.toNat default).entries.take (k + 1))).length = (cutL num ((s.tables.getD who.toNat default).entries.take k)).length := by rw [hc]
  refine ⟨k + 1, [], hk, (show (s.tables.getD who.toNat default).entries.length - (k + 1) < (s.tables.getD who.toNat default).entries.length - k by omega), ?_⟩
  repeat' (first | exact aa | ((conv => whnf) <;> (first | exact arr_zero rfl rfl | exact low_cells rfl | exact fx_Tr (n := 4) (show 3 < 4 by decide) rfl | exact rho_keep hX _h | exact capB2 (Nat.le_trans cutT_le.2 he) (by decide) | exact capN2 (Nat.le_trans cutT_le.2 he) | exact hlen | exact hlen.symm | exact arr_same hc hlen.symm (fun a j => low_cells rfl) | refine And.intro ?_ ?_ | (intro _h; first | contradiction | (try simp only [dd] at _h)) | (refine dt_go ?_) | exact rfl | exact True.intro | exact dkk | exact dks | (refine wrap_succ ?_; omega))))
 all_goals (conv => whnf)
 rename_i k _
 have hcut : s.cut who.toNat num = s.setE who.toNat (cutL num ((s.tables.getD who.toNat default).entries.take k)) := by
  unfold Shelf.cut
  rw [cutL_all (by omega)]
 refine endM_turn (turn_close (id := 2) (i := who.toNat) (j := 1) (id' := 1) rfl hw2 (show 1 < 2 by decide) (by exact upd_self) rfl (show 2 ≠ 1 by decide) rfl (rowO_le (Nat.le_refl _))) ?_
 refine endM_turn (turn_eq (id := 2) (x := rowL 2 Table.csO (s.setE who.toNat (cutL num ((s.tables.getD who.toNat default).entries.take k))).tables) rfl rfl setE_len rfl rfl (setE_rows3 (l := (cutL num ((s.tables.getD who.toNat default).entries.take k))) hw2 rfl (fun i j _ _ => .refl _))) ?_
 refine endM_turn (turn_close (id := 0) (i := 0) (j := 1) (id' := 2) rfl (show 0 < 1 by decide) (show 1 < 3 by decide) rfl rfl (show 0 ≠ 2 by decide) rfl (rowO_le (Nat.le_of_eq setE_len.symm))) ?_
 refine endM_turn (turn_box (id := 0) (ds := (s.setE who.toNat (cutL num ((s.tables.getD who.toNat default).entries.take k))).csO) rfl rfl rfl (.cons (.refl _) (.cons (OwEq.len setE_len.symm (fun i j _ _ => HoldC.h _ j) (fun i j _ _ => .refl _)) (.cons (.refl _) .nil)))) ?_
 exact endM_pick [0] [some (boxRow (s.setE who.toNat (cutL num ((s.tables.getD who.toNat default).entries.take k))).csO)] (.tup []) (view_of rfl (.cons rfl (.self (rowPl_box rfl)) .nil)) rfl rfl (by rw [hX]; exact keepK (n := 1) rfl rfl) ⟨rfl, by rw [hcut]⟩
theorem indexFuncEntry1_ok (l : List Entry) (g : Nat) {fv} (hg : env.F.get g = some fv) (c0 : List AV) (p : Entry → Bool) (hl : l.length ≤ 1048576) (hp : ∀ k, k < l.length → Ret env.P g (.agg (Entry.cs (l.getD k default)) :: [rfL c0]) (fun r => r = .b (p (l.getD k default)))) :
  Ret env.P 117 [slL 7 Entry.cs l, .fn g [rfL c0]] (fun r => r = .i .i64 (idxI (l.findIdx? p))) := by
 refine ret_of (nt := 19) (rvs := [.tmp 4]) Tryz.func117 rfl rfl rfl rfl (fun X => ?_)
 repeat' (first | exact aa | ((conv => whnf) <;> (first | rw [hg] | exact upto_succ (by assumption) (by assumption) | refine loopN l.length (fun k => [(8, .i .i64 k)]) (fun k => []) (fun k => ∀ j, j < k → p (l.getD j default) = false) ⟨fun _ h => by omega, ?_⟩ | refine And.intro ?_ ?_ | (intro _h; first | contradiction | (try simp only [dd] at _h)) | (refine dt_go ?_) | exact rfl | exact True.intro | exact dkk | exact dks | ((first | refine .inl ⟨_, hp _ (by omega), ?_⟩ | refine ⟨_, hp _ (by omega), ?_⟩); (try rintro _ rfl)) | (refine wrap_succ ?_; omega))))
 ·exact leaf_i (idx_some (by omega) (by assumption) (by assumption))
 ·exact leaf_i (idx_none fun j hj => by have := ‹∀ j, j < _ → p (l.getD j default) = false›; exact this j (by omega))
theorem del1_ok (e : Entry) (num : Int) : Ret env.P 111 [.agg e.cs, rfL [.i .i64 num]] (fun r => r = .b (numP num e)) := by
 refine ret_of (nt := 8) (rvs := [.tmp 3]) Tryz.func111 rfl rfl rfl rfl (fun X => ?_)
 repeat' (first | exact aa | ((conv => whnf) <;> (first | refine And.intro ?_ ?_ | (intro _h; first | contradiction | (try simp only [dd] at _h)) | (refine dt_go ?_) | exact rfl | exact True.intro | exact dkk | exact dks | (refine wrap_succ ?_; omega))))
 all_goals exact rfl
def cutM (num : Int) (l : List Entry) (i : Nat) : List Entry := cutL num (l.take i) ++ l.drop (cutL num (l.take i)).length
theorem cutM_len {num : Int} {l : List Entry} {i : Nat} : (cutM num l i).length = l.length := by
 have := (cutT_le (num := num) (l := l) (i := i)).2
 unfold cutM
 rw [List.length_append, List.length_drop]
 omega
theorem cutM_at {num : Int} {l : List Entry} {i k : Nat} (hk : (cutL num (l.take i)).length ≤ k) : (cutM num l i).getD k default = l.getD k default := by
 unfold cutM
 rw [List.getD_eq_getElem?_getD, List.getElem?_append_right hk, List.getElem?_drop, List.getD_eq_getElem?_getD, show (cutL num (l.take i)).length + (k - (cutL num (l.take i)).length) = k by omega]
theorem cutM_hit {num : Int} {l : List Entry} {k : Nat} (hk : k < l.length) (h : (l.getD k default).num = num) : cutM num l (k + 1) = cutM num l k := by
 unfold cutM
 rw [cutL_hit hk h]
theorem cutM_miss {num : Int} {l : List Entry} {k : Nat} (hk : k < l.length) (h : ¬ (l.getD k default).num = num) : cutM num l (k + 1) = (cutM num l k).set (cutL num (l.take k)).length (l.getD k default) := by
 have hle := cutT_le (num := num) (l := l) (i := k)
 unfold cutM
 rw [cutL_miss hk h, List.set_append_right _ _ (Nat.le_refl _), Nat.sub_self, List.length_append, List.length_singleton]
 have : l.drop (cutL num (l.take k)).length = l[(cutL num (l.take k)).length]'(by omega) :: l.drop ((cutL num (l.take k)).length + 1) := List.drop_eq_getElem_cons _
 rw [this, List.set_cons_zero, List.append_assoc, List.singleton_append]
theorem cut_before {num : Int} {l : List Entry} : ∀ {q : Nat}, q ≤ l.length → (∀ j, j < q → ¬ (l.getD j default).num = num) → cutL num (l.take q) = l.take q
 | 0, _, _ => rfl
 | q + 1, hq, h => by
  rw [cutL_miss (by omega) (h q (by omega)), cut_before (by omega) fun j hj => h j (by omega), take_snoc (by omega)]
theorem cutM_start {num : Int} {l : List Entry} {q : Nat} (hq : q < l.length) (h : ∀ j, j < q → ¬ (l.getD j default).num = num) (he : (l.getD q default).num = num) : cutM num l (q + 1) = l ∧ (cutL num (l.take (q + 1))).length = q := by
 have h1 : cutL num (l.take (q + 1)) = l.take q := by rw [cutL_hit hq he, cut_before (by omega) h]
 unfold cutM
 rw [h1, List.length_take, show min q l.length = q by omega]
 exact ⟨List.take_append_drop q l, rfl⟩
end Go.Proofs.YtmglpojnoadgeaaGreat
