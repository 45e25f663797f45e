/- Texts for VHandlesMovedP. -/
import Derived.Test.YtmglpojnoadgeaaVh25
import Derived.Test.YtmglpojnoadgeaaVh29
namespace Go.Proofs.Ytmglpojnoadgeaa
open Go Go.RowKit
set_option linter.unusedVariables false
set_option linter.unusedSimpArgs false
set_option maxRecDepth 8000
section
attribute [local irreducible] IntKind.wrap
theorem bent7 {x : Shelf} (h : x.ok ∧ x.good) : 1 ≤ x.tables.length ∧ x.tables.length ≤ 7 := h.2.2.1
theorem bent200 {x : Shelf} (h : x.ok ∧ x.good) : (x.tables.length : Int) ≤ 200 := by have := bent7 h; omega
theorem wr_n {n : Nat} (h : 0 < (n : Int)) (h12 : n ≤ 12) : IntKind.i64.wrap ((n : Int) - 1) = (n : Int) - 1 := wrap_in (by omega) (by omega)
theorem wr_0 {n : Nat} (h : 0 < (n : Int)) (h12 : n ≤ 12) : 0 ≤ IntKind.i64.wrap ((n : Int) - 1) := by rw [wr_n h h12]; omega
theorem wr_1 {n : Nat} (h : 0 < (n : Int)) (h12 : n ≤ 12) : IntKind.i64.wrap ((n : Int) - 1) < (n : Int) := by rw [wr_n h h12]; omega
theorem wr_k {n : Nat} (h : 0 < (n : Int)) (h12 : n ≤ 12) : (IntKind.i64.wrap ((n : Int) - 1)).toNat < n := by rw [wr_n h h12]; omega
theorem set_rows {l : List Entry} {k n : Nat} {e : Entry} {es : Nat → Nat → AV} (hk : k < l.length) (h1 : ∀ j, j < 7 → es k j = (Entry.cs e).getD j .any) (h2 : ∀ i j, i ≠ k → es i j = elE Entry.cs l i j) : ∀ i j, i < n → j < 7 → OwEq (es i j) (elE Entry.cs (l.set k e) i j) := fun i j hi hj => by
  have hr : elE Entry.cs (l.set k e) i j = (Entry.cs (if i = k then e else l.getD i default)).getD j .any := by
    unfold elE
    rw [getD_set hk]
  rw [hr]
  by_cases q : i = k
  · subst q
    rw [if_pos rfl, h1 j hj]
    exact .refl _
  · rw [if_neg q, h2 i j q]
    exact .refl _
theorem setN_rows {s : Shelf} {w n : Nat} {v : Int} (hw : w < s.tables.length) : ∀ i j, i < n → j < 2 → OwEq (upd (elE Table.csO s.tables) w 0 [.i .i64 v] i j) (elE Table.csO (s.setN w v).tables i j) := fun i j hi hj => by
  have hr : elE Table.csO (s.setN w v).tables i j = (Table.csO (if i = w then ⟨v, (s.tables.getD w default).entries⟩ else s.tables.getD i default)).getD j .any := by
    unfold elE
    rw [setN_at hw]
  rw [hr, upd_one]
  by_cases e1 : i = w
  · subst e1
    rw [if_pos rfl]
    rcases (show j = 0 ∨ j = 1 by omega) with rfl | rfl
    · rw [if_pos ⟨rfl, rfl⟩]
      exact .refl _
    · rw [if_neg (by omega)]
      exact .refl _
  · rw [if_neg (fun q => e1 q.1), if_neg e1]
    exact .refl _
set_option maxHeartbeats 16000000 in
theorem l19Bent_ok (D : Draws) (s : Src) (h : s.rm 400) : RetM env.P 19 [some (boxRow s.cs)] [.ptr 0 0 0] (fun r H => ∃ (x : Shelf) (t : Src), x.Soft ∧ (s.at' ≤ t.at' ∧ t.at' ≤ s.at' + 300 ∧ t.code.length = s.code.length) ∧ r = .agg [.i .i64 x.next, .row 1 x.tables.length, .row 2 x.things.length] ∧ H = [some (boxRow t.cs), some (rowL 2 Table.csO x.tables), some (rowL 3 Thing.cs x.things)]) := by
  obtain ⟨h1, h2, h3⟩ := h
  refine ret_ofPM (nt := 133) (rvs := [.cell 2 27]) Try.func19 rfl rfl rfl rfl (fun X hX => ?_)
  refine pw_cut 3 (fun y : Shelf × Src × Int => (y.1.ok ∧ y.1.good) ∧ (s.at' ≤ y.2.1.at' ∧ y.2.1.at' ≤ s.at' + 261 ∧ y.2.1.code.length = s.code.length) ∧ (0 ≤ y.2.2 ∧ y.2.2 < y.1.tables.length))
    (fun y => [(0, .ptr 0 0 0), (2, .ptr 1 0 0), (3, .ptr 4 0 0), (4, .i .i64 y.2.2)])
    (fun y => [some (boxRow y.2.1.cs), some (boxRow [.i .i64 0, .nils, .nils]), some (rowL 2 Table.csO y.1.tables), some (rowL 3 Thing.cs y.1.things), some (boxRow (y.1.bx 2))]) ?_ (fun y hy => ?_)
  · repeat' (first | exact aa | ((conv => whnf) <;> (first | exact bent200 ‹_› | (refine Src.rm_i ?_ ?_ ?_) | refine And.intro ?_ ?_ | (intro _h; first | contradiction | (try simp only [dd] at _h)) | (refine dt_go ?_) | exact rfl | exact True.intro | exact dkk | exact dks | (refine .inr (.inl (.inl ⟨[0], _, _, _, l19Draw_ok D _ ?_, viewA, ⟨rfl, rfl⟩, ?_⟩)); rotate_left 1; rintro _ _ ⟨_, _, _, _, rfl, rfl⟩; refine ⟨rfl, _, lokA, ?_⟩) | (refine .inr (.inl (.inl ⟨[0], _, _, _, pick_ex _ ?_ _ ?_, viewA, ⟨rfl, rfl⟩, ?_⟩)); rotate_left 2; rintro _ _ ⟨_, _, _, _, rfl, rfl⟩; refine ⟨rfl, _, lokA, ?_⟩) | (refine wrap_succ ?_; omega))))
    all_goals (conv => whnf)
    all_goals (have hq7 := bent7 ‹Shelf.ok _ ∧ Shelf.good _›; refine cut_turn (turn_box (id := 4) (ds := Shelf.bx _ 2) rfl rfl rfl (.cons (.refl _) (.cons (.refl _) (.cons (.refl _) .nil)))) ?_; refine cut_go (_, _, _) ?_ (by repeat' (first | exact trivial | refine And.intro rfl ?_)) (by repeat' (first | exact trivial | refine And.intro (.inl rfl) ?_ | refine And.intro (.inr rfl) ?_ | refine And.intro rfl ?_)); dsimp only; refine ⟨‹_›, ⟨?_, ?_, ?_⟩, ⟨?_, ?_⟩⟩ <;> omega)
  · obtain ⟨x, t, who⟩ := y
    obtain ⟨hx, ht, hw⟩ := hy
    dsimp only at hx ht hw
    dsimp only
    have hs := soft_good hx.2
    have hl7 := hs.t7
    have hw2 : who.toNat < x.tables.length := by omega
    have hl12 := hs.e12 who.toNat
    have hl2 : x.things.length ≤ 1048576 := by have := hs.n25; omega
    refine wpc_ok _ _ _ _ ?_
    repeat' (first | exact aa | ((conv => whnf) <;> (first | (refine ld_skip rfl rfl rfl rfl upd_self ?_) | (refine bool_skip any_self ?_) | (first | rw [ld_self rfl] | rw [ld_selfA rfl]) | exact capB2 hl2 (by decide) | exact capN2 hl2 | (refine Src.rm_i ?_ ?_ ?_) | ((refine .inr (.inl (.inl ⟨[0, 5], _, _, _, among_row _ ?_ [0, 1, 1000000, 1000001] (by decide) (by decide), (view_of rfl (.cons rfl (.self (rowPl_box rfl)) (.cons rfl (rowBack_lit [0, 1, 1000000, 1000001]) .nil))), ⟨rfl, rfl⟩, ?_⟩))); rotate_left 1; rintro _ _ ⟨_, _, _, _, rfl, rfl⟩; refine ⟨rfl, _, lokA, ?_⟩) | (refine dt_goC (id := 17) [0, 5, 2] ?_) | (refine dt_goM (id := 15) [5] ?_) | exact wr_0 ‹_› hl12 | exact wr_1 ‹_› hl12 | ((refine .inr (.inl (.inl ⟨[0, 5], _, _, _, among_row _ ?_ [1, 1000000, 0] (by decide) (by decide), (view_of rfl (.cons rfl (.self (rowPl_box rfl)) (.cons rfl (rowBack_lit [1, 1000000, 0]) .nil))), ⟨rfl, rfl⟩, ?_⟩))); rotate_left 1; rintro _ _ ⟨_, _, _, _, rfl, rfl⟩; refine ⟨rfl, _, lokA, ?_⟩) | refine And.intro ?_ ?_ | (intro _h; first | contradiction | (try simp only [dd] at _h)) | (refine dt_go ?_) | exact rfl | exact True.intro | exact dkk | exact dks | (refine .inr (.inl (.inl ⟨[0], _, _, _, pick_ex _ ?_ _ ?_, viewA, ⟨rfl, rfl⟩, ?_⟩)); rotate_left 2; rintro _ _ ⟨_, _, _, _, rfl, rfl⟩; refine ⟨rfl, _, lokA, ?_⟩) | (refine wrap_succ ?_; omega))))
    all_goals (conv => whnf)
    ·
      exact endM_pick [0, 2, 3] [some (boxRow (Src.cs _)), some (rowL 2 Table.csO (x.setX _).tables), some (rowL 3 Thing.cs (x.setX _).things)] (.agg [.i .i64 _, .row 1 _, .row 2 _]) (view_of rfl (.cons rfl (.self (rowPl_box rfl)) (.cons rfl (.self (rowPl_L fun _ => rfl)) (.cons rfl (.self (rowPl_L fun _ => rfl)) .nil)))) rfl rfl (by rw [hX]; exact keepK (n := 1) rfl rfl) ⟨x.setX _, _, soft_next hs _, ⟨by omega, by omega, by omega⟩, rfl, rfl⟩
    ·
      refine endM_turn (turn_eq (id := 6) (x := rowL 3 Thing.cs (x.addT ⟨IntKind.i64.wrap (x.next - 1), 1, 0⟩).things) rfl rfl (by show (_ ++ [_]).length = _; rw [List.length_append]; rfl) rfl rfl (snoc_eq (l := x.things) (sz := 3) (a := ⟨IntKind.i64.wrap (x.next - 1), 1, 0⟩) (c := Thing.cs) rfl (fun j hj => .refl _))) ?_
      exact endM_pick [0, 2, 6] [some (boxRow (Src.cs _)), some (rowL 2 Table.csO (x.addT ⟨IntKind.i64.wrap (x.next - 1), 1, 0⟩).tables), some (rowL 3 Thing.cs (x.addT ⟨IntKind.i64.wrap (x.next - 1), 1, 0⟩).things)] (.agg [.i .i64 _, .row 1 _, .row 2 _]) (view_of rfl (.cons rfl (.self (rowPl_box rfl)) (.cons rfl (.self (rowPl_L fun _ => rfl)) (.cons rfl (.self (rowPl_L fun _ => rfl)) .nil)))) rfl rfl (by rw [hX]; exact keepK (n := 1) rfl rfl) ⟨x.addT ⟨IntKind.i64.wrap (x.next - 1), 1, 0⟩, _, soft_addT hs hx.2.2.2.1.2 _ ⟨by show (1 : Int) ≤ 1; omega, by show (1 : Int) ≤ 8; omega⟩, ⟨by omega, by omega, by omega⟩, (by show AV.agg [.i .i64 x.next, .row 1 _, .row 2 _] = AV.agg [.i .i64 x.next, .row 1 _, .row 2 (x.things ++ [_]).length]; rw [List.length_append]; rfl), rfl⟩
    ·
      have hk : 0 < (x.tables.getD who.toNat default).entries.length := by omega
      refine endM_turn (turn_eq (id := 5) (x := rowL 7 Entry.cs ((x.tables.getD who.toNat default).entries.set 0 { (x.tables.getD who.toNat default).entries.getD 0 default with lends := IntKind.i64.wrap (((x.tables.getD who.toNat default).entries.getD 0 default).lends + 1) })) rfl rfl List.length_set rfl rfl (set_rows hk (fun j hj => ?_) (fun i j hne => ?_))) ?_
      · rcases (show j = 0 ∨ j = 1 ∨ j = 2 ∨ j = 3 ∨ j = 4 ∨ j = 5 ∨ j = 6 by omega) with rfl | rfl | rfl | rfl | rfl | rfl | rfl <;> (dsimp only [upd, avc]; first | rfl | (simp only [Nat.beq_refl]; rfl))
      · dsimp only [upd, avc]
        first | (simp only [beq_ff hne, Bool.and_false, Bool.false_and, cond_false]; done) | (obtain ⟨i, rfl⟩ : ∃ q, i = q + 1 := ⟨i - 1, by omega⟩; rw [show (i + 1).beq (Int.toNat 0) = false from rfl, Bool.and_false, cond_false])
      refine endM_turn (turn_close (id := 2) (i := who.toNat) (j := 1) (id' := 5) rfl hw2 (show 1 < 2 by decide) (by exact upd_self) rfl (show 2 ≠ 5 by decide) rfl (rowO_le (Nat.le_of_eq List.length_set.symm))) ?_
      refine endM_turn (turn_eq (id := 2) (x := rowL 2 Table.csO (x.setE who.toNat ((x.tables.getD who.toNat default).entries.set 0 { (x.tables.getD who.toNat default).entries.getD 0 default with lends := IntKind.i64.wrap (((x.tables.getD who.toNat default).entries.getD 0 default).lends + 1) })).tables) rfl rfl setE_len rfl rfl (setE_rows (l := ((x.tables.getD who.toNat default).entries.set 0 { (x.tables.getD who.toNat default).entries.getD 0 default with lends := IntKind.i64.wrap (((x.tables.getD who.toNat default).entries.getD 0 default).lends + 1) })) hw2 List.length_set.symm (fun i j _ _ => .refl _))) ?_
      exact endM_pick [0, 2, 3] [some (boxRow (Src.cs _)), some (rowL 2 Table.csO (x.setE who.toNat ((x.tables.getD who.toNat default).entries.set 0 { (x.tables.getD who.toNat default).entries.getD 0 default with lends := IntKind.i64.wrap (((x.tables.getD who.toNat default).entries.getD 0 default).lends + 1) })).tables), some (rowL 3 Thing.cs (x.setE who.toNat ((x.tables.getD who.toNat default).entries.set 0 { (x.tables.getD who.toNat default).entries.getD 0 default with lends := IntKind.i64.wrap (((x.tables.getD who.toNat default).entries.getD 0 default).lends + 1) })).things)] (.agg [.i .i64 _, .row 1 _, .row 2 _]) (view_of rfl (.cons rfl (.self (rowPl_box rfl)) (.cons rfl (.self (rowPl_L fun _ => rfl)) (.cons rfl (.self (rowPl_L fun _ => rfl)) .nil)))) rfl rfl (by rw [hX]; exact keepK (n := 1) rfl rfl) ⟨x.setE who.toNat ((x.tables.getD who.toNat default).entries.set 0 { (x.tables.getD who.toNat default).entries.getD 0 default with lends := IntKind.i64.wrap (((x.tables.getD who.toNat default).entries.getD 0 default).lends + 1) }), _, soft_entry hs hw2 hk ⟨rfl, rfl⟩, ⟨by omega, by omega, by omega⟩, (by rw [setE_len]; rfl), rfl⟩
    ·
      refine endM_turn (turn_close (id := 2) (i := who.toNat) (j := 1) (id' := 5) rfl hw2 (show 1 < 2 by decide) (by exact upd_self) rfl (show 2 ≠ 5 by decide) rfl (rowO_le (Nat.le_refl _))) ?_
      refine endM_turn (turn_eq (id := 2) (x := rowL 2 Table.csO x.tables) rfl rfl rfl rfl rfl tab_back) ?_
      exact endM_pick [0, 2, 3] [some (boxRow (Src.cs _)), some (rowL 2 Table.csO (x).tables), some (rowL 3 Thing.cs (x).things)] (.agg [.i .i64 _, .row 1 _, .row 2 _]) (view_of rfl (.cons rfl (.self (rowPl_box rfl)) (.cons rfl (.self (rowPl_L fun _ => rfl)) (.cons rfl (.self (rowPl_L fun _ => rfl)) .nil)))) rfl rfl (by rw [hX]; exact keepK (n := 1) rfl rfl) ⟨x, _, hs, ⟨by omega, by omega, by omega⟩, rfl, rfl⟩
    ·
      have hk : (IntKind.i64.wrap (((x.tables.getD who.toNat default).entries.length : Int) - 1)).toNat < (x.tables.getD who.toNat default).entries.length := wr_k ‹_› hl12
      refine endM_turn (turn_eq (id := 5) (x := rowL 7 Entry.cs ((x.tables.getD who.toNat default).entries.set (IntKind.i64.wrap (((x.tables.getD who.toNat default).entries.length : Int) - 1)).toNat { (x.tables.getD who.toNat default).entries.getD (IntKind.i64.wrap (((x.tables.getD who.toNat default).entries.length : Int) - 1)).toNat default with own := !((x.tables.getD who.toNat default).entries.getD (IntKind.i64.wrap (((x.tables.getD who.toNat default).entries.length : Int) - 1)).toNat default).own })) rfl rfl List.length_set rfl rfl (set_rows hk (fun j hj => ?_) (fun i j hne => ?_))) ?_
      · rcases (show j = 0 ∨ j = 1 ∨ j = 2 ∨ j = 3 ∨ j = 4 ∨ j = 5 ∨ j = 6 by omega) with rfl | rfl | rfl | rfl | rfl | rfl | rfl <;> (dsimp only [upd, avc]; first | rfl | (simp only [Nat.beq_refl]; rfl))
      · dsimp only [upd, avc]
        first | (simp only [beq_ff hne, Bool.and_false, Bool.false_and, cond_false]; done) | (obtain ⟨i, rfl⟩ : ∃ q, i = q + 1 := ⟨i - 1, by omega⟩; rw [show (i + 1).beq (Int.toNat 0) = false from rfl, Bool.and_false, cond_false])
      refine endM_turn (turn_close (id := 2) (i := who.toNat) (j := 1) (id' := 5) rfl hw2 (show 1 < 2 by decide) (by exact upd_self) rfl (show 2 ≠ 5 by decide) rfl (rowO_le (Nat.le_of_eq List.length_set.symm))) ?_
      refine endM_turn (turn_eq (id := 2) (x := rowL 2 Table.csO (x.setE who.toNat ((x.tables.getD who.toNat default).entries.set (IntKind.i64.wrap (((x.tables.getD who.toNat default).entries.length : Int) - 1)).toNat { (x.tables.getD who.toNat default).entries.getD (IntKind.i64.wrap (((x.tables.getD who.toNat default).entries.length : Int) - 1)).toNat default with own := !((x.tables.getD who.toNat default).entries.getD (IntKind.i64.wrap (((x.tables.getD who.toNat default).entries.length : Int) - 1)).toNat default).own })).tables) rfl rfl setE_len rfl rfl (setE_rows (l := ((x.tables.getD who.toNat default).entries.set (IntKind.i64.wrap (((x.tables.getD who.toNat default).entries.length : Int) - 1)).toNat { (x.tables.getD who.toNat default).entries.getD (IntKind.i64.wrap (((x.tables.getD who.toNat default).entries.length : Int) - 1)).toNat default with own := !((x.tables.getD who.toNat default).entries.getD (IntKind.i64.wrap (((x.tables.getD who.toNat default).entries.length : Int) - 1)).toNat default).own })) hw2 List.length_set.symm (fun i j _ _ => .refl _))) ?_
      exact endM_pick [0, 2, 3] [some (boxRow (Src.cs _)), some (rowL 2 Table.csO (x.setE who.toNat ((x.tables.getD who.toNat default).entries.set (IntKind.i64.wrap (((x.tables.getD who.toNat default).entries.length : Int) - 1)).toNat { (x.tables.getD who.toNat default).entries.getD (IntKind.i64.wrap (((x.tables.getD who.toNat default).entries.length : Int) - 1)).toNat default with own := !((x.tables.getD who.toNat default).entries.getD (IntKind.i64.wrap (((x.tables.getD who.toNat default).entries.length : Int) - 1)).toNat default).own })).tables), some (rowL 3 Thing.cs (x.setE who.toNat ((x.tables.getD who.toNat default).entries.set (IntKind.i64.wrap (((x.tables.getD who.toNat default).entries.length : Int) - 1)).toNat { (x.tables.getD who.toNat default).entries.getD (IntKind.i64.wrap (((x.tables.getD who.toNat default).entries.length : Int) - 1)).toNat default with own := !((x.tables.getD who.toNat default).entries.getD (IntKind.i64.wrap (((x.tables.getD who.toNat default).entries.length : Int) - 1)).toNat default).own })).things)] (.agg [.i .i64 _, .row 1 _, .row 2 _]) (view_of rfl (.cons rfl (.self (rowPl_box rfl)) (.cons rfl (.self (rowPl_L fun _ => rfl)) (.cons rfl (.self (rowPl_L fun _ => rfl)) .nil)))) rfl rfl (by rw [hX]; exact keepK (n := 1) rfl rfl) ⟨x.setE who.toNat ((x.tables.getD who.toNat default).entries.set (IntKind.i64.wrap (((x.tables.getD who.toNat default).entries.length : Int) - 1)).toNat { (x.tables.getD who.toNat default).entries.getD (IntKind.i64.wrap (((x.tables.getD who.toNat default).entries.length : Int) - 1)).toNat default with own := !((x.tables.getD who.toNat default).entries.getD (IntKind.i64.wrap (((x.tables.getD who.toNat default).entries.length : Int) - 1)).toNat default).own }), _, soft_entry hs hw2 hk ⟨rfl, rfl⟩, ⟨by omega, by omega, by omega⟩, (by rw [setE_len]; rfl), rfl⟩
    ·
      refine endM_turn (turn_close (id := 2) (i := who.toNat) (j := 1) (id' := 5) rfl hw2 (show 1 < 2 by decide) (by exact upd_self) rfl (show 2 ≠ 5 by decide) rfl (rowO_le (Nat.le_refl _))) ?_
      refine endM_turn (turn_eq (id := 2) (x := rowL 2 Table.csO x.tables) rfl rfl rfl rfl rfl tab_back) ?_
      exact endM_pick [0, 2, 3] [some (boxRow (Src.cs _)), some (rowL 2 Table.csO (x).tables), some (rowL 3 Thing.cs (x).things)] (.agg [.i .i64 _, .row 1 _, .row 2 _]) (view_of rfl (.cons rfl (.self (rowPl_box rfl)) (.cons rfl (.self (rowPl_L fun _ => rfl)) (.cons rfl (.self (rowPl_L fun _ => rfl)) .nil)))) rfl rfl (by rw [hX]; exact keepK (n := 1) rfl rfl) ⟨x, _, hs, ⟨by omega, by omega, by omega⟩, rfl, rfl⟩
    ·
      refine endM_turn (turn_eq (id := 2) (x := rowL 2 Table.csO (x.setN who.toNat _).tables) rfl rfl List.length_set rfl rfl (setN_rows hw2)) ?_
      exact endM_pick [0, 2, 3] [some (boxRow (Src.cs _)), some (rowL 2 Table.csO (x.setN who.toNat _).tables), some (rowL 3 Thing.cs (x.setN who.toNat _).things)] (.agg [.i .i64 _, .row 1 _, .row 2 _]) (view_of rfl (.cons rfl (.self (rowPl_box rfl)) (.cons rfl (.self (rowPl_L fun _ => rfl)) (.cons rfl (.self (rowPl_L fun _ => rfl)) .nil)))) rfl rfl (by rw [hX]; exact keepK (n := 1) rfl rfl) ⟨x.setN who.toNat _, _, soft_setN hs hw2 _, ⟨by omega, by omega, by omega⟩, (by rw [show (x.setN who.toNat _).tables.length = x.tables.length from List.length_set]; rfl), rfl⟩
    ·
      have hk : (IntKind.i64.wrap (((x.tables.getD who.toNat default).entries.length : Int) - 1)).toNat < (x.tables.getD who.toNat default).entries.length := wr_k ‹_› hl12
      refine endM_turn (turn_eq (id := 5) (x := rowL 7 Entry.cs ((x.tables.getD who.toNat default).entries.set (IntKind.i64.wrap (((x.tables.getD who.toNat default).entries.length : Int) - 1)).toNat { (x.tables.getD who.toNat default).entries.getD (IntKind.i64.wrap (((x.tables.getD who.toNat default).entries.length : Int) - 1)).toNat default with from_ := who, fromNum := ((x.tables.getD who.toNat default).entries.getD (IntKind.i64.wrap (((x.tables.getD who.toNat default).entries.length : Int) - 1)).toNat default).num })) rfl rfl List.length_set rfl rfl (set_rows hk (fun j hj => ?_) (fun i j hne => ?_))) ?_
      · rcases (show j = 0 ∨ j = 1 ∨ j = 2 ∨ j = 3 ∨ j = 4 ∨ j = 5 ∨ j = 6 by omega) with rfl | rfl | rfl | rfl | rfl | rfl | rfl <;> (dsimp only [upd, avc]; first | rfl | (simp only [Nat.beq_refl]; rfl))
      · dsimp only [upd, avc]
        first | (simp only [beq_ff hne, Bool.and_false, Bool.false_and, cond_false]; done) | (obtain ⟨i, rfl⟩ : ∃ q, i = q + 1 := ⟨i - 1, by omega⟩; rw [show (i + 1).beq (Int.toNat 0) = false from rfl, Bool.and_false, cond_false])
      refine endM_turn (turn_close (id := 2) (i := who.toNat) (j := 1) (id' := 5) rfl hw2 (show 1 < 2 by decide) (by exact upd_self) rfl (show 2 ≠ 5 by decide) rfl (rowO_le (Nat.le_of_eq List.length_set.symm))) ?_
      refine endM_turn (turn_eq (id := 2) (x := rowL 2 Table.csO (x.setE who.toNat ((x.tables.getD who.toNat default).entries.set (IntKind.i64.wrap (((x.tables.getD who.toNat default).entries.length : Int) - 1)).toNat { (x.tables.getD who.toNat default).entries.getD (IntKind.i64.wrap (((x.tables.getD who.toNat default).entries.length : Int) - 1)).toNat default with from_ := who, fromNum := ((x.tables.getD who.toNat default).entries.getD (IntKind.i64.wrap (((x.tables.getD who.toNat default).entries.length : Int) - 1)).toNat default).num })).tables) rfl rfl setE_len rfl rfl (setE_rows (l := ((x.tables.getD who.toNat default).entries.set (IntKind.i64.wrap (((x.tables.getD who.toNat default).entries.length : Int) - 1)).toNat { (x.tables.getD who.toNat default).entries.getD (IntKind.i64.wrap (((x.tables.getD who.toNat default).entries.length : Int) - 1)).toNat default with from_ := who, fromNum := ((x.tables.getD who.toNat default).entries.getD (IntKind.i64.wrap (((x.tables.getD who.toNat default).entries.length : Int) - 1)).toNat default).num })) hw2 List.length_set.symm (fun i j _ _ => .refl _))) ?_
      exact endM_pick [0, 2, 3] [some (boxRow (Src.cs _)), some (rowL 2 Table.csO (x.setE who.toNat ((x.tables.getD who.toNat default).entries.set (IntKind.i64.wrap (((x.tables.getD who.toNat default).entries.length : Int) - 1)).toNat { (x.tables.getD who.toNat default).entries.getD (IntKind.i64.wrap (((x.tables.getD who.toNat default).entries.length : Int) - 1)).toNat default with from_ := who, fromNum := ((x.tables.getD who.toNat default).entries.getD (IntKind.i64.wrap (((x.tables.getD who.toNat default).entries.length : Int) - 1)).toNat default).num })).tables), some (rowL 3 Thing.cs (x.setE who.toNat ((x.tables.getD who.toNat default).entries.set (IntKind.i64.wrap (((x.tables.getD who.toNat default).entries.length : Int) - 1)).toNat { (x.tables.getD who.toNat default).entries.getD (IntKind.i64.wrap (((x.tables.getD who.toNat default).entries.length : Int) - 1)).toNat default with from_ := who, fromNum := ((x.tables.getD who.toNat default).entries.getD (IntKind.i64.wrap (((x.tables.getD who.toNat default).entries.length : Int) - 1)).toNat default).num })).things)] (.agg [.i .i64 _, .row 1 _, .row 2 _]) (view_of rfl (.cons rfl (.self (rowPl_box rfl)) (.cons rfl (.self (rowPl_L fun _ => rfl)) (.cons rfl (.self (rowPl_L fun _ => rfl)) .nil)))) rfl rfl (by rw [hX]; exact keepK (n := 1) rfl rfl) ⟨x.setE who.toNat ((x.tables.getD who.toNat default).entries.set (IntKind.i64.wrap (((x.tables.getD who.toNat default).entries.length : Int) - 1)).toNat { (x.tables.getD who.toNat default).entries.getD (IntKind.i64.wrap (((x.tables.getD who.toNat default).entries.length : Int) - 1)).toNat default with from_ := who, fromNum := ((x.tables.getD who.toNat default).entries.getD (IntKind.i64.wrap (((x.tables.getD who.toNat default).entries.length : Int) - 1)).toNat default).num }), _, soft_entry hs hw2 hk ⟨rfl, rfl⟩, ⟨by omega, by omega, by omega⟩, (by rw [setE_len]; rfl), rfl⟩
    ·
      refine endM_turn (turn_close (id := 2) (i := who.toNat) (j := 1) (id' := 5) rfl hw2 (show 1 < 2 by decide) (by exact upd_self) rfl (show 2 ≠ 5 by decide) rfl (rowO_le (Nat.le_refl _))) ?_
      refine endM_turn (turn_eq (id := 2) (x := rowL 2 Table.csO x.tables) rfl rfl rfl rfl rfl tab_back) ?_
      exact endM_pick [0, 2, 3] [some (boxRow (Src.cs _)), some (rowL 2 Table.csO (x).tables), some (rowL 3 Thing.cs (x).things)] (.agg [.i .i64 _, .row 1 _, .row 2 _]) (view_of rfl (.cons rfl (.self (rowPl_box rfl)) (.cons rfl (.self (rowPl_L fun _ => rfl)) (.cons rfl (.self (rowPl_L fun _ => rfl)) .nil)))) rfl rfl (by rw [hX]; exact keepK (n := 1) rfl rfl) ⟨x, _, hs, ⟨by omega, by omega, by omega⟩, rfl, rfl⟩
    ·
      exact endM_pick [0, 2, 3] [some (boxRow (Src.cs _)), some (rowL 2 Table.csO (x).tables), some (rowL 3 Thing.cs (x).things)] (.agg [.i .i64 _, .row 1 _, .row 2 _]) (view_of rfl (.cons rfl (.self (rowPl_box rfl)) (.cons rfl (.self (rowPl_L fun _ => rfl)) (.cons rfl (.self (rowPl_L fun _ => rfl)) .nil)))) rfl rfl (by rw [hX]; exact keepK (n := 1) rfl rfl) ⟨x, _, hs, ⟨by omega, by omega, by omega⟩, rfl, rfl⟩
end
section
attribute [local irreducible] IntKind.wrap
theorem rd_u8 {P : Program} {t : TypeId} (hu : P.underlying t = some (.int .u8)) : Rd P t UInt8 byteC := fun cs h => by
  obtain ⟨n, rfl, hw⟩ := h.int_inv hu
  have h2 : 0 ≤ n ∧ n ≤ 255 := by
    simp only [Lit.wf, Bool.and_eq_true, decide_eq_true_eq] at hw
    exact hw
  refine ⟨UInt8.ofNat n.toNat, .cons ?_ .nil⟩
  have e : ((UInt8.ofNat n.toNat).toNat : Int) = n := by
    rw [UInt8.toNat_ofNat']; omega
  show Wk (.i .u8 n) (.i .u8 ((UInt8.ofNat n.toNat).toNat : Int))
  rw [e]; exact .refl _
theorem c2Big_ok (l : List UInt8) : Ret env.P 5 [slL 1 byteC l, .nils] (fun r => r = .b (pb (1048576 < (l.length : Int)))) := by
  refine ret_of (nt := 13) (rvs := [.tmp 4]) Try.func5 rfl rfl rfl rfl (fun X => ?_)
  repeat' (first | exact aa | ((conv => whnf) <;> (first | refine And.intro ?_ ?_ | (intro _h; first | contradiction | (try simp only [dd] at _h)) | (refine dt_go ?_) | exact rfl | exact True.intro | exact dkk | exact dks | (refine wrap_succ ?_; omega))))
  all_goals (conv => whnf)
  all_goals first | exact leaf_b (pb_f.mpr ‹_›).symm | exact leaf_b (pb_t.mpr ‹_›).symm | exact leaf_b (pb_f.mpr ‹_›) | exact leaf_b (pb_t.mpr ‹_›) | trace_state
theorem from_gen (l : List UInt8) (hl : l.length ≤ 1048576) : RetM env.P 18 [] [slL 1 byteC l] (fun r H => ∃ s : Src, (s.at' = 0 ∧ s.code.length ≤ 1048576) ∧ r = .ptr 0 0 0 ∧ H = [some (boxRow s.cs)]) :=
  (from_ok l).mono fun r H h => ⟨_, ⟨rfl, hl⟩, h⟩
set_option maxHeartbeats 8000000 in
theorem drawMoveHandle_ok (D : Draws) (l : List UInt8) (hl : l.length ≤ 1048576) : RetM env.P 13 [] [slL 1 byteC l] (fun r H => ∃ (x : Shelf) (who num res to : Int), x.Soft ∧ r = .tup [.agg x.resO, .i .i64 who, .i .i64 num, .i .i64 res, .i .i64 to] ∧ H = x.rowsO) := by
  refine ret_ofM (nt := 30) (rvs := [.cell 2 27, .tmp 3, .tmp 4, .tmp 5, .tmp 6]) Try.func13 rfl rfl rfl rfl (fun X hX => ?_)
  repeat' (first | exact aa | ((conv => whnf) <;> (first | (refine dt_goC (id := 4) [0, 1] ?_) | (refine Src.rm_i ?_ ?_ ?_) | refine And.intro ?_ ?_ | (intro _h; first | contradiction | (try simp only [dd] at _h)) | (refine dt_go ?_) | exact rfl | exact True.intro | exact dkk | exact dks | (refine .inr (.inl (.inl ⟨[], _, _, _, from_gen l hl, viewA, ⟨rfl, rfl⟩, ?_⟩)); rintro _ _ ⟨_, _, rfl, rfl⟩; refine ⟨rfl, _, lokA, ?_⟩) | (refine .inr (.inl (.inl ⟨[1], _, _, _, l19Bent_ok D _ ?_, viewA, ⟨rfl, rfl⟩, ?_⟩)); rotate_left 1; rintro _ _ ⟨_, _, _, _, rfl, rfl⟩; refine ⟨rfl, _, lokA, ?_⟩) | (refine .inr (.inl (.inl ⟨[1, 2, 3], _, _, _, l19Name_ok _ ‹Shelf.Soft _› _ ?_, viewA, ⟨rfl, rfl⟩, ?_⟩)); rotate_left 1; rintro _ _ ⟨_, _, _, _, _, rfl, rfl⟩; refine ⟨rfl, _, lokA, ?_⟩) | (refine .inr (.inl (.inl ⟨[1], _, _, _, pick_ex _ ?_ _ ?_, viewA, ⟨rfl, rfl⟩, ?_⟩)); rotate_left 2; rintro _ _ ⟨_, _, _, _, rfl, rfl⟩; refine ⟨rfl, _, lokA, ?_⟩) | (refine wrap_succ ?_; omega))))
  all_goals (conv => whnf)
  all_goals exact endM_pick [2, 3] (Shelf.rowsO _) (.tup [.agg (Shelf.resO _), .i .i64 _, .i .i64 _, .i .i64 _, .i .i64 _]) (view_of rfl (.cons rfl (.self (rowPl_L fun _ => rfl)) (.cons rfl (.self (rowPl_L fun _ => rfl)) .nil))) rfl rfl (fun k hk => by rw [hX] at hk; exact absurd hk (Nat.not_lt_zero _)) ⟨_, _, _, _, _, ‹_›, rfl, rfl⟩
end
end Go.Proofs.Ytmglpojnoadgeaa
