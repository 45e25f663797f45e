/- Texts for VHandlesOneP. -/
import Derived.Test.YtmglpojnoadgeaaGreatVo41
import Derived.Test.YtmglpojnoadgeaaGreatVo38
namespace Go.Proofs.YtmglpojnoadgeaaGreat
open Go Go.RowKit
set_option linter.unusedVariables false
set_option linter.unusedSimpArgs false
theorem thing_at {s : Shelf} (h : s.good) {i j : Nat} (hi : i < s.tables.length) (hj : j < (s.tables.getD i default).entries.length) : ∃ q, s.thing ((s.tables.getD i default).entries.getD j default).id = some q ∧ q < s.things.length := by
 have := (h.2.2.2.2.1 i j hi hj).1
 obtain ⟨q, hq⟩ := Option.isSome_iff_exists.1 this
 refine ⟨q, hq, ?_⟩
 unfold Shelf.thing at hq
 rw [List.findIdx?_eq_some_iff_getElem] at hq
 exact hq.1
theorem cat_snoc {l l' : List Thing} {a : Thing} {n i j : Nat} {g : Nat → Nat → AV} (e : l' = l ++ [a]) (hn : n = l.length + 1) (hg : ∀ j, j < 3 → g 0 j = a.cs.getD j .any) (hi : i < n) (hj : j < 3) : catE l.length (elE Thing.cs l) g i j = elE Thing.cs l' i j := by
 subst e
 rw [catE_at]
 unfold elE
 rw [getD_snoc]
 by_cases h' : i < l.length
 ·rw [if_pos h', if_pos h']
 ·rw [if_neg h', if_neg h', if_pos (by omega), show i - l.length = 0 by omega]; exact hg j hj
theorem ow_snoc {l l' : List Thing} {a : Thing} {n : Nat} {g : Nat → Nat → AV} (e : l' = l ++ [a]) (hn : n = l.length + 1) (hg : ∀ j, j < 3 → g 0 j = a.cs.getD j .any) : OwEq (.ow 3 n (catE l.length (elE Thing.cs l) g)) (owL 3 Thing.cs l') :=
 OwEq.len (by rw [e, List.length_append, hn]; rfl) (fun i j _ _ => HoldC.h _ j) (fun i j hi hj => by rw [cat_snoc e hn hg hi hj]; exact .refl _)
theorem row_snoc {l : List Thing} {a : Thing} {n cap : Nat} {g : Nat → Nat → AV} {k : RK} (hn : n = l.length + 1) (hc : n ≤ cap) (hg : ∀ j, j < 3 → g 0 j = a.cs.getD j .any) : RowO n ⟨3, cap, catE l.length (elE Thing.cs l) g, k⟩ :=
 ⟨hc, fun i j hi hj => by
  show (catE l.length (elE Thing.cs l) g i j).idfO
  rw [cat_snoc rfl hn hg hi hj]; exact HoldC.h _ j⟩
theorem delT_okN (l m : List Thing) (hl : l.length ≤ 1048576) (hm : m.length ≤ 1048576) {n : Nat} (hn : n = m.length) : RetM env.P 91 [some (rowL 3 Thing.cs l), some (boxRow [.row 2 n]), some (rowL 3 Thing.cs m)] [.row 0 l.length, .fn 92 [.ptr 1 0 0]] (fun r H => r = .row 0 (goL (inT m) l).length ∧ H = [some ⟨3, l.length, goE (inT m) l, .arr⟩, some (boxRow [.row 2 n]), some (rowL 3 Thing.cs m)]) := by
 subst hn
 exact delT_ok l m hl hm
theorem rowW_at {s : Shelf} {w id n : Nat} : (s.rowW w id n).es w 1 = .row id n := by
 show upd _ w 1 [.row id _] w 1 = _
 rw [upd_one, if_pos ⟨rfl, rfl⟩]
theorem kill3_ok (w c : Int) (e : Entry) : Ret env.P 95 [.i .i64 w, .agg e.cs, rfL [.i .i64 c]] (fun r => r = .b (decide (w = c))) := by
 refine ret_of (nt := 9) (rvs := [.tmp 5]) Tryz.func95 rfl rfl rfl rfl (fun X => ?_)
 repeat' (first | exact aa | ((conv => whnf) <;> (first | refine And.intro ?_ ?_ | (intro _h; first | contradiction | (try simp only [dd] at _h)) | (refine dt_go ?_) | exact rfl | exact True.intro | exact dkk | exact dks | (refine wrap_succ ?_; omega))))
 all_goals exact rfl
set_option maxRecDepth 8000 in
set_option maxHeartbeats 8000000 in
theorem kill_ok (s : Shelf) (h : s.ok) (hg : s.good) (who : Int) (hw : 0 ≤ who ∧ who < (s.tables.length : Int)) : RetM env.P 50 [some (boxRow s.csO)] [.ptr 0 0 0, .i .i64 who] (fun r H => r = .row 1 (s.dead who.toNat).length ∧ H = [some (boxRow (s.killed who.toNat).csO), some (rowL 3 Thing.cs (s.dead who.toNat))]) := by
 have hl : s.tables.length ≤ 1048576 := h.1.1
 have hl2 : s.things.length ≤ 1048576 := h.2.1
 have hw2 : who.toNat < s.tables.length := by omega
 have he := entLe h who.toNat
 have hH := (good_H hg).1
 refine ret_ofM (nt := 57) (rvs := [.tmp 4]) Tryz.func50 rfl rfl rfl rfl (fun X hX => ?_)
 repeat' (first | exact aa | ((conv => whnf) <;> (first | (refine dt_goM [0] ?_) | refine And.intro ?_ ?_ | (intro _h; first | contradiction | (try simp only [dd] at _h)) | (refine dt_go ?_) | exact rfl | exact True.intro | exact dkk | exact dks | (refine wrap_succ ?_; omega))))
 repeat' (first | exact aa | ((conv => whnf) <;> (first | (refine lw_turn _ (turn_close (id := 3) (i := 0) (j := 0) (id' := 2) rfl (show 0 < 1 by decide) (show 0 < 1 by decide) rfl rfl (show 3 ≠ 2 by decide) rfl ⟨Nat.le_refl _, fun i j hi => absurd hi (Nat.not_lt_zero _)⟩) ?_; refine lw_turn _ (turn_box (id := 0) (ds := s.csT 4) rfl rfl rfl (.cons (.refl _) (.cons (.refl _) (.cons (.refl _) .nil)))) ?_; refine lw_turn [some (boxRow (s.csT 4)), some (boxRow [.i .i64 who]), none, some (boxRow [owL 3 Thing.cs (ownT s ((s.tables.getD who.toNat default).entries.take 0))]), some (s.rowW who.toNat 5 (s.tables.getD who.toNat default).entries.length), some (rowL 7 Entry.cs (s.tables.getD who.toNat default).entries)] (turn_box (id := 3) (ds := [owL 3 Thing.cs (ownT s ((s.tables.getD who.toNat default).entries.take 0))]) rfl rfl rfl (.cons (OwEq.ow (fun i j hi => absurd hi (Nat.not_lt_zero _)) (fun i j hi => absurd hi (Nat.not_lt_zero _))) .nil)) ?_; refine loopNT (s.tables.getD who.toNat default).entries.length (fun k => [(19, .i .i64 k)]) (fun k => [none, none, none, some (.box [owL 3 Thing.cs (ownT s ((s.tables.getD who.toNat default).entries.take k))])]) (fun k => True) ⟨trivial, ?_⟩) | (show fx [] 6 (upd (elE Table.csO s.tables) who.toNat 1 [.row 5 _] _ _) = true; exact fx_T (show 5 < 6 by decide)) | exact capB2 (Nat.le_trans ownT_le he) (by decide) | exact capN2 (Nat.le_trans ownT_le he) | exact low_cells rfl | ((first | refine .inl ⟨_, Ret.wku (thing_ok s h _), ?_⟩ | refine ⟨_, Ret.wku (thing_ok s h _), ?_⟩); (try rintro _ rfl); rename_i k _ _ _; obtain ⟨qt, hqt, hlt⟩ := thing_at hg hw2 (j := ((k : Nat) : Int).toNat) (by omega); rw [hqt]; simp only [idxI]) | (refine dt_turn (turn_open (id := 0) (i := 0) (j := 2) rfl (show 0 < 1 by decide) (show 2 < 3 by decide) rfl) ?_; refine dt_go ?_) | refine And.intro ?_ ?_ | (intro _h; first | contradiction | (try simp only [dd] at _h)) | (refine dt_go ?_) | exact rfl | exact True.intro | exact dkk | exact dks | (refine wrap_succ ?_; omega))))
 ·have hk : k < (s.tables.getD who.toNat default).entries.length := by omega
  have ho : ((s.tables.getD who.toNat default).entries.getD k default).own = true := by simpa using _h
  have hto : s.thingOf ((s.tables.getD who.toNat default).entries.getD k default) = s.things.getD qt default := thingOf_eq (by simpa using hqt)
  have hsn := (ownT_hit (s := s) hk ho).trans (by rw [hto])
  conv => whnf
  refine roundNT_turn (turn_close (id := 3) (i := 0) (j := 0) (id' := 10) rfl (show 0 < 1 by decide) (show 0 < 1 by decide) rfl rfl (show 3 ≠ 10 by decide) rfl (row_snoc (a := s.things.getD qt default) rfl (Nat.le_refl _) (fun j _ => rfl))) ?_
  refine roundNT_turn (turn_box (id := 3) (ds := [owL 3 Thing.cs (ownT s ((s.tables.getD who.toNat default).entries.take (k + 1)))]) rfl rfl rfl (.cons (ow_snoc hsn rfl (fun j _ => rfl)) .nil)) ?_
  refine roundNT_turn (turn_close (id := 0) (i := 0) (j := 2) (id' := 7) rfl (show 0 < 1 by decide) (show 2 < 3 by decide) rfl rfl (show 0 ≠ 7 by decide) rfl (rowO_le (Nat.le_refl _))) ?_
  refine roundNT_turn (turn_box (id := 0) (ds := s.csT 4) rfl rfl rfl (.cons (.refl _) (.cons (.refl _) (.cons (.refl _) .nil)))) ?_
  refine roundNT_end ?_
  repeat' (first | exact aa | ((conv => whnf) <;> (first | (show fx [] 6 (upd (elE Table.csO s.tables) who.toNat 1 [.row 5 _] _ _) = true; exact fx_T (show 5 < 6 by decide)) | exact capB2 (Nat.le_trans ownT_le he) (by decide) | exact capN2 (Nat.le_trans ownT_le he) | exact low_cells rfl | refine And.intro ?_ ?_ | (intro _h; first | contradiction | (try simp only [dd] at _h)) | (refine dt_go ?_) | exact rfl | exact True.intro | exact dkk | exact dks | (refine wrap_succ ?_; omega))))
 ·have hk : k < (s.tables.getD who.toNat default).entries.length := by omega
  have ho : ((s.tables.getD who.toNat default).entries.getD k default).own = true := by simpa using _h
  have hto : s.thingOf ((s.tables.getD who.toNat default).entries.getD k default) = s.things.getD qt default := thingOf_eq (by simpa using hqt)
  have hsn := (ownT_hit (s := s) hk ho).trans (by rw [hto])
  conv => whnf
  refine roundNT_turn (turn_close (id := 3) (i := 0) (j := 0) (id' := 10) rfl (show 0 < 1 by decide) (show 0 < 1 by decide) rfl rfl (show 3 ≠ 10 by decide) rfl (row_snoc (a := s.things.getD qt default) rfl (Nat.le_refl _) (fun j _ => rfl))) ?_
  refine roundNT_turn (turn_box (id := 3) (ds := [owL 3 Thing.cs (ownT s ((s.tables.getD who.toNat default).entries.take (k + 1)))]) rfl rfl rfl (.cons (ow_snoc hsn rfl (fun j _ => rfl)) .nil)) ?_
  refine roundNT_turn (turn_close (id := 0) (i := 0) (j := 2) (id' := 7) rfl (show 0 < 1 by decide) (show 2 < 3 by decide) rfl rfl (show 0 ≠ 7 by decide) rfl (rowO_le (Nat.le_refl _))) ?_
  refine roundNT_turn (turn_box (id := 0) (ds := s.csT 4) rfl rfl rfl (.cons (.refl _) (.cons (.refl _) (.cons (.refl _) .nil)))) ?_
  refine roundNT_end ?_
  repeat' (first | exact aa | ((conv => whnf) <;> (first | (show fx [] 6 (upd (elE Table.csO s.tables) who.toNat 1 [.row 5 _] _ _) = true; exact fx_T (show 5 < 6 by decide)) | exact capB2 (Nat.le_trans ownT_le he) (by decide) | exact capN2 (Nat.le_trans ownT_le he) | exact low_cells rfl | refine And.intro ?_ ?_ | (intro _h; first | contradiction | (try simp only [dd] at _h)) | (refine dt_go ?_) | exact rfl | exact True.intro | exact dkk | exact dks | (refine wrap_succ ?_; omega))))
 ·have hk : k < (s.tables.getD who.toNat default).entries.length := by omega
  have ho : ((s.tables.getD who.toNat default).entries.getD k default).own = true := by simpa using _h
  have hto : s.thingOf ((s.tables.getD who.toNat default).entries.getD k default) = s.things.getD qt default := thingOf_eq (by simpa using hqt)
  have hsn := (ownT_hit (s := s) hk ho).trans (by rw [hto])
  conv => whnf
  refine roundNT_turn (turn_close (id := 3) (i := 0) (j := 0) (id' := 10) rfl (show 0 < 1 by decide) (show 0 < 1 by decide) rfl rfl (show 3 ≠ 10 by decide) rfl (row_snoc (a := s.things.getD qt default) rfl (Nat.le_refl _) (fun j _ => rfl))) ?_
  refine roundNT_turn (turn_box (id := 3) (ds := [owL 3 Thing.cs (ownT s ((s.tables.getD who.toNat default).entries.take (k + 1)))]) rfl rfl rfl (.cons (ow_snoc hsn rfl (fun j _ => rfl)) .nil)) ?_
  refine roundNT_turn (turn_close (id := 0) (i := 0) (j := 2) (id' := 7) rfl (show 0 < 1 by decide) (show 2 < 3 by decide) rfl rfl (show 0 ≠ 7 by decide) rfl (rowO_le (Nat.le_refl _))) ?_
  refine roundNT_turn (turn_box (id := 0) (ds := s.csT 4) rfl rfl rfl (.cons (.refl _) (.cons (.refl _) (.cons (.refl _) .nil)))) ?_
  refine roundNT_end ?_
  repeat' (first | exact aa | ((conv => whnf) <;> (first | (show fx [] 6 (upd (elE Table.csO s.tables) who.toNat 1 [.row 5 _] _ _) = true; exact fx_T (show 5 < 6 by decide)) | exact capB2 (Nat.le_trans ownT_le he) (by decide) | exact capN2 (Nat.le_trans ownT_le he) | exact low_cells rfl | refine And.intro ?_ ?_ | (intro _h; first | contradiction | (try simp only [dd] at _h)) | (refine dt_go ?_) | exact rfl | exact True.intro | exact dkk | exact dks | (refine wrap_succ ?_; omega))))
 ·rename_i k _ _ _
  have hk : k < (s.tables.getD who.toNat default).entries.length := by omega
  have ho : ((s.tables.getD who.toNat default).entries.getD k default).own = false := by simpa using _h
  conv => whnf
  refine roundNT_turn (turn_box (id := 3) (ds := [owL 3 Thing.cs (ownT s ((s.tables.getD who.toNat default).entries.take (k + 1)))]) rfl rfl rfl (.cons (by rw [ownT_miss hk ho]; exact .refl _) .nil)) ?_
  refine roundNT_end ?_
  repeat' (first | exact aa | ((conv => whnf) <;> (first | (show fx [] 6 (upd (elE Table.csO s.tables) who.toNat 1 [.row 5 _] _ _) = true; exact fx_T (show 5 < 6 by decide)) | exact capB2 (Nat.le_trans ownT_le he) (by decide) | exact capN2 (Nat.le_trans ownT_le he) | exact low_cells rfl | refine And.intro ?_ ?_ | (intro _h; first | contradiction | (try simp only [dd] at _h)) | (refine dt_go ?_) | exact rfl | exact True.intro | exact dkk | exact dks | (refine wrap_succ ?_; omega))))
 ·rename_i k _ _
  have htk : (s.tables.getD who.toNat default).entries.take k = (s.tables.getD who.toNat default).entries := List.take_of_length_le (by omega)
  have hlen : (ownT s ((s.tables.getD who.toNat default).entries.take k)).length = (s.dead who.toNat).length := by rw [htk]; exact (dead_perm hH hw2).length_eq.symm
  have hsort := sort_ok (ownT s ((s.tables.getD who.toNat default).entries.take k)) (s.dead who.toNat) (by rw [htk]; exact own_len hH hw2) (by rw [htk]; exact own_bnd hH hw2) (by rw [htk]; exact own_ids hH hw2) (by rw [htk]; exact dead_perm hH hw2) (dead_sorted hH hw2)
  have hdel := delT_okN s.things (s.dead who.toNat) hl2 (by rw [← hlen]; exact Nat.le_trans ownT_le he) hlen
  have hrem := removeAll_ok (s.bared who.toNat) (bared_ok h) (hg.tidy.things _) 95 rfl who (fun w _ => decide (w = who)) (fun w e => kill3_ok w who e) (kiK who.toNat) (fun i e => by unfold kiK; congr 1; rw [decide_eq_decide]; omega)
  repeat' (first | exact aa | ((conv => whnf) <;> (first | (show fx [] 6 (upd (elE Table.csO s.tables) who.toNat 1 [.row 5 _] _ _) = true; exact fx_T (show 5 < 6 by decide)) | exact capB2 (Nat.le_trans ownT_le he) (by decide) | exact capN2 (Nat.le_trans ownT_le he) | exact low_cells rfl | (refine .inr (.inl (.inl ⟨[6], _, _, _, hsort, (view_of rfl (.cons rfl (.self (rowPl_L fun _ => rfl)) .nil)), ⟨rfl, rfl⟩, ?_⟩)); rintro _ _ ⟨rfl, rfl⟩; refine ⟨rfl, _, (lok_pl (.cons (rowPl_L fun _ => rfl) .nil)), ?_⟩) | (refine .inr (.inl (.inl ⟨[7, 3, 6], _, _, _, hdel, (view_of rfl (.cons rfl (.self (rowPl_L fun _ => rfl)) (.cons rfl (back_1 rfl rfl) (.cons rfl (.self (rowPl_L fun _ => rfl)) .nil)))), ⟨rfl, rfl⟩, ?_⟩)); rintro _ _ ⟨rfl, rfl⟩; refine ⟨rfl, _, (lok_c (ren_pl goE_row) (lok_c (ren_box (ds := [.row 6 (ownT s ((s.tables.getD who.toNat default).entries.take _)).length]) rfl rfl) (lok_c (ren_pl (rowPl_L fun _ => rfl)) lok_nil))), ?_⟩) | (refine .inr (.inr ⟨[some (boxRow (s.bared who.toNat).csO), some (boxRow [.i .i64 who]), none, some (boxRow [.row 6 (ownT s ((s.tables.getD who.toNat default).entries.take k)).length]), none, none, some (rowL 3 Thing.cs (s.dead who.toNat)), none], (by intro X; refine Turn.trans (turn_close (id := 0) (i := 0) (j := 2) (id' := 7) rfl (show 0 < 1 by decide) (show 2 < 3 by decide) rfl rfl (show 0 ≠ 7 by decide) rfl ⟨goL_le, fun i j _ _ => goE_idf⟩) ?_; refine Turn.trans (turn_close (id := 4) (i := who.toNat) (j := 1) (id' := 5) rfl hw2 (show 1 < 2 by decide) (by exact rowW_at) rfl (show 4 ≠ 5 by decide) rfl (rowO_le (Nat.le_refl _))) ?_; refine Turn.trans (turn_eq (id := 4) (x := rowL 2 Table.csO (s.setE who.toNat (s.tables.getD who.toNat default).entries).tables) rfl rfl setE_len rfl rfl (setE_rows (l := (s.tables.getD who.toNat default).entries) hw2 rfl (fun i j _ _ => .refl _))) ?_; refine Turn.trans (turn_close (id := 0) (i := 0) (j := 1) (id' := 4) rfl (show 0 < 1 by decide) (show 1 < 3 by decide) rfl rfl (show 0 ≠ 4 by decide) rfl (rowO_le (Nat.le_of_eq setE_len.symm))) ?_; exact turn_box (id := 0) (ds := (s.bared who.toNat).csO) rfl rfl rfl (.cons (.refl _) (.cons (OwEq.len rfl (fun i j _ _ => HoldC.h _ j) (fun i j _ _ => by rw [setE_self]; exact .refl _)) (.cons (OwEq.len (by rw [go_dead hH]; rfl) (fun i j _ _ => HoldC.h _ j) (fun i j hi _ => by show OwEq (goE (inT (s.dead who.toNat)) s.things i j) _; rw [goE_in hi, go_dead hH]; exact .refl _)) .nil)))), (fun i _ q => (by cases q)), .inl ⟨[0, 1], _, _, _, hrem, (view_of rfl (.cons rfl (.self (rowPl_box rfl)) (.cons rfl (.self (rowPl_box rfl)) .nil))), ⟨rfl, rfl⟩, ?_⟩⟩); rintro _ _ ⟨rfl, rfl⟩; refine ⟨rfl, _, (lok_pl (.cons (rowPl_box rfl) (.cons (rowPl_box rfl) .nil))), ?_⟩) | refine And.intro ?_ ?_ | (intro _h; first | contradiction | (try simp only [dd] at _h)) | (refine dt_go ?_) | exact rfl | exact True.intro | exact dkk | exact dks | (refine wrap_succ ?_; omega))))
  conv => whnf
  exact endM_pick [0, 6] [some (boxRow (s.killed who.toNat).csO), some (rowL 3 Thing.cs (s.dead who.toNat))] (.row 1 (s.dead who.toNat).length) (view_of rfl (.cons rfl (.self (rowPl_box rfl)) (.cons rfl (.self (rowPl_L fun _ => rfl)) .nil))) (congrArg (AV.row 6) hlen) rfl (by rw [hX]; exact keepK (n := 1) rfl rfl) ⟨rfl, rfl⟩
end Go.Proofs.YtmglpojnoadgeaaGreat
