/- Texts for VHandlesOneP. -/
import Derived.Test.YtmglpojnoadgeaaGreatVo40
import Derived.Test.YtmglpojnoadgeaaGreatVo36
import Derived.Test.YtmglpojnoadgeaaGreatVo33
namespace Go.Proofs.YtmglpojnoadgeaaGreat
open Go Go.RowKit
set_option linter.unusedVariables false
set_option linter.unusedSimpArgs false
theorem l19Kill_good (s : Shelf) (h : s.ok) (hg : s.good) (who : Int) (hw : 0 ≤ who ∧ who < (s.tables.length : Int)) : RetM env.P 51 [some (boxRow s.csO)] [.ptr 0 0 0, .i .i64 who] (fun r H => r = .row 1 (s.dead who.toNat).length ∧ H = [some (boxRow (s.killed who.toNat).csO), some (rowL 3 Thing.cs (s.dead who.toNat))]) := by
 have hw2 : who.toNat < s.tables.length := by omega
 have h12 := (hg.2.2.2.1 who.toNat hw2).2.2
 have h24 := hg.2.2.1.2
 have hL := l19Loose_ok (s.bared who.toNat) (bared_ok h) (hg.tidy.things _) (kiK who.toNat)
 rw [← kill_keep hw2] at hL
 exact l19Kill_ok s _ who h hw hg.2.1.2 (by omega) (by omega) hL
section
set_option maxRecDepth 8000
def goL {α : Type} (p : α → Bool) (l : List α) : List α := l.filter fun e => !p e
theorem goL_le {α : Type} {p : α → Bool} {l : List α} : (goL p l).length ≤ l.length := List.length_filter_le _ _
theorem goL_all {α : Type} {p : α → Bool} {l : List α} {k : Nat} (hk : ¬ k < l.length) : goL p (l.take k) = goL p l := by rw [List.take_of_length_le (by omega)]
theorem goT_le {α : Type} {p : α → Bool} {l : List α} {i : Nat} : (goL p (l.take i)).length ≤ i ∧ (goL p (l.take i)).length ≤ l.length := by
 have h1 := goL_le (p := p) (l := l.take i)
 rw [List.length_take] at h1
 omega
section
variable {α : Type} [Inhabited α] {p : α → Bool} {l : List α}
theorem goL_hit {k : Nat} (hk : k < l.length) (h : p (l.getD k default) = true) : goL p (l.take (k + 1)) = goL p (l.take k) := by
 rw [take_snoc hk]
 unfold goL
 rw [List.filter_append]
 simp only [List.filter, h, Bool.not_true, List.append_nil]
theorem goL_miss {k : Nat} (hk : k < l.length) (h : p (l.getD k default) = false) : goL p (l.take (k + 1)) = goL p (l.take k) ++ [l.getD k default] := by
 rw [take_snoc hk]
 unfold goL
 rw [List.filter_append]
 simp only [List.filter, h, Bool.not_false]
def goM (p : α → Bool) (l : List α) (i : Nat) : List α := goL p (l.take i) ++ l.drop (goL p (l.take i)).length
omit [Inhabited α] in
theorem goM_len {i : Nat} : (goM p l i).length = l.length := by
 have := (goT_le (p := p) (l := l) (i := i)).2
 unfold goM
 rw [List.length_append, List.length_drop]
 omega
theorem goM_at {i k : Nat} (hk : (goL p (l.take i)).length ≤ k) : (goM p l i).getD k default = l.getD k default := by
 unfold goM
 rw [List.getD_eq_getElem?_getD, List.getElem?_append_right hk, List.getElem?_drop, List.getD_eq_getElem?_getD, show (goL p (l.take i)).length + (k - (goL p (l.take i)).length) = k by omega]
theorem goM_hit {k : Nat} (hk : k < l.length) (h : p (l.getD k default) = true) : goM p l (k + 1) = goM p l k := by
 unfold goM
 rw [goL_hit hk h]
theorem goM_miss {k : Nat} (hk : k < l.length) (h : p (l.getD k default) = false) : goM p l (k + 1) = (goM p l k).set (goL p (l.take k)).length (l.getD k default) := by
 have hle := goT_le (p := p) (l := l) (i := k)
 unfold goM
 rw [goL_miss hk h, List.set_append_right _ _ (Nat.le_refl _), Nat.sub_self, List.length_append, List.length_singleton]
 have : l.drop (goL p (l.take k)).length = l[(goL p (l.take k)).length]'(by omega) :: l.drop ((goL p (l.take k)).length + 1) := List.drop_eq_getElem_cons _
 rw [this, List.set_cons_zero, List.append_assoc, List.singleton_append]
theorem go_before : ∀ {q : Nat}, q ≤ l.length → (∀ j, j < q → p (l.getD j default) = false) → goL p (l.take q) = l.take q
 | 0, _, _ => rfl
 | q + 1, hq, h => by
  rw [goL_miss (by omega) (h q (by omega)), go_before (by omega) fun j hj => h j (by omega), take_snoc (by omega)]
theorem goM_start {q : Nat} (hq : q < l.length) (h : ∀ j, j < q → p (l.getD j default) = false) (he : p (l.getD q default) = true) : goM p l (q + 1) = l ∧ (goL p (l.take (q + 1))).length = q := by
 have h1 : goL p (l.take (q + 1)) = l.take q := by rw [goL_hit hq he, go_before (by omega) h]
 unfold goM
 rw [h1, List.length_take, show min q l.length = q by omega]
 exact ⟨List.take_append_drop q l, rfl⟩
theorem goK {j : Nat} {b : Bool} (h : p ((goM p l j).getD ((j : Nat) : Int).toNat default) = b) : p (l.getD j default) = b := by
 rwa [Int.toNat_natCast, goM_at (goT_le (p := p) (l := l) (i := j)).1] at h
end
def goE (p : Thing → Bool) (l : List Thing) : Nat → Nat → AV := fun i j => if i < (goL p l).length then elE Thing.cs (goL p l) i j else [AV.i .i64 0, AV.i .i64 0, AV.i .i64 0].getD j .any
theorem goE_pl {p : Thing → Bool} {l : List Thing} {i j : Nat} : pl1 (goE p l i j) = true := by
 unfold goE
 split
 ·exact pl1_getD rfl j
 ·exact pl1_getD rfl j
theorem goE_idf {p : Thing → Bool} {l : List Thing} {i j : Nat} : (goE p l i j).idfO := by
 unfold goE
 split
 ·exact HoldC.h _ j
 ·exact (holdC_plain (c := fun _ : Unit => [AV.i .i64 0, AV.i .i64 0, AV.i .i64 0]) fun _ => rfl).h () j
theorem goE_in {p : Thing → Bool} {l : List Thing} {i j : Nat} (h : i < (goL p l).length) : goE p l i j = elE Thing.cs (goL p l) i j := if_pos h
theorem goE_row {p : Thing → Bool} {l : List Thing} {n : Nat} : RowPl ⟨3, n, goE p l, .arr⟩ := ⟨fun i j _ _ => goE_pl⟩
theorem indexT_ok (l : List Thing) (v : Thing) (hl : l.length ≤ 1048576) : Ret env.P 114 [slL 3 Thing.cs l, .agg v.cs] (fun r => r = .i .i64 (idxI (l.findIdx? fun x => decide (v = x)))) := by
 refine ret_of (nt := 19) (rvs := [.tmp 4]) Tryz.func114 rfl rfl rfl rfl (fun X => ?_)
 repeat' (first | exact aa | ((conv => whnf) <;> (first | exact upto_succ (by assumption) (by rintro rfl; simp_all) | refine loopN l.length (fun k => [(8, .i .i64 k)]) (fun k => []) (fun k => ∀ j, j < k → ¬ v = l.getD j default) ⟨fun _ h => by omega, ?_⟩ | refine And.intro ?_ ?_ | (intro _h; first | contradiction | (try simp only [dd] at _h)) | (refine dt_go ?_) | exact rfl | exact True.intro | exact dkk | exact dks | (refine wrap_succ ?_; omega))))
 ·exact leaf_i (idx_some (by omega) (decide_eq_true (Thing.etaC (by simpa using _h))) (fun j hj => decide_eq_false (by have := ‹∀ j, j < _ → ¬ v = l.getD j default›; exact this j hj)))
 ·exact leaf_i (idx_none fun j hj => decide_eq_false (by have := ‹∀ j, j < _ → ¬ v = l.getD j default›; exact this j (by omega)))
theorem containsT_ok (l : List Thing) (v : Thing) (hl : l.length ≤ 1048576) : Ret env.P 93 [slL 3 Thing.cs l, .agg v.cs] (fun r => r = .b (l.any fun x => decide (v = x))) := by
 refine ret_of (nt := 9) (rvs := [.tmp 4]) Tryz.func93 rfl rfl rfl rfl (fun X => ?_)
 repeat' (first | exact aa | ((conv => whnf) <;> (first | refine And.intro ?_ ?_ | (intro _h; first | contradiction | (try simp only [dd] at _h)) | (refine dt_go ?_) | exact rfl | exact True.intro | exact dkk | exact dks | ((first | refine .inl ⟨_, indexT_ok l v hl, ?_⟩ | refine ⟨_, indexT_ok l v hl, ?_⟩); (try rintro _ rfl)) | (refine wrap_succ ?_; omega))))
 all_goals exact leaf_b (idx_any _ _)
def inT (m : List Thing) (x : Thing) : Bool := m.any fun y => decide (x = y)
theorem kill2_ok (m : List Thing) (hm : m.length ≤ 1048576) (x : Thing) : Ret env.P 92 [.agg x.cs, rfL [slL 3 Thing.cs m]] (fun r => r = .b (inT m x)) := by
 refine ret_of (nt := 7) (rvs := [.tmp 3]) Tryz.func92 rfl rfl rfl rfl (fun X => ?_)
 repeat' (first | exact aa | ((conv => whnf) <;> (first | refine And.intro ?_ ?_ | (intro _h; first | contradiction | (try simp only [dd] at _h)) | (refine dt_go ?_) | exact rfl | exact True.intro | exact dkk | exact dks | ((first | refine .inl ⟨_, containsT_ok m x hm, ?_⟩ | refine ⟨_, containsT_ok m x hm, ?_⟩); (try rintro _ rfl)) | (refine wrap_succ ?_; omega))))
 all_goals exact rfl
set_option maxHeartbeats 2000000 in
theorem delT_none (l m : List Thing) (hl : l.length ≤ 1048576) (hm : m.length ≤ 1048576) (hq : l.findIdx? (inT m) = none) (h1 : ∀ j, j < l.length → inT m (l.getD j default) = false) : RetM env.P 91 [some (rowL 3 Thing.cs l), some (boxRow [.row 2 m.length]), some (rowL 3 Thing.cs m)] [.row 0 l.length, .fn 92 [.ptr 1 0 0]] (fun r H => r = .row 0 (goL (inT m) l).length ∧ H = [some ⟨3, l.length, goE (inT m) l, .arr⟩, some (boxRow [.row 2 m.length]), some (rowL 3 Thing.cs m)]) := by
 have hg : goL (inT m) l = l := by
  have := go_before (p := inT m) (Nat.le_refl l.length) h1
  rwa [List.take_length] at this
 refine ret_ofM (nt := 42) (rvs := [.tmp 4]) Tryz.func91 rfl rfl rfl rfl (fun X hX => ?_)
 repeat' (first | exact aa | ((conv => whnf) <;> (first | (refine .inl ⟨_, Ret.wka (indexFuncThing1_ok l 92 rfl [slL 3 Thing.cs m] (inT m) hl (fun k hk => kill2_ok m hm _)), ?_⟩; rintro _ rfl; rw [hq]; simp only [idxI]) | refine And.intro ?_ ?_ | (intro _h; first | contradiction | (try simp only [dd] at _h)) | (refine dt_go ?_) | exact rfl | exact True.intro | exact dkk | exact dks | (refine wrap_succ ?_; omega))))
 all_goals (conv => whnf)
 refine endM_turn (turn_same (id := 0) (x := ⟨3, l.length, goE (inT m) l, .arr⟩) rfl rfl rfl rfl rfl (fun i j hi hj => ?_)) ?_
 ·show goE (inT m) l i j = _
  rw [goE_in (by rw [hg]; exact hi), hg]; rfl
 exact endM_pick [0, 1, 2] [some ⟨3, l.length, goE (inT m) l, .arr⟩, some (boxRow [.row 2 m.length]), some (rowL 3 Thing.cs m)] (.row 0 (goL (inT m) l).length) (view_of rfl (.cons rfl (.self goE_row) (.cons rfl (back_box rfl rfl rfl) (.cons rfl (.self (rowPl_L fun _ => rfl)) .nil)))) (by rw [hg]; rfl) rfl (by rw [hX]; exact keepK (n := 3) rfl rfl) ⟨rfl, rfl⟩
set_option maxHeartbeats 2000000 in
theorem delT_some (l m : List Thing) (hl : l.length ≤ 1048576) (hm : m.length ≤ 1048576) (q : Nat) (hq : l.findIdx? (inT m) = some q) (hlt : q < l.length) (h1 : ∀ j, j < q → inT m (l.getD j default) = false) (h2 : inT m (l.getD q default) = true) : RetM env.P 91 [some (rowL 3 Thing.cs l), some (boxRow [.row 2 m.length]), some (rowL 3 Thing.cs m)] [.row 0 l.length, .fn 92 [.ptr 1 0 0]] (fun r H => r = .row 0 (goL (inT m) l).length ∧ H = [some ⟨3, l.length, goE (inT m) l, .arr⟩, some (boxRow [.row 2 m.length]), some (rowL 3 Thing.cs m)]) := by
 have hS := goM_start (p := inT m) hlt h1 h2
 refine ret_ofM (nt := 42) (rvs := [.tmp 4]) Tryz.func91 rfl rfl rfl rfl (fun X hX => ?_)
 repeat' (first | exact aa | ((conv => whnf) <;> (first | (refine .inl ⟨_, Ret.wka (indexFuncThing1_ok l 92 rfl [slL 3 Thing.cs m] (inT m) hl (fun k hk => kill2_ok m hm _)), ?_⟩; rintro _ rfl; rw [hq]; simp only [idxI]) | exact low_cells rfl | refine loopN (l.length - (q + 1)) (fun k => [(6, .i .i64 ((q + 1 + k : Nat) : Int)), (5, .i .i64 ((goL (inT m) (l.take (q + 1 + k))).length : Nat))]) (fun k => [some (.arr ⟨3, l.length, elE Thing.cs (goM (inT m) l (q + 1 + k)), .arr⟩)]) (fun k => True) ⟨trivial, ?_⟩ | refine And.intro ?_ ?_ | (intro _h; first | contradiction | (try simp only [dd] at _h)) | (refine dt_go ?_) | exact rfl | exact True.intro | exact dkk | exact dks | ((first | refine .inl ⟨_, Ret.wka (kill2_ok m hm _), ?_⟩ | refine ⟨_, Ret.wka (kill2_ok m hm _), ?_⟩); (try rintro _ rfl)) | (refine wrap_succ ?_; omega))))
 ·exact congrArg _ hS.2.symm
 ·exact arr_same hS.1 rfl (fun a j => low_cells rfl)
 ·rename_i k _ _ _
  have := (goT_le (p := inT m) (l := l) (i := q + 1 + k)).1
  omega
 ·rename_i k _ _ hj
  have hj' : q + 1 + k < l.length := by omega
  have hn := goK _h
  have hle := (goT_le (p := inT m) (l := l) (i := q + 1 + k)).2
  rw [show q + 1 + (k + 1) = q + 1 + k + 1 from rfl, goL_miss hj' hn, List.length_append, List.length_singleton, wrap_in (by omega) (by omega)]
  rfl
 ·rename_i k _ _ hj
  have hj' : q + 1 + k < l.length := by omega
  have hn := goK _h
  have hle := (goT_le (p := inT m) (l := l) (i := q + 1 + k)).1
  conv => whnf
  refine arr_set (k := (goL (inT m) (l.take (q + 1 + k))).length) (show goM (inT m) l (q + 1 + (k + 1)) = _ from goM_miss (k := q + 1 + k) hj' hn) (by rw [goM_len]; omega) rfl (fun a j => low_cells rfl) ?_ ?_
  ·intro j hj
   have e0 : (goM (inT m) l (q + 1 + k)).getD (((q + 1 + k : Nat) : Int)).toNat default = l.getD (q + 1 + k) default := by rw [Int.toNat_natCast, goM_at hle]
   have hj7 : j < 3 := hj
   rw [← e0]
   rcases (show j = 0 ∨ j = 1 ∨ j = 2 by omega) with rfl | rfl | rfl
   all_goals (simp only [upd, Nat.beq_refl, Int.toNat_natCast]; rfl)
  ·intro a j hne
   simp only [upd, beq_ff hne, Bool.and_false, cond_false, Int.toNat_natCast]
 ·rename_i k _ _ hj
  have hj' : q + 1 + k < l.length := by omega
  have hh := goK (b := true) (eq_true_of_ne_false _h)
  exact congrArg _ (congrArg List.length (goL_hit hj' hh).symm)
 ·rename_i k _ _ hj
  have hj' : q + 1 + k < l.length := by omega
  have hh := goK (b := true) (eq_true_of_ne_false _h)
  exact arr_same (goM_hit hj' hh) rfl (fun a j => low_cells rfl)
 all_goals first | (exact Int.ofNat_le.2 goT_le.2) | exact Int.le_refl _ | skip
 all_goals (conv => whnf)
 rename_i k _ _
 have hk : goL (inT m) (l.take (q + 1 + k)) = goL (inT m) l := goL_all (by omega)
 have hM : goM (inT m) l (q + 1 + k) = goL (inT m) l ++ l.drop (goL (inT m) l).length := by unfold goM; rw [hk]
 refine endM_turn (turn_same (id := 0) (x := ⟨3, l.length, goE (inT m) l, .arr⟩) rfl rfl rfl rfl rfl (fun i j hi hj => ?_)) ?_
 ·have hi' : i < l.length := hi
  dsimp only
  rw [hk, hM]
  have hle := goL_le (p := inT m) (l := l)
  unfold goE
  by_cases h : i < (goL (inT m) l).length
  ·rw [if_pos h, segE_out (by omega)]
   unfold elE
   rw [getD_app h]
  ·rw [if_neg h, segE_in (by omega) (by omega)]
   rfl
 exact endM_pick [0, 1, 2] [some ⟨3, l.length, goE (inT m) l, .arr⟩, some (boxRow [.row 2 m.length]), some (rowL 3 Thing.cs m)] (.row 0 (goL (inT m) l).length) (view_of rfl (.cons rfl (.self goE_row) (.cons rfl (back_box rfl rfl rfl) (.cons rfl (.self (rowPl_L fun _ => rfl)) .nil)))) (by rw [hk]; rfl) rfl (by rw [hX]; exact keepK (n := 3) rfl rfl) ⟨rfl, rfl⟩
theorem delT_ok (l m : List Thing) (hl : l.length ≤ 1048576) (hm : m.length ≤ 1048576) : RetM env.P 91 [some (rowL 3 Thing.cs l), some (boxRow [.row 2 m.length]), some (rowL 3 Thing.cs m)] [.row 0 l.length, .fn 92 [.ptr 1 0 0]] (fun r H => r = .row 0 (goL (inT m) l).length ∧ H = [some ⟨3, l.length, goE (inT m) l, .arr⟩, some (boxRow [.row 2 m.length]), some (rowL 3 Thing.cs m)]) := by
 cases hq : l.findIdx? (inT m) with
 | none =>
  rw [List.findIdx?_eq_none_iff] at hq
  exact delT_none l m hl hm (by rw [List.findIdx?_eq_none_iff]; exact hq) fun j hj => hq _ (getD_mem hj)
 | some q0 =>
  have hq' := hq
  rw [List.findIdx?_eq_some_iff_getElem] at hq'
  obtain ⟨hlt, h1, h2⟩ := hq'
  refine delT_some l m hl hm q0 hq hlt (fun j hj => ?_) ?_
  ·rw [List.getD_eq_getElem?_getD, List.getElem?_eq_getElem (by omega)]
   have := h2 j hj
   simpa using this
  ·rw [List.getD_eq_getElem?_getD, List.getElem?_eq_getElem hlt]
   exact h1
end
def ownT (s : Shelf) (l : List Entry) : List Thing := (l.filter fun e => e.own).map s.thingOf
theorem ownT_hit {s : Shelf} {l : List Entry} {k : Nat} (hk : k < l.length) (h : (l.getD k default).own = true) : ownT s (l.take (k + 1)) = ownT s (l.take k) ++ [s.thingOf (l.getD k default)] := by
 unfold ownT
 rw [filt_yes (p := fun e : Entry => e.own) hk h, List.map_append]; rfl
theorem ownT_miss {s : Shelf} {l : List Entry} {k : Nat} (hk : k < l.length) (h : (l.getD k default).own = false) : ownT s (l.take (k + 1)) = ownT s (l.take k) := by
 unfold ownT
 rw [filt_no (p := fun e : Entry => e.own) hk h]
theorem ownT_le {s : Shelf} {l : List Entry} {k : Nat} : (ownT s (l.take k)).length ≤ l.length := by
 unfold ownT
 rw [List.length_map]
 exact filt_le
theorem thingOf_mem {s : Shelf} (h : s.H) {i : Nat} (hi : i < s.tables.length) {e : Entry} (he : e ∈ s.en i) : s.thingOf e ∈ s.things ∧ (s.thingOf e).id = e.id := by
 have h1 := thing_mem.2 (h.thing i hi e he)
 obtain ⟨q, hq⟩ := Option.isSome_iff_exists.1 h1
 rw [thingOf_eq hq]
 unfold Shelf.thing at hq
 rw [List.findIdx?_eq_some_iff_getElem] at hq
 obtain ⟨hk, hp, _⟩ := hq
 have e1 : s.things.getD q default = s.things[q] := by rw [List.getD_eq_getElem?_getD, List.getElem?_eq_getElem hk]; rfl
 rw [e1]
 exact ⟨List.getElem_mem hk, by simpa [idP] using hp⟩
theorem ids_one {t : List Thing} (h : t.Pairwise fun a b => a.id < b.id) {x y : Thing} (hx : x ∈ t) (hy : y ∈ t) (e : x.id = y.id) : x = y := by
 obtain ⟨i, hi, rfl⟩ := List.getElem_of_mem hx
 obtain ⟨j, hj, rfl⟩ := List.getElem_of_mem hy
 have hp := List.pairwise_iff_getElem.1 h
 rcases Nat.lt_trichotomy i j with q | q | q
 ·have := hp i j hi hj q; omega
 ·subst q; rfl
 ·have := hp j i hj hi q; omega
theorem own_le {s : Shelf} (h : s.H) {w : Nat} (hw : w < s.tables.length) {x : Thing} (hx : x ∈ s.things) : (s.en w).countP (owsP x.id) ≤ 1 := by
 have h3 := h.own x hx
 rw [all_count] at h3
 have := sum_one (f := fun i => (s.en i).countP (owsP x.id)) hw
 omega
theorem own_ids {s : Shelf} (h : s.H) {w : Nat} (hw : w < s.tables.length) : ((ownT s (s.en w)).map Thing.id).Nodup := by
 rw [List.nodup_iff_count]
 intro a
 have e1 : (ownT s (s.en w)).map Thing.id = ((s.en w).filter fun e => e.own).map fun e => e.id := by
  unfold ownT
  rw [List.map_map]
  exact List.map_congr_left fun e he => (thingOf_mem h hw (List.mem_filter.1 he).1).2
 rw [e1, List.count_eq_countP, List.countP_map, List.countP_filter]
 by_cases hx : ∃ x ∈ s.things, x.id = a
 ·obtain ⟨x, hx, rfl⟩ := hx
  refine Nat.le_trans (List.countP_mono_left (q := owsP x.id) fun e _ q => ?_) (own_le h hw hx)
  simp only [Function.comp, Bool.and_eq_true, beq_iff_eq] at q
  unfold owsP
  rw [q.1, q.2]; simp
 ·rw [List.countP_eq_zero.2 fun e he q => ?_]
  ·omega
  ·simp only [Function.comp, Bool.and_eq_true, beq_iff_eq] at q
   obtain ⟨x, hx1, hx2⟩ := h.thing w hw e he
   exact hx ⟨x, hx1, by rw [hx2, q.1]⟩
theorem dead_filter {s : Shelf} (h : s.H) {w : Nat} (hw : w < s.tables.length) : s.dead w = s.things.filter fun x => (s.en w).any (ownP x.id) := by
 unfold Shelf.dead killT
 have main : ∀ t : List Thing, (∀ x ∈ t, x ∈ s.things) → (t.flatMap fun x => ((s.en w).filter (ownP x.id)).map fun _ => x) = t.filter fun x => (s.en w).any (ownP x.id) := by
  intro t ht
  induction t with
  | nil => rfl
  | cons x t ih =>
   rw [List.flatMap_cons, List.filter_cons, ih fun y hy => ht y (List.mem_cons_of_mem _ hy)]
   have h1 := own_le h hw (ht x (List.mem_cons_self ..))
   have e0 : (s.en w).countP (owsP x.id) = ((s.en w).filter (ownP x.id)).length := List.countP_eq_length_filter
   rw [e0] at h1
   cases hf : (s.en w).filter (ownP x.id) with
   | nil =>
    have ha : (s.en w).any (ownP x.id) = false := by
     rw [List.any_eq_false]
     intro e he q
     have : e ∈ (s.en w).filter (ownP x.id) := List.mem_filter.2 ⟨he, q⟩
     rw [hf] at this; cases this
    rw [ha]; rfl
   | cons e l =>
    have ha : (s.en w).any (ownP x.id) = true := by
     have : e ∈ (s.en w).filter (ownP x.id) := by rw [hf]; exact List.mem_cons_self ..
     exact List.any_eq_true.2 ⟨e, (List.mem_filter.1 this).1, (List.mem_filter.1 this).2⟩
    rw [hf, List.length_cons] at h1
    have hl : l = [] := List.length_eq_zero_iff.1 (by omega)
    subst hl
    rw [ha]; rfl
 exact main _ fun x hx => hx
theorem dead_sorted {s : Shelf} (h : s.H) {w : Nat} (hw : w < s.tables.length) : (s.dead w).Pairwise fun a b => a.id < b.id := by
 rw [dead_filter h hw]
 exact h.ids.sublist List.filter_sublist
theorem dead_perm {s : Shelf} (h : s.H) {w : Nat} (hw : w < s.tables.length) : (s.dead w).Perm (ownT s (s.en w)) := by
 have hn : (s.dead w).Nodup := (dead_sorted h hw).imp fun q e => by rw [e] at q; omega
 have hn2 : (ownT s (s.en w)).Nodup := (List.pairwise_map.1 (own_ids h hw)).imp fun q e => q (by rw [e])
 refine (List.perm_ext_iff_of_nodup hn hn2).2 fun x => ?_
 rw [mem_dead]
 unfold ownT
 rw [List.mem_map]
 constructor
 ·rintro ⟨hx, e, he, ho, hid⟩
  refine ⟨e, List.mem_filter.2 ⟨he, ho⟩, ?_⟩
  have := thingOf_mem h hw he
  exact ids_one h.ids this.1 hx (by rw [this.2, hid])
 ·rintro ⟨e, he, rfl⟩
  have he' := List.mem_filter.1 he
  have := thingOf_mem h hw he'.1
  exact ⟨this.1, e, he'.1, he'.2, this.2.symm⟩
theorem own_len {s : Shelf} (h : s.H) {w : Nat} (hw : w < s.tables.length) : (ownT s (s.en w)).length ≤ 12 := by
 have h1 := (h.tn w hw).2
 have h2 := ownT_le (s := s) (l := s.en w) (k := (s.en w).length)
 rw [List.take_length] at h2
 omega
theorem own_bnd {s : Shelf} (h : s.H) {w : Nat} (hw : w < s.tables.length) : ∀ x ∈ ownT s (s.en w), 0 ≤ x.id ∧ x.id ≤ 1000000 := fun x hx => by
 unfold ownT at hx
 rw [List.mem_map] at hx
 obtain ⟨e, he, rfl⟩ := hx
 have := thingOf_mem h hw (List.mem_filter.1 he).1
 have h2 := h.fine _ this.1
 have h3 := h2.2.1
 have h4 := h.nx.2
 omega
theorem go_dead {s : Shelf} (h : s.H) {w : Nat} : goL (inT (s.dead w)) s.things = cutXs (s.dead w) s.things := by
 rw [cutXs_eq]
 unfold goL
 refine List.filter_congr fun x hx => ?_
 congr 1
 unfold inT
 rw [Bool.eq_iff_iff, List.any_eq_true, List.any_eq_true]
 constructor
 ·rintro ⟨y, hy, e⟩
  exact ⟨y, hy, by rw [of_decide_eq_true e]; simp [idP]⟩
 ·rintro ⟨y, hy, e⟩
  have : x.id = y.id := by simpa [idP] using e
  exact ⟨y, hy, decide_eq_true (ids_one h.ids hx (mem_dead.1 hy).1 this)⟩
theorem loopTG {E : Env} {nt : Nat} {X : Ctx} {f : Fr} {H : Hp} {c : Code} {Q : Exit → Fr → Hp → Prop} {α : Type} (t : Nat) (vs : α → Fr) (hp : α → List (Option RowI)) (I : α → Prop) (μ : α → Nat) (x0 : α) (ht : inL (asg c) t = true)
  (h : I x0 ∧ agK (mkH H (hp x0)) H [] f (vs x0) ∧ hpP (mkH H (hp x0)) H [] 0 (hp x0) H ∧
   delK H.length (asg c) f fun f0 => ∀ x, I x → wpc E nt X c (vs x ++ f0) (mkH H (hp x)) (thn (RoundEndT X f0 H vs hp I μ x) Q)) :
  LW E.P nt X (.loop c) f H Q := loopFT vs hp I μ x0 h
theorem kill1_ok (a b : Thing) : Ret env.P 90 [.agg a.cs, .agg b.cs] (fun r => r = .i .i64 (IntKind.i64.wrap (a.id - b.id))) := by
 refine ret_of (nt := 10) (rvs := [.tmp 4]) Tryz.func90 rfl rfl rfl rfl (fun X => ?_)
 repeat' (first | exact aa | ((conv => whnf) <;> (first | refine And.intro ?_ ?_ | (intro _h; first | contradiction | (try simp only [dd] at _h)) | (refine dt_go ?_) | exact rfl | exact True.intro | exact dkk | exact dks | (refine wrap_succ ?_; omega))))
structure InsS (l : List Thing) (x : Nat × List Thing) : Prop where
 le : x.1 ≤ l.length + 1
 pos : 1 ≤ x.1
 perm : x.2.Perm l
 srt : ∀ a b, a < b → b < x.1 → b < l.length → (x.2.getD a default).id < (x.2.getD b default).id
structure InsJ (l : List Thing) (i : Nat) (y : Nat × List Thing) : Prop where
 le : y.1 ≤ i
 perm : y.2.Perm l
 srt : ∀ a b, a < b → b ≤ i → b ≠ y.1 → (y.2.getD a default).id < (y.2.getD b default).id
theorem insS_start {l : List Thing} : InsS l (1, l) := ⟨by omega, Nat.le_refl _, .refl _, fun a b h1 h2 _ => by have : b < 1 := h2; omega⟩
theorem InsS.inner {l : List Thing} {x : Nat × List Thing} (h : InsS l x) (hx : x.1 < l.length) : InsJ l x.1 x := ⟨Nat.le_refl _, h.perm, fun a b h1 h2 h3 => h.srt a b h1 (by omega) (by omega)⟩
theorem getD_id {l : List Thing} {k : Nat} (hk : k < l.length) : (l.map Thing.id)[k]'(by simpa using hk) = (l.getD k default).id := by
 rw [List.getElem_map, List.getD_eq_getElem?_getD, List.getElem?_eq_getElem hk]; rfl
theorem id_ne {l : List Thing} (hd : (l.map Thing.id).Nodup) {a b : Nat} (hab : a < b) (hb : b < l.length) : ¬ (l.getD a default).id = (l.getD b default).id := fun e => by
 have h1 := List.pairwise_iff_getElem.1 hd a b (by simp; omega) (by simpa using hb) hab
 rw [getD_id (by omega), getD_id hb] at h1
 exact h1 e
theorem perm_nodup {l m : List Thing} (h : m.Perm l) (hd : (l.map Thing.id).Nodup) : (m.map Thing.id).Nodup := (h.map _).nodup_iff.2 hd
def swapT (l : List Thing) (k : Nat) : List Thing := (l.set (k + 1) (l.getD k default)).set k (l.getD (k + 1) default)
theorem swap_at {l : List Thing} {k i : Nat} (hk : k + 1 < l.length) : (swapT l k).getD i default = if i = k then l.getD (k + 1) default else if i = k + 1 then l.getD k default else l.getD i default := by
 unfold swapT
 rw [getD_set (by rw [List.length_set]; omega), getD_set hk]
theorem swap_perm {l : List Thing} : ∀ {k : Nat}, k + 1 < l.length → (swapT l k).Perm l := by
 induction l with
 | nil => intro k h; simp at h
 | cons a l ih =>
  intro k h
  cases k with
  | zero =>
   cases l with
   | nil => simp at h
   | cons b l => exact .swap _ _ _
  | succ k => exact .cons a (ih (by simpa using h))
theorem InsJ.swap {l : List Thing} {i k : Nat} {L : List Thing} (h : InsJ l i (k + 1, L)) (hi : i < l.length) (hlt : (L.getD (k + 1) default).id < (L.getD k default).id) : InsJ l i (k, swapT L k) := by
 have hL := h.perm.length_eq
 have hle := h.le
 dsimp only at hL hle
 have hk : k + 1 < L.length := by omega
 refine ⟨by dsimp only; omega, (swap_perm hk).trans h.perm, fun a b h1 h2 h3 => ?_⟩
 dsimp only at h3 ⊢
 have hs := h.srt
 dsimp only at hs
 rw [swap_at hk, swap_at hk]
 by_cases eb : b = k + 1
 ·subst eb
  rw [if_neg (show ¬ k + 1 = k by omega), if_pos (show k + 1 = k + 1 from rfl)]
  by_cases ea : a = k
  ·rw [if_pos ea]; exact hlt
  ·rw [if_neg ea, if_neg (show ¬ a = k + 1 by omega)]; exact hs a k (by omega) (by omega) (by omega)
 ·rw [if_neg (show ¬ b = k from h3), if_neg eb]
  by_cases ea : a = k
  ·rw [if_pos ea]; exact hs (k + 1) b (by omega) h2 eb
  ·rw [if_neg ea]
   by_cases ea2 : a = k + 1
   ·rw [if_pos ea2]; exact hs k b (by omega) h2 eb
   ·rw [if_neg ea2]; exact hs a b h1 h2 eb
theorem InsJ.cmp {l : List Thing} {i k : Nat} {L : List Thing} (h : InsJ l i (k + 1, L)) (hb : ∀ x ∈ l, 0 ≤ x.id ∧ x.id ≤ 1000000) {a b : Nat} (ha : a < l.length) (hb' : b < l.length) : IntKind.i64.wrap ((L.getD ((a : Nat) : Int).toNat default).id - (L.getD ((b : Nat) : Int).toNat default).id) < 0 ↔ (L.getD a default).id < (L.getD b default).id := by
 have hL := h.perm.length_eq
 dsimp only at hL
 rw [Int.toNat_natCast, Int.toNat_natCast]
 have h1 := hb _ (h.perm.mem_iff.1 (getD_mem (show a < L.length by omega)))
 have h2 := hb _ (h.perm.mem_iff.1 (getD_mem (show b < L.length by omega)))
 dsimp only at h1 h2
 rw [wrap_in (by omega) (by omega)]
 omega
theorem InsJ.done {l : List Thing} {x : Nat × List Thing} {y : Nat × List Thing} (hd : (l.map Thing.id).Nodup) (hx : InsS l x) (h : InsJ l x.1 y) (hi : x.1 < l.length) (hn : ∀ k, y.1 = k + 1 → ¬ (y.2.getD (k + 1) default).id < (y.2.getD k default).id) : InsS l (x.1 + 1, y.2) := by
 refine ⟨by dsimp only; omega, by dsimp only; omega, h.perm, fun a b h1 h2 h3 => ?_⟩
 dsimp only at h2 ⊢
 have hL := h.perm.length_eq
 by_cases e : b = y.1
 ·cases b with
  | zero => omega
  | succ k =>
   have h4 := hn k e.symm
   have h5 := id_ne (perm_nodup h.perm hd) (show k < k + 1 by omega) (by omega)
   by_cases ea : a = k
   ·subst ea; omega
   ·have := h.srt a k (by omega) (by omega) (by omega)
    omega
 ·exact h.srt a b h1 (by omega) e
theorem sorted_one {l m : List Thing} (hp : l.Perm m) (hl : l.Pairwise fun a b => a.id < b.id) (hm : m.Pairwise fun a b => a.id < b.id) : l = m :=
 List.Perm.eq_of_pairwise (le := fun a b : Thing => a.id < b.id) (fun a b _ _ h1 h2 => by omega) hl hm hp
theorem InsS.all {l m : List Thing} {x : Nat × List Thing} (h : InsS l x) (hn : ¬ x.1 < l.length) (hm : m.Perm l) (hs : m.Pairwise fun a b => a.id < b.id) : x.2 = m := by
 refine sorted_one (h.perm.trans hm.symm) (List.pairwise_iff_getElem.2 fun a b ha hb hab => ?_) hs
 have hL := h.perm.length_eq
 have := h.srt a b hab (by omega) (by omega)
 rwa [List.getD_eq_getElem?_getD, List.getElem?_eq_getElem ha, List.getD_eq_getElem?_getD, List.getElem?_eq_getElem hb] at this
theorem arr_swap {r : List Nat} {n cap cap' k : Nat} {l l' : List Thing} {y : Nat → Nat → AV} (e : l' = swapT l k) (hk : k + 1 < l.length) (hc : cap' = cap) (h1 : ∀ j, j < 3 → y k j = (Thing.cs (l.getD (k + 1) default)).getD j .any) (h2 : ∀ j, j < 3 → y (k + 1) j = (Thing.cs (l.getD k default)).getD j .any)
  (h3 : ∀ i j, i ≠ k → i ≠ k + 1 → y i j = elE Thing.cs l i j) : ArrP r n ⟨3, cap, elE Thing.cs l', .arr⟩ ⟨3, cap', y, .arr⟩ :=
 ⟨rfl, hc, rfl, fun i j hi hj => by
  show y i j = elE Thing.cs l' i j
  subst e
  unfold elE
  rw [swap_at hk]
  by_cases ea : i = k
  ·subst ea; rw [if_pos rfl]; exact h1 j hj
  ·rw [if_neg ea]
   by_cases eb : i = k + 1
   ·subst eb; rw [if_pos rfl]; exact h2 j hj
   ·rw [if_neg eb]; exact h3 i j ea eb, fun i j _ _ => low_cells rfl⟩
theorem arr_swap2 {r : List Nat} {n cap cap' k j1 j2 : Nat} {cs1 cs2 : List AV} {l : List Thing} (hk : k + 1 < l.length) (hc : cap' = cap) (h1 : j1 = k + 1) (h2 : j2 = k) (e1 : cs1 = (l.getD k default).cs) (e2 : cs2 = (l.getD (k + 1) default).cs) : ArrP r n ⟨3, cap, elE Thing.cs (swapT l k), .arr⟩ ⟨3, cap', upd (upd (elE Thing.cs l) j1 0 cs1) j2 0 cs2, .arr⟩ := by
 subst h1 h2 e1 e2
 refine arr_swap (k := j2) rfl hk hc (fun j hj => ?_) (fun j hj => ?_) fun i j hi hi2 => ?_
 ·have := upd_in (es := upd (elE Thing.cs l) (j2 + 1) 0 (l.getD j2 default).cs) (j := j2) (off := 0) (cs := (l.getD (j2 + 1) default).cs) (k := j) hj
  rw [Nat.zero_add] at this
  rw [this, List.getD_eq_getElem?_getD (l := Thing.cs _), List.getElem?_eq_getElem hj]; rfl
 ·rw [upd_miss (by omega)]
  have := upd_in (es := elE Thing.cs l) (j := j2 + 1) (off := 0) (cs := (l.getD j2 default).cs) (k := j) hj
  rw [Nat.zero_add] at this
  rw [this, List.getD_eq_getElem?_getD (l := Thing.cs _), List.getElem?_eq_getElem hj]; rfl
 ·rw [upd_miss hi, upd_miss hi2]
set_option maxRecDepth 8000 in
set_option maxHeartbeats 4000000 in
theorem insSort_ok (l m : List Thing) (hl : l.length ≤ 12) (hb : ∀ x ∈ l, 0 ≤ x.id ∧ x.id ≤ 1000000) (hd : (l.map Thing.id).Nodup) (hm : m.Perm l) (hs : m.Pairwise fun a b => a.id < b.id) : RetM env.P 118 [some (rowL 3 Thing.cs l)] [.row 0 l.length, .i .i64 0, .i .i64 l.length, .fn 90 []] (fun r H => r = .tup [] ∧ H = [some (rowL 3 Thing.cs m)]) := by
 refine ret_ofM (nt := 53) (rvs := []) Tryz.func118 rfl rfl rfl rfl (fun X hX => ?_)
 repeat' (first | exact aa | ((conv => whnf) <;> (first | refine loopTG 8 (fun x : Nat × List Thing => [(8, .i .i64 x.1)]) (fun x => [some (.arr ⟨3, l.length, elE Thing.cs x.2, .arr⟩)]) (InsS l) (fun x => l.length + 1 - x.1) (1, l) rfl ⟨insS_start, ?_⟩ | (rename_i x hx; refine loopTG 9 (fun y : Nat × List Thing => [(9, .i .i64 y.1)]) (fun y => [some (.arr ⟨3, l.length, elE Thing.cs y.2, .arr⟩)]) (InsJ l x.1) (fun y => y.1) (x.1, x.2) rfl ⟨hx.inner (by omega), ?_⟩) | exact arr_same rfl rfl (fun a j => low_cells rfl) | exact low_cells rfl | refine And.intro ?_ ?_ | (intro _h; first | contradiction | (try simp only [dd] at _h)) | (refine dt_go ?_) | exact rfl | exact True.intro | exact dkk | exact dks | ((first | refine .inl ⟨_, kill1_ok _ _, ?_⟩ | refine ⟨_, kill1_ok _ _, ?_⟩); (try rintro _ rfl)) | (refine wrap_succ ?_; omega))))
 all_goals first
  | (have hx1 := (‹InsJ l x.1 _› : InsJ l x.1 _).le; rw [wrap_in (by omega) (by omega)]; omega)
  | (have hx1 := (‹InsJ l x.1 _› : InsJ l x.1 _).le; omega)
  | skip
 ·rename_i y hy hj
  obtain ⟨j, L⟩ := y
  cases j with
  | zero => exact absurd hj (by dsimp only; omega)
  | succ k =>
  have hle : k + 1 ≤ x.1 := hy.le
  have hwk : IntKind.i64.wrap (((k + 1 : Nat) : Int) - 1) = (k : Int) := by rw [wrap_in (by omega) (by omega)]; omega
  have hlt := (hy.cmp hb (show k + 1 < l.length by omega) (show k < l.length by omega)).1 (hwk ▸ _h)
  have hL := hy.perm.length_eq
  conv => whnf
  refine roundET_end ?_
  refine ⟨(k, swapT L k), [], hy.swap (by omega) hlt, (show k < k + 1 by omega), ?_⟩
  repeat' (first | exact aa | ((conv => whnf) <;> (first | exact hwk | exact low_cells rfl | exact arr_swap2 (show k + 1 < L.length by dsimp only at hL; omega) rfl rfl (show (IntKind.i64.wrap (((k + 1 : Nat) : Int) - 1)).toNat = k by rw [hwk]; rfl) (show Thing.cs (L.getD (IntKind.i64.wrap (((k + 1 : Nat) : Int) - 1)).toNat default) = _ by rw [hwk]; rfl) rfl | refine And.intro ?_ ?_ | (intro _h; first | contradiction | (try simp only [dd] at _h)) | (refine dt_go ?_) | exact rfl | exact True.intro | exact dkk | exact dks | (refine wrap_succ ?_; omega))))
 ·rename_i y hy hj
  obtain ⟨j, L⟩ := y
  cases j with
  | zero => exact absurd hj (by dsimp only; omega)
  | succ k =>
  have hle : k + 1 ≤ x.1 := hy.le
  have hwk : IntKind.i64.wrap (((k + 1 : Nat) : Int) - 1) = (k : Int) := by rw [wrap_in (by omega) (by omega)]; omega
  have hlt := (hy.cmp hb (show k + 1 < l.length by omega) (show k < l.length by omega)).1 (hwk ▸ _h)
  have hL := hy.perm.length_eq
  conv => whnf
  refine roundET_end ?_
  refine ⟨(k, swapT L k), [], hy.swap (by omega) hlt, (show k < k + 1 by omega), ?_⟩
  repeat' (first | exact aa | ((conv => whnf) <;> (first | exact hwk | exact low_cells rfl | exact arr_swap2 (show k + 1 < L.length by dsimp only at hL; omega) rfl rfl (show (IntKind.i64.wrap (((k + 1 : Nat) : Int) - 1)).toNat = k by rw [hwk]; rfl) (show Thing.cs (L.getD (IntKind.i64.wrap (((k + 1 : Nat) : Int) - 1)).toNat default) = _ by rw [hwk]; rfl) rfl | refine And.intro ?_ ?_ | (intro _h; first | contradiction | (try simp only [dd] at _h)) | (refine dt_go ?_) | exact rfl | exact True.intro | exact dkk | exact dks | (refine wrap_succ ?_; omega))))
 ·rename_i y hy hj
  have hle := hy.le
  conv => whnf
  refine roundET_end ?_
  refine ⟨(x.1 + 1, y.2), [], hy.done hd hx (by omega) (fun k e q => ?_), (show l.length + 1 - (x.1 + 1) < l.length + 1 - x.1 by omega), ?_⟩
  ·obtain ⟨j, L⟩ := y
   obtain rfl : j = k + 1 := e
   have hwk : IntKind.i64.wrap (((k + 1 : Nat) : Int) - 1) = (k : Int) := by rw [wrap_in (by omega) (by omega)]; omega
   have hq := (hy.cmp hb (show k + 1 < l.length by dsimp only at hle; omega) (show k < l.length by dsimp only at hle; omega)).2 q
   rw [← hwk] at hq
   exact _h hq
  repeat' (first | exact aa | ((conv => whnf) <;> (first | exact arr_same rfl rfl (fun a j => low_cells rfl) | exact low_cells rfl | refine And.intro ?_ ?_ | (intro _h; first | contradiction | (try simp only [dd] at _h)) | (refine dt_go ?_) | exact rfl | exact True.intro | exact dkk | exact dks | (refine wrap_succ ?_; omega))))
 ·rename_i y hy
  have hle := hy.le
  conv => whnf
  refine roundET_end ?_
  refine ⟨(x.1 + 1, y.2), [], hy.done hd hx (by omega) (fun k e q => ?_), (show l.length + 1 - (x.1 + 1) < l.length + 1 - x.1 by omega), ?_⟩
  ·omega
  repeat' (first | exact aa | ((conv => whnf) <;> (first | exact arr_same rfl rfl (fun a j => low_cells rfl) | exact low_cells rfl | refine And.intro ?_ ?_ | (intro _h; first | contradiction | (try simp only [dd] at _h)) | (refine dt_go ?_) | exact rfl | exact True.intro | exact dkk | exact dks | (refine wrap_succ ?_; omega))))
 ·conv => whnf
  rename_i x hx
  have hm2 : x.2 = m := hx.all (by omega) hm hs
  refine endM_turn (turn_same (id := 0) (x := rowL 3 Thing.cs m) rfl rfl hm.length_eq rfl rfl (fun i j _ _ => by subst hm2; rfl)) ?_
  exact endM_pick [0] [some (rowL 3 Thing.cs m)] (.tup []) (view_of rfl (.cons rfl (.self (rowPl_L fun _ => rfl)) .nil)) rfl rfl (by rw [hX]; exact keepK (n := 1) rfl rfl) ⟨rfl, rfl⟩
set_option maxRecDepth 8000
theorem wrap_u8 {n : Int} (h : 0 ≤ n ∧ n < 256) : IntKind.u8.wrap n = n := by
 have : IntKind.u8.wrap n = n % 256 := by unfold IntKind.wrap; simp [IntKind.bits, IntKind.signed]
 omega
theorem len64_ok (n : Int) (h : 0 ≤ n ∧ n < 256) : Ret env.P 127 [.i .u64 n] (fun r => ∃ k, r = .i .i64 k) := by
 have hw := wrap_u8 h
 refine ret_of (nt := 25) (rvs := [.tmp 2]) Tryz.func127 rfl rfl rfl rfl (fun X => ?_)
 repeat' (first | exact aa | ((conv => whnf) <;> (first | (show _ ≤ IntKind.u8.wrap n; rw [hw]; exact h.1) | (show IntKind.u8.wrap n < _; rw [hw]; exact h.2) | refine And.intro ?_ ?_ | (intro _h; first | contradiction | (try simp only [dd] at _h)) | (refine dt_go ?_) | exact rfl | exact True.intro | exact dkk | exact dks | (refine wrap_succ ?_; omega))))
 all_goals (conv => whnf)
 all_goals exact ⟨_, rfl⟩
theorem len_ok (n : Int) (h : 0 ≤ n ∧ n < 256) : Ret env.P 113 [.i .u64 n] (fun r => ∃ k, r = .i .i64 k) := by
 refine ret_of (nt := 8) (rvs := [.tmp 2]) Tryz.func113 rfl rfl rfl rfl (fun X => ?_)
 repeat' (first | exact aa | ((conv => whnf) <;> (first | (refine .inl ⟨_, len64_ok n h, ?_⟩; rintro _ ⟨k, rfl⟩) | refine And.intro ?_ ?_ | (intro _h; first | contradiction | (try simp only [dd] at _h)) | (refine dt_go ?_) | exact rfl | exact True.intro | exact dkk | exact dks | (refine wrap_succ ?_; omega))))
 all_goals (conv => whnf)
 all_goals exact ⟨_, rfl⟩
set_option maxHeartbeats 4000000 in
theorem pdq_ok (l m : List Thing) (hl : l.length ≤ 12) (hb : ∀ x ∈ l, 0 ≤ x.id ∧ x.id ≤ 1000000) (hd : (l.map Thing.id).Nodup) (hm : m.Perm l) (hs : m.Pairwise fun a b => a.id < b.id) (z : Int) : RetM env.P 112 [some (rowL 3 Thing.cs l)] [.row 0 l.length, .i .i64 0, .i .i64 l.length, .i .i64 z, .fn 90 []] (fun r H => r = .tup [] ∧ H = [some (rowL 3 Thing.cs m)]) := by
 refine ret_ofM (nt := 148) (rvs := []) Tryz.func112 rfl rfl rfl rfl (fun X hX => ?_)
 repeat' (first | exact aa | ((conv => whnf) <;> (first | (refine loopFT (fun _ : Unit => [(1, .i .i64 0), (2, .i .i64 l.length)]) (fun _ => []) (fun _ => True) (fun _ => 0) () ⟨trivial, ?_⟩) | exact low_cells rfl | refine And.intro ?_ ?_ | (intro _h; first | contradiction | (try simp only [dd] at _h)) | (refine dt_go ?_) | exact rfl | exact True.intro | exact dkk | exact dks | (refine .inr (.inl (.inl ⟨[0], _, _, _, insSort_ok l m hl hb hd hm hs, viewA, ⟨rfl, rfl⟩, ?_⟩)); rintro _ _ ⟨rfl, rfl⟩; refine ⟨rfl, _, lokA, ?_⟩) | (refine wrap_succ ?_; omega))))
 all_goals first
  | (exfalso; rw [wrap_in (by omega) (by omega)] at _h; omega)
  | skip
 all_goals (conv => whnf)
 exact endM_pick [0] [some (rowL 3 Thing.cs m)] (.tup []) (view_of rfl (.cons rfl (.self (rowPl_L fun _ => rfl)) .nil)) rfl rfl (by rw [hX]; exact keepK (n := 1) rfl rfl) ⟨rfl, rfl⟩
set_option maxHeartbeats 4000000 in
theorem sort_ok (l m : List Thing) (hl : l.length ≤ 12) (hb : ∀ x ∈ l, 0 ≤ x.id ∧ x.id ≤ 1000000) (hd : (l.map Thing.id).Nodup) (hm : m.Perm l) (hs : m.Pairwise fun a b => a.id < b.id) : RetM env.P 89 [some (rowL 3 Thing.cs l)] [.row 0 l.length, .fn 90 []] (fun r H => r = .tup [] ∧ H = [some (rowL 3 Thing.cs m)]) := by
 have hw : IntKind.u64.wrap (l.length : Int) = (l.length : Int) := by rw [IntKind.wrap_u64]; omega
 refine ret_ofM (nt := 14) (rvs := []) Tryz.func89 rfl rfl rfl rfl (fun X hX => ?_)
 repeat' (first | exact aa | ((conv => whnf) <;> (first | (refine .inl ⟨_, (show Ret env.P 113 [.i .u64 (IntKind.u64.wrap (l.length : Int))] _ from (by rw [hw]; exact len_ok _ ⟨by omega, by omega⟩)), ?_⟩; rintro _ ⟨z, rfl⟩) | refine And.intro ?_ ?_ | (intro _h; first | contradiction | (try simp only [dd] at _h)) | (refine dt_go ?_) | exact rfl | exact True.intro | exact dkk | exact dks | (refine .inr (.inl (.inl ⟨[0], _, _, _, pdq_ok l m hl hb hd hm hs _, viewA, ⟨rfl, rfl⟩, ?_⟩)); rintro _ _ ⟨rfl, rfl⟩; refine ⟨rfl, _, lokA, ?_⟩) | (refine wrap_succ ?_; omega))))
 all_goals (conv => whnf)
 exact endM_pick [0] [some (rowL 3 Thing.cs m)] (.tup []) (view_of rfl (.cons rfl (.self (rowPl_L fun _ => rfl)) .nil)) rfl rfl (by rw [hX]; exact keepK (n := 1) rfl rfl) ⟨rfl, rfl⟩
end Go.Proofs.YtmglpojnoadgeaaGreat
