/- Texts for VHandlesOneP. -/
import Derived.Test.YtmglpojnoadgeaaGreatVo29
namespace Go.Proofs.YtmglpojnoadgeaaGreat
open Go Go.RowKit
set_option linter.unusedVariables false
set_option linter.unusedSimpArgs false
def cutX (id : Int) (l : List Thing) : List Thing := l.filter (fun x => !idP id x)
def lastX (id : Int) (l : List Thing) : Thing := l.foldl (fun o x => if x.id = id then x else o) ⟨0, 0, 0⟩
def Shelf.cutT (s : Shelf) (id : Int) : Shelf := ⟨s.next, s.tables, cutX id s.things⟩
theorem cutX_le {id : Int} {l : List Thing} : (cutX id l).length ≤ l.length := List.length_filter_le _ _
theorem cutX_hit {id : Int} {l : List Thing} {k : Nat} (hk : k < l.length) (h : (l.getD k default).id = id) : cutX id (l.take (k + 1)) = cutX id (l.take k) := by
 have hp : (!idP id (l.getD k default)) = false := by simp only [idP, h, decide_true, Bool.not_true]
 rw [take_snoc hk]
 unfold cutX
 rw [List.filter_append]
 simp only [List.filter, hp, List.append_nil]
theorem cutX_miss {id : Int} {l : List Thing} {k : Nat} (hk : k < l.length) (h : ¬ (l.getD k default).id = id) : cutX id (l.take (k + 1)) = cutX id (l.take k) ++ [l.getD k default] := by
 have hp : (!idP id (l.getD k default)) = true := by simp only [idP, h, decide_false, Bool.not_false]
 rw [take_snoc hk]
 unfold cutX
 rw [List.filter_append]
 simp only [List.filter, hp]
theorem cutXT_le {id : Int} {l : List Thing} {i : Nat} : (cutX id (l.take i)).length ≤ l.length := by
 have h1 := cutX_le (id := id) (l := l.take i)
 rw [List.length_take] at h1
 omega
theorem lastX_hit {id : Int} {l : List Thing} {k : Nat} (hk : k < l.length) (h : (l.getD k default).id = id) : lastX id (l.take (k + 1)) = l.getD k default := by
 rw [take_snoc hk]
 unfold lastX
 rw [List.foldl_append]
 simp only [List.foldl_cons, List.foldl_nil, h, if_true]
theorem lastX_miss {id : Int} {l : List Thing} {k : Nat} (hk : k < l.length) (h : ¬ (l.getD k default).id = id) : lastX id (l.take (k + 1)) = lastX id (l.take k) := by
 rw [take_snoc hk]
 unfold lastX
 rw [List.foldl_append]
 simp only [List.foldl_cons, List.foldl_nil, h, if_false]
set_option maxRecDepth 8000 in
set_option maxHeartbeats 2000000 in
theorem l19CutThing_ok (s : Shelf) (h : s.ok) (id : Int) : RetM env.P 87 [some (boxRow s.csO)] [.ptr 0 0 0, .i .i64 id] (fun r H => r = .agg (lastX id s.things).cs ∧ H = [some (boxRow (s.cutT id).csO)]) := by
 have hl2 : s.things.length ≤ 1048576 := h.2.1
 refine ret_ofM (nt := 51) (rvs := [.cell 4 37]) Tryz.func87 rfl rfl rfl rfl (fun X hX => ?_)
 repeat' (first | exact aa | ((conv => whnf) <;> (first | (refine lw_del 9 ?_; refine loopFT (fun k : Nat => [(7, .i .i64 k), (6, .row 3 (cutX id (s.things.take k)).length)]) (fun k => [none, none, some (.box (lastX id (s.things.take k)).cs), some (.arr ⟨3, (cutX id (s.things.take k)).length, elE Thing.cs (cutX id (s.things.take k)), .arr⟩)]) (fun k => k ≤ s.things.length) (fun k => s.things.length - k) 0 ⟨Nat.zero_le _, ?_⟩) | exact arr_zero rfl rfl | exact low_cells rfl | exact capB2 (Nat.le_trans cutXT_le hl2) (by decide) | exact capN2 (Nat.le_trans cutXT_le hl2) | (refine roundET_turn (turn_close (id := 0) (i := 0) (j := 2) (id' := 4) rfl (show 0 < 1 by decide) (show 2 < 3 by decide) rfl rfl (show 0 ≠ 4 by decide) rfl (rowO_le (Nat.le_refl _))) ?_; refine roundET_turn (turn_box (id := 0) (ds := s.csO) rfl rfl rfl (.cons (.refl _) (.cons (.refl _) (.cons (.refl _) .nil)))) ?_; refine roundET_end ?_) | refine And.intro ?_ ?_ | (intro _h; first | contradiction | (try simp only [dd] at _h)) | (refine dt_go ?_) | exact rfl | exact True.intro | exact dkk | exact dks | (refine wrap_succ ?_; omega))))
 ·rename_i k _ _
  have hk : k < s.things.length := by omega
  have hc := cutX_hit (id := id) hk (by simpa using _h)
  have hx := lastX_hit (id := id) hk (by simpa using _h)
  have hlen : (cutX id (s.things.take (k + 1))).length = (cutX id (s.things.take k)).length := by rw [hc]
  refine ⟨k + 1, [], hk, (show s.things.length - (k + 1) < s.things.length - k by omega), ?_⟩
  repeat' (first | exact aa | ((conv => whnf) <;> (first | exact arr_zero rfl rfl | exact low_cells rfl | exact capB2 (Nat.le_trans cutXT_le hl2) (by decide) | exact capN2 (Nat.le_trans cutXT_le hl2) | exact rho_keep hX _h | exact hlen | exact hlen.symm | exact congrArg Thing.id hx.symm | exact congrArg Thing.res hx.symm | exact congrArg Thing.rep hx.symm | exact arr_same hc hlen.symm (fun a j => low_cells rfl) | refine And.intro ?_ ?_ | (intro _h; first | contradiction | (try simp only [dd] at _h)) | (refine dt_go ?_) | exact rfl | exact True.intro | exact dkk | exact dks | (refine wrap_succ ?_; omega))))
 ·rename_i k _ _
  have hk : k < s.things.length := by omega
  have hc := cutX_miss (id := id) hk (by simpa using _h)
  have hx := lastX_miss (id := id) hk (by simpa using _h)
  have hlen : (cutX id (s.things.take (k + 1))).length = (cutX id (s.things.take k)).length + 1 := by rw [hc, List.length_append, List.length_singleton]
  refine ⟨k + 1, [0, 1, 2, 6], hk, (show s.things.length - (k + 1) < s.things.length - k by omega), ?_⟩
  repeat' (first | exact aa | ((conv => whnf) <;> (first | exact arr_zero rfl rfl | exact low_cells rfl | exact capB2 (Nat.le_trans cutXT_le hl2) (by decide) | exact capN2 (Nat.le_trans cutXT_le hl2) | exact rho_keep hX _h | exact hlen | exact hlen.symm | exact congrArg Thing.id hx.symm | exact congrArg Thing.res hx.symm | exact congrArg Thing.rep hx.symm | exact arr_snoc hc rfl hlen.symm hlen (fun a j => low_cells rfl) (fun j hj => rfl) | refine And.intro ?_ ?_ | (intro _h; first | contradiction | (try simp only [dd] at _h)) | (refine dt_go ?_) | exact rfl | exact True.intro | exact dkk | exact dks | (refine wrap_succ ?_; omega))))
 conv => whnf
 rename_i k _
 have hk : s.things.take k = s.things := List.take_of_length_le (by omega)
 refine endM_turn (turn_close (id := 0) (i := 0) (j := 2) (id' := 3) rfl (show 0 < 1 by decide) (show 2 < 3 by decide) rfl rfl (show 0 ≠ 3 by decide) rfl (rowO_le (Nat.le_refl _))) ?_
 refine endM_turn (turn_box (id := 0) (ds := (⟨s.next, s.tables, cutX id (s.things.take k)⟩ : Shelf).csO) rfl rfl rfl (.cons (.refl _) (.cons (.refl _) (.cons (.refl _) .nil)))) ?_
 exact endM_pick [0] [some (boxRow (⟨s.next, s.tables, cutX id (s.things.take k)⟩ : Shelf).csO)] (.agg (lastX id (s.things.take k)).cs) (view_of rfl (.cons rfl (.self (rowPl_box rfl)) .nil)) rfl rfl (by rw [hX]; exact keepK (n := 1) rfl rfl) ⟨by rw [hk], by rw [hk]; rfl⟩
theorem srcOk_from {α : Type} [Inhabited α] {m sz o : Nat} {c : α → List AV} {l : List α} (h : ∀ a, (c a).all cp1 = true ∧ (c a).length = sz) : SrcOk m sz (fun i j => elE c l (o + i) j) := ⟨fun i j hi hj => (srcOk_E (m := o + m) h).h (o + i) j (by omega) hj⟩
theorem erase_at {l : List Thing} {q i : Nat} : (l.eraseIdx q).getD i default = if i < q then l.getD i default else l.getD (i + 1) default := by
 rw [List.getD_eq_getElem?_getD, List.getElem?_eraseIdx]
 split <;> rw [List.getD_eq_getElem?_getD]
def delX (q : Nat) (l : List Thing) : Nat → Nat → AV := fun i j => if i < l.length - 1 then elE Thing.cs (l.eraseIdx q) i j else [AV.i .i64 0, AV.i .i64 0, AV.i .i64 0].getD j .any
theorem delX_pl {q : Nat} {l : List Thing} {i j : Nat} : pl1 (delX q l i j) = true := by
 unfold delX
 split
 ·exact pl1_getD rfl j
 ·exact pl1_getD rfl j
theorem delX_idf {q : Nat} {l : List Thing} {i j : Nat} : (delX q l i j).idfO := by
 unfold delX
 split
 ·exact HoldC.h _ j
 ·exact (holdC_plain (c := fun _ : Unit => [AV.i .i64 0, AV.i .i64 0, AV.i .i64 0]) fun _ => rfl).h () j
theorem delX_row {q : Nat} {l : List Thing} {n : Nat} : RowPl ⟨3, n, delX q l, .arr⟩ := ⟨fun i j _ _ => delX_pl⟩
set_option maxRecDepth 8000 in
set_option maxHeartbeats 2000000 in
theorem deleteThing_ok (l : List Thing) (hl : l.length ≤ 1048576) (q : Nat) (hq : q < l.length) (j : Int) (hj : j = (q : Int) + 1) : RetM env.P 84 [some (rowL 3 Thing.cs l)] [.row 0 l.length, .i .i64 (q : Int), .i .i64 j] (fun r H => r = .row 0 (l.length - 1) ∧ H = [some ⟨3, l.length, delX q l, .arr⟩]) := by
 refine ret_ofM (nt := 33) (rvs := [.tmp 6]) Tryz.func84 rfl rfl rfl rfl (fun X hX => ?_)
 repeat' (first | exact aa | ((conv => whnf) <;> (first | refine And.intro ?_ ?_ | (intro _h; first | contradiction | (try simp only [dd] at _h)) | (refine dt_go ?_) | exact rfl | exact True.intro | exact dkk | exact dks | (refine wrap_succ ?_; omega))))
 all_goals (first | exact Int.le_refl _ | exact Int.ofNat_le.2 (Nat.le_of_lt hq) | exact srcOk_from (c := Thing.cs) (fun _ => ⟨rfl, rfl⟩) | (show _ ≤ l.length; omega) | skip)
 all_goals (conv => whnf)
 have e1 : ((q : Int)).toNat = q := rfl
 have e2 : ((l.length : Int) - j).toNat = l.length - (q + 1) := by omega
 have e3 : j.toNat = q + 1 := by omega
 refine endM_turn (turn_same (id := 0) (x := ⟨3, l.length, delX q l, .arr⟩) rfl rfl rfl rfl rfl (fun i j hi hj => ?_)) ?_
 ·have hi' : i < l.length := hi
  dsimp only
  unfold delX
  by_cases h : i < l.length - 1
  ·rw [if_pos h, segE_out (by omega)]
   unfold elE
   rw [erase_at]
   by_cases h2 : i < q
   ·rw [if_pos h2, segE_out (by omega)]; rfl
   ·rw [if_neg h2, segE_in (by omega) (by omega)]
    show _ = (Thing.cs (l.getD _ default)).getD j .any
    congr 3
    omega
  ·rw [if_neg h, segE_in (by omega) (by omega)]
   rfl
 exact endM_pick [0] [some ⟨3, l.length, delX q l, .arr⟩] (.row 0 (l.length - 1)) (view_of rfl (.cons rfl (.self delX_row) .nil)) (by rw [show l.length - 1 = q + (l.length - (q + 1)) by omega, ← e2]; rfl) rfl (by rw [hX]; exact keepK (n := 1) rfl rfl) ⟨rfl, rfl⟩
def ownP (id : Int) (e : Entry) : Bool := e.own && decide (e.id = id)
def killT (l : List Entry) (t : List Thing) : List Thing := t.flatMap fun x => (l.filter (ownP x.id)).map fun _ => x
def killK (l : List Entry) (t : List Thing) (i k : Nat) : List Thing := killT l (t.take i) ++ ((l.take k).filter (ownP (t.getD i default).id)).map fun _ => t.getD i default
theorem killK_zero {l : List Entry} {t : List Thing} {i : Nat} : killK l t i 0 = killT l (t.take i) := by
 unfold killK
 rw [List.take_zero, List.filter_nil, List.map_nil, List.append_nil]
theorem killK_hit {l : List Entry} {t : List Thing} {i k : Nat} (hk : k < l.length) (ho : (l.getD k default).own = true) (h : (l.getD k default).id = (t.getD i default).id) : killK l t i (k + 1) = killK l t i k ++ [t.getD i default] := by
 have hp : ownP (t.getD i default).id (l.getD k default) = true := by unfold ownP; rw [ho, h]; simp
 unfold killK
 rw [take_snoc hk, List.filter_append, List.map_append, List.append_assoc]
 simp only [List.filter, hp, List.map_cons, List.map_nil]
theorem killK_miss {l : List Entry} {t : List Thing} {i k : Nat} (hk : k < l.length) (h : ¬ ((l.getD k default).own = true ∧ (l.getD k default).id = (t.getD i default).id)) : killK l t i (k + 1) = killK l t i k := by
 have hp : ownP (t.getD i default).id (l.getD k default) = false := by
  unfold ownP
  cases ho : (l.getD k default).own with
  | false => rfl
  | true =>
   rw [Bool.true_and, decide_eq_false_iff_not]
   exact fun q => h ⟨ho, q⟩
 unfold killK
 rw [take_snoc hk, List.filter_append, List.map_append]
 simp only [List.filter, hp, List.map_nil, List.append_nil]
theorem killK_end {l : List Entry} {t : List Thing} {i k : Nat} (hi : i < t.length) (hk : ¬ k < l.length) : killK l t i k = killT l (t.take (i + 1)) := by
 unfold killK
 rw [List.take_of_length_le (l := l) (by omega), take_snoc hi]
 unfold killT
 rw [List.flatMap_append]
 simp only [List.flatMap_cons, List.flatMap_nil, List.append_nil]
theorem killT_le {l : List Entry} : ∀ t : List Thing, (killT l t).length ≤ t.length * l.length
 | [] => Nat.zero_le _
 | x :: t => by
  have h1 := killT_le (l := l) t
  have h2 : (l.filter (ownP x.id)).length ≤ l.length := List.length_filter_le _ _
  unfold killT at *
  rw [List.flatMap_cons, List.length_append, List.length_map, List.length_cons, Nat.succ_mul]
  omega
theorem killK_le {l : List Entry} {t : List Thing} {i k : Nat} (hl : l.length ≤ 1000) (ht : t.length ≤ 1000) : (killK l t i k).length ≤ 1048576 := by
 have h1 := killT_le (l := l) (t.take i)
 have h2 : ((l.take k).filter (ownP (t.getD i default).id)).length ≤ (l.take k).length := List.length_filter_le _ _
 have h3 : (l.take k).length ≤ l.length := by rw [List.length_take]; omega
 have h4 : (t.take i).length ≤ t.length := by rw [List.length_take]; omega
 have h5 : (t.take i).length * l.length ≤ 1000 * 1000 := Nat.mul_le_mul (by omega) hl
 unfold killK
 rw [List.length_append, List.length_map]
 omega
def Shelf.cutTs (s : Shelf) (L : List Thing) : Shelf := L.foldl (fun s x => s.cutT x.id) s
theorem cutTs_succ {s : Shelf} {L : List Thing} {k : Nat} (hk : k < L.length) : s.cutTs (L.take (k + 1)) = (s.cutTs (L.take k)).cutT (L.getD k default).id := by
 rw [take_snoc hk]
 unfold Shelf.cutTs
 rw [List.foldl_append]
 rfl
theorem cutT_ok {s : Shelf} (h : s.ok) {id : Int} : (s.cutT id).ok := ⟨h.1, Nat.le_trans cutX_le h.2.1, fun k hk => trivial⟩
theorem cutTs_ok {s : Shelf} (h : s.ok) : ∀ L : List Thing, (s.cutTs L).ok := fun L => by
 induction L generalizing s with
 | nil => exact h
 | cons x L ih => exact ih (cutT_ok h)
def kiK (w : Nat) : Nat → Entry → Bool := fun i _ => !decide (i = w)
def cutXs (L t : List Thing) : List Thing := L.foldl (fun t x => cutX x.id t) t
theorem cutTs_eq {L : List Thing} : ∀ {s : Shelf}, s.cutTs L = ⟨s.next, s.tables, cutXs L s.things⟩ := by
 induction L with
 | nil => intro s; rfl
 | cons x L ih => intro s; exact ih
theorem cutXs_eq {L : List Thing} : ∀ {t : List Thing}, cutXs L t = t.filter fun x => !(L.any fun y => idP y.id x) := by
 induction L with
 | nil =>
  intro t
  show t = _
  simp only [List.any_nil, Bool.not_false]
  exact (List.filter_eq_self.2 fun _ _ => rfl).symm
 | cons y L ih =>
  intro t
  show cutXs L (cutX y.id t) = _
  rw [ih]
  unfold cutX
  rw [List.filter_filter]
  congr 1
  funext x
  rw [List.any_cons, Bool.not_or, Bool.and_comm]
def Shelf.dead (s : Shelf) (w : Nat) : List Thing := killT (s.tables.getD w default).entries s.things
def Shelf.bared (s : Shelf) (w : Nat) : Shelf := ⟨s.next, s.tables, cutXs (s.dead w) s.things⟩
theorem bared_ok {s : Shelf} (h : s.ok) {w : Nat} : (s.bared w).ok := by
 have := cutTs_ok h (s.dead w)
 rw [cutTs_eq] at this
 exact this
theorem kill_keep {s : Shelf} {w : Nat} (hw : w < s.tables.length) : (s.setE w []).cutTs (s.dead w) = (s.bared w).keep (kiK w) := by
 rw [cutTs_eq]
 refine shelf_ext rfl rfl (setE_len.trans keep_len.symm) fun i hi => ?_
 rw [keep_tab]
 show (s.setE w []).tables.getD i default = ⟨(s.tables.getD i default).next, (s.tables.getD i default).entries.filter (kiK w i)⟩
 rw [setE_at hw]
 by_cases e : i = w
 ·subst e
  rw [if_pos rfl]
  have : (s.tables.getD i default).entries.filter (kiK i i) = [] := List.filter_eq_nil_iff.2 fun a _ => by simp [kiK]
  rw [this]
 ·rw [if_neg e]
  have : (s.tables.getD i default).entries.filter (kiK w i) = (s.tables.getD i default).entries := List.filter_eq_self.2 fun a _ => by simp [kiK, e]
  rw [this]
noncomputable def Shelf.killed (s : Shelf) (w : Nat) : Shelf := ((s.bared w).keep ((s.bared w).fixK (kiK w))).relend
theorem fix_orig {s : Shelf} {K0 K : Nat → Entry → Bool} {T : List Thing} (hF : (⟨s.next, s.tables, T⟩ : Shelf).Fix K0 K) : ∀ i, i < s.tables.length → ∀ e ∈ s.en i, K i e = true → e.own = false → ∃ x, s.at_ e.from_ e.fromNum = some x ∧ K e.from_.toNat x = true := by
 intro i hi e he hK ho
 obtain ⟨k, hk⟩ := List.getElem?_of_mem he
 have hkl := (List.getElem?_eq_some_iff.1 hk).1
 have hke : (s.tables.getD i default).entries.getD k default = e := by rw [List.getD_eq_getElem?_getD, hk]; rfl
 have hl := hF.fix i k hi hkl (by show K i ((s.tables.getD i default).entries.getD k default) = true; rw [hke]; exact hK)
 have hl' : (⟨s.next, s.tables, T⟩ : Shelf).Live K0 e := by rw [← hke]; exact hl
 cases hl' with
 | own q => rw [ho] at q; cases q
 | @lent e x ha hx0 hx =>
  refine ⟨x, ha, ?_⟩
  obtain ⟨h1, h2, j, h3, h4⟩ := at_in ha
  have := hF.cut.live _ j h1 h3 (by rw [h4]; exact hx0) (by rw [h4]; exact hx)
  rw [h4] at this
  exact this
theorem fix_own {s : Shelf} {K0 K : Nat → Entry → Bool} {T : List Thing} (hF : (⟨s.next, s.tables, T⟩ : Shelf).Fix K0 K) {i : Nat} (hi : i < s.tables.length) {e : Entry} (he : e ∈ s.en i) (ho : e.own = true) (h0 : K0 i e = true) : K i e = true := by
 obtain ⟨k, hk⟩ := List.getElem?_of_mem he
 have hkl := (List.getElem?_eq_some_iff.1 hk).1
 have hke : (s.tables.getD i default).entries.getD k default = e := by rw [List.getD_eq_getElem?_getD, hk]; rfl
 have := hF.cut.live i k hi hkl (by show K0 i ((s.tables.getD i default).entries.getD k default) = true; rw [hke]; exact h0) (by show (⟨s.next, s.tables, T⟩ : Shelf).Live K0 ((s.tables.getD i default).entries.getD k default); rw [hke]; exact .own ho)
 rw [← hke]
 exact this
theorem end_good {s : Shelf} (h : s.good) {K0 : Nat → Entry → Bool} (h0 : ∀ i e, e.own = true → K0 i e = true) : (s.keep (s.fixK K0)).relend.good := by
 have hH := (good_H h).1
 have hF : (⟨s.next, s.tables, s.things⟩ : Shelf).Fix K0 (s.fixK K0) := fixK_fix s _
 exact relend_good (keep_H hH (List.Sublist.refl _) (fix_orig hF) (fun i hi e he _ => hH.thing i hi e he) fun x _ i hi e he ho _ => fix_own hF hi he ho (h0 i e ho))
theorem root {s : Shelf} {K : Nat → Entry → Bool} (ho : ∀ i, i < s.tables.length → ∀ e ∈ s.en i, K i e = true → e.own = false → ∃ x, s.at_ e.from_ e.fromNum = some x ∧ K e.from_.toNat x = true) :
  ∀ (n i : Nat) (e : Entry), i < s.tables.length → e ∈ s.en i → K i e = true → s.sEnds n e = true → ∃ j o, j < s.tables.length ∧ o ∈ s.en j ∧ K j o = true ∧ o.own = true ∧ o.id = e.id := by
 intro n
 induction n with
 | zero => intro i e _ _ _ q; cases q
 | succ n ih =>
  intro i e hi he hKe q
  cases hoe : e.own with
  | true => exact ⟨i, e, hi, he, hKe, hoe, rfl⟩
  | false =>
   obtain ⟨x, hx, hKx⟩ := ho i hi e he hKe hoe
   obtain ⟨h1, h2, k, h3, h4⟩ := at_in hx
   by_cases hid : x.id = e.id
   ·rw [Shelf.sEnds_on hoe hx hid] at q
    obtain ⟨j, o, a1, a2, a3, a4, a5⟩ := ih _ x h1 (h4 ▸ getD_mem h3) hKx q
    exact ⟨j, o, a1, a2, a3, a4, a5.trans hid⟩
   ·rw [Shelf.sEnds_id hoe hx hid] at q; cases q
theorem sum_one {f : Nat → Nat} {n j : Nat} (hj : j < n) : f j ≤ ((List.range n).map f).sum := by
 induction n with
 | zero => omega
 | succ n ih =>
  rw [List.range_succ, List.map_append, List.sum_append]
  simp only [List.map_cons, List.map_nil, List.sum_cons, List.sum_nil]
  by_cases e : j = n
  ·subst e; omega
  ·have := ih (by omega); omega
theorem sum_two {f : Nat → Nat} {n j w : Nat} (hj : j < n) (hw : w < n) (h : j ≠ w) : f j + f w ≤ ((List.range n).map f).sum := by
 induction n with
 | zero => omega
 | succ n ih =>
  rw [List.range_succ, List.map_append, List.sum_append]
  simp only [List.map_cons, List.map_nil, List.sum_cons, List.sum_nil]
  by_cases e : j = n
  ·subst e
   have := sum_one (f := f) (show w < j by omega)
   omega
  ·by_cases e2 : w = n
   ·subst e2
    have := sum_one (f := f) (show j < w by omega)
    omega
   ·have := ih (by omega) (by omega); omega
theorem one_owner {s : Shelf} (h : s.H) {x : Thing} (hx : x ∈ s.things) {j w : Nat} (hj : j < s.tables.length) (hw : w < s.tables.length) {o o' : Entry} (ho : o ∈ s.en j) (ho' : o' ∈ s.en w) (h1 : o.own = true ∧ o.id = x.id) (h2 : o'.own = true ∧ o'.id = x.id) : j = w := by
 refine Decidable.byContradiction fun e => ?_
 have h3 := h.own x hx
 rw [all_count] at h3
 have := sum_two (f := fun i => (s.en i).countP (owsP x.id)) hj hw e
 have p1 : 0 < (s.en j).countP (owsP x.id) := List.countP_pos_iff.2 ⟨o, ho, by unfold owsP; rw [h1.1, h1.2]; simp⟩
 have p2 : 0 < (s.en w).countP (owsP x.id) := List.countP_pos_iff.2 ⟨o', ho', by unfold owsP; rw [h2.1, h2.2]; simp⟩
 omega
theorem mem_dead {s : Shelf} {w : Nat} {y : Thing} : y ∈ s.dead w ↔ y ∈ s.things ∧ ∃ e ∈ s.en w, e.own = true ∧ e.id = y.id := by
 unfold Shelf.dead killT
 rw [List.mem_flatMap]
 constructor
 ·rintro ⟨x, hx, hy⟩
  rw [List.mem_map] at hy
  obtain ⟨e, he, rfl⟩ := hy
  rw [List.mem_filter] at he
  have h2 := he.2
  unfold ownP at h2
  rw [Bool.and_eq_true, decide_eq_true_eq] at h2
  exact ⟨hx, e, he.1, h2⟩
 ·rintro ⟨hy, e, he, h1, h2⟩
  exact ⟨y, hy, List.mem_map.2 ⟨e, List.mem_filter.2 ⟨he, by unfold ownP; rw [h1, h2]; simp⟩, rfl⟩⟩
theorem mem_left {s : Shelf} {w : Nat} {x : Thing} : x ∈ cutXs (s.dead w) s.things ↔ x ∈ s.things ∧ ∀ y ∈ s.dead w, ¬ x.id = y.id := by
 rw [cutXs_eq, List.mem_filter, Bool.not_eq_true', List.any_eq_false]
 simp only [idP, decide_eq_true_eq]
theorem killed_good {s : Shelf} (h : s.good) {w : Nat} (hw : w < s.tables.length) : (s.killed w).good := by
 have hH := (good_H h).1
 have hF : (⟨s.next, s.tables, cutXs (s.dead w) s.things⟩ : Shelf).Fix (kiK w) ((s.bared w).fixK (kiK w)) := fixK_fix (s.bared w) _
 have hO := fix_orig hF
 have h0 : ∀ j o, (s.bared w).fixK (kiK w) j o = true → j ≠ w := fun j o q => by
  have := hF.cut.sub j o q
  simpa [kiK] using this
 refine relend_good (keep_H hH (by rw [cutXs_eq]; exact List.filter_sublist) hO (fun i hi e he hK => ?_) fun x hx i hi e he ho hid => ?_)
 ·obtain ⟨n, hn⟩ := hH.ends i hi e he
  obtain ⟨j, o, a1, a2, a3, a4, a5⟩ := root hO n i e hi he hK hn
  obtain ⟨x, hx, hxe⟩ := hH.thing i hi e he
  refine ⟨x, mem_left.2 ⟨hx, fun y hy e2 => ?_⟩, hxe⟩
  obtain ⟨_, o', b2, b3, b4⟩ := mem_dead.1 hy
  exact h0 j o a3 (one_owner hH hx a1 hw a2 b2 ⟨a4, by rw [a5, hxe]⟩ ⟨b3, by rw [b4, e2]⟩)
 ·have hx' := mem_left.1 hx
  refine fix_own hF hi he ho ?_
  unfold kiK
  rw [Bool.not_eq_true', decide_eq_false_iff_not]
  rintro rfl
  exact hx'.2 x (mem_dead.2 ⟨hx'.1, e, he, ho, hid⟩) rfl
structure Shelf.H0 (s : Shelf) : Prop where
 nx : 1 ≤ s.next ∧ s.next ≤ 1000000
 tb : 1 ≤ s.tables.length ∧ s.tables.length ≤ 7
 ids : s.things.Pairwise fun a b => a.id < b.id
 fine : ∀ x ∈ s.things, 0 < x.id ∧ x.fine s.next
 tl : s.things.length ≤ 24
 nums : ∀ i, i < s.tables.length → (s.en i).Pairwise fun a b => a.num < b.num
 num : ∀ i, i < s.tables.length → ∀ e ∈ s.en i, 0 < e.num ∧ e.num < (s.tables.getD i default).next
 tn : ∀ i, i < s.tables.length → (1 ≤ (s.tables.getD i default).next ∧ (s.tables.getD i default).next ≤ 1000000) ∧ (s.en i).length ≤ 12
 thing : ∀ i, i < s.tables.length → ∀ e ∈ s.en i, ∃ x ∈ s.things, x.id = e.id
 plain : ∀ i, i < s.tables.length → ∀ e ∈ s.en i, e.plain
 ends : ∀ i, i < s.tables.length → ∀ e ∈ s.en i, ∃ n, s.sEnds n e = true
theorem Shelf.H.h0 {s : Shelf} (h : s.H) : s.H0 := ⟨h.nx, h.tb, h.ids, h.fine, h.tl, h.nums, h.num, h.tn, h.thing, h.plain, h.ends⟩
theorem Shelf.H0.full {s : Shelf} (h : s.H0) (ho : ∀ x ∈ s.things, s.all.countP (owsP x.id) = 1) : s.H := ⟨h.nx, h.tb, h.ids, h.fine, h.tl, h.nums, h.num, h.tn, h.thing, h.plain, h.ends, ho⟩
theorem keep_H0 {s : Shelf} (h : s.H0) {K : Nat → Entry → Bool} {T : List Thing} (hT : T.Sublist s.things)
  (ho : ∀ i, i < s.tables.length → ∀ e ∈ s.en i, K i e = true → e.own = false → ∃ x, s.at_ e.from_ e.fromNum = some x ∧ K e.from_.toNat x = true)
  (ht : ∀ i, i < s.tables.length → ∀ e ∈ s.en i, K i e = true → ∃ x ∈ T, x.id = e.id) : ((⟨s.next, s.tables, T⟩ : Shelf).keep K).H0 := by
 have hlen : ((⟨s.next, s.tables, T⟩ : Shelf).keep K).tables.length = s.tables.length := keep_len
 have hen : ∀ i, ((⟨s.next, s.tables, T⟩ : Shelf).keep K).en i = (s.en i).filter (K i) := fun i => by unfold Shelf.en; rw [keep_tab]
 have htn : ∀ i, (((⟨s.next, s.tables, T⟩ : Shelf).keep K).tables.getD i default).next = (s.tables.getD i default).next := fun i => by rw [keep_tab]
 have hmem : ∀ {i e}, e ∈ ((⟨s.next, s.tables, T⟩ : Shelf).keep K).en i → e ∈ s.en i ∧ K i e = true := fun {i e} he => by rw [hen] at he; exact List.mem_filter.1 he
 have hu : ∀ i, uniq ((⟨s.next, s.tables, T⟩ : Shelf).tables.getD i default).entries := fun i => by
  show uniq (s.tables.getD i default).entries
  by_cases hi : i < s.tables.length
  ·intro a b ha hb e
   have := h.nums i hi
   rw [List.pairwise_iff_getElem] at this
   have hlt : ∀ {a b}, a < b → b < (s.en i).length → ((s.en i).getD a default).num < ((s.en i).getD b default).num := fun {a b} hab hb => by
    have := this a b (by omega) hb hab
    rw [List.getD_eq_getElem?_getD, List.getElem?_eq_getElem (by omega), List.getD_eq_getElem?_getD, List.getElem?_eq_getElem hb]
    exact this
   rcases Nat.lt_trichotomy a b with q | q | q
   ·have := hlt q hb; unfold Shelf.en at this; omega
   ·exact q
   ·have := hlt q ha; unfold Shelf.en at this; omega
  ·rw [List.getD_eq_getElem?_getD, List.getElem?_eq_none (by omega)]
   intro a b ha; cases ha
 have hE : ∀ (n : Nat) (i : Nat) (e : Entry), i < s.tables.length → e ∈ s.en i → K i e = true → s.sEnds n e = true → ((⟨s.next, s.tables, T⟩ : Shelf).keep K).sEnds n e = true := by
  intro n
  induction n with
  | zero => intro i e _ _ _ q; cases q
  | succ n ih =>
   intro i e hi he hKe q
   cases hoe : e.own with
   | true => exact Shelf.sEnds_own hoe
   | false =>
    obtain ⟨x, hx, hKx⟩ := ho i hi e he hKe hoe
    have hx' : ((⟨s.next, s.tables, T⟩ : Shelf).keep K).orig e = some x := by
     unfold Shelf.orig
     rw [keep_at hu, show (⟨s.next, s.tables, T⟩ : Shelf).at_ e.from_ e.fromNum = s.at_ e.from_ e.fromNum from rfl, hx]
     simp only [Option.filter, hKx, if_true]
    obtain ⟨h1, h2, k, h3, h4⟩ := at_in hx
    by_cases hid : x.id = e.id
    ·rw [Shelf.sEnds_on hoe hx hid] at q
     rw [Shelf.sEnds_on hoe hx' hid]
     exact ih _ x h1 (h4 ▸ getD_mem h3) hKx q
    ·rw [Shelf.sEnds_id hoe hx hid] at q; cases q
 refine ⟨h.nx, hlen ▸ h.tb, h.ids.sublist hT, fun x hx => h.fine x (hT.subset hx), Nat.le_trans hT.length_le h.tl, fun i hi => ?_, fun i hi e he => ?_, fun i hi => ?_, fun i hi e he => ht i (hlen ▸ hi) e (hmem he).1 (hmem he).2, fun i hi e he => h.plain i (hlen ▸ hi) e (hmem he).1, fun i hi e he => ?_⟩
 ·rw [hen]; exact (h.nums i (hlen ▸ hi)).sublist List.filter_sublist
 ·rw [htn]; exact h.num i (hlen ▸ hi) e (hmem he).1
 ·rw [htn, hen]
  have := h.tn i (hlen ▸ hi)
  exact ⟨this.1, Nat.le_trans (List.length_filter_le _ _) this.2⟩
 ·obtain ⟨n, hn⟩ := h.ends i (hlen ▸ hi) e (hmem he).1
  exact ⟨n, hE n i e (hlen ▸ hi) (hmem he).1 (hmem he).2 hn⟩
theorem put_len2 {s : Shelf} {w : Nat} {e : Entry} : (s.put w e).tables.length = s.tables.length := List.length_set
theorem put_tab2 {s : Shelf} {w i : Nat} {e : Entry} (hw : w < s.tables.length) : (s.put w e).tables.getD i default = if i = w then (s.tables.getD w default).put e else s.tables.getD i default := getD_set hw
theorem put_en {s : Shelf} {w i : Nat} {e : Entry} (hw : w < s.tables.length) : (s.put w e).en i = if i = w then s.en w ++ [{ e with num := (s.tables.getD w default).next }] else s.en i := by
 unfold Shelf.en
 rw [put_tab2 hw]
 split <;> rfl
theorem put_at {s : Shelf} {w : Nat} {e x : Entry} (hw : w < s.tables.length) {a b : Int} (h : s.at_ a b = some x) : (s.put w e).at_ a b = some x := by
 rw [at_eq] at h ⊢
 have hT : (s.put w e).isT a = s.isT a := by unfold Shelf.isT; rw [put_len2]
 rw [hT]
 split at h
 ·rename_i ht
  rw [if_pos ht]
  have := put_en (s := s) (e := e) (i := a.toNat) hw
  unfold Shelf.en at this
  rw [this]
  split
  ·rename_i q
   rw [q] at h
   rw [List.find?_append, h]
   rfl
  ·exact h
 ·cases h
theorem put_sEnds {s : Shelf} {w : Nat} {e : Entry} (hw : w < s.tables.length) : ∀ (n : Nat) (x : Entry), s.sEnds n x = true → (s.put w e).sEnds n x = true
 | 0, _, h => by cases h
 | n + 1, x, h => by
  cases ho : x.own with
  | true => exact Shelf.sEnds_own ho
  | false =>
   cases hx : s.orig x with
   | none => rw [Shelf.sEnds_none ho hx] at h; cases h
   | some y =>
    by_cases hi : y.id = x.id
    ·rw [Shelf.sEnds_on ho hx hi] at h
     rw [Shelf.sEnds_on ho (put_at hw hx) hi]
     exact put_sEnds hw n y h
    ·rw [Shelf.sEnds_id ho hx hi] at h; cases h
theorem put_H0 {s : Shelf} (h : s.H0) {w : Nat} (hw : w < s.tables.length) {e : Entry} (hf : ¬ s.fullB w) (ht : ∃ x ∈ s.things, x.id = e.id) (hp : e.plain) (hb : e.own = false → ∃ x n, s.at_ e.from_ e.fromNum = some x ∧ x.id = e.id ∧ s.sEnds n x = true) : (s.put w e).H0 := by
 have hf1 : (s.en w).length < 12 := by unfold Shelf.fullB at hf; unfold Shelf.en; omega
 have hf2 : (s.tables.getD w default).next < 1000000 := by unfold Shelf.fullB at hf; omega
 have hlen : (s.put w e).tables.length = s.tables.length := put_len2
 have hnx : ∀ i, i < s.tables.length → (s.tables.getD i default).next ≤ ((s.put w e).tables.getD i default).next := fun i hi => by
  rw [put_tab2 hw]
  split
  ·rename_i q; subst q; show _ ≤ (s.tables.getD i default).next + 1; omega
  ·exact Int.le_refl _
 have mem : ∀ {P : Nat → Entry → Prop}, (∀ i, i < s.tables.length → ∀ x ∈ s.en i, P i x) → P w { e with num := (s.tables.getD w default).next } → ∀ i, i < (s.put w e).tables.length → ∀ x ∈ (s.put w e).en i, P i x := by
  intro P h1 h2 i hi x hx
  rw [put_en hw] at hx
  split at hx
  ·rename_i q
   subst q
   rcases List.mem_append.1 hx with q | q
   ·exact h1 _ hw x q
   ·rw [List.mem_singleton] at q; subst q; exact h2
  ·exact h1 i (hlen ▸ hi) x hx
 refine ⟨h.nx, hlen ▸ h.tb, h.ids, h.fine, h.tl, fun i hi => ?_, mem (P := fun i x => 0 < x.num ∧ x.num < ((s.put w e).tables.getD i default).next) (fun i hi x hx => ?_) ?_, fun i hi => ?_, mem (P := fun i x => ∃ y ∈ s.things, y.id = x.id) h.thing ht, mem (P := fun i x => x.plain) h.plain hp, mem (P := fun i x => ∃ n, (s.put w e).sEnds n x = true) (fun i hi x hx => ?_) ?_⟩
 ·rw [put_en hw]
  split
  ·rw [List.pairwise_append]
   refine ⟨h.nums w hw, List.pairwise_singleton _ _, fun a ha b hb => ?_⟩
   rw [List.mem_singleton] at hb
   subst hb
   exact (h.num w hw a ha).2
  ·exact h.nums i (hlen ▸ hi)
 ·have h1 := h.num i hi x hx
  have h2 := hnx i hi
  exact ⟨h1.1, by omega⟩
 ·rw [put_tab2 hw, if_pos rfl]
  have h1 := (h.tn w hw).1.1
  exact ⟨by show 0 < (s.tables.getD w default).next; omega, by show (s.tables.getD w default).next < (s.tables.getD w default).next + 1; omega⟩
 ·have h1 := h.tn w hw
  rw [put_tab2 hw, put_en hw]
  split
  ·refine ⟨⟨by show 1 ≤ (s.tables.getD w default).next + 1; omega, by show (s.tables.getD w default).next + 1 ≤ 1000000; omega⟩, ?_⟩
   rw [List.length_append, List.length_singleton]
   omega
  ·exact h.tn i (hlen ▸ hi)
 ·obtain ⟨n, hn⟩ := h.ends i hi x hx
  exact ⟨n, put_sEnds hw n x hn⟩
 ·rcases Bool.eq_false_or_eq_true e.own with ho | ho
  ·exact ⟨1, Shelf.sEnds_own ho⟩
  ·obtain ⟨x, n, h1, h2, h3⟩ := hb ho
   exact ⟨n + 1, by rw [Shelf.sEnds_on (show ({ e with num := (s.tables.getD w default).next } : Entry).own = false from ho) (show (s.put w e).orig { e with num := (s.tables.getD w default).next } = some x from put_at hw h1) h2]; exact put_sEnds hw n x h3⟩
theorem sum_upd {f g : Nat → Nat} {w : Nat} : ∀ {n : Nat}, w < n → (∀ i, i < n → i ≠ w → g i = f i) → ((List.range n).map g).sum + f w = ((List.range n).map f).sum + g w := by
 intro n
 induction n with
 | zero => intro h; omega
 | succ n ih =>
  intro hw h
  rw [List.range_succ, List.map_append, List.sum_append, List.map_append, List.sum_append]
  simp only [List.map_cons, List.map_nil, List.sum_cons, List.sum_nil]
  by_cases e : w = n
  ·subst e
   have : (List.range w).map g = (List.range w).map f := List.map_congr_left fun i hi => h i (by have := List.mem_range.1 hi; omega) (by have := List.mem_range.1 hi; omega)
   rw [this]
   omega
  ·have h1 := ih (by omega) fun i hi => h i (by omega)
   have h2 := h n (by omega) (by omega)
   omega
theorem count_one {s s' : Shelf} (hl : s'.tables.length = s.tables.length) {w : Nat} (hw : w < s.tables.length) (h : ∀ i, i < s.tables.length → i ≠ w → s'.en i = s.en i) {p : Entry → Bool} : s'.all.countP p + (s.en w).countP p = s.all.countP p + (s'.en w).countP p := by
 rw [all_count, all_count, hl]
 exact sum_upd (f := fun i => (s.en i).countP p) (g := fun i => (s'.en i).countP p) hw fun i hi hne => by rw [h i hi hne]
theorem put_count {s : Shelf} {w : Nat} {e : Entry} (hw : w < s.tables.length) {p : Entry → Bool} : (s.put w e).all.countP p = s.all.countP p + (if p { e with num := (s.tables.getD w default).next } = true then 1 else 0) := by
 have := count_one (s := s) (s' := s.put w e) put_len2 hw (fun i hi hne => by rw [put_en hw, if_neg hne]) (p := p)
 rw [put_en hw, if_pos rfl, List.countP_append, List.countP_singleton] at this
 omega
theorem sEnds_any {s : Shelf} {m : Int} {T : List Thing} : ∀ (n : Nat) (e : Entry), (⟨m, s.tables, T⟩ : Shelf).sEnds n e = s.sEnds n e
 | 0, _ => rfl
 | n + 1, e => by
  cases ho : e.own with
  | true => rw [Shelf.sEnds_own ho, Shelf.sEnds_own ho]
  | false =>
   cases hx : s.orig e with
   | none => rw [Shelf.sEnds_none ho hx, Shelf.sEnds_none ho (show (⟨m, s.tables, T⟩ : Shelf).orig e = none from hx)]
   | some x =>
    have hx' : (⟨m, s.tables, T⟩ : Shelf).orig e = some x := hx
    by_cases hi : x.id = e.id
    ·rw [Shelf.sEnds_on ho hx hi, Shelf.sEnds_on ho hx' hi, sEnds_any n x]
    ·rw [Shelf.sEnds_id ho hx hi, Shelf.sEnds_id ho hx' hi]
theorem plus_H0 {s : Shelf} (h : s.H0) {res rep : Int} (hl : s.things.length < 24) (hn : s.next < 1000000) (hr : 1 ≤ res ∧ res ≤ 8) (hp : 0 ≤ rep ∧ rep ≤ 2147483647) : (s.plus res rep).H0 := by
 refine ⟨⟨by show 1 ≤ s.next + 1; have := h.nx; omega, by show s.next + 1 ≤ 1000000; omega⟩, h.tb, ?_, fun x hx => ?_, ?_, h.nums, h.num, h.tn, fun i hi e he => ?_, h.plain, fun i hi e he => ?_⟩
 ·show (s.things ++ [_]).Pairwise _
  rw [List.pairwise_append]
  refine ⟨h.ids, List.pairwise_singleton _ _, fun a ha b hb => ?_⟩
  rw [List.mem_singleton] at hb
  subst hb
  exact (h.fine a ha).2.1
 ·have hx' : x ∈ s.things ++ [⟨s.next, res, rep⟩] := hx
  rcases List.mem_append.1 hx' with q | q
  ·have := h.fine x q
   exact ⟨this.1, by show x.id < s.next + 1; have := this.2.1; omega, this.2.2⟩
  ·rw [List.mem_singleton] at q
   subst q
   exact ⟨by show 0 < s.next; have := h.nx; omega, by show s.next < s.next + 1; omega, hr, hp⟩
 ·show (s.things ++ [_]).length ≤ 24
  rw [List.length_append, List.length_singleton]
  omega
 ·obtain ⟨x, hx, hxe⟩ := h.thing i hi e he
  exact ⟨x, List.mem_append_left _ hx, hxe⟩
 ·obtain ⟨n, hn⟩ := h.ends i hi e he
  exact ⟨n, (sEnds_any n e).trans hn⟩
theorem count_zero {s : Shelf} (h : s.H0) {p : Entry → Bool} (hp : ∀ i, i < s.tables.length → ∀ e ∈ s.en i, p e = false) : s.all.countP p = 0 := by
 rw [List.countP_eq_zero]
 intro e he
 obtain ⟨t, ht, het⟩ := List.mem_flatMap.1 he
 obtain ⟨i, hi⟩ := List.getElem?_of_mem ht
 have hil := (List.getElem?_eq_some_iff.1 hi).1
 rw [hp i hil e (by unfold Shelf.en; rw [List.getD_eq_getElem?_getD, hi]; exact het)]
 decide
theorem orig_there {s : Shelf} (h : s.H0) {i : Nat} (hi : i < s.tables.length) {e : Entry} (he : e ∈ s.en i) (ho : e.own = false) : ∃ x n, s.at_ e.from_ e.fromNum = some x ∧ x.id = e.id ∧ s.sEnds n x = true := by
 obtain ⟨n, hn⟩ := h.ends i hi e he
 cases n with
 | zero => cases hn
 | succ n =>
  cases hx : s.orig e with
  | none => rw [Shelf.sEnds_none ho hx] at hn; cases hn
  | some x =>
   by_cases hid : x.id = e.id
   ·rw [Shelf.sEnds_on ho hx hid] at hn
    exact ⟨x, n, hx, hid, hn⟩
   ·rw [Shelf.sEnds_id ho hx hid] at hn; cases hn
theorem fresh_none {s : Shelf} (h : s.H0) {w : Nat} (hw : w < s.tables.length) : s.all.countP (borP w (s.tables.getD w default).next) = 0 := by
 refine count_zero h fun i hi e he => ?_
 cases ho : e.own with
 | true => unfold borP; rw [ho]; rfl
 | false =>
  unfold borP
  rw [ho, Bool.not_false, Bool.true_and, decide_eq_false_iff_not]
  rintro ⟨h1, h2⟩
  obtain ⟨x, _, hx, _, _⟩ := orig_there h hi he ho
  obtain ⟨a1, a2, k, a3, a4⟩ := at_in hx
  rw [h1, Int.toNat_natCast] at a3 a4
  have := (h.num w hw x (a4 ▸ getD_mem a3)).2
  omega
theorem put_Lds {s : Shelf} (h : s.H0) (hl : s.Lds) {w : Nat} (hw : w < s.tables.length) {e : Entry} (ho : e.own = true) (h0 : e.lends = 0) : (s.put w e).Lds := by
 have hc : ∀ a b, (s.put w e).all.countP (borP a b) = s.all.countP (borP a b) := fun a b => by
  rw [put_count hw]
  have : borP a b { e with num := (s.tables.getD w default).next } = false := by unfold borP; rw [show ({ e with num := (s.tables.getD w default).next } : Entry).own = true from ho]; rfl
  rw [this, if_neg (by decide)]
  omega
 intro i hi x hx
 rw [hc]
 rw [put_en hw] at hx
 split at hx
 ·rename_i q
  subst q
  rcases List.mem_append.1 hx with q | q
  ·exact hl _ hw x q
  ·rw [List.mem_singleton] at q
   subst q
   show e.lends = (s.all.countP (borP i (s.tables.getD i default).next) : Int)
   rw [fresh_none h hw, h0]
   rfl
 ·exact hl i (put_len2 ▸ hi) x hx
theorem made_good {s : Shelf} (h : s.good) {w : Nat} (hw : w < s.tables.length) {res rep : Int} (hl : s.things.length < 24) (hn : s.next < 1000000) (hf : ¬ s.fullB w) (hr : 1 ≤ res ∧ res ≤ 8) (hp : 0 ≤ rep ∧ rep ≤ 2147483647) : (s.made w res rep).good := by
 obtain ⟨hH, hL⟩ := good_H h
 have h1 := plus_H0 hH.h0 hl hn hr hp
 have hLp : (s.plus res rep).Lds := hL
 have h2 : (s.made w res rep).H0 := put_H0 h1 hw hf ⟨⟨s.next, res, rep⟩, List.mem_append_right _ (List.mem_singleton.2 rfl), rfl⟩ ⟨rfl, rfl, rfl⟩ (fun q => by cases q)
 refine H_good (h2.full fun x hx => ?_) (put_Lds h1 hLp hw rfl rfl)
 have hc : (s.made w res rep).all.countP (owsP x.id) = s.all.countP (owsP x.id) + _ := put_count (s := s.plus res rep) hw
 rw [hc]
 have hx' : x ∈ s.things ++ [⟨s.next, res, rep⟩] := hx
 rcases List.mem_append.1 hx' with q | q
 ·rw [hH.own x q]
  have := (hH.fine x q).2.1
  rw [if_neg]
  unfold owsP
  rw [Bool.true_and, decide_eq_true_eq]
  show ¬ s.next = x.id
  omega
 ·rw [List.mem_singleton] at q
  subst q
  have : s.all.countP (owsP s.next) = 0 := count_zero hH.h0 fun i hi e he => by
   unfold owsP
   rw [Bool.and_eq_false_iff]
   right
   rw [decide_eq_false_iff_not]
   obtain ⟨y, hy, hye⟩ := hH.thing i hi e he
   have := (hH.fine y hy).2.1
   omega
  show s.all.countP (owsP s.next) + _ = 1
  rw [this, if_pos]
  unfold owsP
  show (true && decide (s.next = s.next)) = true
  simp
theorem cut_ok {s : Shelf} (h : s.ok) {w : Nat} {num : Int} : (s.cut w num).ok := setE_ok h (Nat.le_trans cutL_le (entLe h w))
theorem cut_at {s : Shelf} {w j : Nat} {num : Int} : ((s.cut w num).tables.getD j default).entries.length ≤ (s.tables.getD j default).entries.length ∧ ((s.cut w num).tables.getD j default).next = (s.tables.getD j default).next := by
 unfold Shelf.cut
 by_cases hw : w < s.tables.length
 ·rw [setE_at hw]
  split
  ·rename_i e
   subst e
   exact ⟨cutL_le, rfl⟩
  ·exact ⟨Nat.le_refl _, rfl⟩
 ·have : (s.setE w (cutL num (s.tables.getD w default).entries)).tables = s.tables := by
   unfold Shelf.setE
   rw [List.set_eq_of_length_le (by omega)]
  rw [this]
  exact ⟨Nat.le_refl _, rfl⟩
end Go.Proofs.YtmglpojnoadgeaaGreat
