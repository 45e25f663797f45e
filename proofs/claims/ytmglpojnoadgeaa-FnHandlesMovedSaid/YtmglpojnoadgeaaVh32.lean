/- Texts for VHandlesMovedP. -/
import Derived.Test.YtmglpojnoadgeaaVh31
namespace Go.Proofs.Ytmglpojnoadgeaa
open Go Go.RowKit
set_option linter.unusedVariables false
set_option linter.unusedSimpArgs false
theorem tab_good {s : Shelf} (h : s.good) {who : Int} (hw : 0 ≤ who ∧ who < (s.tables.length : Int)) : (s.tables.getD who.toNat default).entries.length ≤ 12 ∧ 1 ≤ (s.tables.getD who.toNat default).next ∧ (s.tables.getD who.toNat default).next ≤ 1000000 := by
  have := h.2.2.2.1 who.toNat (by omega)
  exact ⟨this.2.2, this.2.1.1, this.2.1.2⟩
theorem set_ok {s : Shelf} (h : okL Table.ok s.tables) {w : Nat} {t : Table} (ht : t.ok) : okL Table.ok (s.tables.set w t) := by
  refine ⟨by rw [List.length_set]; exact h.1, fun k hk => ?_⟩
  rw [List.length_set] at hk
  by_cases e : k = w
  · subst e
    rw [getD_set hk, if_pos rfl]; exact ht
  · have : (s.tables.set w t).getD k default = s.tables.getD k default := by
      rw [List.getD_eq_getElem?_getD, List.getD_eq_getElem?_getD, List.getElem?_set_ne (fun h => e h.symm)]
    rw [this]; exact h.2 k hk
theorem put_ok {s : Shelf} (h : s.ok) {w : Nat} (e : Entry) (hl : (s.tables.getD w default).entries.length ≤ 12) : (s.put w e).ok :=
  ⟨set_ok h.1 ⟨by simp only [Table.put, List.length_append, List.length_singleton]; omega, fun _ _ => trivial⟩, h.2⟩
theorem made_ok {s : Shelf} (h : s.ok) {w : Nat} {res rep : Int} (hn : s.things.length < 24) (hl : (s.tables.getD w default).entries.length ≤ 12) : (s.made w res rep).ok := put_ok (plus_ok h hn res rep) _ hl
set_option maxRecDepth 8000
def setLd (l : List Entry) (k : Nat) (v : Int) : List Entry := l.set k { l.getD k default with lends := v }
def Shelf.setL (s : Shelf) (w k : Nat) (v : Int) : Shelf := s.setE w (setLd (s.tables.getD w default).entries k v)
theorem setLd_len {l : List Entry} {k : Nat} {v : Int} : (setLd l k v).length = l.length := List.length_set
theorem setLd_rows {l : List Entry} {k n : Nat} {v : Int} (hk : k < l.length) : ∀ i j, i < n → j < 7 → OwEq (upd (elE Entry.cs l) k 3 [.i .i64 v] i j) (elE Entry.cs (setLd l k v) i j) := fun i j hi hj => by
  have hr : elE Entry.cs (setLd l k v) i j = (Entry.cs (if i = k then { l.getD k default with lends := v } else l.getD i default)).getD j .any := by
    unfold elE setLd
    rw [getD_set hk]
  rw [hr, upd_one]
  by_cases e1 : i = k
  · subst e1
    rw [if_pos rfl]
    rcases (show j = 0 ∨ j = 1 ∨ j = 2 ∨ j = 3 ∨ j = 4 ∨ j = 5 ∨ j = 6 by omega) with rfl | rfl | rfl | rfl | rfl | rfl | rfl <;> first | exact .refl _ | (rw [if_neg (by omega)]; exact .refl _) | (rw [if_pos ⟨rfl, rfl⟩]; exact .refl _)
  · rw [if_neg (fun q => e1 q.1), if_neg e1]
    exact .refl _
theorem setLd_rowO {l : List Entry} {k n : Nat} {v : Int} (hn : n ≤ l.length) : RowO n ⟨7, l.length, upd (elE Entry.cs l) k 3 [.i .i64 v], .arr⟩ := ⟨hn, fun i j hi hj => by
  show (upd _ k 3 [.i .i64 v] i j).idfO
  rw [upd_one]
  split
  · exact trivial
  · exact HoldC.h _ j⟩
theorem setL_ok {s : Shelf} (h : s.ok) {w k : Nat} {v : Int} : (s.setL w k v).ok := setE_ok h (by rw [setLd_len]; exact entLe h w)
theorem setL_at {s : Shelf} {w k j : Nat} {v : Int} : ((s.setL w k v).tables.getD j default).entries.length = (s.tables.getD j default).entries.length ∧ ((s.setL w k v).tables.getD j default).next = (s.tables.getD j default).next := by
  unfold Shelf.setL
  by_cases hw : w < s.tables.length
  · rw [setE_at hw]
    split
    · rename_i e
      subst e
      exact ⟨setLd_len, rfl⟩
    · exact ⟨rfl, rfl⟩
  · have : (s.setE w (setLd (s.tables.getD w default).entries k v)).tables = s.tables := by
      unfold Shelf.setE
      rw [List.set_eq_of_length_le (by omega)]
    rw [this]
    exact ⟨rfl, rfl⟩
def Shelf.lentTo (s : Shelf) (who num : Int) (q : Nat) (to : Nat) (scope : Int) : Shelf :=
  (s.setL who.toNat q (IntKind.i64.wrap (((s.tables.getD who.toNat default).entries.getD q default).lends + 1))).put to ⟨0, ((s.tables.getD who.toNat default).entries.getD q default).id, false, 0, scope, who, num⟩
set_option maxHeartbeats 2000000 in
theorem l19Lend_none (s : Shelf) (h : s.ok) (who num res to scope : Int) (hg : s.good) (hw : 0 ≤ who ∧ who < (s.tables.length : Int)) (hto : 0 ≤ to ∧ to < (s.tables.length : Int)) (hE : s.typ who num res = none) : RetM env.P 94 [some (boxRow s.csO)] [.ptr 0 0 0, .i .i64 who, .i .i64 num, .i .i64 res, .i .i64 to, .i .i64 scope] (fun r H => r = .tup [.i .i64 0, .i .i64 11] ∧ H = [some (boxRow s.csO)]) := by
  have hl : s.tables.length ≤ 1048576 := h.1.1
  have hw2 : who.toNat < s.tables.length := by omega
  refine ret_ofM (nt := 64) (rvs := [.tmp 12, .tmp 13]) Try.func94 rfl rfl rfl rfl (fun X hX => ?_)
  repeat' (first | exact aa | ((conv => whnf) <;> (first | ((first | refine .inl ⟨_, Ret.wka (l19Find_ok s h hg who num res), ?_⟩ | refine ⟨_, Ret.wka (l19Find_ok s h hg who num res), ?_⟩); (try rintro _ rfl); rw [hE]; simp only [findR]) | refine And.intro ?_ ?_ | (intro _h; first | contradiction | (try simp only [dd] at _h)) | (refine dt_go ?_) | exact rfl | exact True.intro | exact dkk | exact dks | (refine wrap_succ ?_; omega))))
  all_goals (first | contradiction | skip)
  all_goals (conv => whnf)
  all_goals exact endM_pick [0] [some (boxRow (s).csO)] (.tup [.i .i64 0, .i .i64 11]) (view_of rfl (.cons rfl (.self (rowPl_box rfl)) .nil)) rfl rfl (by rw [hX]; exact keepK (n := 1) rfl rfl) ⟨rfl, rfl⟩
set_option maxHeartbeats 2000000 in
theorem l19Lend_full (s : Shelf) (h : s.ok) (who num res to scope : Int) (hg : s.good) (hw : 0 ≤ who ∧ who < (s.tables.length : Int)) (hto : 0 ≤ to ∧ to < (s.tables.length : Int)) (q : Nat) (hq : (s.tables.getD who.toNat default).find num = some q) (hr : (s.thingOf ((s.tables.getD who.toNat default).entries.getD q default)).res = res) (hf : s.fullB to.toNat) : RetM env.P 94 [some (boxRow s.csO)] [.ptr 0 0 0, .i .i64 who, .i .i64 num, .i .i64 res, .i .i64 to, .i .i64 scope] (fun r H => r = .tup [.i .i64 0, .i .i64 4] ∧ H = [some (boxRow s.csO)]) := by
  have hl : s.tables.length ≤ 1048576 := h.1.1
  have hw2 : who.toNat < s.tables.length := by omega
  have hE : s.typ who num res = some ((s.tables.getD who.toNat default).entries.getD q default) := typ_some (find_at hw hq) hr
  refine ret_ofM (nt := 64) (rvs := [.tmp 12, .tmp 13]) Try.func94 rfl rfl rfl rfl (fun X hX => ?_)
  repeat' (first | exact aa | ((conv => whnf) <;> (first | ((first | refine .inl ⟨_, Ret.wka (l19Find_ok s h hg who num res), ?_⟩ | refine ⟨_, Ret.wka (l19Find_ok s h hg who num res), ?_⟩); (try rintro _ rfl); rw [hE]; simp only [findR]) | refine And.intro ?_ ?_ | (intro _h; first | contradiction | (try simp only [dd] at _h)) | (refine dt_go ?_) | exact rfl | exact True.intro | exact dkk | exact dks | ((first | refine .inl ⟨_, Ret.wka (l19Full_ok s h to hto), ?_⟩ | refine ⟨_, Ret.wka (l19Full_ok s h to hto), ?_⟩); (try rintro _ rfl)) | (refine wrap_succ ?_; omega))))
  all_goals (first | contradiction | skip)
  all_goals (conv => whnf)
  all_goals exact endM_pick [0] [some (boxRow (s).csO)] (.tup [.i .i64 0, .i .i64 4]) (view_of rfl (.cons rfl (.self (rowPl_box rfl)) .nil)) rfl rfl (by rw [hX]; exact keepK (n := 1) rfl rfl) ⟨rfl, rfl⟩
set_option maxHeartbeats 2000000 in
theorem l19Lend_fine (s : Shelf) (h : s.ok) (who num res to scope : Int) (hg : s.good) (hw : 0 ≤ who ∧ who < (s.tables.length : Int)) (hto : 0 ≤ to ∧ to < (s.tables.length : Int)) (q : Nat) (hq : (s.tables.getD who.toNat default).find num = some q) (hr : (s.thingOf ((s.tables.getD who.toNat default).entries.getD q default)).res = res) (hf : ¬ s.fullB to.toNat) : RetM env.P 94 [some (boxRow s.csO)] [.ptr 0 0 0, .i .i64 who, .i .i64 num, .i .i64 res, .i .i64 to, .i .i64 scope] (fun r H => r = .tup [.i .i64 ((s.setL who.toNat q (IntKind.i64.wrap (((s.tables.getD who.toNat default).entries.getD q default).lends + 1))).tables.getD to.toNat default).next, .i .i64 0] ∧ H = [some (boxRow (s.lentTo who num q to.toNat scope).csO)]) := by
  have hl : s.tables.length ≤ 1048576 := h.1.1
  have hw2 : who.toNat < s.tables.length := by omega
  have hf4 : (s.tables.getD to.toNat default).entries.length < 12 := Nat.lt_of_not_le fun q => hf (.inl q)
  have hf5 : (s.tables.getD to.toNat default).next < 1000000 := Int.lt_of_not_ge fun q => hf (.inr q)
  have hlt : q < (s.tables.getD who.toNat default).entries.length := (find_lt hq).1
  have he : (s.tables.getD who.toNat default).entries.length ≤ 1048576 := entLe h _
  have hE : s.typ who num res = some ((s.tables.getD who.toNat default).entries.getD q default) := typ_some (find_at hw hq) hr
  refine ret_ofM (nt := 64) (rvs := [.tmp 12, .tmp 13]) Try.func94 rfl rfl rfl rfl (fun X hX => ?_)
  repeat' (first | exact aa | ((conv => whnf) <;> (first | ((first | refine .inl ⟨_, Ret.wka (l19Find_ok s h hg who num res), ?_⟩ | refine ⟨_, Ret.wka (l19Find_ok s h hg who num res), ?_⟩); (try rintro _ rfl); rw [hE]; simp only [findR]) | ((first | refine .inl ⟨_, Ret.wka (l19Entry_ok _ (h.1.2 who.toNat hw2) num), ?_⟩ | refine ⟨_, Ret.wka (l19Entry_ok _ (h.1.2 who.toNat hw2) num), ?_⟩); (try rintro _ rfl); rw [hq]; simp only [idxI]) | (refine ld_skip rfl rfl rfl rfl upd_self ?_) | (refine bool_skip any_self ?_) | (first | rw [ld_self rfl] | rw [ld_selfA rfl]) | (refine .inr (.inr ⟨[some (boxRow (s.setL who.toNat q (IntKind.i64.wrap (((s.tables.getD who.toNat default).entries.getD q default).lends + 1))).csO), none, none, none], (by intro X; refine Turn.trans (turn_kill 1) ?_; refine Turn.trans (turn_close (id := 2) (i := who.toNat) (j := 1) (id' := 3) rfl hw2 (show 1 < 2 by decide) (by first | exact upd_self | (simp only [upd, Nat.beq_refl]; rfl) | (simp only [Shelf.rowT, upd, Nat.beq_refl]; rfl) | exact rowT_at) rfl (show 2 ≠ 3 by decide) rfl (setLd_rowO (Nat.le_refl _))) ?_; refine Turn.trans (turn_eq (id := 2) (x := rowL 2 Table.csO (s.setE who.toNat (setLd (s.tables.getD who.toNat default).entries q (IntKind.i64.wrap (((s.tables.getD who.toNat default).entries.getD q default).lends + 1)))).tables) rfl rfl setE_len rfl rfl (setE_rows (l := (setLd (s.tables.getD who.toNat default).entries q (IntKind.i64.wrap (((s.tables.getD who.toNat default).entries.getD q default).lends + 1)))) hw2 setLd_len.symm (setLd_rows hlt))) ?_; refine Turn.trans (turn_close (id := 0) (i := 0) (j := 1) (id' := 2) rfl (show 0 < 1 by decide) (show 1 < 3 by decide) rfl rfl (show 0 ≠ 2 by decide) rfl (rowO_le (Nat.le_of_eq setE_len.symm))) ?_; exact turn_box (id := 0) (ds := (s.setE who.toNat (setLd (s.tables.getD who.toNat default).entries q (IntKind.i64.wrap (((s.tables.getD who.toNat default).entries.getD q default).lends + 1)))).csO) rfl rfl rfl (.cons (.refl _) (.cons (OwEq.len setE_len.symm (fun i j _ _ => HoldC.h _ j) (fun i j _ _ => .refl _)) (.cons (.refl _) .nil)))), (fun i _ q => (by cases q)), .inl ⟨[0], _, _, _, l19Put_ok (s.setL who.toNat q (IntKind.i64.wrap (((s.tables.getD who.toNat default).entries.getD q default).lends + 1))) (setL_ok h) to ⟨hto.1, by rw [show (s.setL who.toNat q (IntKind.i64.wrap (((s.tables.getD who.toNat default).entries.getD q default).lends + 1))).tables.length = s.tables.length from setE_len]; exact hto.2⟩ ⟨0, _, false, 0, scope, who, num⟩ (by rw [setL_at.1]; exact hf4) (by rw [setL_at.2]; exact ⟨(tab_good hg hto).2.1, hf5⟩), (view_of rfl (.cons rfl (.self (rowPl_box rfl)) .nil)), ⟨rfl, rfl⟩, ?_⟩⟩); rintro _ _ ⟨rfl, rfl⟩; refine ⟨rfl, _, (lok_pl (.cons (rowPl_box rfl) .nil)), ?_⟩) | refine And.intro ?_ ?_ | (intro _h; first | contradiction | (try simp only [dd] at _h)) | (refine dt_go ?_) | exact rfl | exact True.intro | exact dkk | exact dks | ((first | refine .inl ⟨_, Ret.wka (l19Full_ok s h to hto), ?_⟩ | refine ⟨_, Ret.wka (l19Full_ok s h to hto), ?_⟩); (try rintro _ rfl)) | (refine wrap_succ ?_; omega))))
  all_goals (first | contradiction | skip)
  all_goals (conv => whnf)
  all_goals exact endM_pick [0] [some (boxRow (s.lentTo who num q to.toNat scope).csO)] (.tup [.i .i64 ((s.setL who.toNat q (IntKind.i64.wrap (((s.tables.getD who.toNat default).entries.getD q default).lends + 1))).tables.getD to.toNat default).next, .i .i64 0]) (view_of rfl (.cons rfl (.self (rowPl_box rfl)) .nil)) rfl rfl (by rw [hX]; exact keepK (n := 1) rfl rfl) ⟨rfl, rfl⟩
theorem loopTF {E : Env} {nt : Nat} {X : Ctx} {f : Fr} {H : Hp} {c : Code} {Q : Exit → Fr → Hp → Prop} {α : Type} (t : Nat) (vs : α → Fr) (hp : α → List (Option RowI)) (I : α → Prop) (μ : α → Nat) (x0 : α) (ht : inL (asg c) t = true)
    (h : I x0 ∧ agK (mkH H (hp x0)) H [] f (vs x0) ∧ hpP (mkH H (hp x0)) H [] 0 (hp x0) H ∧
      delK H.length (asg c) f fun f0 => ∀ x, I x → wpc E nt X c (vs x ++ f0) (mkH H (hp x)) (thn (RoundEndT X f0 H vs hp I μ x) Q)) :
    LW E.P nt X (.loop c) f H Q := loopFT vs hp I μ x0 h
def untilK (K : Nat → Entry → Bool) (i : Nat) : Nat → Entry → Bool := fun j e => if j < i then K j e else true
theorem until_zero {s : Shelf} {K : Nat → Entry → Bool} : s.keep (untilK K 0) = s := by
  refine shelf_ext rfl rfl keep_len fun i hi => ?_
  rw [keep_tab]
  have : (s.tables.getD i default).entries.filter (untilK K 0 i) = (s.tables.getD i default).entries := List.filter_eq_self.2 fun e _ => by simp [untilK]
  rw [this]
theorem until_at {s : Shelf} {K : Nat → Entry → Bool} {i j : Nat} (h : i ≤ j) : (s.keep (untilK K i)).tables.getD j default = s.tables.getD j default := by
  rw [keep_tab]
  have : (s.tables.getD j default).entries.filter (untilK K i j) = (s.tables.getD j default).entries := List.filter_eq_self.2 fun e _ => by
    unfold untilK
    rw [if_neg (by omega)]
  rw [this]
theorem until_succ {s : Shelf} {K : Nat → Entry → Bool} {i : Nat} (h : i < s.tables.length) : (s.keep (untilK K i)).setE i ((s.tables.getD i default).entries.filter (K i)) = s.keep (untilK K (i + 1)) := by
  refine shelf_ext rfl rfl (by rw [setE_len, keep_len, keep_len]) fun j hj => ?_
  rw [setE_at (by rw [keep_len]; exact h), keep_tab, keep_tab]
  split
  · rename_i e
    subst e
    rw [keep_tab]
    congr 1
    refine List.filter_congr fun e _ => ?_
    unfold untilK
    rw [if_pos (by omega)]
  · rename_i e
    rw [keep_tab]
    congr 1
    refine List.filter_congr fun x _ => ?_
    unfold untilK
    by_cases h2 : j < i
    · rw [if_pos h2, if_pos (by omega)]
    · rw [if_neg h2, if_neg (by omega)]
theorem until_end {s : Shelf} {K : Nat → Entry → Bool} {i : Nat} (h : ¬ i < s.tables.length) : s.keep (untilK K i) = s.keep K := keep_congr fun j k hj _ => by
  unfold untilK
  rw [if_pos (by omega)]
noncomputable def Shelf.fixK (s : Shelf) (K0 : Nat → Entry → Bool) : Nat → Entry → Bool := fun i e => K0 i e && pb (s.Live K0 e)
theorem fixK_fix (s : Shelf) (K0 : Nat → Entry → Bool) : s.Fix K0 (s.fixK K0) :=
  ⟨⟨fun i e h => by unfold Shelf.fixK at h; rw [Bool.and_eq_true] at h; exact h.1, fun i k hi hk h0 hl => by unfold Shelf.fixK; rw [h0, Bool.true_and]; exact pb_t.mpr hl⟩,
   fun i k hi hk h => by unfold Shelf.fixK at h; rw [Bool.and_eq_true] at h; exact pb_t.mp h.2⟩
theorem keep_ok {s : Shelf} (h : s.ok) {K : Nat → Entry → Bool} : (s.keep K).ok := ⟨⟨by rw [keep_len]; exact h.1.1, fun i hi => by
  rw [keep_tab]
  exact ⟨Nat.le_trans (List.length_filter_le _ _) (entLe h i), fun _ _ => trivial⟩⟩, h.2⟩
def Shelf.cnt (s : Shelf) : Nat := (s.tables.map fun t => t.entries.length).sum
theorem sum_set {l : List Nat} : ∀ {w : Nat} {v : Nat}, w < l.length → v < l.getD w 0 → (l.set w v).sum < l.sum := by
  induction l with
  | nil => intro w v h; simp at h
  | cons a l ih =>
    intro w v h hv
    cases w with
    | zero =>
      have : v < a := by simpa using hv
      simp only [List.set_cons_zero, List.sum_cons]
      omega
    | succ w =>
      have := ih (w := w) (v := v) (by simpa using h) (by simpa using hv)
      simp only [List.set_cons_succ, List.sum_cons]
      omega
theorem cnt_setE {s : Shelf} {w : Nat} {l : List Entry} (hw : w < s.tables.length) (hl : l.length < (s.tables.getD w default).entries.length) : (s.setE w l).cnt < s.cnt := by
  unfold Shelf.cnt Shelf.setE
  dsimp only
  rw [List.map_set]
  refine sum_set (by simpa using hw) ?_
  have e : (s.tables.map fun t => t.entries.length).getD w 0 = (s.tables.getD w default).entries.length := by
    rw [List.getD_eq_getElem?_getD (l := s.tables.map _), List.getElem?_map, List.getElem?_eq_getElem hw, List.getD_eq_getElem?_getD, List.getElem?_eq_getElem hw]; rfl
  rw [e]
  exact hl
theorem cutL_lt {num : Int} {l : List Entry} {k : Nat} (hk : k < l.length) (h : (l.getD k default).num = num) : (cutL num l).length < l.length := by
  have h1 : l = l.take k ++ l.drop k := (List.take_append_drop k l).symm
  have h2 : l.drop k = l.getD k default :: l.drop (k + 1) := by
    rw [List.drop_eq_getElem_cons hk, List.getD_eq_getElem?_getD, List.getElem?_eq_getElem hk]; rfl
  have h3 : cutL num l = cutL num (l.take k) ++ cutL num (l.drop (k + 1)) := by
    conv => lhs; rw [h1, h2]
    unfold cutL
    rw [List.filter_append, List.filter_cons]
    have : (!numP num (l.getD k default)) = false := by simp only [numP, h, decide_true, Bool.not_true]
    rw [this]
    rfl
  have h4 := cutL_le (num := num) (l := l.take k)
  have h5 := cutL_le (num := num) (l := l.drop (k + 1))
  rw [h3, List.length_append]
  rw [List.length_take] at h4
  rw [List.length_drop] at h5
  omega
theorem filt_no {α : Type} [Inhabited α] {p : α → Bool} {l : List α} {k : Nat} (hk : k < l.length) (h : p (l.getD k default) = false) : (l.take (k + 1)).filter p = (l.take k).filter p := by
  rw [take_snoc hk, List.filter_append]
  simp only [List.filter, h, List.append_nil]
theorem filt_yes {α : Type} [Inhabited α] {p : α → Bool} {l : List α} {k : Nat} (hk : k < l.length) (h : p (l.getD k default) = true) : (l.take (k + 1)).filter p = (l.take k).filter p ++ [l.getD k default] := by
  rw [take_snoc hk, List.filter_append]
  simp only [List.filter, h]
theorem filt_le {α : Type} {p : α → Bool} {l : List α} {k : Nat} : ((l.take k).filter p).length ≤ l.length := by
  have h1 := List.length_filter_le p (l.take k)
  rw [List.length_take] at h1
  omega
def lendE (f : List Int → Int) (j : Nat) (e : Entry) : Entry := { e with lends := f [(j : Int), e.num] }
def lendU (f : List Int → Int) (s : Shelf) (i k : Nat) : Shelf := ⟨s.next, s.tables.mapIdx fun j t => ⟨t.next, t.entries.mapIdx fun l e => if j < i ∨ (j = i ∧ l < k) then lendE f j e else e⟩, s.things⟩
def Shelf.relend (s : Shelf) : Shelf := lendU (leF s.all) s s.tables.length 0
theorem lendU_len {f : List Int → Int} {s : Shelf} {i k : Nat} : (lendU f s i k).tables.length = s.tables.length := List.length_mapIdx
theorem lendU_tab {f : List Int → Int} {s : Shelf} {i k j : Nat} : (lendU f s i k).tables.getD j default = ⟨(s.tables.getD j default).next, (s.tables.getD j default).entries.mapIdx fun l e => if j < i ∨ (j = i ∧ l < k) then lendE f j e else e⟩ := by
  unfold lendU
  dsimp only
  rw [List.getD_eq_getElem?_getD, List.getElem?_mapIdx, List.getD_eq_getElem?_getD]
  cases s.tables[j]? with
  | none => rfl
  | some t => rfl
theorem lendU_elen {f : List Int → Int} {s : Shelf} {i k j : Nat} : ((lendU f s i k).tables.getD j default).entries.length = (s.tables.getD j default).entries.length := by
  rw [lendU_tab]
  exact List.length_mapIdx
theorem lendU_ent {f : List Int → Int} {s : Shelf} {i k j l : Nat} (hl : l < (s.tables.getD j default).entries.length) : ((lendU f s i k).tables.getD j default).entries.getD l default = if j < i ∨ (j = i ∧ l < k) then lendE f j ((s.tables.getD j default).entries.getD l default) else (s.tables.getD j default).entries.getD l default := by
  rw [lendU_tab]
  dsimp only
  generalize (s.tables.getD j default).entries = es at hl ⊢
  rw [List.getD_eq_getElem?_getD, List.getElem?_mapIdx, List.getD_eq_getElem?_getD, List.getElem?_eq_getElem hl]
  rfl
theorem table_ext {a b : Table} (h1 : a.next = b.next) (h2 : a.entries.length = b.entries.length) (h3 : ∀ k, k < a.entries.length → a.entries.getD k default = b.entries.getD k default) : a = b := by
  obtain ⟨n, l⟩ := a
  obtain ⟨m, l'⟩ := b
  dsimp only at h1 h2 h3
  subst h1
  rw [list_ext h2 h3]
theorem lendU_next0 {f : List Int → Int} {s : Shelf} {i k j : Nat} : ((lendU f s i k).tables.getD j default).next = (s.tables.getD j default).next := by rw [lendU_tab]
theorem lendU_congr {f : List Int → Int} {s : Shelf} {i k i' k' : Nat} (h : ∀ j l, j < s.tables.length → l < (s.tables.getD j default).entries.length → ((j < i ∨ (j = i ∧ l < k)) ↔ (j < i' ∨ (j = i' ∧ l < k')))) : lendU f s i k = lendU f s i' k' := by
  refine shelf_ext rfl rfl (lendU_len.trans lendU_len.symm) fun j hj => ?_
  rw [lendU_len] at hj
  refine table_ext (lendU_next0.trans lendU_next0.symm) (lendU_elen.trans lendU_elen.symm) fun l hl => ?_
  rw [lendU_elen] at hl
  rw [lendU_ent hl, lendU_ent hl]
  by_cases c : j < i ∨ (j = i ∧ l < k)
  · rw [if_pos c, if_pos ((h j l hj hl).1 c)]
  · rw [if_neg c, if_neg (fun q => c ((h j l hj hl).2 q))]
theorem lendU_zero {f : List Int → Int} {s : Shelf} : lendU f s 0 0 = s := by
  refine shelf_ext rfl rfl lendU_len fun j hj => ?_
  refine table_ext lendU_next0 lendU_elen fun l hl => ?_
  rw [lendU_elen] at hl
  rw [lendU_ent hl, if_neg (by omega)]
theorem lendU_next {f : List Int → Int} {s : Shelf} {i k : Nat} (h : ¬ k < (s.tables.getD i default).entries.length) : lendU f s i k = lendU f s (i + 1) 0 := lendU_congr fun j l _ hl => by
  by_cases e : j = i
  · subst e; omega
  · omega
theorem lendU_end {f : List Int → Int} {s : Shelf} {i : Nat} (h : ¬ i < s.tables.length) : lendU f s i 0 = lendU f s s.tables.length 0 := lendU_congr fun j l hj _ => by omega
theorem lendU_step {f : List Int → Int} {s : Shelf} {i k : Nat} (hi : i < s.tables.length) (hk : k < (s.tables.getD i default).entries.length) {v : Int} (hv : v = f [(i : Int), ((s.tables.getD i default).entries.getD k default).num]) : (lendU f s i k).setL i k v = lendU f s i (k + 1) := by
  subst hv
  have hi' : i < (lendU f s i k).tables.length := by rw [lendU_len]; exact hi
  have hk' : k < ((lendU f s i k).tables.getD i default).entries.length := by rw [lendU_elen]; exact hk
  unfold Shelf.setL
  refine shelf_ext rfl rfl (by rw [setE_len, lendU_len, lendU_len]) fun j hj => ?_
  rw [setE_len, lendU_len] at hj
  rw [setE_at hi']
  split
  · rename_i e
    subst e
    refine table_ext (lendU_next0.trans lendU_next0.symm) (by rw [setLd_len, lendU_elen, lendU_elen]) fun l hl => ?_
    rw [setLd_len, lendU_elen] at hl
    unfold setLd
    rw [getD_set hk', lendU_ent hl, lendU_ent hk]
    by_cases e : l = k
    · subst e
      rw [if_pos rfl, if_neg (by omega), lendU_ent hl, if_pos (by omega)]
      rfl
    · rw [if_neg e, lendU_ent hl]
      by_cases c : j < j ∨ (j = j ∧ l < k)
      · rw [if_pos c, if_pos (by omega)]
      · rw [if_neg c, if_neg (by omega)]
  · rename_i e
    refine table_ext (lendU_next0.trans lendU_next0.symm) (lendU_elen.trans lendU_elen.symm) fun l hl => ?_
    rw [lendU_elen] at hl
    rw [lendU_ent hl, lendU_ent hl]
    by_cases c : j < i ∨ (j = i ∧ l < k)
    · rw [if_pos c, if_pos (by omega)]
    · rw [if_neg c, if_neg (by omega)]
theorem lendU_ok {f : List Int → Int} {s : Shelf} (h : s.ok) {i k : Nat} : (lendU f s i k).ok := ⟨⟨by rw [lendU_len]; exact h.1.1, fun j hj => ⟨by rw [lendU_elen]; exact entLe h j, fun _ _ => trivial⟩⟩, h.2⟩
theorem fold_idx {g : (List Int → Int) → Entry → (List Int → Int)} (F : Nat → Entry → Entry) (hF : ∀ f l e, g f (F l e) = g f e) : ∀ (l : List Entry) (n : Nat) (f : List Int → Int), (l.mapIdx fun i e => F (n + i) e).foldl g f = l.foldl g f
  | [], _, _ => rfl
  | a :: l, n, f => by
    rw [List.mapIdx_cons, List.foldl_cons, List.foldl_cons, hF]
    have := fold_idx F hF l (n + 1) (g f a)
    rw [← this]
    congr 1
    refine congrArg (fun q => List.mapIdx q l) ?_
    funext i e
    rw [show n + 1 + i = n + (i + 1) by omega]
theorem fold_flat {g : (List Int → Int) → Entry → (List Int → Int)} (F : Nat → Nat → Entry → Entry) (hF : ∀ f j l e, g f (F j l e) = g f e) : ∀ (ts : List Table) (n : Nat) (f : List Int → Int), ((ts.mapIdx fun j t => (⟨t.next, t.entries.mapIdx fun l e => F (n + j) l e⟩ : Table)).flatMap Table.entries).foldl g f = (ts.flatMap Table.entries).foldl g f
  | [], _, _ => rfl
  | t :: ts, n, f => by
    rw [List.mapIdx_cons, List.flatMap_cons, List.flatMap_cons, List.foldl_append, List.foldl_append]
    have h1 := fold_idx (g := g) (fun l e => F (n + 0) l e) (fun f l e => hF f _ l e) t.entries 0 f
    simp only [Nat.zero_add] at h1
    dsimp only
    rw [h1]
    have := fold_flat F hF ts (n + 1) (t.entries.foldl g f)
    rw [← this]
    congr 2
    refine congrArg (fun q => List.mapIdx q ts) ?_
    funext j t
    rw [show n + 1 + j = n + (j + 1) by omega]
theorem lendU_le {f : List Int → Int} {s : Shelf} {i k : Nat} : leF (lendU f s i k).all = leF s.all := by
  unfold leF Shelf.all lendU
  have := fold_flat (g := leStep) (fun j l e => if j < i ∨ (j = i ∧ l < k) then lendE f j e else e) (fun f' j l e => by split <;> rfl) s.tables 0 (fun _ => 0)
  simp only [Nat.zero_add] at this
  exact this
def borP (a b : Int) (e : Entry) : Bool := !e.own && decide (e.from_ = a ∧ e.fromNum = b)
def owsP (id : Int) (e : Entry) : Bool := e.own && decide (e.id = id)
theorem wrap_small {n : Nat} (h : n ≤ 1000000) : IntKind.i64.wrap ((n : Int) + 1) = ((n + 1 : Nat) : Int) := by
  rw [wrap_in (by omega) (by omega)]
  omega
theorem leF_count {a b : Int} {l0 : List Entry} (h0 : l0.length ≤ 1000000) : leF l0 [a, b] = (l0.countP (borP a b) : Int) := by
  have key : ∀ n, n ≤ l0.length → leF (l0.take n) [a, b] = ((l0.take n).countP (borP a b) : Int) := by
   intro n
   induction n with
   | zero => intro _; rfl
   | succ n ih =>
    intro hn
    have h1 := ih (by omega)
    rw [take_snoc (show n < l0.length by omega)]
    generalize hl : l0.take n = l at h1
    generalize l0.getD n default = e
    have h : l.length + 1 ≤ 1000000 := by rw [← hl, List.length_take]; omega
    have hc : l.countP (borP a b) ≤ 1000000 := Nat.le_trans List.countP_le_length (by omega)
    rw [leF_snoc, leStep, List.countP_append, List.countP_singleton]
    cases ho : e.own with
    | true =>
      rw [if_pos rfl, h1]
      simp [borP, ho]
    | false =>
      rw [if_neg (by decide), putF]
      by_cases hp : e.from_ = a ∧ e.fromNum = b
      · obtain ⟨rfl, rfl⟩ := hp
        rw [if_pos rfl, h1, wrap_small hc]
        simp [borP, ho]
      · rw [if_neg (fun q => hp (by injection q with e1 e2; injection e2 with e2 _; exact ⟨e1.symm, e2.symm⟩)), h1]
        simp [borP, ho, hp]
  have := key l0.length (Nat.le_refl _)
  rwa [List.take_length] at this
theorem owF_count {id : Int} {l0 : List Entry} (h0 : l0.length ≤ 1000000) : owF l0 [id] = (l0.countP (owsP id) : Int) := by
  have key : ∀ n, n ≤ l0.length → owF (l0.take n) [id] = ((l0.take n).countP (owsP id) : Int) := by
   intro n
   induction n with
   | zero => intro _; rfl
   | succ n ih =>
    intro hn
    have h1 := ih (by omega)
    rw [take_snoc (show n < l0.length by omega)]
    generalize hl : l0.take n = l at h1
    generalize l0.getD n default = e
    have h : l.length + 1 ≤ 1000000 := by rw [← hl, List.length_take]; omega
    have hc : l.countP (owsP id) ≤ 1000000 := Nat.le_trans List.countP_le_length (by omega)
    rw [owF_snoc, owStep, List.countP_append, List.countP_singleton]
    cases ho : e.own with
    | false =>
      rw [if_neg (by decide), h1]
      simp [owsP, ho]
    | true =>
      rw [if_pos rfl, putF]
      by_cases hp : e.id = id
      · obtain rfl := hp
        rw [if_pos rfl, h1, wrap_small hc]
        simp [owsP, ho]
      · rw [if_neg (fun q => hp (by injection q with e1 e2; exact e1.symm)), h1]
        simp [owsP, ho, hp]
  have := key l0.length (Nat.le_refl _)
  rwa [List.take_length] at this
theorem all_small {s : Shelf} (h7 : s.tables.length ≤ 7) (h4 : ∀ k, k < s.tables.length → (s.tables.getD k default).good) : s.all.length < 85 := by
  have := all_length s.tables fun t ht => by
    obtain ⟨k, hk⟩ := List.getElem?_of_mem ht
    have := (h4 k (List.getElem?_eq_some_iff.1 hk).1).2.2
    rw [List.getD_eq_getElem?_getD, hk] at this
    exact this
  unfold Shelf.all
  omega
theorem ends_85 {s : Shelf} {e : Entry} (hs : s.all.length < 85) (he : e ∈ s.all) : ∀ n, s.sEnds n e = true → s.sEnds 85 e = true := by
  have down : ∀ d, s.sEnds (85 + d) e = true → s.sEnds 85 e = true := by
    intro d
    induction d with
    | zero => exact id
    | succ d ih => exact fun h => ih (ends_short (n := 85 + d) (by omega) he h)
  have up : ∀ d n, n + d = 85 → s.sEnds n e = true → s.sEnds 85 e = true := by
    intro d
    induction d with
    | zero => rintro n rfl h; exact h
    | succ d ih => exact fun n hn h => ih (n + 1) (by omega) (sEnds_mono n e h)
  intro n h
  rcases Nat.le_total n 85 with q | q
  · exact up (85 - n) n (by omega) h
  · exact down (n - 85) (by rwa [show 85 + (n - 85) = n by omega])
structure Shelf.G (s : Shelf) : Prop where
  nx : 1 ≤ s.next ∧ s.next ≤ 1000000
  tb : 1 ≤ s.tables.length ∧ s.tables.length ≤ 7
  tg : s.goodT
  tt : ∀ i, i < s.tables.length → (s.tables.getD i default).good
  snd : ∀ i k, i < s.tables.length → k < (s.tables.getD i default).entries.length → s.soundE ((s.tables.getD i default).entries.getD k default)
  ends : ∀ i k, i < s.tables.length → k < (s.tables.getD i default).entries.length → ∃ n, s.sEnds n ((s.tables.getD i default).entries.getD k default) = true
  lends : ∀ i k, i < s.tables.length → k < (s.tables.getD i default).entries.length → ((s.tables.getD i default).entries.getD k default).lends = (s.all.countP (borP i ((s.tables.getD i default).entries.getD k default).num) : Int)
  own : ∀ k, k < s.things.length → s.all.countP (owsP (s.things.getD k default).id) = 1
theorem good_G {s : Shelf} (h : s.good) : s.G := by
  obtain ⟨⟨h1, h2, h3⟩, h4, h5, h6⟩ := (good_iff s).1 h
  have hs := all_small h2.2 fun k hk => (h4 k hk).1
  exact ⟨h1, h2, h3, fun i hi => (h4 i hi).1, fun i k hi hk => (h4 i hi).2 k hk, fun i k hi hk => ⟨85, (h5 i k hi hk).1⟩, fun i k hi hk => by rw [← leF_count (by omega)]; exact (h5 i k hi hk).2, fun k hk => by
    have := h6 k hk
    rw [owF_count (by omega)] at this
    omega⟩
theorem G_good {s : Shelf} (h : s.G) : s.good := by
  have hs := all_small h.tb.2 h.tt
  exact (good_iff s).2 ⟨⟨h.nx, h.tb, h.tg⟩, fun i hi => ⟨h.tt i hi, fun k hk => h.snd i k hi hk⟩, fun i k hi hk => ⟨by
    obtain ⟨n, hn⟩ := h.ends i k hi hk
    exact ends_85 hs (mem_all hi hk) n hn, by rw [leF_count (by omega)]; exact h.lends i k hi hk⟩, fun k hk => by rw [owF_count (by omega), h.own k hk]; rfl⟩
theorem grow_iff {α : Type} [Inhabited α] {f : α → Int} {l : List α} : (∀ k, k < l.length → (if k = 0 then 0 else f (l.getD (k - 1) default)) < f (l.getD k default)) ↔ (l.Pairwise (fun a b => f a < f b) ∧ ∀ x ∈ l, 0 < f x) := by
  constructor
  · intro h
    have lt : ∀ j i, i < j → j < l.length → f (l.getD i default) < f (l.getD j default) := by
      intro j
      induction j with
      | zero => intro i hi; omega
      | succ j ih =>
        intro i hi hj
        have h1 := h (j + 1) hj
        rw [if_neg (by omega), Nat.add_sub_cancel] at h1
        rcases Nat.lt_or_eq_of_le (Nat.le_of_lt_succ hi) with q | rfl
        · have := ih i q (by omega); omega
        · exact h1
    have h0 : ∀ k, k < l.length → 0 < f (l.getD k default) := by
      intro k hk
      have h1 := h 0 (by omega)
      rw [if_pos rfl] at h1
      by_cases e : k = 0
      · subst e; exact h1
      · have := lt k 0 (by omega) hk; omega
    constructor
    · rw [List.pairwise_iff_getElem]
      intro i j hi hj hij
      have := lt j i hij hj
      rw [List.getD_eq_getElem?_getD, List.getElem?_eq_getElem hi, List.getD_eq_getElem?_getD, List.getElem?_eq_getElem hj] at this
      exact this
    · intro x hx
      obtain ⟨k, hk⟩ := List.getElem?_of_mem hx
      have := h0 k (List.getElem?_eq_some_iff.1 hk).1
      rw [List.getD_eq_getElem?_getD, hk] at this
      exact this
  · rintro ⟨h1, h2⟩ k hk
    split
    · exact h2 _ (getD_mem hk)
    · rename_i hne
      rw [List.pairwise_iff_getElem] at h1
      have := h1 (k - 1) k (by omega) hk (by omega)
      rw [List.getD_eq_getElem?_getD, List.getElem?_eq_getElem (by omega), List.getD_eq_getElem?_getD, List.getElem?_eq_getElem hk]
      exact this
theorem all_getD {α : Type} [Inhabited α] {l : List α} {P : α → Prop} : (∀ k, k < l.length → P (l.getD k default)) ↔ ∀ x ∈ l, P x := by
  constructor
  · intro h x hx
    obtain ⟨k, hk⟩ := List.getElem?_of_mem hx
    have := h k (List.getElem?_eq_some_iff.1 hk).1
    rw [List.getD_eq_getElem?_getD, hk] at this
    exact this
  · exact fun h k hk => h _ (getD_mem hk)
def Thing.fine (nx : Int) (x : Thing) : Prop := x.id < nx ∧ (1 ≤ x.res ∧ x.res ≤ 8) ∧ (0 ≤ x.rep ∧ x.rep ≤ 2147483647)
theorem goodT_iff {s : Shelf} : s.goodT ↔ ((s.things.Pairwise (fun a b => a.id < b.id) ∧ ∀ x ∈ s.things, 0 < x.id) ∧ (∀ x ∈ s.things, x.fine s.next)) ∧ s.things.length ≤ 24 := by
  rw [← grow_iff (f := Thing.id), ← all_getD (l := s.things) (P := fun x => x.fine s.next)]
  constructor
  · rintro ⟨h1, h2⟩
    exact ⟨⟨fun k hk => (h1 k hk).1, fun k hk => (h1 k hk).2⟩, h2⟩
  · rintro ⟨⟨h1, h2⟩, h3⟩
    exact ⟨fun k hk => ⟨h1 k hk, h2 k hk⟩, h3⟩
theorem tgood_iff {t : Table} : t.good ↔ ((t.entries.Pairwise (fun a b => a.num < b.num) ∧ ∀ e ∈ t.entries, 0 < e.num) ∧ (∀ e ∈ t.entries, e.num < t.next ∧ 0 ≤ e.lends)) ∧ (1 ≤ t.next ∧ t.next ≤ 1000000) ∧ t.entries.length ≤ 12 := by
  rw [← grow_iff (f := Entry.num), ← all_getD (l := t.entries) (P := fun e : Entry => e.num < t.next ∧ 0 ≤ e.lends)]
  constructor
  · rintro ⟨h1, h2⟩
    exact ⟨⟨fun k hk => (h1 k hk).1, fun k hk => (h1 k hk).2⟩, h2⟩
  · rintro ⟨⟨h1, h2⟩, h3⟩
    exact ⟨fun k hk => ⟨h1 k hk, h2 k hk⟩, h3⟩
theorem thing_mem {s : Shelf} {id : Int} : (s.thing id).isSome = true ↔ ∃ x ∈ s.things, x.id = id := by
  unfold Shelf.thing
  rw [List.findIdx?_isSome, List.any_eq_true]
  simp only [idP, decide_eq_true_eq]
abbrev Shelf.en (s : Shelf) (i : Nat) : List Entry := (s.tables.getD i default).entries
def Entry.plain (e : Entry) : Prop := if e.own = true then e.scope = 0 ∧ e.from_ = 0 ∧ e.fromNum = 0 else 1 ≤ e.scope ∧ e.scope ≤ 1000000
structure Shelf.H (s : Shelf) : Prop where
  nx : 1 ≤ s.next ∧ s.next ≤ 1000000
  tb : 1 ≤ s.tables.length ∧ s.tables.length ≤ 7
  ids : s.things.Pairwise fun a b => a.id < b.id
  fine : ∀ x ∈ s.things, 0 < x.id ∧ x.fine s.next
  tl : s.things.length ≤ 24
  nums : ∀ i, i < s.tables.length → (s.en i).Pairwise fun a b => a.num < b.num
  num : ∀ i, i < s.tables.length → ∀ e ∈ s.en i, 0 < e.num ∧ e.num < (s.tables.getD i default).next
  tn : ∀ i, i < s.tables.length → (1 ≤ (s.tables.getD i default).next ∧ (s.tables.getD i default).next ≤ 1000000) ∧ (s.en i).length ≤ 12
  thing : ∀ i, i < s.tables.length → ∀ e ∈ s.en i, ∃ x ∈ s.things, x.id = e.id
  plain : ∀ i, i < s.tables.length → ∀ e ∈ s.en i, e.plain
  ends : ∀ i, i < s.tables.length → ∀ e ∈ s.en i, ∃ n, s.sEnds n e = true
  own : ∀ x ∈ s.things, s.all.countP (owsP x.id) = 1
def Shelf.Lds (s : Shelf) : Prop := ∀ i, i < s.tables.length → ∀ e ∈ s.en i, e.lends = (s.all.countP (borP i e.num) : Int)
theorem good_H {s : Shelf} (h : s.good) : s.H ∧ s.Lds := by
  have g := good_G h
  have hT := goodT_iff.1 g.tg
  have ht := fun i hi => tgood_iff.1 (g.tt i hi)
  exact ⟨⟨g.nx, g.tb, hT.1.1.1, fun x hx => ⟨hT.1.1.2 x hx, hT.1.2 x hx⟩, hT.2, fun i hi => (ht i hi).1.1.1, fun i hi e he => ⟨(ht i hi).1.1.2 e he, ((ht i hi).1.2 e he).1⟩, fun i hi => (ht i hi).2,
    fun i hi => all_getD.1 fun k hk => thing_mem.1 (g.snd i k hi hk).1, fun i hi => all_getD.1 fun k hk => (g.snd i k hi hk).2, fun i hi => all_getD.1 fun k hk => g.ends i k hi hk, all_getD.1 g.own⟩,
    fun i hi => (all_getD (P := fun e => e.lends = (s.all.countP (borP i e.num) : Int))).1 fun k hk => g.lends i k hi hk⟩
theorem H_good {s : Shelf} (h : s.H) (hl : s.Lds) : s.good := by
  refine G_good ⟨h.nx, h.tb, goodT_iff.2 ⟨⟨⟨h.ids, fun x hx => (h.fine x hx).1⟩, fun x hx => (h.fine x hx).2⟩, h.tl⟩, fun i hi => tgood_iff.2 ⟨⟨⟨h.nums i hi, fun e he => (h.num i hi e he).1⟩, fun e he => ⟨(h.num i hi e he).2, ?_⟩⟩, h.tn i hi⟩,
    fun i k hi hk => ⟨thing_mem.2 (h.thing i hi _ (getD_mem hk)), h.plain i hi _ (getD_mem hk)⟩, fun i k hi hk => h.ends i hi _ (getD_mem hk), fun i k hi hk => hl i hi _ (getD_mem hk), fun k hk => h.own _ (getD_mem hk)⟩
  rw [hl i hi e he]
  omega
end Go.Proofs.Ytmglpojnoadgeaa
