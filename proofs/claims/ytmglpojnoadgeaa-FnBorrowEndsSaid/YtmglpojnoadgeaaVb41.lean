/- Texts for VBorrowEndsP. -/
import Derived.Test.YtmglpojnoadgeaaVb40
namespace Go.Proofs.Ytmglpojnoadgeaa
open Go Go.RowKit
set_option linter.unusedVariables false
set_option linter.unusedSimpArgs false
theorem unlent_good {s : Shelf} (h : s.good) {w f p : Nat} (hw : w < s.tables.length) {e : Entry} (he : e ∈ s.en w) (ho : e.own = false) (h0 : e.lends = 0) (hf : e.from_ = (f : Int)) (hfl : f < s.tables.length) (hp : p < ((s.cut w e.num).en f).length) (hn : (((s.cut w e.num).en f).getD p default).num = e.fromNum) : ((s.cut w e.num).setL f p (IntKind.i64.wrap ((((s.cut w e.num).en f).getD p default).lends - 1))).good := by
  obtain ⟨hH, hL⟩ := good_H h
  have hfl1 : f < (s.cut w e.num).tables.length := by rw [cut_len2]; exact hfl
  have h1 : (s.cut w e.num).H := (cut_H0 hH.h0 hw (bare_of hL hw he h0)).full fun x hx => by
    have hc := cut_count hH.h0 hw he (p := owsP x.id)
    rw [if_neg (by unfold owsP; rw [ho]; simp)] at hc
    have := hH.own x hx
    omega
  have hS := setL_same (h1.nums f hfl1) hfl1 hp (IntKind.i64.wrap ((((s.cut w e.num).en f).getD p default).lends - 1))
  have hsub : ∀ i, ∀ z ∈ (s.cut w e.num).en i, z ∈ s.en i := fun i z hz => by
    rw [cut_en hw] at hz
    split at hz
    · rename_i q
      subst q
      exact (List.mem_filter.1 hz).1
    · exact hz
  have hbor : ∀ a b, s.all.countP (borP a b) = (s.cut w e.num).all.countP (borP a b) + (if (f : Int) = a ∧ e.fromNum = b then 1 else 0) := fun a b => by
    rw [← cut_count hH.h0 hw he (p := borP a b)]
    congr 1
    unfold borP
    rw [ho, hf]
    simp only [Bool.not_false, Bool.true_and, decide_eq_true_eq]
  refine H_good (hS.H h1) fun i hi x hx => ?_
  have hi1 : i < (s.cut w e.num).tables.length := by rw [← hS.len]; exact hi
  have hi' : i < s.tables.length := by rw [← cut_len2]; exact hi1
  rw [hS.count fun i e => by unfold borP; rw [(hS.eq i e).2.2.1, (hS.eq i e).2.2.2.2.1, (hS.eq i e).2.2.2.2.2]]
  rw [hS.en i hi1, List.mem_map] at hx
  obtain ⟨z, hz, rfl⟩ := hx
  rw [(hS.eq i z).1]
  have hzl := hL i hi' z (hsub i z hz)
  have hb := hbor i z.num
  unfold lendF
  by_cases c : i = f ∧ z.num = (((s.cut w e.num).en f).getD p default).num
  · rw [if_pos c]
    show IntKind.i64.wrap ((((s.cut w e.num).en f).getD p default).lends - 1) = _
    have hpl := hL f hfl _ (hsub f _ (getD_mem hp))
    rw [hn] at c hpl
    rw [if_pos ⟨by omega, by omega⟩] at hb
    have hle := List.countP_le_length (p := borP i z.num) (l := s.all)
    have hsm := H_small hH
    rw [hpl, show s.all.countP (borP f e.fromNum) = s.all.countP (borP i z.num) by rw [c.1, c.2], wrap_in (by omega) (by omega)]
    omega
  · rw [if_neg c]
    rw [hn] at c
    rw [if_neg (fun d => c ⟨by omega, d.2.symm⟩)] at hb
    rw [hzl, hb]
    rfl
theorem new_good {n : Nat} (h1 : 1 ≤ n) (h7 : n ≤ 7) : (⟨1, List.replicate n ⟨1, []⟩, []⟩ : Shelf).good := by
  have hl : (⟨1, List.replicate n ⟨1, []⟩, []⟩ : Shelf).tables.length = n := List.length_replicate
  have ht : ∀ i, i < n → (⟨1, List.replicate n ⟨1, []⟩, []⟩ : Shelf).tables.getD i default = ⟨1, []⟩ := fun i hi => by
    show (List.replicate n (⟨1, []⟩ : Table)).getD i default = _
    rw [List.getD_eq_getElem?_getD, List.getElem?_replicate, if_pos hi]
    rfl
  have he : ∀ i, i < n → (⟨1, List.replicate n ⟨1, []⟩, []⟩ : Shelf).en i = [] := fun i hi => by unfold Shelf.en; rw [ht i hi]
  have no : ∀ {P : Prop} {i : Nat} {e : Entry}, i < (⟨1, List.replicate n ⟨1, []⟩, []⟩ : Shelf).tables.length → e ∈ (⟨1, List.replicate n ⟨1, []⟩, []⟩ : Shelf).en i → P := fun {P i e} hi hm => by
    rw [he i (hl ▸ hi)] at hm
    cases hm
  refine H_good ⟨⟨Int.le_refl _, by show (1 : Int) ≤ 1000000; decide⟩, by rw [hl]; omega, List.Pairwise.nil, fun x hx => (by cases hx), Nat.zero_le _, fun i hi => by rw [he i (hl ▸ hi)]; exact List.Pairwise.nil, fun i hi e hm => no hi hm, fun i hi => ?_, fun i hi e hm => no hi hm, fun i hi e hm => no hi hm, fun i hi e hm => no hi hm, fun x hx => (by cases hx)⟩ fun i hi e hm => no hi hm
  rw [he i (hl ▸ hi), ht i (hl ▸ hi)]
  exact ⟨⟨Int.le_refl _, by show (1 : Int) ≤ 1000000; decide⟩, Nat.zero_le _⟩
set_option maxRecDepth 8000
set_option maxHeartbeats 2000000 in
theorem l19Drop_none (s : Shelf) (h : s.ok) (who num : Int) (hg : s.good) (hw : 0 ≤ who ∧ who < (s.tables.length : Int)) (hE : s.at_ who num = none) : RetM env.P 95 [some (boxRow s.csO)] [.ptr 0 0 0, .i .i64 who, .i .i64 num] (fun r H => r = .tup [.agg [.i .i64 0, .i .i64 0, .i .i64 0], .i .i64 11] ∧ H = [some (boxRow s.csO)]) := by
  have hl : s.tables.length ≤ 1048576 := h.1.1
  have hw2 : who.toNat < s.tables.length := by omega
  have h7 := hg.2.1.2
  have he := entLe h who.toNat
  refine ret_ofM (nt := 63) (rvs := [.cell 6 35, .tmp 7]) Try.func95 rfl rfl rfl rfl (fun X hX => ?_)
  repeat' (first | exact aa | ((conv => whnf) <;> (first | ((first | refine .inl ⟨_, Ret.wka (l19At_ok s h who num), ?_⟩ | refine ⟨_, Ret.wka (l19At_ok s h who num), ?_⟩); (try rintro _ rfl); rw [hE]; simp only [entR]) | refine And.intro ?_ ?_ | (intro _h; first | contradiction | (try simp only [dd] at _h)) | (refine dt_go ?_) | exact rfl | exact True.intro | exact dkk | exact dks | (refine wrap_succ ?_; omega))))
  all_goals (first | contradiction | skip)
  all_goals (conv => whnf)
  all_goals exact endM_pick [0] [some (boxRow (s).csO)] (.tup [.agg [.i .i64 0, .i .i64 0, .i .i64 0], .i .i64 11]) (view_of rfl (.cons rfl (.self (rowPl_box rfl)) .nil)) rfl rfl (by rw [hX]; exact keepK (n := 1) rfl rfl) ⟨rfl, rfl⟩
set_option maxHeartbeats 2000000 in
theorem l19Drop_lent (s : Shelf) (h : s.ok) (who num : Int) (hg : s.good) (hw : 0 ≤ who ∧ who < (s.tables.length : Int)) (n i ld sc fr fn : Int) (ow : Bool) (hE : s.at_ who num = some ⟨n, i, ow, ld, sc, fr, fn⟩) (hl0 : 0 < ld) : RetM env.P 95 [some (boxRow s.csO)] [.ptr 0 0 0, .i .i64 who, .i .i64 num] (fun r H => r = .tup [.agg [.i .i64 0, .i .i64 0, .i .i64 0], .i .i64 12] ∧ H = [some (boxRow s.csO)]) := by
  have hl : s.tables.length ≤ 1048576 := h.1.1
  have hw2 : who.toNat < s.tables.length := by omega
  have h7 := hg.2.1.2
  have he := entLe h who.toNat
  refine ret_ofM (nt := 63) (rvs := [.cell 6 35, .tmp 7]) Try.func95 rfl rfl rfl rfl (fun X hX => ?_)
  repeat' (first | exact aa | ((conv => whnf) <;> (first | ((first | refine .inl ⟨_, Ret.wka (l19At_ok s h who num), ?_⟩ | refine ⟨_, Ret.wka (l19At_ok s h who num), ?_⟩); (try rintro _ rfl); rw [hE]; simp only [entR]) | refine And.intro ?_ ?_ | (intro _h; first | contradiction | (try simp only [dd] at _h)) | (refine dt_go ?_) | exact rfl | exact True.intro | exact dkk | exact dks | (refine wrap_succ ?_; omega))))
  all_goals (first | contradiction | (dsimp only; omega) | (exfalso; omega) | skip)
  all_goals (conv => whnf)
  all_goals exact endM_pick [0] [some (boxRow (s).csO)] (.tup [.agg [.i .i64 0, .i .i64 0, .i .i64 0], .i .i64 12]) (view_of rfl (.cons rfl (.self (rowPl_box rfl)) .nil)) rfl rfl (by rw [hX]; exact keepK (n := 1) rfl rfl) ⟨rfl, rfl⟩
set_option maxHeartbeats 2000000 in
theorem l19Drop_own (s : Shelf) (h : s.ok) (who num : Int) (hg : s.good) (hw : 0 ≤ who ∧ who < (s.tables.length : Int)) (n i ld sc fr fn : Int) (hE : s.at_ who num = some ⟨n, i, true, ld, sc, fr, fn⟩) (hl0 : ¬ 0 < ld) : RetM env.P 95 [some (boxRow s.csO)] [.ptr 0 0 0, .i .i64 who, .i .i64 num] (fun r H => r = .tup [.agg (lastX i s.things).cs, .i .i64 0] ∧ H = [some (boxRow ((s.cut who.toNat num).cutT i).csO)]) := by
  have hl : s.tables.length ≤ 1048576 := h.1.1
  have hw2 : who.toNat < s.tables.length := by omega
  have h7 := hg.2.1.2
  have he := entLe h who.toNat
  refine ret_ofM (nt := 63) (rvs := [.cell 6 35, .tmp 7]) Try.func95 rfl rfl rfl rfl (fun X hX => ?_)
  repeat' (first | exact aa | ((conv => whnf) <;> (first | ((first | refine .inl ⟨_, Ret.wka (l19At_ok s h who num), ?_⟩ | refine ⟨_, Ret.wka (l19At_ok s h who num), ?_⟩); (try rintro _ rfl); rw [hE]; simp only [entR]) | refine And.intro ?_ ?_ | (intro _h; first | contradiction | (try simp only [dd] at _h)) | (refine dt_go ?_) | exact rfl | exact True.intro | exact dkk | exact dks | (refine .inr (.inl (.inl ⟨[0], _, _, _, l19Cut_ok s h who num hw h7, viewA, ⟨rfl, rfl⟩, ?_⟩)); rintro _ _ ⟨rfl, rfl⟩; refine ⟨rfl, _, lokA, ?_⟩) | (refine .inr (.inl (.inl ⟨[0], _, _, _, l19CutThing_ok (s.cut who.toNat num) (cut_ok h) _, viewA, ⟨rfl, rfl⟩, ?_⟩)); rintro _ _ ⟨rfl, rfl⟩; refine ⟨rfl, _, lokA, ?_⟩) | (refine wrap_succ ?_; omega))))
  all_goals (first | contradiction | (dsimp only; omega) | (exfalso; omega) | skip)
  all_goals (conv => whnf)
  all_goals exact endM_pick [0] [some (boxRow ((s.cut who.toNat num).cutT i).csO)] (.tup [.agg (lastX i s.things).cs, .i .i64 0]) (view_of rfl (.cons rfl (.self (rowPl_box rfl)) .nil)) rfl rfl (by rw [hX]; exact keepK (n := 1) rfl rfl) ⟨rfl, rfl⟩
set_option maxHeartbeats 2000000 in
theorem l19Drop_borS (s : Shelf) (h : s.ok) (who num : Int) (hg : s.good) (hw : 0 ≤ who ∧ who < (s.tables.length : Int)) (n i ld sc fr fn : Int) (hE : s.at_ who num = some ⟨n, i, false, ld, sc, fr, fn⟩) (hl0 : ¬ 0 < ld) (hf : 0 ≤ fr ∧ fr < (s.tables.length : Int)) (p : Nat) (hp : ((s.cut who.toNat num).tables.getD fr.toNat default).find fn = some p) : RetM env.P 95 [some (boxRow s.csO)] [.ptr 0 0 0, .i .i64 who, .i .i64 num] (fun r H => r = .tup [.agg [.i .i64 0, .i .i64 0, .i .i64 0], .i .i64 0] ∧ H = [some (boxRow ((s.cut who.toNat num).setL fr.toNat p (IntKind.i64.wrap ((((s.cut who.toNat num).tables.getD fr.toNat default).entries.getD p default).lends - 1))).csO)]) := by
  have hl : s.tables.length ≤ 1048576 := h.1.1
  have hw2 : who.toNat < s.tables.length := by omega
  have h7 := hg.2.1.2
  have he := entLe h who.toNat
  have hlc : (s.cut who.toNat num).tables.length = s.tables.length := setE_len
  have hlc1 : (s.cut who.toNat num).tables.length ≤ 1048576 := by rw [hlc]; exact hl
  have hk2 : fr.toNat < (s.cut who.toNat num).tables.length := by rw [hlc]; omega
  have hlt : p < ((s.cut who.toNat num).tables.getD fr.toNat default).entries.length := (find_lt hp).1
  have hec : ((s.cut who.toNat num).tables.getD fr.toNat default).entries.length ≤ 1048576 := entLe (cut_ok h) _
  refine ret_ofM (nt := 63) (rvs := [.cell 6 35, .tmp 7]) Try.func95 rfl rfl rfl rfl (fun X hX => ?_)
  repeat' (first | exact aa | ((conv => whnf) <;> (first | ((first | refine .inl ⟨_, Ret.wka (l19At_ok s h who num), ?_⟩ | refine ⟨_, Ret.wka (l19At_ok s h who num), ?_⟩); (try rintro _ rfl); rw [hE]; simp only [entR]) | ((first | refine .inl ⟨_, Ret.wka (l19Entry_ok _ ((cut_ok h).1.2 fr.toNat hk2) fn), ?_⟩ | refine ⟨_, Ret.wka (l19Entry_ok _ ((cut_ok h).1.2 fr.toNat hk2) fn), ?_⟩); (try rintro _ rfl); rw [hp]; simp only [idxI]) | (refine dt_goN [0] rfl ?_) | (refine dt_goM [4] ?_) | (refine ld_skip rfl rfl rfl rfl upd_self ?_) | (refine bool_skip any_self ?_) | (first | rw [ld_self rfl] | rw [ld_selfA rfl]) | refine And.intro ?_ ?_ | (intro _h; first | contradiction | (try simp only [dd] at _h)) | (refine dt_go ?_) | exact rfl | exact True.intro | exact dkk | exact dks | (refine .inr (.inl (.inl ⟨[0], _, _, _, l19Cut_ok s h who num hw h7, viewA, ⟨rfl, rfl⟩, ?_⟩)); rintro _ _ ⟨rfl, rfl⟩; refine ⟨rfl, _, lokA, ?_⟩) | (refine wrap_succ ?_; omega))))
  all_goals (first | contradiction | (dsimp only; omega) | (exfalso; omega) | skip)
  all_goals (conv => whnf)
  all_goals refine endM_turn (by exact turn_close (id := 3) (i := fr.toNat) (j := 1) (id' := 4) rfl hk2 (show 1 < 2 by decide) (by exact upd_self) rfl (show 3 ≠ 4 by decide) rfl (by exact setLd_rowO (Nat.le_refl _))) ?_
  all_goals refine endM_turn (by exact turn_eq (id := 3) (x := rowL 2 Table.csO ((s.cut who.toNat num).setE fr.toNat (setLd ((s.cut who.toNat num).tables.getD fr.toNat default).entries p (IntKind.i64.wrap ((((s.cut who.toNat num).tables.getD fr.toNat default).entries.getD p default).lends - 1)))).tables) rfl rfl setE_len rfl rfl (setE_rows (l := (setLd ((s.cut who.toNat num).tables.getD fr.toNat default).entries p (IntKind.i64.wrap ((((s.cut who.toNat num).tables.getD fr.toNat default).entries.getD p default).lends - 1)))) hk2 setLd_len.symm (setLd_rows hlt))) ?_
  all_goals refine endM_turn (by exact turn_close (id := 0) (i := 0) (j := 1) (id' := 3) rfl (show 0 < 1 by decide) (show 1 < 3 by decide) rfl rfl (show 0 ≠ 3 by decide) rfl (rowO_le (Nat.le_of_eq setE_len.symm))) ?_
  all_goals refine endM_turn (by exact turn_box (id := 0) (ds := ((s.cut who.toNat num).setE fr.toNat (setLd ((s.cut who.toNat num).tables.getD fr.toNat default).entries p (IntKind.i64.wrap ((((s.cut who.toNat num).tables.getD fr.toNat default).entries.getD p default).lends - 1)))).csO) rfl rfl rfl (.cons (.refl _) (.cons (OwEq.len setE_len.symm (fun i j _ _ => HoldC.h _ j) (fun i j _ _ => .refl _)) (.cons (.refl _) .nil)))) ?_
  all_goals exact endM_pick [0] [some (boxRow (((s.cut who.toNat num).setL fr.toNat p (IntKind.i64.wrap ((((s.cut who.toNat num).tables.getD fr.toNat default).entries.getD p default).lends - 1)))).csO)] (.tup [.agg [.i .i64 0, .i .i64 0, .i .i64 0], .i .i64 0]) (view_of rfl (.cons rfl (.self (rowPl_box rfl)) .nil)) rfl rfl (by rw [hX]; exact keepK (n := 1) rfl rfl) ⟨rfl, rfl⟩
theorem self_not {s : Shelf} {e : Entry} (ho : e.own = false) (h : s.orig e = some e) : ∀ n, s.sEnds n e = false
  | 0 => rfl
  | n + 1 => by
    rw [Shelf.sEnds_on ho h rfl]
    exact self_not ho h n
theorem orig_some {s : Shelf} (h : s.good) {who num : Int} {e : Entry} (he : s.at_ who num = some e) (ho : e.own = false) : (∃ x, s.orig e = some x) ∧ ¬ (e.from_.toNat = who.toNat ∧ e.fromNum = num) := by
  obtain ⟨h1, h2, k, h3, h4⟩ := at_in he
  obtain ⟨n, hn⟩ := shelf_ends h.tidy _ k h1 h3
  rw [h4] at hn
  have hx : ∃ x, s.orig e = some x := by
    cases n with
    | zero => cases hn
    | succ n =>
      cases hx : s.orig e with
      | none => rw [Shelf.sEnds_none ho hx] at hn; cases hn
      | some x => exact ⟨x, rfl⟩
  refine ⟨hx, fun ⟨q1, q2⟩ => ?_⟩
  obtain ⟨x, hx⟩ := hx
  have : x = e := by
    have hx' := hx
    unfold Shelf.orig at hx'
    rw [at_eq] at hx' he
    split at hx'
    · split at he
      · rw [q1, q2, he] at hx'
        exact (Option.some.inj hx').symm
      · cases he
    · cases hx'
  subst this
  rw [self_not ho hx] at hn
  cases hn
theorem find_ne {num m : Int} (hne : ¬ m = num) : ∀ l : List Entry, (cutL num l).find? (numP m) = l.find? (numP m)
  | [] => rfl
  | a :: l => by
    unfold cutL
    rw [List.filter_cons, List.find?_cons]
    have ih := find_ne hne l
    unfold cutL at ih
    by_cases e : a.num = num
    · have e1 : (!numP num a) = false := by simp [numP, e]
      have e2 : numP m a = false := by simp only [numP, e, decide_eq_false_iff_not]; exact fun q => hne q.symm
      rw [e1, e2]
      exact ih
    · have e1 : (!numP num a) = true := by simp [numP, e]
      rw [e1, if_pos rfl, List.find?_cons, ih]
theorem cut_at_other {s : Shelf} {w : Nat} {num who m : Int} (hw : w < s.tables.length) (hne : ¬ (who.toNat = w ∧ m = num)) : (s.cut w num).at_ who m = s.at_ who m := by
  have hT : (s.cut w num).isT who = s.isT who := by unfold Shelf.isT Shelf.cut; rw [setE_len]
  rw [at_eq, at_eq, hT]
  unfold Shelf.cut
  rw [setE_at hw]
  split
  · split
    · rename_i e
      rw [e, find_ne fun q => hne ⟨e, q⟩]
    · rfl
  · rfl
theorem at_posD {s : Shelf} {who m : Int} {x : Entry} (h : s.at_ who m = some x) : (0 ≤ who ∧ who < (s.tables.length : Int)) ∧ ∃ p, (s.tables.getD who.toNat default).find m = some p ∧ (s.tables.getD who.toNat default).entries.getD p default = x := by
  by_cases hw : 0 ≤ who ∧ who < (s.tables.length : Int)
  · refine ⟨hw, ?_⟩
    rw [at_find hw] at h
    obtain ⟨p, h1, h2⟩ := Option.map_eq_some_iff.1 h
    exact ⟨p, h1, h2⟩
  · rw [at_out hw] at h
    cases h
theorem last_none {id : Int} : ∀ {l : List Thing} {o : Thing}, (∀ x ∈ l, ¬ x.id = id) → l.foldl (fun o x => if x.id = id then x else o) o = o
  | [], _, _ => rfl
  | a :: l, o, h => by
    rw [List.foldl_cons, if_neg (h a (by simp))]
    exact last_none fun x hx => h x (by simp [hx])
def uniqX (l : List Thing) : Prop := ∀ i j, i < l.length → j < l.length → (l.getD i default).id = (l.getD j default).id → i = j
theorem cutX_none {id : Int} {l : List Thing} (h : ∀ x ∈ l, ¬ x.id = id) : cutX id l = l := List.filter_eq_self.2 fun x hx => by simp [idP, h x hx]
theorem cutX_erase {id : Int} : ∀ {l : List Thing} {q : Nat}, uniqX l → l.findIdx? (idP id) = some q → cutX id l = l.eraseIdx q ∧ lastX id l = l.getD q default ∧ q < l.length
  | [], q, _, h => by cases h
  | a :: l, q, hu, h => by
    have hu2 : uniqX l := fun i j hi hj e => by
      have := hu (i + 1) (j + 1) (by simpa using hi) (by simpa using hj) (by simpa using e)
      omega
    rw [List.findIdx?_cons] at h
    by_cases e : a.id = id
    · have ea : idP id a = true := by simp [idP, e]
      rw [ea, if_pos rfl] at h
      cases h
      have hn : ∀ x ∈ l, ¬ x.id = id := fun x hx e2 => by
        obtain ⟨k, hk⟩ := List.getElem?_of_mem hx
        have := hu (k + 1) 0 (by simpa using (List.getElem?_eq_some_iff.1 hk).1) (by simp) (by
          rw [List.getD_eq_getElem?_getD]
          simp only [List.getElem?_cons_succ, hk, Option.getD_some]
          exact e2.trans e.symm)
        omega
      refine ⟨?_, ?_, by simp⟩
      · have : cutX id (a :: l) = cutX id l := by
          unfold cutX
          rw [List.filter_cons, ea]
          rfl
        rw [this, cutX_none hn]
        rfl
      · unfold lastX
        rw [List.foldl_cons, if_pos e, last_none hn]
        rfl
    · have ea : idP id a = false := by simp [idP, e]
      rw [ea] at h
      simp only [Bool.false_eq_true, if_false] at h
      obtain ⟨q', hq', rfl⟩ := Option.map_eq_some_iff.1 h
      obtain ⟨h1, h2, h3⟩ := cutX_erase hu2 hq'
      refine ⟨?_, ?_, by simpa using h3⟩
      · have : cutX id (a :: l) = a :: cutX id l := by
          unfold cutX
          rw [List.filter_cons, ea]
          rfl
        rw [this, h1]
        rfl
      · unfold lastX at h2 ⊢
        rw [List.foldl_cons, if_neg e, h2]
        simp
theorem good_ltX {s : Shelf} (h : s.goodT) : ∀ {i j : Nat}, i < j → j < s.things.length → (s.things.getD i default).id < (s.things.getD j default).id := by
  intro i j hij hj
  induction j with
  | zero => omega
  | succ j ih =>
    have h1 := (h.1 (j + 1) hj).1
    unfold prevId at h1
    rw [if_neg (by omega), Nat.add_sub_cancel] at h1
    rcases Nat.lt_or_eq_of_le (Nat.le_of_lt_succ hij) with q | rfl
    · have := ih q (by omega); omega
    · exact h1
theorem good_uniqX {s : Shelf} (h : s.goodT) : uniqX s.things := fun i j hi hj e => by
  rcases Nat.lt_trichotomy i j with q | q | q
  · have := good_ltX h q hj; omega
  · exact q
  · have := good_ltX h q hi; omega
end Go.Proofs.Ytmglpojnoadgeaa
