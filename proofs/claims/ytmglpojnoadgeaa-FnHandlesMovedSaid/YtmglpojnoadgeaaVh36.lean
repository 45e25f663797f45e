/- Texts for VHandlesMovedP. -/
import Derived.Test.YtmglpojnoadgeaaVh35
namespace Go.Proofs.Ytmglpojnoadgeaa
open Go Go.RowKit
set_option linter.unusedVariables false
set_option linter.unusedSimpArgs false
def lendF (w : Nat) (num v : Int) : Nat → Entry → Entry := fun i e => if i = w ∧ e.num = num then { e with lends := v } else e
theorem setL_same {s : Shelf} {w : Nat} (hn : (s.en w).Pairwise fun a b => a.num < b.num) {k : Nat} (hw : w < s.tables.length) (hk : k < (s.en w).length) (v : Int) : s.Same (s.setL w k v) (lendF w ((s.en w).getD k default).num v) := by
  have hen : ∀ i, (s.setL w k v).en i = if i = w then setLd (s.en w) k v else s.en i := fun i => by
    unfold Shelf.en Shelf.setL
    rw [setE_at hw]
    split <;> rfl
  refine ⟨rfl, rfl, setE_len, fun i hi => setL_at.2, fun i hi => ?_, fun i e => ?_⟩
  · rw [hen]
    split
    · rename_i q
      subst q
      refine list_ext (by rw [setLd_len, List.length_map]) fun j hj => ?_
      rw [setLd_len] at hj
      unfold setLd
      rw [getD_set hk]
      have hm : ((s.en i).map (lendF i ((s.en i).getD k default).num v i)).getD j default = lendF i ((s.en i).getD k default).num v i ((s.en i).getD j default) := by
        simp only [List.getD_eq_getElem?_getD, List.getElem?_map, List.getElem?_eq_getElem hj, Option.map_some, Option.getD_some]
      rw [hm]
      unfold lendF
      split
      · rename_i q
        subst q
        rw [if_pos ⟨rfl, rfl⟩]
      · rename_i q
        rw [if_neg]
        rintro ⟨_, e⟩
        rw [List.pairwise_iff_getElem] at hn
        rw [List.getD_eq_getElem?_getD, List.getElem?_eq_getElem hj, List.getD_eq_getElem?_getD, List.getElem?_eq_getElem hk] at e
        dsimp only [Option.getD_some] at e
        rcases Nat.lt_trichotomy j k with c | c | c
        · have := hn j k hj hk c; omega
        · exact q c
        · have := hn k j hk hj c; omega
    · rename_i q
      have : lendF w ((s.en w).getD k default).num v i = id := by funext e; unfold lendF; rw [if_neg fun c => q c.1]; rfl
      rw [this, List.map_id]
  · unfold lendF
    split <;> exact ⟨rfl, rfl, rfl, rfl, rfl, rfl⟩
theorem at_one {s : Shelf} (h : s.H0) {who : Int} (hw : 0 ≤ who ∧ who < (s.tables.length : Int)) {e : Entry} (he : e ∈ s.en who.toNat) : s.at_ who e.num = some e := by
  rw [at_eq, if_pos (by simpa [Shelf.isT] using hw), ← List.head?_filter]
  have := filter_one (h.nums who.toNat (by omega)) he rfl
  unfold Shelf.en at this
  rw [this]
  rfl
theorem lent_good {s : Shelf} (h : s.good) {who num scope : Int} {q to : Nat} (hw : 0 ≤ who ∧ who < (s.tables.length : Int)) (hto : to < s.tables.length) (hq : q < (s.en who.toNat).length) (hn : ((s.en who.toNat).getD q default).num = num) (hs : 1 ≤ scope ∧ scope ≤ 1000000) (hf : ¬ s.fullB to) : (s.lentTo who num q to scope).good := by
  obtain ⟨hH, hL⟩ := good_H h
  subst hn
  have hw2 : who.toNat < s.tables.length := by omega
  have he := getD_mem (l := s.en who.toNat) hq
  have hS := setL_same (hH.nums _ hw2) hw2 hq (IntKind.i64.wrap (((s.tables.getD who.toNat default).entries.getD q default).lends + 1))
  have hH1 := hS.H hH
  have hto' : to < (s.setL who.toNat q (IntKind.i64.wrap (((s.tables.getD who.toNat default).entries.getD q default).lends + 1))).tables.length := by rw [hS.len]; exact hto
  have hat := at_one hH.h0 hw he
  have hf' : ¬ (s.setL who.toNat q (IntKind.i64.wrap (((s.tables.getD who.toNat default).entries.getD q default).lends + 1))).fullB to := by
    unfold Shelf.fullB at *
    rw [setL_at.1, setL_at.2]
    exact hf
  obtain ⟨n, hn⟩ := hH.ends _ hw2 _ he
  have hlends := hL _ hw2 _ he
  have hwrap : IntKind.i64.wrap (((s.en who.toNat).getD q default).lends + 1) = ((s.all.countP (borP who.toNat ((s.en who.toNat).getD q default).num) + 1 : Nat) : Int) := by
    rw [hlends]
    exact wrap_small (by have := List.countP_le_length (p := borP who.toNat ((s.en who.toNat).getD q default).num) (l := s.all); have := H_small hH; omega)
  have h3 := put_H0 hH1.h0 hto' (e := ⟨0, ((s.tables.getD who.toNat default).entries.getD q default).id, false, 0, scope, who, ((s.en who.toNat).getD q default).num⟩) hf' (by
      rw [hS.th]
      exact (show ∃ x ∈ s.things, x.id = ((s.en who.toNat).getD q default).id from hH.thing _ hw2 _ he)) (by unfold Entry.plain; rw [if_neg (show ¬ false = true from Bool.false_ne_true)]; exact hs) (fun _ => ⟨lendF who.toNat ((s.en who.toNat).getD q default).num (IntKind.i64.wrap (((s.tables.getD who.toNat default).entries.getD q default).lends + 1)) who.toNat ((s.en who.toNat).getD q default), n, by rw [hS.at]; show (s.at_ who ((s.en who.toNat).getD q default).num).map _ = _; rw [hat]; rfl, (hS.eq _ _).2.1, by rw [hS.sEnds]; exact hn⟩)
  have hown : ∀ id, (s.lentTo who ((s.en who.toNat).getD q default).num q to scope).all.countP (owsP id) = s.all.countP (owsP id) := fun id => by
    unfold Shelf.lentTo
    rw [put_count hto', hS.count fun i e => by unfold owsP; rw [(hS.eq i e).2.1, (hS.eq i e).2.2.1], if_neg (by unfold owsP; simp)]
    omega
  have hbor : ∀ a b, (s.lentTo who ((s.en who.toNat).getD q default).num q to scope).all.countP (borP a b) = s.all.countP (borP a b) + (if who = a ∧ ((s.en who.toNat).getD q default).num = b then 1 else 0) := fun a b => by
    unfold Shelf.lentTo
    rw [put_count hto', hS.count fun i e => by unfold borP; rw [(hS.eq i e).2.2.1, (hS.eq i e).2.2.2.2.1, (hS.eq i e).2.2.2.2.2]]
    congr 1
    unfold borP
    simp only [Bool.not_false, Bool.true_and, decide_eq_true_eq]
  refine H_good (h3.full fun x hx => ?_) fun i hi x hx => ?_
  · have := hown x.id
    unfold Shelf.lentTo at this
    rw [this]
    exact hH.own x (hS.th ▸ hx)
  · have hi' : i < s.tables.length := by
      have : (s.lentTo who ((s.en who.toNat).getD q default).num q to scope).tables.length = s.tables.length := by unfold Shelf.lentTo; rw [put_len2, hS.len]
      omega
    rw [hbor]
    have hold : ∀ y ∈ (s.setL who.toNat q (IntKind.i64.wrap (((s.tables.getD who.toNat default).entries.getD q default).lends + 1))).en i, y.lends = ((s.all.countP (borP i y.num) + (if who = (i : Int) ∧ ((s.en who.toNat).getD q default).num = y.num then 1 else 0) : Nat) : Int) := by
      intro y hy
      rw [hS.en i hi', List.mem_map] at hy
      obtain ⟨z, hz, rfl⟩ := hy
      rw [(hS.eq i z).1]
      have hzl := hL i hi' z hz
      unfold lendF
      by_cases c : i = who.toNat ∧ z.num = ((s.en who.toNat).getD q default).num
      · rw [if_pos c, if_pos ⟨by omega, c.2.symm⟩]
        show IntKind.i64.wrap _ = _
        rw [c.1, c.2]
        exact hwrap
      · rw [if_neg c, if_neg (fun d => c ⟨by omega, d.2.symm⟩), hzl]
        rfl
    have hx' : x ∈ ((s.setL who.toNat q (IntKind.i64.wrap (((s.tables.getD who.toNat default).entries.getD q default).lends + 1))).put to ⟨0, ((s.tables.getD who.toNat default).entries.getD q default).id, false, 0, scope, who, ((s.en who.toNat).getD q default).num⟩).en i := hx
    rw [put_en hto'] at hx'
    split at hx'
    · rename_i c
      subst c
      rcases List.mem_append.1 hx' with d | d
      · exact hold x d
      · rw [List.mem_singleton] at d
        subst d
        rw [hS.tn i hi']
        have h0 := fresh_none hH.h0 hi'
        rw [h0, if_neg]
        · rfl
        · rintro ⟨c1, c2⟩
          have h5 := (hH.num _ hw2 _ he).2
          have h6 : who.toNat = i := by omega
          rw [h6] at h5 c2
          have c3 : ((s.en i).getD q default).num = (s.tables.getD i default).next := c2
          omega
    · exact hold x hx'
section
variable {s : Shelf} (h : s.good) {who num to : Int} {q : Nat} (hw : 0 ≤ who ∧ who < (s.tables.length : Int)) (hto : 0 ≤ to ∧ to < (s.tables.length : Int)) (hlt : q < (s.tables.getD who.toNat default).entries.length) (hn : ((s.tables.getD who.toNat default).entries.getD q default).num = num) (ho : ((s.tables.getD who.toNat default).entries.getD q default).own = true) (h0 : ((s.tables.getD who.toNat default).entries.getD q default).lends = 0) (hf : ¬ s.fullB to.toNat)
include h hw hto hlt hn ho h0 hf
theorem mv_good : (s.movedTo who num q to.toNat).good := moved_good h (by omega) (by omega) hlt hn ho h0 hf
omit hf ho h0 hlt hn
omit h hw hto in
theorem mv_len : (s.movedTo who num q to.toNat).tables.length = s.tables.length := by
  unfold Shelf.movedTo
  rw [put_len, cut_len2]
omit h in
theorem mv_en (i : Nat) : (s.movedTo who num q to.toNat).en i = if i = to.toNat then (s.cut who.toNat num).en to.toNat ++ [⟨((s.cut who.toNat num).tables.getD to.toNat default).next, ((s.tables.getD who.toNat default).entries.getD q default).id, true, 0, 0, 0, 0⟩] else (s.cut who.toNat num).en i := by
  unfold Shelf.movedTo
  rw [put_en (by rw [cut_len2]; omega)]
omit h hw hto in
theorem mv_next : ((s.cut who.toNat num).tables.getD to.toNat default).next = (s.tables.getD to.toNat default).next := cut_at.2
theorem mv_num : 1 ≤ (s.tables.getD to.toNat default).next ∧ (s.tables.getD to.toNat default).next ≤ 1000000 := (h.2.2.2.1 to.toNat (by omega)).2.1
include hlt hn ho h0 hf
theorem mv_here : (s.movedTo who num q to.toNat).at_ to ((s.cut who.toNat num).tables.getD to.toNat default).next = some ⟨((s.cut who.toNat num).tables.getD to.toNat default).next, ((s.tables.getD who.toNat default).entries.getD q default).id, true, 0, 0, 0, 0⟩ := by
  have hg := mv_good h hw hto hlt hn ho h0 hf
  have hl := mv_len (s := s) (who := who) (num := num) (to := to) (q := q)
  refine at_one (good_H hg).1.h0 (by rw [hl]; exact hto) ?_ (e := ⟨((s.cut who.toNat num).tables.getD to.toNat default).next, ((s.tables.getD who.toNat default).entries.getD q default).id, true, 0, 0, 0, 0⟩)
  rw [mv_en (num := num) (q := q) hw hto, if_pos rfl]
  exact List.mem_append_right _ (List.mem_singleton.2 rfl)
omit ho h0 hf in
theorem mv_gone : (s.movedTo who num q to.toNat).at_ who num = none := by
  have hl := mv_len (s := s) (who := who) (num := num) (to := to) (q := q)
  rw [at_eq]
  split
  · refine List.find?_eq_none.2 fun e he => ?_
    have hm : e ∈ (s.movedTo who num q to.toNat).en who.toNat := he
    rw [mv_en (num := num) (q := q) hw hto] at hm
    have hcut : ∀ e, e ∈ (s.cut who.toNat num).en who.toNat → ¬ numP num e = true := fun e he => by
      rw [cut_en (by omega), if_pos rfl] at he
      have := (List.mem_filter.1 he).2
      simpa using this
    split at hm
    · rename_i hq
      rcases List.mem_append.1 hm with h1 | h1
      · have hc : (s.cut who.toNat num).en who.toNat = (s.cut who.toNat num).en to.toNat := congrArg _ hq
        exact hcut e (by rw [hc]; exact h1)
      · rw [List.mem_singleton] at h1
        subst h1
        have hx := mv_next (s := s) (who := who) (num := num) (to := to)
        have hy := ((h.2.2.2.1 who.toNat (by omega)).1 q hlt).2.1
        simp only [numP, decide_eq_true_eq]
        rw [hx, ← hq]
        omega
    · exact hcut e hm
  · rfl
end
set_option maxRecDepth 8000
def Shelf.moveS (s : Shelf) (who num res to : Int) : Prop := (s.sGood ∧ (0 ≤ who ∧ who < (s.tables.length : Int)) ∧ (1 ≤ num ∧ num ≤ 1000000) ∧ (1 ≤ res ∧ res ≤ 8)) ∧ (0 ≤ to ∧ to < (s.tables.length : Int))
def Shelf.moveI (s : Shelf) (who num res to : Int) : Prop := s.args who num ∧ (1 ≤ res ∧ res ≤ 8) ∧ (0 ≤ to ∧ to < (s.tables.length : Int))
theorem moveS_iff {s : Shelf} {who num res to : Int} : s.moveS who num res to ↔ s.moveI who num res to := by
  unfold Shelf.moveS Shelf.moveI Shelf.args
  rw [good_iff]
  exact ⟨fun q => ⟨⟨q.1.1, q.1.2.1, q.1.2.2.1⟩, q.1.2.2.2, q.2⟩, fun q => ⟨⟨q.1.1, q.1.2.1, q.1.2.2, q.2.1⟩, q.2.2⟩⟩
set_option maxHeartbeats 2000000 in
theorem move_spec1 (s : Shelf) (h : s.ok) (who num res to : Int) (hn : ¬ s.moveS who num res to) : RetM env.P 15 [] [.agg s.cs, .i .i64 who, .i .i64 num, .i .i64 res, .i .i64 to] (fun r H => r = .tup [.agg [.i .i64 0, .nils, .nils], .i .i64 0, .i .i64 1] ∧ H = []) := by
  refine ret_ofM (nt := 42) (rvs := [.cell 10 27, .tmp 11, .tmp 12]) Try.func15 rfl rfl rfl rfl (fun X hX => ?_)
  repeat' (first | exact aa | ((conv => whnf) <;> (first | exact absurd ⟨Classical.not_not.1 ‹_›, ‹_›⟩ hn | refine And.intro ?_ ?_ | (intro _h; first | contradiction | (try simp only [dd] at _h)) | (refine dt_go ?_) | exact rfl | exact True.intro | exact dkk | exact dks | ((first | refine .inl ⟨_, Ret.wka (l19Asks_ok s h _ _ _), ?_⟩ | refine ⟨_, Ret.wka (l19Asks_ok s h _ _ _), ?_⟩); (try rintro _ rfl)) | ((first | refine .inl ⟨_, Ret.wka (l19Who_ok s h _), ?_⟩ | refine ⟨_, Ret.wka (l19Who_ok s h _), ?_⟩); (try rintro _ rfl)) | (refine wrap_succ ?_; omega))))
  all_goals first
    | (exfalso; exact hn ⟨Classical.not_not.1 ‹_›, ‹_›⟩)
    | skip
  all_goals (conv => whnf)
  all_goals exact endM_pick [] [] (.tup [.agg [.i .i64 0, .nils, .nils], .i .i64 0, .i .i64 1]) (view_of rfl .nil) rfl rfl (fun k hk => by rw [hX] at hk; exact absurd hk (Nat.not_lt_zero _)) ⟨rfl, rfl⟩
set_option maxHeartbeats 2000000 in
theorem move_specE (s : Shelf) (h : s.ok) (who num res to c : Int) (hc : ¬ c = 0) (hm : s.moveS who num res to) (hL : RetM env.P 40 [some (boxRow s.csO)] [.ptr 0 0 0, .i .i64 who, .i .i64 num, .i .i64 res, .i .i64 to] (fun r H => r = .tup [.i .i64 0, .i .i64 c] ∧ H = [some (boxRow s.csO)])) : RetM env.P 15 [] [.agg s.cs, .i .i64 who, .i .i64 num, .i .i64 res, .i .i64 to] (fun r H => r = .tup [.agg [.i .i64 0, .nils, .nils], .i .i64 0, .i .i64 c] ∧ H = []) := by
  have h1 : 1 ≤ s.tables.length := (moveS_iff.1 hm).1.1.2.1.1
  have hm0 := hm
  obtain ⟨m1, m2⟩ := hm
  refine ret_ofM (nt := 42) (rvs := [.cell 10 27, .tmp 11, .tmp 12]) Try.func15 rfl rfl rfl rfl (fun X hX => ?_)
  repeat' (first | exact aa | ((conv => whnf) <;> (first | (refine .inr (.inr ⟨[some (boxRow s.cs), some (boxRow [.i .i64 0, .nils, .nils]), none, none, some (boxRow s.csO)], (by intro X; refine Turn.trans (turn_close (id := 4) (i := 0) (j := 1) (id' := 2) rfl (show 0 < 1 by decide) (show 1 < 3 by decide) rfl rfl (show 4 ≠ 2 by decide) rfl (rowO_le (Nat.le_refl _))) ?_; refine Turn.trans (turn_close (id := 4) (i := 0) (j := 2) (id' := 3) rfl (show 0 < 1 by decide) (show 2 < 3 by decide) rfl rfl (show 4 ≠ 3 by decide) rfl (rowO_le (Nat.le_refl _))) ?_; exact turn_box (id := 4) (ds := s.csO) rfl rfl rfl (.cons (.refl _) (.cons (.refl _) (.cons (.refl _) .nil)))), (fun i _ q => (by cases q)), .inl ⟨[4], _, _, _, hL, (view_of rfl (.cons rfl (.self (rowPl_box rfl)) .nil)), ⟨rfl, rfl⟩, ?_⟩⟩); rintro _ _ ⟨rfl, rfl⟩; refine ⟨rfl, _, (lok_pl (.cons (rowPl_box rfl) .nil)), ?_⟩) | refine And.intro ?_ ?_ | (intro _h; first | contradiction | (try simp only [dd] at _h)) | (refine dt_go ?_) | exact rfl | exact True.intro | exact dkk | exact dks | ((first | refine .inl ⟨_, Ret.wka (l19Asks_ok s h _ _ _), ?_⟩ | refine ⟨_, Ret.wka (l19Asks_ok s h _ _ _), ?_⟩); (try rintro _ rfl)) | ((first | refine .inl ⟨_, Ret.wka (l19Who_ok s h _), ?_⟩ | refine ⟨_, Ret.wka (l19Who_ok s h _), ?_⟩); (try rintro _ rfl)) | (refine .inr (.inl (.inr (.inl ⟨_, RetM.wka (l19Own_ok s h h1), ?_⟩))); rintro _ _ ⟨rfl, rfl⟩; refine ⟨⟨rfl, nssA⟩, _, lokA, ?_⟩) | (refine wrap_succ ?_; omega))))
  all_goals (first | contradiction | skip)
  all_goals (conv => whnf)
  all_goals exact endM_pick [] [] (.tup [.agg [.i .i64 0, .nils, .nils], .i .i64 0, .i .i64 c]) (view_of rfl .nil) rfl rfl (fun k hk => by rw [hX] at hk; exact absurd hk (Nat.not_lt_zero _)) ⟨rfl, rfl⟩
set_option maxHeartbeats 2000000 in
theorem move_specF (s s' : Shelf) (h : s.ok) (who num res to num' : Int) (hm : s.moveS who num res to) (hL : RetM env.P 40 [some (boxRow s.csO)] [.ptr 0 0 0, .i .i64 who, .i .i64 num, .i .i64 res, .i .i64 to] (fun r H => r = .tup [.i .i64 num', .i .i64 0] ∧ H = [some (boxRow s'.csO)])) : RetM env.P 15 [] [.agg s.cs, .i .i64 who, .i .i64 num, .i .i64 res, .i .i64 to] (fun r H => r = .tup [.agg s'.resO, .i .i64 num', .i .i64 0] ∧ H = s'.rowsO) := by
  have h1 : 1 ≤ s.tables.length := (moveS_iff.1 hm).1.1.2.1.1
  have hm0 := hm
  obtain ⟨m1, m2⟩ := hm
  refine ret_ofM (nt := 42) (rvs := [.cell 10 27, .tmp 11, .tmp 12]) Try.func15 rfl rfl rfl rfl (fun X hX => ?_)
  repeat' (first | exact aa | ((conv => whnf) <;> (first | (refine .inr (.inr ⟨[some (boxRow s.cs), some (boxRow [.i .i64 0, .nils, .nils]), none, none, some (boxRow s.csO)], (by intro X; refine Turn.trans (turn_close (id := 4) (i := 0) (j := 1) (id' := 2) rfl (show 0 < 1 by decide) (show 1 < 3 by decide) rfl rfl (show 4 ≠ 2 by decide) rfl (rowO_le (Nat.le_refl _))) ?_; refine Turn.trans (turn_close (id := 4) (i := 0) (j := 2) (id' := 3) rfl (show 0 < 1 by decide) (show 2 < 3 by decide) rfl rfl (show 4 ≠ 3 by decide) rfl (rowO_le (Nat.le_refl _))) ?_; exact turn_box (id := 4) (ds := s.csO) rfl rfl rfl (.cons (.refl _) (.cons (.refl _) (.cons (.refl _) .nil)))), (fun i _ q => (by cases q)), .inl ⟨[4], _, _, _, hL, (view_of rfl (.cons rfl (.self (rowPl_box rfl)) .nil)), ⟨rfl, rfl⟩, ?_⟩⟩); rintro _ _ ⟨rfl, rfl⟩; refine ⟨rfl, _, (lok_pl (.cons (rowPl_box rfl) .nil)), ?_⟩) | refine And.intro ?_ ?_ | (intro _h; first | contradiction | (try simp only [dd] at _h)) | (refine dt_go ?_) | exact rfl | exact True.intro | exact dkk | exact dks | ((first | refine .inl ⟨_, Ret.wka (l19Asks_ok s h _ _ _), ?_⟩ | refine ⟨_, Ret.wka (l19Asks_ok s h _ _ _), ?_⟩); (try rintro _ rfl)) | ((first | refine .inl ⟨_, Ret.wka (l19Who_ok s h _), ?_⟩ | refine ⟨_, Ret.wka (l19Who_ok s h _), ?_⟩); (try rintro _ rfl)) | (refine .inr (.inl (.inr (.inl ⟨_, RetM.wka (l19Own_ok s h h1), ?_⟩))); rintro _ _ ⟨rfl, rfl⟩; refine ⟨⟨rfl, nssA⟩, _, lokA, ?_⟩) | (refine wrap_succ ?_; omega))))
  all_goals (first | contradiction | skip)
  all_goals (conv => whnf)
  all_goals exact endM_pick [5, 6] s'.rowsO (.tup [.agg s'.resO, .i .i64 num', .i .i64 0]) (view_of rfl (.cons rfl (.self (rowPl_L fun _ => rfl)) (.cons rfl (.self (rowPl_L fun _ => rfl)) .nil))) rfl rfl (fun k hk => by rw [hX] at hk; exact absurd hk (Nat.not_lt_zero _)) ⟨rfl, rfl⟩
set_option maxHeartbeats 2000000 in
theorem move_impl1 (s : Shelf) (h : s.ok) (who num res to : Int) (hn : ¬ s.moveI who num res to) : RetM env.P 14 [] [.agg s.cs, .i .i64 who, .i .i64 num, .i .i64 res, .i .i64 to] (fun r H => r = .tup [.agg [.i .i64 0, .nils, .nils], .i .i64 0, .i .i64 1] ∧ H = []) := by
  have hl : s.tables.length ≤ 1048576 := h.1.1
  refine ret_ofM (nt := 54) (rvs := [.cell 10 27, .tmp 11, .tmp 12]) Try.func14 rfl rfl rfl rfl (fun X hX => ?_)
  repeat' (first | exact aa | ((conv => whnf) <;> (first | refine And.intro ?_ ?_ | (intro _h; first | contradiction | (try simp only [dd] at _h)) | (refine dt_go ?_) | exact rfl | exact True.intro | exact dkk | exact dks | ((first | refine .inl ⟨_, shelfArgs_ok s h _ _, ?_⟩ | refine ⟨_, shelfArgs_ok s h _ _, ?_⟩); (try rintro _ rfl)) | ((first | refine .inl ⟨_, isRes_ok _, ?_⟩ | refine ⟨_, isRes_ok _, ?_⟩); (try rintro _ rfl)) | ((first | refine .inl ⟨_, sizeTable_ok _ hl, ?_⟩ | refine ⟨_, sizeTable_ok _ hl, ?_⟩); (try rintro _ rfl)) | ((first | refine .inl ⟨_, within_ok _ _ _, ?_⟩ | refine ⟨_, within_ok _ _ _, ?_⟩); try rintro _ rfl; try rw [wrap_in (by omega) (by omega)]) | (refine wrap_succ ?_; omega))))
  all_goals first
    | (exfalso; exact hn ⟨Classical.not_not.1 ‹_›, ‹_›, by omega⟩)
    | skip
  all_goals (conv => whnf)
  all_goals exact endM_pick [] [] (.tup [.agg [.i .i64 0, .nils, .nils], .i .i64 0, .i .i64 1]) (view_of rfl .nil) rfl rfl (fun k hk => by rw [hX] at hk; exact absurd hk (Nat.not_lt_zero _)) ⟨rfl, rfl⟩
set_option maxHeartbeats 2000000 in
theorem move_implE (s : Shelf) (h : s.ok) (who num res to c : Int) (hc : ¬ c = 0) (hm : s.moveI who num res to) (hL : RetM env.P 36 [some (boxRow s.csO)] [.ptr 0 0 0, .i .i64 who, .i .i64 num, .i .i64 res, .i .i64 to] (fun r H => r = .tup [.i .i64 0, .i .i64 c] ∧ H = [some (boxRow s.csO)])) : RetM env.P 14 [] [.agg s.cs, .i .i64 who, .i .i64 num, .i .i64 res, .i .i64 to] (fun r H => r = .tup [.agg [.i .i64 0, .nils, .nils], .i .i64 0, .i .i64 c] ∧ H = []) := by
  have hl : s.tables.length ≤ 1048576 := h.1.1
  have h1 : 1 ≤ s.tables.length := hm.1.1.2.1.1
  obtain ⟨m1, m2, m3⟩ := hm
  refine ret_ofM (nt := 54) (rvs := [.cell 10 27, .tmp 11, .tmp 12]) Try.func14 rfl rfl rfl rfl (fun X hX => ?_)
  repeat' (first | exact aa | ((conv => whnf) <;> (first | refine And.intro ?_ ?_ | (intro _h; first | contradiction | (try simp only [dd] at _h)) | (refine dt_go ?_) | exact rfl | exact True.intro | exact dkk | exact dks | ((first | refine .inl ⟨_, shelfArgs_ok s h _ _, ?_⟩ | refine ⟨_, shelfArgs_ok s h _ _, ?_⟩); (try rintro _ rfl)) | ((first | refine .inl ⟨_, isRes_ok _, ?_⟩ | refine ⟨_, isRes_ok _, ?_⟩); (try rintro _ rfl)) | ((first | refine .inl ⟨_, sizeTable_ok _ hl, ?_⟩ | refine ⟨_, sizeTable_ok _ hl, ?_⟩); (try rintro _ rfl)) | ((first | refine .inl ⟨_, within_ok _ _ _, ?_⟩ | refine ⟨_, within_ok _ _ _, ?_⟩); try rintro _ rfl; try rw [wrap_in (by omega) (by omega)]) | (refine .inr (.inl (.inr (.inl ⟨_, RetM.wka (shelfOf_ok s h h1), ?_⟩))); rintro _ _ ⟨rfl, rfl⟩; refine ⟨⟨rfl, nssA⟩, _, lokA, ?_⟩) | (refine .inr (.inl (.inl ⟨[2], _, _, _, hL, viewA, ⟨rfl, rfl⟩, ?_⟩)); rintro _ _ ⟨rfl, rfl⟩; refine ⟨rfl, _, lokA, ?_⟩) | (refine .inr (.inl (.inl ⟨[2], _, _, _, result_err s 0 c hc, viewA, ⟨rfl, rfl⟩, ?_⟩)); rintro _ _ ⟨rfl, rfl⟩; refine ⟨rfl, _, lokA, ?_⟩) | (refine wrap_succ ?_; omega))))
  all_goals (first | contradiction | skip)
  all_goals (conv => whnf)
  all_goals exact endM_pick [] [] (.tup [.agg [.i .i64 0, .nils, .nils], .i .i64 0, .i .i64 c]) (view_of rfl .nil) rfl rfl (fun k hk => by rw [hX] at hk; exact absurd hk (Nat.not_lt_zero _)) ⟨rfl, rfl⟩
set_option maxHeartbeats 2000000 in
theorem move_implF (s s' : Shelf) (h : s.ok) (who num res to num' : Int) (hm : s.moveI who num res to) (hL : RetM env.P 36 [some (boxRow s.csO)] [.ptr 0 0 0, .i .i64 who, .i .i64 num, .i .i64 res, .i .i64 to] (fun r H => r = .tup [.i .i64 num', .i .i64 0] ∧ H = [some (boxRow s'.csO)])) : RetM env.P 14 [] [.agg s.cs, .i .i64 who, .i .i64 num, .i .i64 res, .i .i64 to] (fun r H => r = .tup [.agg s'.resO, .i .i64 num', .i .i64 0] ∧ H = s'.rowsO) := by
  have hl : s.tables.length ≤ 1048576 := h.1.1
  have h1 : 1 ≤ s.tables.length := hm.1.1.2.1.1
  obtain ⟨m1, m2, m3⟩ := hm
  refine ret_ofM (nt := 54) (rvs := [.cell 10 27, .tmp 11, .tmp 12]) Try.func14 rfl rfl rfl rfl (fun X hX => ?_)
  repeat' (first | exact aa | ((conv => whnf) <;> (first | (refine .inr (.inl (.inl ⟨[2], _, _, _, result_ok _ _, viewA, ⟨rfl, rfl⟩, ?_⟩)); rintro _ _ ⟨rfl, rfl⟩; refine ⟨rfl, _, lok_drop (.cons (rowPl_L fun _ => rfl) (.cons (rowPl_L fun _ => rfl) .nil)), ?_⟩) | refine And.intro ?_ ?_ | (intro _h; first | contradiction | (try simp only [dd] at _h)) | (refine dt_go ?_) | exact rfl | exact True.intro | exact dkk | exact dks | ((first | refine .inl ⟨_, shelfArgs_ok s h _ _, ?_⟩ | refine ⟨_, shelfArgs_ok s h _ _, ?_⟩); (try rintro _ rfl)) | ((first | refine .inl ⟨_, isRes_ok _, ?_⟩ | refine ⟨_, isRes_ok _, ?_⟩); (try rintro _ rfl)) | ((first | refine .inl ⟨_, sizeTable_ok _ hl, ?_⟩ | refine ⟨_, sizeTable_ok _ hl, ?_⟩); (try rintro _ rfl)) | ((first | refine .inl ⟨_, within_ok _ _ _, ?_⟩ | refine ⟨_, within_ok _ _ _, ?_⟩); try rintro _ rfl; try rw [wrap_in (by omega) (by omega)]) | (refine .inr (.inl (.inr (.inl ⟨_, RetM.wka (shelfOf_ok s h h1), ?_⟩))); rintro _ _ ⟨rfl, rfl⟩; refine ⟨⟨rfl, nssA⟩, _, lokA, ?_⟩) | (refine .inr (.inl (.inl ⟨[2], _, _, _, hL, viewA, ⟨rfl, rfl⟩, ?_⟩)); rintro _ _ ⟨rfl, rfl⟩; refine ⟨rfl, _, lokA, ?_⟩) | (refine wrap_succ ?_; omega))))
  all_goals (first | contradiction | skip)
  all_goals (conv => whnf)
  all_goals exact endM_pick [3, 4] s'.rowsO (.tup [.agg s'.resO, .i .i64 num', .i .i64 0]) (view_of rfl (.cons rfl (.self (rowPl_L fun _ => rfl)) (.cons rfl (.self (rowPl_L fun _ => rfl)) .nil))) rfl rfl (fun k hk => by rw [hX] at hk; exact absurd hk (Nat.not_lt_zero _)) ⟨rfl, rfl⟩
set_option maxHeartbeats 2000000 in
set_option maxRecDepth 8000 in
theorem sameShelf_spec (a b : Shelf) (h : a.ok) : Ret env.P 8 [.agg a.cs, .agg b.cs] (fun r => r = .b (decide (a = b))) := by
  obtain ⟨a0, a1, a2⟩ := a
  obtain ⟨b0, b1, b2⟩ := b
  have h1 : okL Table.ok a1 := h.1
  have h2 : okL Thing.ok a2 := h.2
  have hl1 := h1.1
  have hl2 := h2.1
  refine ret_of (nt := 100) (rvs := [.tmp 4]) Try.func8 rfl rfl rfl rfl (fun X => ?_)
  repeat' (first | exact aa | ((conv => whnf) <;> (first | refine loopAt 5 a2.length (fun k => [(5, .i .i64 k)]) (fun k => []) (fun k => ∀ j, j < k → a2.getD j default = b2.getD j default) rfl ⟨fun _ h => by omega, ?_⟩ | refine loopAt 6 a1.length (fun k => [(6, .i .i64 k)]) (fun k => []) (fun k => ∀ j, j < k → a1.getD j default = b1.getD j default) rfl ⟨fun _ h => by omega, ?_⟩ | (rename_i i _ _ _ _; have he : (a1.getD (i : Int).toNat default).entries.length ≤ 1048576 := (h1.2 (i : Int).toNat (by omega)).1; refine loopAt 9 (a1.getD (i : Int).toNat default).entries.length (fun k => [(9, .i .i64 k)]) (fun k => []) (fun k => ∀ j, j < k → (a1.getD (i : Int).toNat default).entries.getD j default = (b1.getD (i : Int).toNat default).entries.getD j default) rfl ⟨fun _ h => by omega, ?_⟩) | exact upto_succ (by assumption) (Thing.etaC (by simpa using _h)) | exact upto_succ (by assumption) (Entry.etaC (by simpa using _h)) | exact upto_succ (by assumption) (Table.eta (a := a1.getD (i : Int).toNat default) (b := b1.getD (i : Int).toNat default) (by assumption) (list_eq (by omega) (fun j hj => ‹∀ j, j < _ → (Table.entries _).getD j default = (Table.entries _).getD j default› j (by omega)))) | refine And.intro ?_ ?_ | (intro _h; first | contradiction | (try simp only [dd] at _h)) | (refine dt_go ?_) | exact rfl | exact True.intro | exact dkk | exact dks | (refine wrap_succ ?_; omega))))
  all_goals first
    | exact leaf_ne (by intro e; injection e; subst_vars; first | omega | contradiction | (simp at _h; done))
    | exact leaf_eq (Shelf.eta (a := ⟨a0, a1, a2⟩) (b := ⟨b0, b1, b2⟩) (by assumption) (list_eq (l := a1) (m := b1) (by omega) fun j hj => (‹∀ j, j < _ → a1.getD j default = b1.getD j default› : ∀ j, j < _ → a1.getD j default = b1.getD j default) j (by omega)) (list_eq (l := a2) (m := b2) (by omega) fun j hj => (‹∀ j, j < _ → a2.getD j default = b2.getD j default› : ∀ j, j < _ → a2.getD j default = b2.getD j default) j (by omega)))
set_option maxRecDepth 8000
set_option maxHeartbeats 4000000 in
theorem do_make (s s' : Shelf) (h : s.ok) (who num res to scope n c : Int) (z L : List Thing) (z1 : Thing) (hw : 0 ≤ who ∧ who < (s.tables.length : Int)) (hto : 0 ≤ to ∧ to < (s.tables.length : Int)) (hC : RetM env.P 93 [some (boxRow s.csO)] [.ptr 0 0 0, .i .i64 who, .i .i64 res, .i .i64 s.next] (fun r H => r = .tup [.i .i64 n, .i .i64 c] ∧ H = [some (boxRow s'.csO)])) : RetM env.P 75 [some (boxRow s.csO)] [.ptr 0 0 0, .agg (⟨1, who, num, res, to, scope⟩ : ShelfAct).cs] (fun r H => r = .i .i64 c ∧ H = [some (boxRow s'.csO)]) := by
  have hl : s.tables.length ≤ 1048576 := h.1.1
  refine ret_ofM (nt := 89) (rvs := [.tmp 4]) Try.func75 rfl rfl rfl rfl (fun X hX => ?_)
  repeat' (first | exact aa | ((conv => whnf) <;> (first | (refine dt_goC [0] ?_) | refine And.intro ?_ ?_ | (intro _h; first | contradiction | (try simp only [dd] at _h)) | (refine dt_go ?_) | exact rfl | exact True.intro | exact dkk | exact dks | ((first | refine .inl ⟨_, Ret.wka (l19Who_ok s h _), ?_⟩ | refine ⟨_, Ret.wka (l19Who_ok s h _), ?_⟩); (try rintro _ rfl)) | (refine .inr (.inl (.inl ⟨[0], _, _, _, hC, viewA, ⟨rfl, rfl⟩, ?_⟩)); rintro _ _ ⟨rfl, rfl⟩; refine ⟨rfl, _, lokA, ?_⟩) | (refine wrap_succ ?_; omega))))
  all_goals (conv => whnf)
  all_goals exact endM_pick [0] [some (boxRow s'.csO)] (.i .i64 c) (view_of rfl (.cons rfl (.self (rowPl_box rfl)) .nil)) rfl rfl (by rw [hX]; exact keepK (n := 1) rfl rfl) ⟨rfl, rfl⟩
set_option maxHeartbeats 4000000 in
theorem do_move (s s' : Shelf) (h : s.ok) (who num res to scope n c : Int) (z L : List Thing) (z1 : Thing) (hw : 0 ≤ who ∧ who < (s.tables.length : Int)) (hto : 0 ≤ to ∧ to < (s.tables.length : Int)) (hC : RetM env.P 40 [some (boxRow s.csO)] [.ptr 0 0 0, .i .i64 who, .i .i64 num, .i .i64 res, .i .i64 to] (fun r H => r = .tup [.i .i64 n, .i .i64 c] ∧ H = [some (boxRow s'.csO)])) : RetM env.P 75 [some (boxRow s.csO)] [.ptr 0 0 0, .agg (⟨2, who, num, res, to, scope⟩ : ShelfAct).cs] (fun r H => r = .i .i64 c ∧ H = [some (boxRow s'.csO)]) := by
  have hl : s.tables.length ≤ 1048576 := h.1.1
  refine ret_ofM (nt := 89) (rvs := [.tmp 4]) Try.func75 rfl rfl rfl rfl (fun X hX => ?_)
  repeat' (first | exact aa | ((conv => whnf) <;> (first | (refine dt_goC [0] ?_) | refine And.intro ?_ ?_ | (intro _h; first | contradiction | (try simp only [dd] at _h)) | (refine dt_go ?_) | exact rfl | exact True.intro | exact dkk | exact dks | ((first | refine .inl ⟨_, Ret.wka (l19Who_ok s h _), ?_⟩ | refine ⟨_, Ret.wka (l19Who_ok s h _), ?_⟩); (try rintro _ rfl)) | (refine .inr (.inl (.inl ⟨[0], _, _, _, hC, viewA, ⟨rfl, rfl⟩, ?_⟩)); rintro _ _ ⟨rfl, rfl⟩; refine ⟨rfl, _, lokA, ?_⟩) | (refine wrap_succ ?_; omega))))
  all_goals (conv => whnf)
  all_goals exact endM_pick [0] [some (boxRow s'.csO)] (.i .i64 c) (view_of rfl (.cons rfl (.self (rowPl_box rfl)) .nil)) rfl rfl (by rw [hX]; exact keepK (n := 1) rfl rfl) ⟨rfl, rfl⟩
set_option maxHeartbeats 4000000 in
theorem do_lend (s s' : Shelf) (h : s.ok) (who num res to scope n c : Int) (z L : List Thing) (z1 : Thing) (hw : 0 ≤ who ∧ who < (s.tables.length : Int)) (hto : 0 ≤ to ∧ to < (s.tables.length : Int)) (hC : RetM env.P 94 [some (boxRow s.csO)] [.ptr 0 0 0, .i .i64 who, .i .i64 num, .i .i64 res, .i .i64 to, .i .i64 scope] (fun r H => r = .tup [.i .i64 n, .i .i64 c] ∧ H = [some (boxRow s'.csO)])) : RetM env.P 75 [some (boxRow s.csO)] [.ptr 0 0 0, .agg (⟨3, who, num, res, to, scope⟩ : ShelfAct).cs] (fun r H => r = .i .i64 c ∧ H = [some (boxRow s'.csO)]) := by
  have hl : s.tables.length ≤ 1048576 := h.1.1
  refine ret_ofM (nt := 89) (rvs := [.tmp 4]) Try.func75 rfl rfl rfl rfl (fun X hX => ?_)
  repeat' (first | exact aa | ((conv => whnf) <;> (first | (refine dt_goC [0] ?_) | refine And.intro ?_ ?_ | (intro _h; first | contradiction | (try simp only [dd] at _h)) | (refine dt_go ?_) | exact rfl | exact True.intro | exact dkk | exact dks | ((first | refine .inl ⟨_, Ret.wka (l19Who_ok s h _), ?_⟩ | refine ⟨_, Ret.wka (l19Who_ok s h _), ?_⟩); (try rintro _ rfl)) | (refine .inr (.inl (.inl ⟨[0], _, _, _, hC, viewA, ⟨rfl, rfl⟩, ?_⟩)); rintro _ _ ⟨rfl, rfl⟩; refine ⟨rfl, _, lokA, ?_⟩) | (refine wrap_succ ?_; omega))))
  all_goals (conv => whnf)
  all_goals exact endM_pick [0] [some (boxRow s'.csO)] (.i .i64 c) (view_of rfl (.cons rfl (.self (rowPl_box rfl)) .nil)) rfl rfl (by rw [hX]; exact keepK (n := 1) rfl rfl) ⟨rfl, rfl⟩
set_option maxHeartbeats 4000000 in
theorem do_drop (s s' : Shelf) (h : s.ok) (who num res to scope n c : Int) (z L : List Thing) (z1 : Thing) (hw : 0 ≤ who ∧ who < (s.tables.length : Int)) (hto : 0 ≤ to ∧ to < (s.tables.length : Int)) (hC : RetM env.P 95 [some (boxRow s.csO)] [.ptr 0 0 0, .i .i64 who, .i .i64 num] (fun r H => r = .tup [.agg z1.cs, .i .i64 c] ∧ H = [some (boxRow s'.csO)])) : RetM env.P 75 [some (boxRow s.csO)] [.ptr 0 0 0, .agg (⟨4, who, num, res, to, scope⟩ : ShelfAct).cs] (fun r H => r = .i .i64 c ∧ H = [some (boxRow s'.csO)]) := by
  have hl : s.tables.length ≤ 1048576 := h.1.1
  refine ret_ofM (nt := 89) (rvs := [.tmp 4]) Try.func75 rfl rfl rfl rfl (fun X hX => ?_)
  repeat' (first | exact aa | ((conv => whnf) <;> (first | (refine dt_goC [0] ?_) | refine And.intro ?_ ?_ | (intro _h; first | contradiction | (try simp only [dd] at _h)) | (refine dt_go ?_) | exact rfl | exact True.intro | exact dkk | exact dks | ((first | refine .inl ⟨_, Ret.wka (l19Who_ok s h _), ?_⟩ | refine ⟨_, Ret.wka (l19Who_ok s h _), ?_⟩); (try rintro _ rfl)) | (refine .inr (.inl (.inl ⟨[0], _, _, _, hC, viewA, ⟨rfl, rfl⟩, ?_⟩)); rintro _ _ ⟨rfl, rfl⟩; refine ⟨rfl, _, lokA, ?_⟩) | (refine wrap_succ ?_; omega))))
  all_goals (conv => whnf)
  all_goals exact endM_pick [0] [some (boxRow s'.csO)] (.i .i64 c) (view_of rfl (.cons rfl (.self (rowPl_box rfl)) .nil)) rfl rfl (by rw [hX]; exact keepK (n := 1) rfl rfl) ⟨rfl, rfl⟩
set_option maxHeartbeats 4000000 in
theorem do_end (s s' : Shelf) (h : s.ok) (who num res to scope n c : Int) (z L : List Thing) (z1 : Thing) (hw : 0 ≤ who ∧ who < (s.tables.length : Int)) (hto : 0 ≤ to ∧ to < (s.tables.length : Int)) (hC : RetM env.P 28 [some (boxRow s.csO)] [.ptr 0 0 0, .i .i64 scope] (fun r H => r = .tup [] ∧ H = [some (boxRow s'.csO)])) : RetM env.P 75 [some (boxRow s.csO)] [.ptr 0 0 0, .agg (⟨5, who, num, res, to, scope⟩ : ShelfAct).cs] (fun r H => r = .i .i64 0 ∧ H = [some (boxRow s'.csO)]) := by
  have hl : s.tables.length ≤ 1048576 := h.1.1
  refine ret_ofM (nt := 89) (rvs := [.tmp 4]) Try.func75 rfl rfl rfl rfl (fun X hX => ?_)
  repeat' (first | exact aa | ((conv => whnf) <;> (first | (refine dt_goC [0] ?_) | refine And.intro ?_ ?_ | (intro _h; first | contradiction | (try simp only [dd] at _h)) | (refine dt_go ?_) | exact rfl | exact True.intro | exact dkk | exact dks | ((first | refine .inl ⟨_, Ret.wka (l19Who_ok s h _), ?_⟩ | refine ⟨_, Ret.wka (l19Who_ok s h _), ?_⟩); (try rintro _ rfl)) | (refine .inr (.inl (.inl ⟨[0], _, _, _, hC, viewA, ⟨rfl, rfl⟩, ?_⟩)); rintro _ _ ⟨rfl, rfl⟩; refine ⟨rfl, _, lokA, ?_⟩) | (refine wrap_succ ?_; omega))))
  all_goals (conv => whnf)
  all_goals exact endM_pick [0] [some (boxRow s'.csO)] (.i .i64 0) (view_of rfl (.cons rfl (.self (rowPl_box rfl)) .nil)) rfl rfl (by rw [hX]; exact keepK (n := 1) rfl rfl) ⟨rfl, rfl⟩
set_option maxHeartbeats 4000000 in
theorem do_kill (s s' : Shelf) (h : s.ok) (who num res to scope n c : Int) (z L : List Thing) (z1 : Thing) (hw : 0 ≤ who ∧ who < (s.tables.length : Int)) (hto : 0 ≤ to ∧ to < (s.tables.length : Int)) (hC : RetM env.P 96 [some (boxRow s.csO)] [.ptr 0 0 0, .i .i64 who] (fun r H => r = .row 1 L.length ∧ H = [some (boxRow s'.csO), some (rowL 3 Thing.cs L)])) : RetM env.P 75 [some (boxRow s.csO)] [.ptr 0 0 0, .agg (⟨6, who, num, res, to, scope⟩ : ShelfAct).cs] (fun r H => r = .i .i64 0 ∧ H = [some (boxRow s'.csO)]) := by
  have hl : s.tables.length ≤ 1048576 := h.1.1
  refine ret_ofM (nt := 89) (rvs := [.tmp 4]) Try.func75 rfl rfl rfl rfl (fun X hX => ?_)
  repeat' (first | exact aa | ((conv => whnf) <;> (first | (refine dt_goC [0] ?_) | refine And.intro ?_ ?_ | (intro _h; first | contradiction | (try simp only [dd] at _h)) | (refine dt_go ?_) | exact rfl | exact True.intro | exact dkk | exact dks | ((first | refine .inl ⟨_, Ret.wka (l19Who_ok s h _), ?_⟩ | refine ⟨_, Ret.wka (l19Who_ok s h _), ?_⟩); (try rintro _ rfl)) | (refine .inr (.inl (.inl ⟨[0], _, _, _, hC, viewA, ⟨rfl, rfl⟩, ?_⟩)); rintro _ _ ⟨rfl, rfl⟩; refine ⟨rfl, _, lokA, ?_⟩) | (refine wrap_succ ?_; omega))))
  all_goals (conv => whnf)
  all_goals exact endM_pick [0] [some (boxRow s'.csO)] (.i .i64 0) (view_of rfl (.cons rfl (.self (rowPl_box rfl)) .nil)) rfl rfl (by rw [hX]; exact keepK (n := 1) rfl rfl) ⟨rfl, rfl⟩
set_option maxHeartbeats 4000000 in
theorem do_out (s : Shelf) (h : s.ok) (a : ShelfAct) (ho : ¬ ((0 ≤ a.who ∧ a.who < (s.tables.length : Int)) ∧ (0 ≤ a.to ∧ a.to < (s.tables.length : Int)))) : RetM env.P 75 [some (boxRow s.csO)] [.ptr 0 0 0, .agg a.cs] (fun r H => r = .i .i64 1 ∧ H = [some (boxRow s.csO)]) := by
  have hl : s.tables.length ≤ 1048576 := h.1.1
  refine ret_ofM (nt := 89) (rvs := [.tmp 4]) Try.func75 rfl rfl rfl rfl (fun X hX => ?_)
  repeat' (first | exact aa | ((conv => whnf) <;> (first | refine And.intro ?_ ?_ | (intro _h; first | contradiction | (try simp only [dd] at _h)) | (refine dt_go ?_) | exact rfl | exact True.intro | exact dkk | exact dks | ((first | refine .inl ⟨_, Ret.wka (l19Who_ok s h _), ?_⟩ | refine ⟨_, Ret.wka (l19Who_ok s h _), ?_⟩); (try rintro _ rfl)) | (refine wrap_succ ?_; omega))))
  all_goals first
    | (exfalso; exact ho ⟨Classical.not_not.1 ‹_›, Classical.not_not.1 ‹_›⟩)
    | (exfalso; exact ho ⟨‹_›, ‹_›⟩)
    | skip
  all_goals (conv => whnf)
  all_goals exact endM_pick [0] [some (boxRow s.csO)] (.i .i64 1) (view_of rfl (.cons rfl (.self (rowPl_box rfl)) .nil)) rfl rfl (by rw [hX]; exact keepK (n := 1) rfl rfl) ⟨rfl, rfl⟩
end Go.Proofs.Ytmglpojnoadgeaa
