/-
  The law FnNoOutlive returns true at every argument: what is lent is not dropped, and no entry outlives the table that owned its thing.
-/
import Derived.Test.YtmglpojnoadgeaaGreatVo27
import Derived.Test.YtmglpojnoadgeaaGreatVo43
import Derived.Test.YtmglpojnoadgeaaGreatVo46
import Derived.Test.YtmglpojnoadgeaaGreatVo47
import Derived.Test.YtmglpojnoadgeaaGreatVo45
import Derived.Test.YtmglpojnoadgeaaGreatVNoOutliveF
import Derived.Test.YtmglpojnoadgeaaGreatVNoOutliveG
namespace Go.Proofs.YtmglpojnoadgeaaGreat
open Go Go.RowKit
set_option linter.unusedVariables false
set_option linter.unusedSimpArgs false
theorem drop_two (s : Shelf) (h : s.ok) (who num : Int) : (∃ c : Int, ¬ c = 0 ∧
  RetM env.P 16 [] [.agg s.cs, .i .i64 who, .i .i64 num] (fun r H => r = .tup [.agg [.i .i64 0, .nils, .nils], .agg [.i .i64 0, .i .i64 0, .i .i64 0], .i .i64 c] ∧ H = []) ∧
  RetM env.P 15 [] [.agg s.cs, .i .i64 who, .i .i64 num] (fun r H => r = .tup [.agg [.i .i64 0, .nils, .nils], .agg [.i .i64 0, .i .i64 0, .i .i64 0], .i .i64 c] ∧ H = [])) ∨
  (∃ (s' : Shelf) (x : Thing) (a b : Int) (o : Bool), s'.ok ∧ (0 < x.id → o = false) ∧ Ret env.P 17 [.agg s'.cs, .i .i64 x.id] (fun r => r = .tup [.i .i64 a, .i .i64 b, .b o]) ∧
  RetM env.P 16 [] [.agg s.cs, .i .i64 who, .i .i64 num] (fun r H => r = .tup [.agg s'.resO, .agg x.cs, .i .i64 0] ∧ H = s'.rowsO) ∧
  RetM env.P 15 [] [.agg s.cs, .i .i64 who, .i .i64 num] (fun r H => r = .tup [.agg s'.resO, .agg x.cs, .i .i64 0] ∧ H = s'.rowsO)) := by
 by_cases hm : s.dropS who num
 ·have hi := dropS_iff.1 hm
  have hg := hi.1
  have hw := hi.2.1
  have hw2 : who.toNat < s.tables.length := by omega
  rcases at_cases s hw (num := num) with ⟨q, hq, hlt, hA⟩ | hA
  ·have hle : 0 ≤ ((s.tables.getD who.toNat default).entries.getD q default).lends := ((hg.2.2.2.1 who.toNat (by omega)).1 q hlt).2.2
   have hmem : (s.tables.getD who.toNat default).entries.getD q default ∈ s.en who.toNat := getD_mem hlt
   have hnum : ((s.tables.getD who.toNat default).entries.getD q default).num = num := (find_lt hq).2
   have hA' := hA
   rw [ent_eta ((s.tables.getD who.toNat default).entries.getD q default)] at hA'
   by_cases hl0 : ((s.tables.getD who.toNat default).entries.getD q default).lends = 0
   ·by_cases ho : ((s.tables.getD who.toNat default).entries.getD q default).own = true
    ·obtain ⟨qx, x1, x2, x3, x4⟩ := thing_qx hg hA
     have e1 : (s.cut who.toNat num).cutT ((s.tables.getD who.toNat default).entries.getD q default).id = ⟨s.next, (s.cut who.toNat num).tables, s.things.eraseIdx qx⟩ := by
      unfold Shelf.cutT
      rw [show (s.cut who.toNat num).things = s.things from rfl, x4]
      rfl
     have hok : Shelf.ok ⟨s.next, (s.cut who.toNat num).tables, s.things.eraseIdx qx⟩ := ⟨(cut_ok h).1, by rw [List.length_eraseIdx_of_lt x2]; exact Nat.le_trans (Nat.sub_le _ _) h.2.1, fun _ _ => trivial⟩
     have hgd := dropped_good hg hw2 hmem ho hl0
     have hd := dropped_own hg hw2 hmem ho hl0
     rw [hnum, e1] at hd hgd
     have hx : (s.things.getD qx default).id = ((s.tables.getD who.toNat default).entries.getD q default).id := by
      have := (List.findIdx?_eq_some_iff_getElem.1 (show s.things.findIdx? (idP _) = some qx from x1)).2.1
      rw [List.getD_eq_getElem?_getD, List.getElem?_eq_getElem x2]
      simpa [idP] using this
     refine .inr ⟨⟨s.next, (s.cut who.toNat num).tables, s.things.eraseIdx qx⟩, s.things.getD qx default, 0, 0, false, hok, fun _ => rfl, (ownerOf_spec _ hok _).mono fun r hr => ?_, drop_specF s _ h who num _ hm ?_, drop_implF s _ h who num _ hi (drop_own s h who num hg hw q hq ho hl0 qx x1 x2)⟩
     ·rw [bif_t ((good_iff _).1 hgd), hx, hd] at hr
      exact hr
     ·rw [ho] at hA'
      have := l19Drop_own s h who num hg hw _ _ _ _ _ _ hA' (by omega)
      rw [x3, e1] at this
      exact this
    ·have ho' : ((s.tables.getD who.toNat default).entries.getD q default).own = false := by simpa using ho
     obtain ⟨⟨x, hx⟩, hne⟩ := orig_some hg hA ho'
     have hx' : (s.cut who.toNat num).at_ ((s.tables.getD who.toNat default).entries.getD q default).from_ ((s.tables.getD who.toNat default).entries.getD q default).fromNum = some x := by rw [cut_at_other (by omega) hne]; exact hx
     obtain ⟨hf, p, hp, _⟩ := at_posD hx'
     have hf' : 0 ≤ ((s.tables.getD who.toNat default).entries.getD q default).from_ ∧ ((s.tables.getD who.toNat default).entries.getD q default).from_ < (s.tables.length : Int) := by rw [show (s.cut who.toNat num).tables.length = s.tables.length from setE_len] at hf; exact hf
     rw [ho'] at hA'
     exact .inr ⟨_, ⟨0, 0, 0⟩, _, _, _, setL_ok (cut_ok h), fun q => absurd q (by decide), ownerOf_spec _ (setL_ok (cut_ok h)) _, drop_specF s _ h who num ⟨0, 0, 0⟩ hm (l19Drop_borS s h who num hg hw _ _ _ _ _ _ hA' (by omega) hf' p hp), drop_implF s _ h who num ⟨0, 0, 0⟩ hi (drop_bor s h who num hg hw q hq ho' hl0 hf' p hp)⟩
   ·exact .inl ⟨12, by omega, drop_specE s h who num 12 (by omega) hm (l19Drop_lent s h who num hg hw _ _ _ _ _ _ _ hA' (by omega)), drop_implE s h who num 12 (by omega) hi (drop_lent s h who num hg hw q hq hl0)⟩
  ·exact .inl ⟨11, by omega, drop_specE s h who num 11 (by omega) hm (l19Drop_none s h who num hg hw hA), drop_implE s h who num 11 (by omega) hi (drop_none s h who num hg hw hA)⟩
 ·exact .inl ⟨1, by omega, drop_spec1 s h who num hm, drop_impl1 s h who num fun q => hm (dropS_iff.2 q)⟩
theorem kill_two (s : Shelf) (h : s.ok) (who : Int) : (RetM env.P 19 [] [.agg s.cs, .i .i64 who] (fun r H => r = .tup [.agg [.i .i64 0, .nils, .nils], .row 0 0] ∧ H = [some (rowL 3 Thing.cs [])]) ∧
  RetM env.P 18 [] [.agg s.cs, .i .i64 who] (fun r H => r = .tup [.agg [.i .i64 0, .nils, .nils], .nils] ∧ H = [])) ∨
  (∃ (y : Shelf) (L : List Thing), (y.ok ∧ y.good) ∧ (0 ≤ who ∧ who < (y.tables.length : Int)) ∧ L.length ≤ 1048576 ∧ (y.tables.getD who.toNat default).entries.length = 0 ∧
   (∀ i k j, i < L.length → k < y.tables.length → j < (y.tables.getD k default).entries.length → ¬ ((y.tables.getD k default).entries.getD j default).id = (L.getD i default).id) ∧
  RetM env.P 19 [] [.agg s.cs, .i .i64 who] (fun r H => r = .tup [.agg y.resO, .row 2 L.length] ∧ H = y.rowsO ++ [some (rowL 3 Thing.cs L)]) ∧
  RetM env.P 18 [] [.agg s.cs, .i .i64 who] (fun r H => r = .tup [.agg y.resO, .row 2 L.length] ∧ H = y.rowsO ++ [some (rowL 3 Thing.cs L)])) := by
 by_cases hm : s.killS who
 ·have hi := killS_iff.1 hm
  have hH := (good_H hi.1).1
  have hw2 : who.toNat < s.tables.length := by omega
  refine .inr ⟨s.killed who.toNat, s.dead who.toNat, ⟨lendU_ok (keep_ok (bared_ok h)), killed_good hi.1 hw2⟩, by rw [killed_len]; exact hi.2, by rw [(dead_perm hH hw2).length_eq]; exact Nat.le_trans (own_len hH hw2) (by decide), ?_, fun i k j h1 h2 h3 => killed_none hi.1 hw2 (getD_mem h1) h2 (getD_mem (l := (s.killed who.toNat).en k) h3), kill_specF s h who hm, kill_implF s h who hi⟩
  have := killed_bare s hw2
  unfold Shelf.en at this
  rw [this]
  rfl
 ·exact .inl ⟨kill_spec1 s h who hm, kill_impl1 s h who fun q => hm (killS_iff.2 q)⟩
theorem okS_is (s : Shelf) (h : s.ok) (hg : s.good) : Ret env.P 13 [.agg s.cs] (fun r => r = .b true) := (shelfOk_spec s h).mono fun r hr => by rw [hr, pb_t.mpr ((good_iff _).1 hg)]
theorem sam0 : Ret env.P 9 [.agg (Shelf.cs ⟨0, [], []⟩), .agg (Shelf.cs ⟨0, [], []⟩)] (fun r => r = .b true) := (sameShelf_spec ⟨0, [], []⟩ ⟨0, [], []⟩ ⟨⟨Nat.zero_le _, fun k hk => absurd hk (Nat.not_lt_zero _)⟩, Nat.zero_le _, fun k hk => absurd hk (Nat.not_lt_zero _)⟩).mono fun r h => by rw [h, decide_eq_true rfl]
theorem sam1 (s : Shelf) (h : s.ok) : Ret env.P 9 [.agg s.cs, .agg s.cs] (fun r => r = .b true) := (sameShelf_spec s s h).mono fun r h => by rw [h, decide_eq_true rfl]
set_option maxRecDepth 8000 in
set_option maxHeartbeats 16000000 in
theorem noOutliveLaw (D : Draws) (l : List UInt8) : Ret env.P 4 [slL 1 byteC l] (fun r => r = .b true) := by
 by_cases hl : 1048576 < (l.length : Int)
 ·refine ret_of (nt := 145) (rvs := [.tmp 2]) Tryz.func4 rfl rfl rfl rfl (fun X => ?_)
  repeat' (first | exact aa | ((conv => whnf) <;> (first | refine And.intro ?_ ?_ | (intro _h; first | contradiction | (try simp only [dd] at _h)) | (refine dt_go ?_) | exact rfl | exact True.intro | exact dkk | exact dks | ((first | refine .inl ⟨_, c2Big_ok l, ?_⟩ | refine ⟨_, c2Big_ok l, ?_⟩); (try rintro _ rfl)) | (refine wrap_succ ?_; omega))))
  all_goals (first | contradiction | skip)
 ·refine ret_of (nt := 145) (rvs := [.tmp 2]) Tryz.func4 rfl rfl rfl rfl (fun X => ?_)
  repeat' (first | exact aa | ((conv => whnf) <;> (first | refine And.intro ?_ ?_ | (intro _h; first | contradiction | (try simp only [dd] at _h)) | (refine dt_go ?_) | exact rfl | exact True.intro | exact dkk | exact dks | ((first | refine .inl ⟨_, c2Big_ok l, ?_⟩ | refine ⟨_, c2Big_ok l, ?_⟩); (try rintro _ rfl)) | (refine .inr (.inl (.inl ⟨[], _, _, _, drawDropHandle_ok D l (by omega), viewA, ⟨rfl, rfl⟩, ?_⟩)); rintro _ _ ⟨_, _, _, _, rfl, rfl⟩; refine ⟨rfl, _, lokA, ?_⟩) | (refine wrap_succ ?_; omega))))
  all_goals (first | contradiction | skip)
  rename_i x who num hx
  have ho := hx.ok
  rcases drop_two x ho who num with ⟨c, hc, hS, hI⟩ | ⟨s', t, a, b, o, h1, h2, hO, hS, hI⟩
  ·rcases kill_two x ho who with ⟨kS, kI⟩ | ⟨y, L, ⟨y1, y2⟩, y3, y4, y5, y6, kS, kI⟩
   ·repeat' (first | exact aa | ((conv => whnf) <;> (first | (exfalso; exact ‹¬True› trivial) | (exfalso; exact _h rfl) | exact low_cells rfl | exact keeps0_nil _ _ | refine loopAt 19 0 (fun k => [(19, .i .i64 k)]) (fun k => []) (fun _ => True) rfl ⟨trivial, ?_⟩ | refine And.intro ?_ ?_ | (intro _h; first | contradiction | (try simp only [dd] at _h)) | (refine dt_go ?_) | exact rfl | exact True.intro | exact dkk | exact dks | (refine .inr (.inl (.inr (.inl ⟨_, RetM.wka (hI), ?_⟩))); rintro _ _ ⟨rfl, rfl⟩; refine ⟨⟨rfl, nssA⟩, _, lokA, ?_⟩) | (refine .inr (.inl (.inr (.inl ⟨_, RetM.wka (hS), ?_⟩))); rintro _ _ ⟨rfl, rfl⟩; refine ⟨⟨rfl, nssA⟩, _, lokA, ?_⟩) | (refine .inr (.inl (.inr (.inl ⟨_, RetM.wka (kI), ?_⟩))); rintro _ _ ⟨rfl, rfl⟩; refine ⟨⟨rfl, nssA⟩, _, lokA, ?_⟩) | (refine .inr (.inl (.inr (.inl ⟨_, RetM.wka (kS), ?_⟩))); rintro _ _ ⟨rfl, rfl⟩; refine ⟨⟨rfl, nssA⟩, _, lokA, ?_⟩) | ((first | refine .inl ⟨_, Ret.wka (sam0), ?_⟩ | refine ⟨_, Ret.wka (sam0), ?_⟩); (try rintro _ rfl)) | (refine wrap_succ ?_; omega))))
   ·repeat' (first | exact aa | ((conv => whnf) <;> (first | (exfalso; exact ‹¬True› trivial) | (exfalso; exact _h rfl) | exact low_cells rfl | exact keeps0_nil _ _ | refine loopAt 19 L.length (fun k => [(19, .i .i64 k)]) (fun k => []) (fun _ => True) rfl ⟨trivial, ?_⟩ | refine loopTF 20 (fun k : Nat => [(20, .i .i64 k)]) (fun k => []) (fun k => k ≤ y.tables.length) (fun k => y.tables.length - k) 0 rfl ⟨Nat.zero_le _, ?_⟩ | (rename_i kk _; refine loopTF 21 (fun j : Nat => [(21, .i .i64 j)]) (fun j => []) (fun j => j ≤ (y.tables.getD kk default).entries.length) (fun j => (y.tables.getD kk default).entries.length - j) 0 rfl ⟨Nat.zero_le _, ?_⟩) | (refine ld_skip rfl rfl rfl rfl upd_self ?_) | (refine bool_skip any_self ?_) | (first | rw [ld_self rfl] | rw [ld_selfA rfl]) | refine And.intro ?_ ?_ | (intro _h; first | contradiction | (try simp only [dd] at _h)) | (refine dt_go ?_) | exact rfl | exact True.intro | exact dkk | exact dks | (refine .inr (.inl (.inr (.inl ⟨_, RetM.wka (hI), ?_⟩))); rintro _ _ ⟨rfl, rfl⟩; refine ⟨⟨rfl, nssA⟩, _, lokA, ?_⟩) | (refine .inr (.inl (.inr (.inl ⟨_, RetM.wka (hS), ?_⟩))); rintro _ _ ⟨rfl, rfl⟩; refine ⟨⟨rfl, nssA⟩, _, lokA, ?_⟩) | (refine .inr (.inl (.inr (.inl ⟨_, RetM.wka (kI), ?_⟩))); rintro _ _ ⟨rfl, rfl⟩; refine ⟨⟨rfl, nssA⟩, _, lokA, ?_⟩) | (refine .inr (.inl (.inr (.inl ⟨_, RetM.wka (kS), ?_⟩))); rintro _ _ ⟨rfl, rfl⟩; refine ⟨⟨rfl, nssA⟩, _, lokA, ?_⟩) | ((first | refine .inl ⟨_, Ret.wka (sam0), ?_⟩ | refine ⟨_, Ret.wka (sam0), ?_⟩); (try rintro _ rfl)) | ((first | refine .inl ⟨_, Ret.wka (sam1 y y1), ?_⟩ | refine ⟨_, Ret.wka (sam1 y y1), ?_⟩); (try rintro _ rfl)) | ((first | refine .inl ⟨_, Ret.wka (okS_is y y1 y2), ?_⟩ | refine ⟨_, Ret.wka (okS_is y y1 y2), ?_⟩); (try rintro _ rfl)) | (refine wrap_succ ?_; omega))))
    all_goals (conv => whnf)
    all_goals first
    | exact leaf_b (decide_eq_true (show (((y.tables.getD who.toNat default).entries.length : Nat) : Int) = 0 by rw [y5]; rfl))
    | (rename_i i _ _ hi _ hk j _ hj
       exact absurd _h (y6 i kk j (by omega) (by omega) (Int.ofNat_lt.1 hj)))
    | (rename_i i _ _ hi _ hk j _ hj
       have h12 := ent12 y2 kk
       have hj' : j < (y.tables.getD kk default).entries.length := Int.ofNat_lt.1 hj
       refine roundET_turn (turn_close (id := 7) (i := ((kk : Nat) : Int).toNat) (j := 1) (id' := 15) rfl (show ((kk : Nat) : Int).toNat < y.tables.length by omega) (show 1 < 2 by decide) (by exact upd_self) rfl (show 7 ≠ 15 by decide) rfl (rowO_le (Nat.le_refl _))) ?_
       refine roundET_turn (turn_eq (id := 7) (x := rowL 2 Table.csO y.tables) rfl rfl rfl rfl rfl tab_back) ?_
       refine roundET_end ?_
       refine ⟨j + 1, [], hj', (show (y.tables.getD kk default).entries.length - (j + 1) < (y.tables.getD kk default).entries.length - j by omega), ?_⟩
       repeat' (first | exact aa | ((conv => whnf) <;> (first | exact low_cells rfl | exact keeps0_nil _ _ | refine And.intro ?_ ?_ | (intro _h; first | contradiction | (try simp only [dd] at _h)) | (refine dt_go ?_) | exact rfl | exact True.intro | exact dkk | exact dks | (refine wrap_succ ?_; omega))))
       done)
    | (rename_i i _ _ hi _ hk j _
       have h7 := y2.2.1.2
       have hk' : kk < y.tables.length := Int.ofNat_lt.1 hk
       refine roundET_turn (turn_close (id := 7) (i := ((kk : Nat) : Int).toNat) (j := 1) (id' := 15) rfl (show ((kk : Nat) : Int).toNat < y.tables.length by omega) (show 1 < 2 by decide) (by exact upd_self) rfl (show 7 ≠ 15 by decide) rfl (rowO_le (Nat.le_refl _))) ?_
       refine roundET_turn (turn_eq (id := 7) (x := rowL 2 Table.csO y.tables) rfl rfl rfl rfl rfl tab_back) ?_
       refine roundET_end ?_
       refine ⟨kk + 1, [], hk', (show y.tables.length - (kk + 1) < y.tables.length - kk by omega), ?_⟩
       repeat' (first | exact aa | ((conv => whnf) <;> (first | exact low_cells rfl | exact keeps0_nil _ _ | refine And.intro ?_ ?_ | (intro _h; first | contradiction | (try simp only [dd] at _h)) | (refine dt_go ?_) | exact rfl | exact True.intro | exact dkk | exact dks | (refine wrap_succ ?_; omega))))
       done)
  ·rcases kill_two x ho who with ⟨kS, kI⟩ | ⟨y, L, ⟨y1, y2⟩, y3, y4, y5, y6, kS, kI⟩
   ·repeat' (first | exact aa | ((conv => whnf) <;> (first | (exfalso; exact Bool.noConfusion ((h2 ‹0 < t.id›).symm.trans _h)) | (exfalso; exact ‹¬True› trivial) | (exfalso; exact _h rfl) | exact low_cells rfl | exact keeps0_nil _ _ | refine loopAt 19 0 (fun k => [(19, .i .i64 k)]) (fun k => []) (fun _ => True) rfl ⟨trivial, ?_⟩ | refine And.intro ?_ ?_ | (intro _h; first | contradiction | (try simp only [dd] at _h)) | (refine dt_go ?_) | exact rfl | exact True.intro | exact dkk | exact dks | (refine .inr (.inl (.inr (.inl ⟨_, RetM.wka (hI), ?_⟩))); rintro _ _ ⟨rfl, rfl⟩; refine ⟨⟨rfl, nssA⟩, _, lokA, ?_⟩) | (refine .inr (.inl (.inr (.inl ⟨_, RetM.wka (hS), ?_⟩))); rintro _ _ ⟨rfl, rfl⟩; refine ⟨⟨rfl, nssA⟩, _, lokA, ?_⟩) | (refine .inr (.inl (.inr (.inl ⟨_, RetM.wka (kI), ?_⟩))); rintro _ _ ⟨rfl, rfl⟩; refine ⟨⟨rfl, nssA⟩, _, lokA, ?_⟩) | (refine .inr (.inl (.inr (.inl ⟨_, RetM.wka (kS), ?_⟩))); rintro _ _ ⟨rfl, rfl⟩; refine ⟨⟨rfl, nssA⟩, _, lokA, ?_⟩) | ((first | refine .inl ⟨_, Ret.wka (hO), ?_⟩ | refine ⟨_, Ret.wka (hO), ?_⟩); (try rintro _ rfl)) | ((first | refine .inl ⟨_, Ret.wka (sam0), ?_⟩ | refine ⟨_, Ret.wka (sam0), ?_⟩); (try rintro _ rfl)) | ((first | refine .inl ⟨_, Ret.wka (sam1 s' h1), ?_⟩ | refine ⟨_, Ret.wka (sam1 s' h1), ?_⟩); (try rintro _ rfl)) | (refine wrap_succ ?_; omega))))
   ·repeat' (first | exact aa | ((conv => whnf) <;> (first | (exfalso; exact Bool.noConfusion ((h2 ‹0 < t.id›).symm.trans _h)) | (exfalso; exact ‹¬True› trivial) | (exfalso; exact _h rfl) | exact low_cells rfl | exact keeps0_nil _ _ | refine loopAt 19 L.length (fun k => [(19, .i .i64 k)]) (fun k => []) (fun _ => True) rfl ⟨trivial, ?_⟩ | refine loopTF 20 (fun k : Nat => [(20, .i .i64 k)]) (fun k => []) (fun k => k ≤ y.tables.length) (fun k => y.tables.length - k) 0 rfl ⟨Nat.zero_le _, ?_⟩ | (rename_i kk _; refine loopTF 21 (fun j : Nat => [(21, .i .i64 j)]) (fun j => []) (fun j => j ≤ (y.tables.getD kk default).entries.length) (fun j => (y.tables.getD kk default).entries.length - j) 0 rfl ⟨Nat.zero_le _, ?_⟩) | (refine ld_skip rfl rfl rfl rfl upd_self ?_) | (refine bool_skip any_self ?_) | (first | rw [ld_self rfl] | rw [ld_selfA rfl]) | refine And.intro ?_ ?_ | (intro _h; first | contradiction | (try simp only [dd] at _h)) | (refine dt_go ?_) | exact rfl | exact True.intro | exact dkk | exact dks | (refine .inr (.inl (.inr (.inl ⟨_, RetM.wka (hI), ?_⟩))); rintro _ _ ⟨rfl, rfl⟩; refine ⟨⟨rfl, nssA⟩, _, lokA, ?_⟩) | (refine .inr (.inl (.inr (.inl ⟨_, RetM.wka (hS), ?_⟩))); rintro _ _ ⟨rfl, rfl⟩; refine ⟨⟨rfl, nssA⟩, _, lokA, ?_⟩) | (refine .inr (.inl (.inr (.inl ⟨_, RetM.wka (kI), ?_⟩))); rintro _ _ ⟨rfl, rfl⟩; refine ⟨⟨rfl, nssA⟩, _, lokA, ?_⟩) | (refine .inr (.inl (.inr (.inl ⟨_, RetM.wka (kS), ?_⟩))); rintro _ _ ⟨rfl, rfl⟩; refine ⟨⟨rfl, nssA⟩, _, lokA, ?_⟩) | ((first | refine .inl ⟨_, Ret.wka (hO), ?_⟩ | refine ⟨_, Ret.wka (hO), ?_⟩); (try rintro _ rfl)) | ((first | refine .inl ⟨_, Ret.wka (sam1 s' h1), ?_⟩ | refine ⟨_, Ret.wka (sam1 s' h1), ?_⟩); (try rintro _ rfl)) | ((first | refine .inl ⟨_, Ret.wka (sam1 y y1), ?_⟩ | refine ⟨_, Ret.wka (sam1 y y1), ?_⟩); (try rintro _ rfl)) | ((first | refine .inl ⟨_, Ret.wka (okS_is y y1 y2), ?_⟩ | refine ⟨_, Ret.wka (okS_is y y1 y2), ?_⟩); (try rintro _ rfl)) | (refine wrap_succ ?_; omega))))
    all_goals (conv => whnf)
    all_goals first
    | exact leaf_b (decide_eq_true (show (((y.tables.getD who.toNat default).entries.length : Nat) : Int) = 0 by rw [y5]; rfl))
    | (rename_i i _ _ hi _ hk j _ hj
       exact absurd _h (y6 i kk j (by omega) (by omega) (Int.ofNat_lt.1 hj)))
    | (rename_i i _ _ hi _ hk j _ hj
       have h12 := ent12 y2 kk
       have hj' : j < (y.tables.getD kk default).entries.length := Int.ofNat_lt.1 hj
       refine roundET_turn (turn_close (id := 11) (i := ((kk : Nat) : Int).toNat) (j := 1) (id' := 19) rfl (show ((kk : Nat) : Int).toNat < y.tables.length by omega) (show 1 < 2 by decide) (by exact upd_self) rfl (show 11 ≠ 19 by decide) rfl (rowO_le (Nat.le_refl _))) ?_
       refine roundET_turn (turn_eq (id := 11) (x := rowL 2 Table.csO y.tables) rfl rfl rfl rfl rfl tab_back) ?_
       refine roundET_end ?_
       refine ⟨j + 1, [], hj', (show (y.tables.getD kk default).entries.length - (j + 1) < (y.tables.getD kk default).entries.length - j by omega), ?_⟩
       repeat' (first | exact aa | ((conv => whnf) <;> (first | exact low_cells rfl | exact keeps0_nil _ _ | refine And.intro ?_ ?_ | (intro _h; first | contradiction | (try simp only [dd] at _h)) | (refine dt_go ?_) | exact rfl | exact True.intro | exact dkk | exact dks | (refine wrap_succ ?_; omega))))
       done)
    | (rename_i i _ _ hi _ hk j _
       have h7 := y2.2.1.2
       have hk' : kk < y.tables.length := Int.ofNat_lt.1 hk
       refine roundET_turn (turn_close (id := 11) (i := ((kk : Nat) : Int).toNat) (j := 1) (id' := 19) rfl (show ((kk : Nat) : Int).toNat < y.tables.length by omega) (show 1 < 2 by decide) (by exact upd_self) rfl (show 11 ≠ 19 by decide) rfl (rowO_le (Nat.le_refl _))) ?_
       refine roundET_turn (turn_eq (id := 11) (x := rowL 2 Table.csO y.tables) rfl rfl rfl rfl rfl tab_back) ?_
       refine roundET_end ?_
       refine ⟨kk + 1, [], hk', (show y.tables.length - (kk + 1) < y.tables.length - kk by omega), ?_⟩
       repeat' (first | exact aa | ((conv => whnf) <;> (first | exact low_cells rfl | exact keeps0_nil _ _ | refine And.intro ?_ ?_ | (intro _h; first | contradiction | (try simp only [dd] at _h)) | (refine dt_go ?_) | exact rfl | exact True.intro | exact dkk | exact dks | (refine wrap_succ ?_; omega))))
       done)
theorem draws : Draws := ⟨fun s a h hg ha => by
 obtain ⟨s', c, c', h1, h2, h3, h4, h5⟩ := act_both h hg a ha
 exact h4.mono fun r H ⟨q1, q2⟩ => ⟨s', c, ⟨h1, h2⟩, q1, q2⟩, fun n h1 h7 => new_good h1 h7⟩
namespace fnNoOutlive
theorem law_ret (dss : List (List AV)) (h : TyCs Tryz.prog Tryz.f4.params.toList dss) : Ret Tryz.prog 4 (mkArgs Tryz.prog Tryz.f4.params.toList dss) fun r => r = .b true := by
 obtain ⟨d0, r0, rfl, h0, h⟩ := h.cons_inv
 obtain rfl := h.nil_inv
 obtain ⟨l, hl⟩ := arg_one (c := fun l => slL 1 byteC l) (rd_sl Tryz.underlying22 (by kernel_rfl) (rd_u8 Tryz.underlying5)) (by kernel_rfl) h0
 exact Ret.wk (.cons hl .nil) (noOutliveLaw draws l)
end fnNoOutlive
end Go.Proofs.YtmglpojnoadgeaaGreat
namespace Go.Proofs.YtmglpojnoadgeaaGreat.fnNoOutlive
open Go.ChangeShapes Go.WideShapes Go.ChangeAt Go.RowKit
set_option linter.unusedVariables false
theorem own : ownKnob Tryz.prog.godebug = none := by kernel_rfl
set_option maxRecDepth 100000 in
theorem lifted (os : Os) (started : os.Started) (H : Type) (enc : TypeId × Go.Value → H) :
  ReturnsInHanded {} Tryz.checked os 4 .any (Rows.fnNoOutliveSpec.pre6 enc Tryz.prog Tryz.f4 Rows.fnNoOutliveRow.domain false) (Rows.fnNoOutliveSpec.post enc Tryz.prog Tryz.f4 false true false false) := by
 refine returnsInHanded_of_change (C := Tryz.checked) own started (by kernel_rfl) Tryz.func4
  (ChangeSpec.witness6 (enc := enc) (C := Tryz.checked) false ⟨#[], #[.slice none 0 0], []⟩ 8 (by kernel_rfl) (by kernel_rfl) (by kernel_rfl) (by kernel_rfl)) ?_
 intro W base args ds gs before hval0 hW hcnd _
 refine law_end (k := closeT Tryz.prog 9 Tryz.f4.params.toList) rfl (by kernel_rfl) (by kernel_rfl) rfl Tryz.underlying4 ?_ (fun dss h => law_ret dss h) hval0 hW
 ·rintro ds hl
  match ds, hl with
  | [_], _ => rfl
theorem over : Rows.fnNoOutliveRow.holds Tryz.pinned (OpenSpec.ofChange Rows.fnNoOutliveSpec) :=
 OpenClaim.holds_of_wide 4 Tryz.f4 rfl rfl rfl rfl rfl rfl rfl ⟨rfl, rfl, rfl, rfl, rfl⟩ rfl rfl rfl rfl rfl fact_named Tryz.func4 fact_joined fact_inst fact_wrap
  (fun os started H enc _ => lifted os started H enc)
theorem proved : Rows.FnNoOutliveSaid :=
 over
end Go.Proofs.YtmglpojnoadgeaaGreat.fnNoOutlive
