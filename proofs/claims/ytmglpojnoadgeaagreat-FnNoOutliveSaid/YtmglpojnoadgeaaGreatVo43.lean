/- Texts for VHandlesOneP. -/
import Derived.Test.YtmglpojnoadgeaaGreatVo39
import Derived.Test.YtmglpojnoadgeaaGreatVo42
namespace Go.Proofs.YtmglpojnoadgeaaGreat
open Go Go.RowKit
set_option linter.unusedVariables false
set_option linter.unusedSimpArgs false
section
theorem thing_qx {s : Shelf} (hg : s.good) {who num : Int} {x : Entry} (hx : s.at_ who num = some x) : ∃ qx, s.thing x.id = some qx ∧ qx < s.things.length ∧ lastX x.id s.things = s.things.getD qx default ∧ cutX x.id s.things = s.things.eraseIdx qx := by
 obtain ⟨qx, h1, h2⟩ := thing_some hg hx
 obtain ⟨h3, h4, _⟩ := cutX_erase (good_uniqX hg.2.2.1) (show s.things.findIdx? (idP x.id) = some qx from h1)
 exact ⟨qx, h1, h2, h4, h3⟩
theorem ent_eta (e : Entry) : e = ⟨e.num, e.id, e.own, e.lends, e.scope, e.from_, e.fromNum⟩ := by cases e; rfl
abbrev ActC (g : FuncId) (s s' : Shelf) (av : List AV) (r0 : AV) (L : Hp) : Prop := RetM env.P g [some (boxRow s.csO)] (.ptr 0 0 0 :: av) (fun r H => r = r0 ∧ H = some (boxRow s'.csO) :: L)
section
variable {s : Shelf} (h : s.ok) (hg : s.good) {who num res to scope : Int} (hw : 0 ≤ who ∧ who < (s.tables.length : Int)) (hto : 0 ≤ to ∧ to < (s.tables.length : Int))
include h hg hw
theorem make_both (hr : 1 ≤ res ∧ res ≤ 8) : ∃ s' n c, s'.ok ∧ s'.good ∧ ActC 71 s s' [.i .i64 who, .i .i64 res, .i .i64 s.next] (.tup [.i .i64 n, .i .i64 c]) [] ∧ ActC 61 s s' [.i .i64 who, .i .i64 res, .i .i64 s.next] (.tup [.i .i64 n, .i .i64 c]) [] := by
 have ht := tab_good hg hw
 by_cases hf : s.noMake who.toNat
 ·exact ⟨s, 0, 4, h, hg, l19Make_err s h who res s.next hw hf, make_err s h who res s.next hw ht.1 ht.2.2 hg.2.2.1.2 hg.1.2 hf⟩
 ·have f1 : s.things.length < 24 := Nat.lt_of_not_le fun q => hf (.inl q)
  have f2 : s.next < 1000000 := Int.lt_of_not_ge fun q => hf (.inr (.inl q))
  have f3 : ¬ s.fullB who.toNat := fun q => hf (.inr (.inr q))
  have hn := hg.1.1
  exact ⟨s.made who.toNat res s.next, _, 0, made_ok h f1 ht.1, made_good hg (by omega) f1 f2 f3 hr ⟨by omega, by omega⟩, l19Make_fine s h who res s.next hw (by omega) ht.2.1 hf, make_fine s h who res s.next hw ht.1 ht.2.2 hg.2.2.1.2 hg.1.2 (by omega) ht.2.1 hf⟩
include hto
theorem move_both : ∃ s' n c, s'.ok ∧ s'.good ∧ ActC 72 s s' [.i .i64 who, .i .i64 num, .i .i64 res, .i .i64 to] (.tup [.i .i64 n, .i .i64 c]) [] ∧ ActC 62 s s' [.i .i64 who, .i .i64 num, .i .i64 res, .i .i64 to] (.tup [.i .i64 n, .i .i64 c]) [] := by
 cases hE : s.typ who num res with
 | none => exact ⟨s, 0, 11, h, hg, l19Move_none s h who num res to hg hw hto hE, move_none s h who num res to hg hw hto hE⟩
 | some e =>
  rcases at_cases s hw (num := num) with ⟨q, hq, hlt, hA⟩ | hA
  ·have hr : (s.thingOf ((s.tables.getD who.toNat default).entries.getD q default)).res = res := by
    refine Classical.byContradiction fun hr => ?_
    rw [typ_not hA hr] at hE
    cases hE
   have hle : 0 ≤ ((s.tables.getD who.toNat default).entries.getD q default).lends := ((hg.2.2.2.1 who.toNat (by omega)).1 q hlt).2.2
   cases ho : ((s.tables.getD who.toNat default).entries.getD q default).own with
   | false => exact ⟨s, 0, 11, h, hg, l19Move_own s h who num res to hg hw hto q hq hr ho, move_own s h who num res to hg hw hto q hq hr ho⟩
   | true =>
    by_cases hl0 : ((s.tables.getD who.toNat default).entries.getD q default).lends = 0
    ·by_cases hf : s.fullB to.toNat
     ·exact ⟨s, 0, 4, h, hg, l19Move_full s h who num res to hg hw hto q hq hr ho hl0 hf, move_full s h who num res to hg hw hto q hq hr ho hl0 hf⟩
     ·exact ⟨s.movedTo who num q to.toNat, _, 0, put_ok (cut_ok h) _ (Nat.le_trans cut_at.1 (tab_good hg hto).1), moved_good hg (by omega) (by omega) hlt (find_lt hq).2 ho hl0 hf, l19Move_fine s h who num res to hg hw hto q hq hr ho hl0 hf, move_fine s h who num res to hg hw hto q hq hr ho hl0 hf⟩
    ·exact ⟨s, 0, 12, h, hg, l19Move_lent s h who num res to hg hw hto q hq hr ho (by omega), move_lent s h who num res to hg hw hto q hq hr ho hl0⟩
  ·rw [typ_none hA] at hE
   cases hE
theorem lend_both (hsc : 1 ≤ scope ∧ scope ≤ 1000000) : ∃ s' n c, s'.ok ∧ s'.good ∧ ActC 73 s s' [.i .i64 who, .i .i64 num, .i .i64 res, .i .i64 to, .i .i64 scope] (.tup [.i .i64 n, .i .i64 c]) [] ∧ ActC 63 s s' [.i .i64 who, .i .i64 num, .i .i64 res, .i .i64 to, .i .i64 scope] (.tup [.i .i64 n, .i .i64 c]) [] := by
 cases hE : s.typ who num res with
 | none => exact ⟨s, 0, 11, h, hg, l19Lend_none s h who num res to scope hg hw hto hE, lend_none s h who num res to scope hg hw hto hE⟩
 | some e =>
  rcases at_cases s hw (num := num) with ⟨q, hq, hlt, hA⟩ | hA
  ·have hr : (s.thingOf ((s.tables.getD who.toNat default).entries.getD q default)).res = res := by
    refine Classical.byContradiction fun hr => ?_
    rw [typ_not hA hr] at hE
    cases hE
   by_cases hf : s.fullB to.toNat
   ·exact ⟨s, 0, 4, h, hg, l19Lend_full s h who num res to scope hg hw hto q hq hr hf, lend_full s h who num res to scope hg hw hto q hq hr hf⟩
   ·have hl12 := (tab_good hg hto).1
    exact ⟨s.lentTo who num q to.toNat scope, _, 0, put_ok (setL_ok h) _ (by rw [setL_at.1]; exact hl12), lent_good hg hw (by omega) hlt (find_lt hq).2 hsc hf, l19Lend_fine s h who num res to scope hg hw hto q hq hr hf, lend_fine s h who num res to scope hg hw hto q hq hr hf⟩
  ·rw [typ_none hA] at hE
   cases hE
omit hto
theorem drop_both : ∃ s' x c, s'.ok ∧ s'.good ∧ ActC 48 s s' [.i .i64 who, .i .i64 num] (.tup [.agg (Thing.cs x), .i .i64 c]) [] ∧ ActC 45 s s' [.i .i64 who, .i .i64 num] (.tup [.agg x.cs, .i .i64 c]) [] := by
 rcases at_cases s hw (num := num) with ⟨q, hq, hlt, hA⟩ | hA
 ·have hle : 0 ≤ ((s.tables.getD who.toNat default).entries.getD q default).lends := ((hg.2.2.2.1 who.toNat (by omega)).1 q hlt).2.2
  have hmem : (s.tables.getD who.toNat default).entries.getD q default ∈ s.en who.toNat := getD_mem hlt
  have hnum : ((s.tables.getD who.toNat default).entries.getD q default).num = num := (find_lt hq).2
  have hw2 : who.toNat < s.tables.length := by omega
  generalize hE : (s.tables.getD who.toNat default).entries.getD q default = e at *
  obtain ⟨n, i, ow, ld, sc, fr, fn⟩ := e
  dsimp only at hle hnum
  subst hnum
  by_cases hl0 : ld = 0
  ·cases ow with
   | true =>
    obtain ⟨qx, x1, x2, x3, x4⟩ := thing_qx hg hA
    have e1 : (s.cut who.toNat n).cutT i = ⟨s.next, (s.cut who.toNat n).tables, s.things.eraseIdx qx⟩ := by
     unfold Shelf.cutT
     rw [show (s.cut who.toNat n).things = s.things from rfl, x4]
     rfl
    have h1 := l19Drop_own s h who n hg hw _ _ _ _ _ _ hA (by omega)
    have h2 := drop_own s h who n hg hw q hq (by rw [hE]) (by rw [hE]; exact hl0) qx (by rw [hE]; exact x1) x2
    have h3 := dropped_good hg hw2 hmem rfl hl0
    rw [x3, e1] at h1
    dsimp only at h3
    rw [e1] at h3
    exact ⟨⟨s.next, (s.cut who.toNat n).tables, s.things.eraseIdx qx⟩, s.things.getD qx default, 0, ⟨(cut_ok h).1, by rw [List.length_eraseIdx_of_lt x2]; exact Nat.le_trans (Nat.sub_le _ _) h.2.1, fun _ _ => trivial⟩, h3, h1, h2⟩
   | false =>
    obtain ⟨⟨x, hx⟩, hne⟩ := orig_some hg hA rfl
    have hx' : (s.cut who.toNat n).at_ fr fn = some x := by rw [cut_at_other (by omega) hne]; exact hx
    obtain ⟨hf, p, hp, _⟩ := at_posD hx'
    have hf' : 0 ≤ fr ∧ fr < (s.tables.length : Int) := by rw [show (s.cut who.toNat n).tables.length = s.tables.length from setE_len] at hf; exact hf
    have h1 := l19Drop_borS s h who n hg hw n i ld sc fr fn hA (by omega) hf' p hp
    have h2 := drop_bor s h who n hg hw q hq (by rw [hE]) (by rw [hE]; exact hl0) (by rw [hE]; exact hf') p (by rw [hE]; exact hp)
    rw [hE] at h2
    exact ⟨_, ⟨0, 0, 0⟩, 0, setL_ok (cut_ok h), unlent_good hg hw2 hmem rfl hl0 (f := fr.toNat) (show fr = (fr.toNat : Int) by omega) (by omega) (find_lt hp).1 (find_lt hp).2, h1, h2⟩
  ·exact ⟨s, ⟨0, 0, 0⟩, 12, h, hg, l19Drop_lent s h who n hg hw _ _ _ _ _ _ _ hA (by omega), drop_lent s h who n hg hw q hq (by rw [hE]; exact hl0)⟩
 ·exact ⟨s, ⟨0, 0, 0⟩, 11, h, hg, l19Drop_none s h who num hg hw hA, drop_none s h who num hg hw hA⟩
theorem kill_both : ActC 51 s (s.killed who.toNat) [.i .i64 who] (.row 1 (s.dead who.toNat).length) [some (rowL 3 Thing.cs (s.dead who.toNat))] ∧ ActC 50 s (s.killed who.toNat) [.i .i64 who] (.row 1 (s.dead who.toNat).length) [some (rowL 3 Thing.cs (s.dead who.toNat))] :=
 ⟨l19Kill_good s h hg who hw, kill_ok s h hg who hw⟩
omit hw
theorem end_both : ∃ s', s'.ok ∧ s'.good ∧ ActC 74 s s' [.i .i64 scope] (.tup []) [] ∧ ActC 64 s s' [.i .i64 scope] (.tup []) [] := by
 have h1 := l19End_ok s h hg scope _ (l19Loose_ok s h hg.tidy (scK scope))
 rw [until_zero] at h1
 exact ⟨_, lendU_ok (keep_ok h), end_good hg (K0 := scK scope) fun i e ho => scK_own ho, h1, endScope_ok s h hg scope⟩
theorem act_both (a : ShelfAct) (ha : a.fine = true) : ∃ s' c c', s'.ok ∧ s'.good ∧ (c = 0 ↔ c' = 0) ∧ ActC 33 s s' [.agg a.cs] (.i .i64 c) [] ∧ ActC 29 s s' [.agg a.cs] (.i .i64 c') [] := by
 by_cases ho : (0 ≤ a.who ∧ a.who < (s.tables.length : Int)) ∧ (0 ≤ a.to ∧ a.to < (s.tables.length : Int))
 ·obtain ⟨hw, hto⟩ := ho
  obtain ⟨k, who, num, res, to, scope⟩ := a
  dsimp only at hw hto
  unfold ShelfAct.fine at ha
  rw [decide_eq_true_eq] at ha
  obtain ⟨-, -, ha⟩ := ha
  dsimp only at ha
  split at ha
  ·rename_i e; subst e
   obtain ⟨s', n, c, h1, h2, h3, h4⟩ := make_both h hg hw ha.1
   exact ⟨s', c, c, h1, h2, Iff.rfl, do_make s s' h who num res to scope n c [] [] default hw hto h3, act_make s s' h who num res to scope n c [] [] default hw hto h4⟩
  split at ha
  ·rename_i e; subst e
   obtain ⟨s', n, c, h1, h2, h3, h4⟩ := move_both h hg hw hto (num := num) (res := res)
   exact ⟨s', c, c, h1, h2, Iff.rfl, do_move s s' h who num res to scope n c [] [] default hw hto h3, act_move s s' h who num res to scope n c [] [] default hw hto h4⟩
  split at ha
  ·rename_i e; subst e
   obtain ⟨s', n, c, h1, h2, h3, h4⟩ := lend_both h hg hw hto (num := num) (res := res) ha.2.2
   exact ⟨s', c, c, h1, h2, Iff.rfl, do_lend s s' h who num res to scope n c [] [] default hw hto h3, act_lend s s' h who num res to scope n c [] [] default hw hto h4⟩
  split at ha
  ·rename_i e; subst e
   obtain ⟨s', x, c, h1, h2, h3, h4⟩ := drop_both h hg hw (num := num)
   exact ⟨s', c, c, h1, h2, Iff.rfl, do_drop s s' h who num res to scope 0 c [] [] x hw hto h3, act_drop s s' h who num res to scope 0 c [] [] x hw hto h4⟩
  split at ha
  ·rename_i e; subst e
   obtain ⟨s', h1, h2, h3, h4⟩ := end_both h hg (scope := scope)
   exact ⟨s', 0, 0, h1, h2, Iff.rfl, do_end s s' h who num res to scope 0 0 [] [] default hw hto h3, act_end s s' h who num res to scope 0 0 [] [] default hw hto h4⟩
  split at ha
  ·rename_i e; subst e
   obtain ⟨h3, h4⟩ := kill_both h hg hw
   exact ⟨s.killed who.toNat, 0, 0, lendU_ok (keep_ok (bared_ok h)), killed_good hg (by omega), Iff.rfl, do_kill s _ h who num res to scope 0 0 [] _ default hw hto h3, act_kill s _ h who num res to scope 0 0 [] _ default hw hto h4⟩
  ·cases ha
 ·exact ⟨s, 1, 2, h, hg, ⟨fun q => (by cases q), fun q => (by cases q)⟩, do_out s h a ho, act_out s h a ho⟩
end
end
end Go.Proofs.YtmglpojnoadgeaaGreat
