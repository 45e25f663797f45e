/- Texts for VBorrowEndsP. -/
import Derived.Test.YtmglpojnoadgeaaVb42
import Derived.Test.YtmglpojnoadgeaaVb41
namespace Go.Proofs.Ytmglpojnoadgeaa
open Go Go.RowKit
set_option linter.unusedVariables false
set_option linter.unusedSimpArgs false
theorem l19Kill_good (s : Shelf) (h : s.ok) (hg : s.good) (who : Int) (hw : 0 ≤ who ∧ who < (s.tables.length : Int)) : RetM env.P 96 [some (boxRow s.csO)] [.ptr 0 0 0, .i .i64 who] (fun r H => r = .row 1 (s.dead who.toNat).length ∧ H = [some (boxRow (s.killed who.toNat).csO), some (rowL 3 Thing.cs (s.dead who.toNat))]) := by
  have hw2 : who.toNat < s.tables.length := by omega
  have h12 := (hg.2.2.2.1 who.toNat hw2).2.2
  have h24 := hg.2.2.1.2
  have hL := l19Loose_ok (s.bared who.toNat) (bared_ok h) (hg.tidy.things _) (kiK who.toNat)
  rw [← kill_keep hw2] at hL
  exact l19Kill_ok s _ who h hw hg.2.1.2 (by omega) (by omega) hL
section
theorem thing_qx {s : Shelf} (hg : s.good) {who num : Int} {x : Entry} (hx : s.at_ who num = some x) : ∃ qx, s.thing x.id = some qx ∧ qx < s.things.length ∧ lastX x.id s.things = s.things.getD qx default ∧ cutX x.id s.things = s.things.eraseIdx qx := by
  obtain ⟨qx, h1, h2⟩ := thing_some hg hx
  obtain ⟨h3, h4, _⟩ := cutX_erase (good_uniqX hg.2.2.1) (show s.things.findIdx? (idP x.id) = some qx from h1)
  exact ⟨qx, h1, h2, h4, h3⟩
abbrev ActC (g : FuncId) (s s' : Shelf) (av : List AV) (r0 : AV) (L : Hp) : Prop := RetM env.P g [some (boxRow s.csO)] (.ptr 0 0 0 :: av) (fun r H => r = r0 ∧ H = some (boxRow s'.csO) :: L)
section
variable {s : Shelf} (h : s.ok) (hg : s.good) {who num res to scope : Int} (hw : 0 ≤ who ∧ who < (s.tables.length : Int)) (hto : 0 ≤ to ∧ to < (s.tables.length : Int))
include h hg hw
theorem make_step (hr : 1 ≤ res ∧ res ≤ 8) : ∃ s' n c, s'.ok ∧ s'.good ∧ ActC 93 s s' [.i .i64 who, .i .i64 res, .i .i64 s.next] (.tup [.i .i64 n, .i .i64 c]) [] := by
  have ht := tab_good hg hw
  by_cases hf : s.noMake who.toNat
  · exact ⟨s, 0, 4, h, hg, l19Make_err s h who res s.next hw hf⟩
  · have f1 : s.things.length < 24 := Nat.lt_of_not_le fun q => hf (.inl q)
    have f2 : s.next < 1000000 := Int.lt_of_not_ge fun q => hf (.inr (.inl q))
    have f3 : ¬ s.fullB who.toNat := fun q => hf (.inr (.inr q))
    have hn := hg.1.1
    exact ⟨s.made who.toNat res s.next, _, 0, made_ok h f1 ht.1, made_good hg (by omega) f1 f2 f3 hr ⟨by omega, by omega⟩, l19Make_fine s h who res s.next hw (by omega) ht.2.1 hf⟩
include hto
theorem move_step : ∃ s' n c, s'.ok ∧ s'.good ∧ ActC 40 s s' [.i .i64 who, .i .i64 num, .i .i64 res, .i .i64 to] (.tup [.i .i64 n, .i .i64 c]) [] := by
  cases hE : s.typ who num res with
  | none => exact ⟨s, 0, 11, h, hg, l19Move_none s h who num res to hg hw hto hE⟩
  | some e =>
    rcases at_cases s hw (num := num) with ⟨q, hq, hlt, hA⟩ | hA
    · have hr : (s.thingOf ((s.tables.getD who.toNat default).entries.getD q default)).res = res := by
        refine Classical.byContradiction fun hr => ?_
        rw [typ_not hA hr] at hE
        cases hE
      have hle : 0 ≤ ((s.tables.getD who.toNat default).entries.getD q default).lends := ((hg.2.2.2.1 who.toNat (by omega)).1 q hlt).2.2
      cases ho : ((s.tables.getD who.toNat default).entries.getD q default).own with
      | false => exact ⟨s, 0, 11, h, hg, l19Move_own s h who num res to hg hw hto q hq hr ho⟩
      | true =>
        by_cases hl0 : ((s.tables.getD who.toNat default).entries.getD q default).lends = 0
        · by_cases hf : s.fullB to.toNat
          · exact ⟨s, 0, 4, h, hg, l19Move_full s h who num res to hg hw hto q hq hr ho hl0 hf⟩
          · exact ⟨s.movedTo who num q to.toNat, _, 0, put_ok (cut_ok h) _ (Nat.le_trans cut_at.1 (tab_good hg hto).1), moved_good hg (by omega) (by omega) hlt (find_lt hq).2 ho hl0 hf, l19Move_fine s h who num res to hg hw hto q hq hr ho hl0 hf⟩
        · exact ⟨s, 0, 12, h, hg, l19Move_lent s h who num res to hg hw hto q hq hr ho (by omega)⟩
    · rw [typ_none hA] at hE
      cases hE
theorem lend_step (hsc : 1 ≤ scope ∧ scope ≤ 1000000) : ∃ s' n c, s'.ok ∧ s'.good ∧ ActC 94 s s' [.i .i64 who, .i .i64 num, .i .i64 res, .i .i64 to, .i .i64 scope] (.tup [.i .i64 n, .i .i64 c]) [] := by
  cases hE : s.typ who num res with
  | none => exact ⟨s, 0, 11, h, hg, l19Lend_none s h who num res to scope hg hw hto hE⟩
  | some e =>
    rcases at_cases s hw (num := num) with ⟨q, hq, hlt, hA⟩ | hA
    · have hr : (s.thingOf ((s.tables.getD who.toNat default).entries.getD q default)).res = res := by
        refine Classical.byContradiction fun hr => ?_
        rw [typ_not hA hr] at hE
        cases hE
      by_cases hf : s.fullB to.toNat
      · exact ⟨s, 0, 4, h, hg, l19Lend_full s h who num res to scope hg hw hto q hq hr hf⟩
      · have hl12 := (tab_good hg hto).1
        exact ⟨s.lentTo who num q to.toNat scope, _, 0, put_ok (setL_ok h) _ (by rw [setL_at.1]; exact hl12), lent_good hg hw (by omega) hlt (find_lt hq).2 hsc hf, l19Lend_fine s h who num res to scope hg hw hto q hq hr hf⟩
    · rw [typ_none hA] at hE
      cases hE
omit hto
theorem drop_step : ∃ s' x c, s'.ok ∧ s'.good ∧ ActC 95 s s' [.i .i64 who, .i .i64 num] (.tup [.agg (Thing.cs x), .i .i64 c]) [] := by
  rcases at_cases s hw (num := num) with ⟨q, hq, hlt, hA⟩ | hA
  · have hle : 0 ≤ ((s.tables.getD who.toNat default).entries.getD q default).lends := ((hg.2.2.2.1 who.toNat (by omega)).1 q hlt).2.2
    have hmem : (s.tables.getD who.toNat default).entries.getD q default ∈ s.en who.toNat := getD_mem hlt
    have hnum : ((s.tables.getD who.toNat default).entries.getD q default).num = num := (find_lt hq).2
    have hw2 : who.toNat < s.tables.length := by omega
    generalize hE : (s.tables.getD who.toNat default).entries.getD q default = e at *
    obtain ⟨n, i, ow, ld, sc, fr, fn⟩ := e
    dsimp only at hle hnum
    subst hnum
    by_cases hl0 : ld = 0
    · cases ow with
      | true =>
        obtain ⟨qx, x1, x2, x3, x4⟩ := thing_qx hg hA
        have e1 : (s.cut who.toNat n).cutT i = ⟨s.next, (s.cut who.toNat n).tables, s.things.eraseIdx qx⟩ := by
          unfold Shelf.cutT
          rw [show (s.cut who.toNat n).things = s.things from rfl, x4]
          rfl
        have h1 := l19Drop_own s h who n hg hw _ _ _ _ _ _ hA (by omega)
        have h3 := dropped_good hg hw2 hmem rfl hl0
        rw [x3, e1] at h1
        dsimp only at h3
        rw [e1] at h3
        exact ⟨⟨s.next, (s.cut who.toNat n).tables, s.things.eraseIdx qx⟩, s.things.getD qx default, 0, ⟨(cut_ok h).1, by rw [List.length_eraseIdx_of_lt x2]; exact Nat.le_trans (Nat.sub_le _ _) h.2.1, fun _ _ => trivial⟩, h3, h1⟩
      | false =>
        obtain ⟨⟨x, hx⟩, hne⟩ := orig_some hg hA rfl
        have hx' : (s.cut who.toNat n).at_ fr fn = some x := by rw [cut_at_other (by omega) hne]; exact hx
        obtain ⟨hf, p, hp, _⟩ := at_posD hx'
        have hf' : 0 ≤ fr ∧ fr < (s.tables.length : Int) := by rw [show (s.cut who.toNat n).tables.length = s.tables.length from setE_len] at hf; exact hf
        have h1 := l19Drop_borS s h who n hg hw n i ld sc fr fn hA (by omega) hf' p hp
        exact ⟨_, ⟨0, 0, 0⟩, 0, setL_ok (cut_ok h), unlent_good hg hw2 hmem rfl hl0 (f := fr.toNat) (show fr = (fr.toNat : Int) by omega) (by omega) (find_lt hp).1 (find_lt hp).2, h1⟩
    · exact ⟨s, ⟨0, 0, 0⟩, 12, h, hg, l19Drop_lent s h who n hg hw _ _ _ _ _ _ _ hA (by omega)⟩
  · exact ⟨s, ⟨0, 0, 0⟩, 11, h, hg, l19Drop_none s h who num hg hw hA⟩
theorem kill_step : ActC 96 s (s.killed who.toNat) [.i .i64 who] (.row 1 (s.dead who.toNat).length) [some (rowL 3 Thing.cs (s.dead who.toNat))] :=
  l19Kill_good s h hg who hw
omit hw
theorem end_step : ∃ s', s'.ok ∧ s'.good ∧ ActC 28 s s' [.i .i64 scope] (.tup []) [] := by
  have h1 := l19End_ok s h hg scope _ (l19Loose_ok s h hg.tidy (scK scope))
  rw [until_zero] at h1
  exact ⟨_, lendU_ok (keep_ok h), end_good hg (K0 := scK scope) fun i e ho => scK_own ho, h1⟩
theorem act_step (a : ShelfAct) (ha : a.fine = true) : ∃ s' c, s'.ok ∧ s'.good ∧ ActC 75 s s' [.agg a.cs] (.i .i64 c) [] := by
  by_cases ho : (0 ≤ a.who ∧ a.who < (s.tables.length : Int)) ∧ (0 ≤ a.to ∧ a.to < (s.tables.length : Int))
  · obtain ⟨hw, hto⟩ := ho
    obtain ⟨k, who, num, res, to, scope⟩ := a
    dsimp only at hw hto
    unfold ShelfAct.fine at ha
    rw [decide_eq_true_eq] at ha
    obtain ⟨-, -, ha⟩ := ha
    dsimp only at ha
    split at ha
    · rename_i e; subst e
      obtain ⟨s', n, c, h1, h2, h3⟩ := make_step h hg hw ha.1
      exact ⟨s', c, h1, h2, do_make s s' h who num res to scope n c [] [] default hw hto h3⟩
    split at ha
    · rename_i e; subst e
      obtain ⟨s', n, c, h1, h2, h3⟩ := move_step h hg hw hto (num := num) (res := res)
      exact ⟨s', c, h1, h2, do_move s s' h who num res to scope n c [] [] default hw hto h3⟩
    split at ha
    · rename_i e; subst e
      obtain ⟨s', n, c, h1, h2, h3⟩ := lend_step h hg hw hto (num := num) (res := res) ha.2.2
      exact ⟨s', c, h1, h2, do_lend s s' h who num res to scope n c [] [] default hw hto h3⟩
    split at ha
    · rename_i e; subst e
      obtain ⟨s', x, c, h1, h2, h3⟩ := drop_step h hg hw (num := num)
      exact ⟨s', c, h1, h2, do_drop s s' h who num res to scope 0 c [] [] x hw hto h3⟩
    split at ha
    · rename_i e; subst e
      obtain ⟨s', h1, h2, h3⟩ := end_step h hg (scope := scope)
      exact ⟨s', 0, h1, h2, do_end s s' h who num res to scope 0 0 [] [] default hw hto h3⟩
    split at ha
    · rename_i e; subst e
      have h3 := kill_step h hg hw
      exact ⟨s.killed who.toNat, 0, lendU_ok (keep_ok (bared_ok h)), killed_good hg (by omega), do_kill s _ h who num res to scope 0 0 [] _ default hw hto h3⟩
    · cases ha
  · exact ⟨s, 1, h, hg, do_out s h a ho⟩
end
theorem do_ex (s : Shelf) (h : s.ok) (hg : s.good) (a : ShelfAct) (ha : a.fine = true) : RetM env.P 75 [some (boxRow s.csO)] [.ptr 0 0 0, .agg a.cs] (fun r H => ∃ (s' : Shelf) (c : Int), (s'.ok ∧ s'.good) ∧ r = .i .i64 c ∧ H = [some (boxRow s'.csO)]) := by
  obtain ⟨s', c, h1, h2, h3⟩ := act_step h hg a ha
  exact h3.mono fun r H ⟨q1, q2⟩ => ⟨s', c, ⟨h1, h2⟩, q1, q2⟩
end
end Go.Proofs.Ytmglpojnoadgeaa
