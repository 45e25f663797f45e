/-
  The law FnHandlesMoved returns true at every argument.
-/
import Derived.Test.YtmglpojnoadgeaaVh30
import Derived.Test.YtmglpojnoadgeaaVh40
import Derived.Test.YtmglpojnoadgeaaVHandlesMovedF
import Derived.Test.YtmglpojnoadgeaaVHandlesMovedG
namespace Go.Proofs.Ytmglpojnoadgeaa
open Go Go.RowKit
set_option linter.unusedVariables false
set_option linter.unusedSimpArgs false
theorem move_all (s : Shelf) (h : s.ok) (who num res to : Int) : (∃ c : Int, ¬ c = 0 ∧ (c = 12 → s.sGood ∧ ∃ e, s.at_ who num = some e ∧ 0 < e.lends) ∧
    RetM env.P 15 [] [.agg s.cs, .i .i64 who, .i .i64 num, .i .i64 res, .i .i64 to] (fun r H => r = .tup [.agg [.i .i64 0, .nils, .nils], .i .i64 0, .i .i64 c] ∧ H = []) ∧
    RetM env.P 14 [] [.agg s.cs, .i .i64 who, .i .i64 num, .i .i64 res, .i .i64 to] (fun r H => r = .tup [.agg [.i .i64 0, .nils, .nils], .i .i64 0, .i .i64 c] ∧ H = [])) ∨
    (∃ (s' : Shelf) (n : Int) (e : Entry), (s'.ok ∧ s'.sGood ∧ s.sGood) ∧ s'.things = s.things ∧ s.at_ who num = some e ∧ s'.at_ who num = none ∧ s'.at_ to n = some ⟨n, e.id, true, 0, 0, 0, 0⟩ ∧
      s.repV who num res = ((s.thingOf e).rep, 0) ∧ s'.repV to n res = ((s.thingOf e).rep, 0) ∧ (0 ≤ who ∧ who < (s.tables.length : Int)) ∧ (0 ≤ to ∧ to < (s'.tables.length : Int)) ∧ (1 ≤ num ∧ num ≤ 1000000) ∧ (1 ≤ n ∧ n ≤ 1000000) ∧ (1 ≤ res ∧ res ≤ 8) ∧
    RetM env.P 15 [] [.agg s.cs, .i .i64 who, .i .i64 num, .i .i64 res, .i .i64 to] (fun r H => r = .tup [.agg s'.resO, .i .i64 n, .i .i64 0] ∧ H = s'.rowsO) ∧
    RetM env.P 14 [] [.agg s.cs, .i .i64 who, .i .i64 num, .i .i64 res, .i .i64 to] (fun r H => r = .tup [.agg s'.resO, .i .i64 n, .i .i64 0] ∧ H = s'.rowsO)) := by
  by_cases hm : s.moveS who num res to
  · have hi := moveS_iff.1 hm
    have hg := hi.1.1
    have hw := hi.1.2.1
    have hto := hi.2.2
    cases hE : s.typ who num res with
    | none => exact .inl ⟨11, by omega, fun q => absurd q (by omega), move_specE s h who num res to 11 (by omega) hm (l19Move_none s h who num res to hg hw hto hE), move_implE s h who num res to 11 (by omega) hi (move_none s h who num res to hg hw hto hE)⟩
    | some e =>
      rcases at_cases s hw (num := num) with ⟨q, hq, hlt, hA⟩ | hA
      · have hr : (s.thingOf ((s.tables.getD who.toNat default).entries.getD q default)).res = res := by
          refine Classical.byContradiction fun hr => ?_
          rw [typ_not hA hr] at hE
          cases hE
        by_cases ho : ((s.tables.getD who.toNat default).entries.getD q default).own = true
        · by_cases hl0 : ((s.tables.getD who.toNat default).entries.getD q default).lends = 0
          · by_cases hf : s.fullB to.toNat
            · exact .inl ⟨4, by omega, fun q => absurd q (by omega), move_specE s h who num res to 4 (by omega) hm (l19Move_full s h who num res to hg hw hto q hq hr ho hl0 hf), move_implE s h who num res to 4 (by omega) hi (move_full s h who num res to hg hw hto q hq hr ho hl0 hf)⟩
            · have hl12 := (tab_good hg hto).1
              have hn := (find_lt hq).2
              have hG := mv_good hg hw hto hlt hn ho hl0 hf
              have hN := mv_num hg hw hto
              have hX := mv_next (s := s) (who := who) (num := num) (to := to)
              have h1 := mv_here hg hw hto hlt hn ho hl0 hf
              have ht : s.typ who num res = some ((s.tables.getD who.toNat default).entries.getD q default) := typ_some hA hr
              have hv2 := repV_some (typ_some h1 (res := res) (show ((s.movedTo who num q to.toNat).thingOf _).res = res from hr))
              refine .inr ⟨s.movedTo who num q to.toNat, ((s.cut who.toNat num).tables.getD to.toNat default).next, _, ⟨put_ok (cut_ok h) _ (Nat.le_trans cut_at.1 hl12), (good_iff _).1 hG, (good_iff _).1 hg⟩, rfl, hA, mv_gone hg hw hto hlt hn, h1, repV_some ht, (by exact hv2), hw, by rw [mv_len (s := s) (who := who) (num := num) (to := to) (q := q)]; exact hto, hi.1.2.2, by rw [hX]; exact hN, hi.2.1, move_specF s _ h who num res to _ hm (l19Move_fine s h who num res to hg hw hto q hq hr ho hl0 hf), move_implF s _ h who num res to _ hi (move_fine s h who num res to hg hw hto q hq hr ho hl0 hf)⟩
          · have hp : 0 < ((s.tables.getD who.toNat default).entries.getD q default).lends := by
              have := ((hg.2.2.2.1 who.toNat (by omega)).1 q hlt).2.2
              omega
            exact .inl ⟨12, by omega, fun _ => ⟨(good_iff _).1 hg, _, hA, hp⟩, move_specE s h who num res to 12 (by omega) hm (l19Move_lent s h who num res to hg hw hto q hq hr ho hp), move_implE s h who num res to 12 (by omega) hi (move_lent s h who num res to hg hw hto q hq hr ho hl0)⟩
        · have ho' : ((s.tables.getD who.toNat default).entries.getD q default).own = false := by simpa using ho
          exact .inl ⟨11, by omega, fun q => absurd q (by omega), move_specE s h who num res to 11 (by omega) hm (l19Move_own s h who num res to hg hw hto q hq hr ho'), move_implE s h who num res to 11 (by omega) hi (move_own s h who num res to hg hw hto q hq hr ho')⟩
      · rw [typ_none hA] at hE
        cases hE
  · exact .inl ⟨1, by omega, fun q => absurd q (by omega), move_spec1 s h who num res to hm, move_impl1 s h who num res to fun q => hm (moveS_iff.2 q)⟩
theorem ent_some (s : Shelf) (h : s.ok) (hg : s.sGood) {who num : Int} {e : Entry} (hE : s.at_ who num = some e) : Ret env.P 16 [.agg s.cs, .i .i64 who, .i .i64 num] (fun r => r = .tup [.agg e.cs, .b true]) :=
  (entryAt_spec s h who num).mono fun r hr => by rw [bif_t hg, hE] at hr; exact hr
theorem ent_none (s : Shelf) (h : s.ok) (hg : s.sGood) {who num : Int} (hE : s.at_ who num = none) : Ret env.P 16 [.agg s.cs, .i .i64 who, .i .i64 num] (fun r => r = .tup [.agg (Entry.cs ⟨0, 0, false, 0, 0, 0, 0⟩), .b false]) :=
  (entryAt_spec s h who num).mono fun r hr => by rw [bif_t hg, hE] at hr; exact hr
theorem rep_is (s : Shelf) (h : s.ok) (hg : s.sGood) {who num res v : Int} (hw : 0 ≤ who ∧ who < (s.tables.length : Int)) (hn : 1 ≤ num ∧ num ≤ 1000000) (hr : 1 ≤ res ∧ res ≤ 8) (hv : s.repV who num res = (v, 0)) : Ret env.P 17 [.agg s.cs, .i .i64 who, .i .i64 num, .i .i64 res] (fun r => r = .tup [.i .i64 v, .i .i64 0]) :=
  (repAt_impl s h who num res).mono fun r hq => by rw [bif_t ⟨⟨(good_iff _).2 hg, hw, hn⟩, hr⟩, hv] at hq; exact hq
theorem sam0 : Ret env.P 8 [.agg (Shelf.cs ⟨0, [], []⟩), .agg (Shelf.cs ⟨0, [], []⟩)] (fun r => r = .b true) := (sameShelf_spec ⟨0, [], []⟩ ⟨0, [], []⟩ ⟨⟨Nat.zero_le _, fun k hk => absurd hk (Nat.not_lt_zero _)⟩, Nat.zero_le _, fun k hk => absurd hk (Nat.not_lt_zero _)⟩).mono fun r h => by rw [h, decide_eq_true rfl]
theorem sam1 (s : Shelf) (h : s.ok) : Ret env.P 8 [.agg s.cs, .agg s.cs] (fun r => r = .b true) := (sameShelf_spec s s h).mono fun r h => by rw [h, decide_eq_true rfl]
set_option maxRecDepth 8000 in
set_option maxHeartbeats 8000000 in
theorem handlesMovedLaw (D : Draws) (l : List UInt8) : Ret env.P 4 [slL 1 byteC l] (fun r => r = .b true) := by
  by_cases hl : 1048576 < (l.length : Int)
  · refine ret_of (nt := 158) (rvs := [.tmp 2]) Try.func4 rfl rfl rfl rfl (fun X => ?_)
    repeat' (first | exact aa | ((conv => whnf) <;> (first | refine And.intro ?_ ?_ | (intro _h; first | contradiction | (try simp only [dd] at _h)) | (refine dt_go ?_) | exact rfl | exact True.intro | exact dkk | exact dks | ((first | refine .inl ⟨_, c2Big_ok l, ?_⟩ | refine ⟨_, c2Big_ok l, ?_⟩); (try rintro _ rfl)) | (refine wrap_succ ?_; omega))))
    all_goals (first | contradiction | skip)
  · refine ret_of (nt := 158) (rvs := [.tmp 2]) Try.func4 rfl rfl rfl rfl (fun X => ?_)
    repeat' (first | exact aa | ((conv => whnf) <;> (first | refine And.intro ?_ ?_ | (intro _h; first | contradiction | (try simp only [dd] at _h)) | (refine dt_go ?_) | exact rfl | exact True.intro | exact dkk | exact dks | ((first | refine .inl ⟨_, c2Big_ok l, ?_⟩ | refine ⟨_, c2Big_ok l, ?_⟩); (try rintro _ rfl)) | (refine .inr (.inl (.inl ⟨[], _, _, _, drawMoveHandle_ok D l (by omega), viewA, ⟨rfl, rfl⟩, ?_⟩)); rintro _ _ ⟨_, _, _, _, _, _, rfl, rfl⟩; refine ⟨rfl, _, lokA, ?_⟩) | (refine wrap_succ ?_; omega))))
    all_goals (first | contradiction | skip)
    rename_i x who num res to hx
    have ho := hx.ok
    rcases move_all x ho who num res to with ⟨c, hc, h12, hS, hI⟩ | ⟨s', n, e, ⟨g1, g2, g3⟩, hth, hE, hN, hE2, hv, hv2, hw, hto, hn, hn2, hr, hS, hI⟩
    · have hs := entryAt_spec x ho who num
      by_cases q12 : c = 12
      · obtain ⟨hsg, e, hE, hle⟩ := h12 q12
        repeat' (first | exact aa | ((conv => whnf) <;> (first | (exfalso; exact ‹¬True› trivial) | refine And.intro ?_ ?_ | (intro _h; first | contradiction | (try simp only [dd] at _h)) | (refine dt_go ?_) | exact rfl | exact True.intro | exact dkk | exact dks | (refine .inr (.inl (.inr (.inl ⟨_, RetM.wka (hI), ?_⟩))); rintro _ _ ⟨rfl, rfl⟩; refine ⟨⟨rfl, nssA⟩, _, lokA, ?_⟩) | (refine .inr (.inl (.inr (.inl ⟨_, RetM.wka (hS), ?_⟩))); rintro _ _ ⟨rfl, rfl⟩; refine ⟨⟨rfl, nssA⟩, _, lokA, ?_⟩) | ((first | refine .inl ⟨_, Ret.wka (sam0), ?_⟩ | refine ⟨_, Ret.wka (sam0), ?_⟩); (try rintro _ rfl)) | ((first | refine .inl ⟨_, Ret.wka (ent_some x ho hsg hE), ?_⟩ | refine ⟨_, Ret.wka (ent_some x ho hsg hE), ?_⟩); (try rintro _ rfl)) | (refine wrap_succ ?_; omega))))
        all_goals (conv => whnf)
        all_goals first | exact leaf_b (decide_eq_true hle) | exact leaf_b (pb_t.mpr hle) | trace_state
      · generalize (bif pb x.sGood then x.at_ who num else none) = o at hs
        cases o with
        | none =>
          repeat' (first | exact aa | ((conv => whnf) <;> (first | (exfalso; exact ‹¬True› trivial) | refine And.intro ?_ ?_ | (intro _h; first | contradiction | (try simp only [dd] at _h)) | (refine dt_go ?_) | exact rfl | exact True.intro | exact dkk | exact dks | (refine .inr (.inl (.inr (.inl ⟨_, RetM.wka (hI), ?_⟩))); rintro _ _ ⟨rfl, rfl⟩; refine ⟨⟨rfl, nssA⟩, _, lokA, ?_⟩) | (refine .inr (.inl (.inr (.inl ⟨_, RetM.wka (hS), ?_⟩))); rintro _ _ ⟨rfl, rfl⟩; refine ⟨⟨rfl, nssA⟩, _, lokA, ?_⟩) | ((first | refine .inl ⟨_, Ret.wka (sam0), ?_⟩ | refine ⟨_, Ret.wka (sam0), ?_⟩); (try rintro _ rfl)) | ((first | refine .inl ⟨_, Ret.wka (hs), ?_⟩ | refine ⟨_, Ret.wka (hs), ?_⟩); (try rintro _ rfl)) | (refine wrap_succ ?_; omega))))
          all_goals (conv => whnf)
          all_goals trace_state
        | some e =>
          repeat' (first | exact aa | ((conv => whnf) <;> (first | (exfalso; exact ‹¬True› trivial) | refine And.intro ?_ ?_ | (intro _h; first | contradiction | (try simp only [dd] at _h)) | (refine dt_go ?_) | exact rfl | exact True.intro | exact dkk | exact dks | (refine .inr (.inl (.inr (.inl ⟨_, RetM.wka (hI), ?_⟩))); rintro _ _ ⟨rfl, rfl⟩; refine ⟨⟨rfl, nssA⟩, _, lokA, ?_⟩) | (refine .inr (.inl (.inr (.inl ⟨_, RetM.wka (hS), ?_⟩))); rintro _ _ ⟨rfl, rfl⟩; refine ⟨⟨rfl, nssA⟩, _, lokA, ?_⟩) | ((first | refine .inl ⟨_, Ret.wka (sam0), ?_⟩ | refine ⟨_, Ret.wka (sam0), ?_⟩); (try rintro _ rfl)) | ((first | refine .inl ⟨_, Ret.wka (hs), ?_⟩ | refine ⟨_, Ret.wka (hs), ?_⟩); (try rintro _ rfl)) | (refine wrap_succ ?_; omega))))
          all_goals (conv => whnf)
          all_goals trace_state
    · have hlen : (s'.things.length : Int) = (x.things.length : Int) := by rw [hth]
      repeat' (first | exact aa | ((conv => whnf) <;> (first | (exfalso; exact ‹¬True› trivial) | refine And.intro ?_ ?_ | (intro _h; first | contradiction | (try simp only [dd] at _h)) | (refine dt_go ?_) | exact rfl | exact True.intro | exact dkk | exact dks | (refine .inr (.inl (.inr (.inl ⟨_, RetM.wka (hI), ?_⟩))); rintro _ _ ⟨rfl, rfl⟩; refine ⟨⟨rfl, nssA⟩, _, lokA, ?_⟩) | (refine .inr (.inl (.inr (.inl ⟨_, RetM.wka (hS), ?_⟩))); rintro _ _ ⟨rfl, rfl⟩; refine ⟨⟨rfl, nssA⟩, _, lokA, ?_⟩) | ((first | refine .inl ⟨_, Ret.wka (sam1 s' g1), ?_⟩ | refine ⟨_, Ret.wka (sam1 s' g1), ?_⟩); (try rintro _ rfl)) | ((first | refine .inl ⟨_, Ret.wka (ent_some x ho g3 hE), ?_⟩ | refine ⟨_, Ret.wka (ent_some x ho g3 hE), ?_⟩); (try rintro _ rfl)) | ((first | refine .inl ⟨_, Ret.wka (ent_none s' g1 g2 hN), ?_⟩ | refine ⟨_, Ret.wka (ent_none s' g1 g2 hN), ?_⟩); (try rintro _ rfl)) | ((first | refine .inl ⟨_, Ret.wka (ent_some s' g1 g2 hE2), ?_⟩ | refine ⟨_, Ret.wka (ent_some s' g1 g2 hE2), ?_⟩); (try rintro _ rfl)) | ((first | refine .inl ⟨_, Ret.wka (rep_is x ho g3 hw hn hr hv), ?_⟩ | refine ⟨_, Ret.wka (rep_is x ho g3 hw hn hr hv), ?_⟩); (try rintro _ rfl)) | ((first | refine .inl ⟨_, Ret.wka (rep_is s' g1 g2 hto hn2 hr hv2), ?_⟩ | refine ⟨_, Ret.wka (rep_is s' g1 g2 hto hn2 hr hv2), ?_⟩); (try rintro _ rfl)) | (refine wrap_succ ?_; omega))))
      all_goals (conv => whnf)
      all_goals first | exact leaf_b (decide_eq_true hlen) | exact leaf_b (pb_t.mpr hlen) | trace_state
theorem draws : Draws := ⟨fun s a h hg ha => do_ex s h hg a ha, fun n h1 h7 => new_good h1 h7⟩
namespace fnHandlesMoved
theorem law_ret (dss : List (List AV)) (h : TyCs Try.prog Try.f4.params.toList dss) : Ret Try.prog 4 (mkArgs Try.prog Try.f4.params.toList dss) fun r => r = .b true := by
  obtain ⟨d0, r0, rfl, h0, h⟩ := h.cons_inv
  obtain rfl := h.nil_inv
  obtain ⟨l, hl⟩ := arg_one (c := fun l => slL 1 byteC l) (rd_sl Try.underlying22 (by kernel_rfl) (rd_u8 Try.underlying5)) (by kernel_rfl) h0
  exact Ret.wk (.cons hl .nil) (handlesMovedLaw draws l)
end fnHandlesMoved
end Go.Proofs.Ytmglpojnoadgeaa
namespace Go.Proofs.Ytmglpojnoadgeaa.fnHandlesMoved
open Go.ChangeShapes Go.WideShapes Go.ChangeAt Go.RowKit
set_option linter.unusedVariables false
theorem own : ownKnob Try.prog.godebug = none := by kernel_rfl
set_option maxRecDepth 100000 in
theorem lifted (os : Os) (started : os.Started) (H : Type) (enc : TypeId × Go.Value → H) :
    ReturnsInHanded {} Try.checked os 4 .any (Rows.fnHandlesMovedSpec.pre6 enc Try.prog Try.f4 Rows.fnHandlesMovedRow.domain false) (Rows.fnHandlesMovedSpec.post enc Try.prog Try.f4 false true false false) := by
  refine returnsInHanded_of_change (C := Try.checked) own started (by kernel_rfl) Try.func4
    (ChangeSpec.witness6 (enc := enc) (C := Try.checked) false ⟨#[], #[.slice none 0 0], []⟩ 8 (by kernel_rfl) (by kernel_rfl) (by kernel_rfl) (by kernel_rfl)) ?_
  intro W base args ds gs before hval0 hW hcnd _
  refine law_end (k := closeT Try.prog 9 Try.f4.params.toList) rfl (by kernel_rfl) (by kernel_rfl) rfl Try.underlying4 ?_ (fun dss h => law_ret dss h) hval0 hW
  · rintro ds hl
    match ds, hl with
    | [_], _ => rfl
theorem over : Rows.fnHandlesMovedRow.holds Try.pinned (OpenSpec.ofChange Rows.fnHandlesMovedSpec) :=
  OpenClaim.holds_of_wide 4 Try.f4 rfl rfl rfl rfl rfl rfl rfl ⟨rfl, rfl, rfl, rfl, rfl⟩ rfl rfl rfl rfl rfl fact_named Try.func4 fact_joined fact_inst fact_wrap
    (fun os started H enc _ => lifted os started H enc)
theorem proved : Rows.FnHandlesMovedSaid :=
  over
end Go.Proofs.Ytmglpojnoadgeaa.fnHandlesMoved
