/-
  The law FnHandlesOne returns true at every argument: after every sequence of acts that is drawn each thing has one owner, and the shelf is valid.
-/
import Derived.Test.YtmglpojnoadgeaaGreatVo27
import Derived.Test.YtmglpojnoadgeaaGreatVo44
import Derived.Test.YtmglpojnoadgeaaGreatVo45
import Derived.Test.YtmglpojnoadgeaaGreatVHandlesOneF
import Derived.Test.YtmglpojnoadgeaaGreatVHandlesOneG
namespace Go.Proofs.YtmglpojnoadgeaaGreat
open Go Go.RowKit
set_option linter.unusedVariables false
set_option linter.unusedSimpArgs false
noncomputable def Shelf.ownE (s : Shelf) (id : Int) : Entry := (s.at_ (s.ownV id).1 (s.ownV id).2.1).getD default
theorem ones_own (s : Shelf) (h : s.ok) (hg : s.good) {k : Nat} (hk : k < s.things.length) : Ret env.P 10 [.agg s.cs, .i .i64 (s.things.getD k default).id] (fun r => r = .tup [.i .i64 (s.ownV (s.things.getD k default).id).1, .i .i64 (s.ownV (s.things.getD k default).id).2.1, .b true]) :=
 (ownerOf_impl s h _).mono fun r hr => by
  rw [bif_t hg] at hr
  rw [hr]
  unfold ownR
  rw [(own_at hg (getD_mem hk)).1]
theorem ones_ent (s : Shelf) (h : s.ok) (hg : s.good) {k : Nat} (hk : k < s.things.length) : Ret env.P 11 [.agg s.cs, .i .i64 (s.ownV (s.things.getD k default).id).1, .i .i64 (s.ownV (s.things.getD k default).id).2.1]
  (fun r => r = .tup [.agg [.i .i64 (s.ownE (s.things.getD k default).id).num, .i .i64 (s.things.getD k default).id, .b true, .i .i64 (s.ownE (s.things.getD k default).id).lends, .i .i64 (s.ownE (s.things.getD k default).id).scope, .i .i64 (s.ownE (s.things.getD k default).id).from_, .i .i64 (s.ownE (s.things.getD k default).id).fromNum], .b true]) :=
 (entryAt_impl s h _ _).mono fun r hr => by
  obtain ⟨e, he, h1, h2⟩ := (own_at hg (getD_mem hk)).2
  unfold Shelf.entQ at hr
  rw [bif_t hg, he] at hr
  have e2 : s.ownE (s.things.getD k default).id = e := by unfold Shelf.ownE; rw [he]; rfl
  rw [e2, hr]
  show AV.tup [.agg e.cs, .b true] = _
  unfold Entry.cs
  rw [h1, h2]
theorem ones_ok (s : Shelf) (h : s.ok) (hg : s.good) : Ret env.P 12 [.agg s.cs] (fun r => r = .b true) := (shelfOk_ok s h).mono fun r hr => by rw [hr, pb_t.mpr hg]
theorem onesS (s : Shelf) (h : s.ok) (hg : s.good) : Ret env.P 13 [.agg s.cs] (fun r => r = .b true) := (shelfOk_spec s h).mono fun r hr => by rw [hr, pb_t.mpr ((good_iff _).1 hg)]
theorem sam0 : Ret env.P 9 [.agg (Shelf.cs ⟨0, [], []⟩), .agg (Shelf.cs ⟨0, [], []⟩)] (fun r => r = .b true) := (sameShelf_spec ⟨0, [], []⟩ ⟨0, [], []⟩ ⟨⟨Nat.zero_le _, fun k hk => absurd hk (Nat.not_lt_zero _)⟩, Nat.zero_le _, fun k hk => absurd hk (Nat.not_lt_zero _)⟩).mono fun r h => by rw [h, decide_eq_true rfl]
theorem sam1 (s : Shelf) (h : s.ok) : Ret env.P 9 [.agg s.cs, .agg s.cs] (fun r => r = .b true) := (sameShelf_spec s s h).mono fun r h => by rw [h, decide_eq_true rfl]
set_option maxRecDepth 8000 in
set_option maxHeartbeats 8000000 in
theorem handlesOneLaw (D : Draws) (l : List UInt8) : Ret env.P 3 [slL 1 byteC l] (fun r => r = .b true) := by
 by_cases hl : 1048576 < (l.length : Int)
 ·refine ret_of (nt := 108) (rvs := [.tmp 2]) Tryz.func3 rfl rfl rfl rfl (fun X => ?_)
  repeat' (first | exact aa | ((conv => whnf) <;> (first | refine And.intro ?_ ?_ | (intro _h; first | contradiction | (try simp only [dd] at _h)) | (refine dt_go ?_) | exact rfl | exact True.intro | exact dkk | exact dks | ((first | refine .inl ⟨_, c2Big_ok l, ?_⟩ | refine ⟨_, c2Big_ok l, ?_⟩); (try rintro _ rfl)) | (refine wrap_succ ?_; omega))))
  all_goals (first | contradiction | skip)
 ·refine ret_of (nt := 108) (rvs := [.tmp 2]) Tryz.func3 rfl rfl rfl rfl (fun X => ?_)
  repeat' (first | exact aa | ((conv => whnf) <;> (first | refine And.intro ?_ ?_ | (intro _h; first | contradiction | (try simp only [dd] at _h)) | (refine dt_go ?_) | exact rfl | exact True.intro | exact dkk | exact dks | ((first | refine .inl ⟨_, c2Big_ok l, ?_⟩ | refine ⟨_, c2Big_ok l, ?_⟩); (try rintro _ rfl)) | (refine .inr (.inl (.inl ⟨[], _, _, _, drawPlayShelf_ok D l (by omega), viewA, ⟨rfl, rfl⟩, ?_⟩)); rintro _ _ ⟨_, _, _, rfl, rfl⟩; refine ⟨rfl, _, lokA, ?_⟩) | (refine wrap_succ ?_; omega))))
  all_goals (first | contradiction | skip)
  rename_i x q hx
  obtain ⟨hs, hq⟩ := hx
  have ho := hs.ok
  by_cases hm : x.playS q
  ·have hi := playS_iff.1 hm
   obtain ⟨F, hF⟩ := step_is
   have hS := play_specF hF x q ho hm
   have hI := play_implF hF x q ho hi
   obtain ⟨h', hg, _⟩ := play_ok hF ho hi.1 hi.2.2 (Nat.le_refl q.length)
   generalize ((playK F x q q.length).2 : Int) = n at hS hI
   generalize (playK F x q q.length).1 = y at hS hI h' hg
   have hl2 : y.things.length ≤ 25 := (soft_good hg).n25
   repeat' (first | exact aa | ((conv => whnf) <;> (first | (exfalso; exact ‹¬True› trivial) | (exfalso; exact _h rfl) | exact low_cells rfl | exact keeps0_nil _ _ | refine loopN y.things.length (fun k => [(11, .i .i64 k)]) (fun k => []) (fun _ => True) ⟨trivial, ?_⟩ | refine And.intro ?_ ?_ | (intro _h; first | contradiction | (try simp only [dd] at _h)) | (refine dt_go ?_) | exact rfl | exact True.intro | exact dkk | exact dks | (refine .inr (.inl (.inr (.inl ⟨_, RetM.wka (hI), ?_⟩))); rintro _ _ ⟨rfl, rfl⟩; refine ⟨⟨rfl, nssA⟩, _, lokA, ?_⟩) | (refine .inr (.inl (.inr (.inl ⟨_, RetM.wka (hS), ?_⟩))); rintro _ _ ⟨rfl, rfl⟩; refine ⟨⟨rfl, nssA⟩, _, lokA, ?_⟩) | ((first | refine .inl ⟨_, Ret.wka (sam1 y h'), ?_⟩ | refine ⟨_, Ret.wka (sam1 y h'), ?_⟩); (try rintro _ rfl)) | ((first | refine .inl ⟨_, Ret.wka (ones_own y h' hg (Int.ofNat_lt.1 _h)), ?_⟩ | refine ⟨_, Ret.wka (ones_own y h' hg (Int.ofNat_lt.1 _h)), ?_⟩); (try rintro _ rfl)) | ((first | refine .inl ⟨_, Ret.wka (ones_ent y h' hg (Int.ofNat_lt.1 _h)), ?_⟩ | refine ⟨_, Ret.wka (ones_ent y h' hg (Int.ofNat_lt.1 _h)), ?_⟩); (try rintro _ rfl)) | ((first | refine .inl ⟨_, Ret.wka (ones_ok y h' hg), ?_⟩ | refine ⟨_, Ret.wka (ones_ok y h' hg), ?_⟩); (try rintro _ rfl)) | ((first | refine .inl ⟨_, Ret.wka (onesS y h' hg), ?_⟩ | refine ⟨_, Ret.wka (onesS y h' hg), ?_⟩); (try rintro _ rfl)) | (refine wrap_succ ?_; omega))))
  ·have hS := play_spec1 x q ho (by omega) hm
   have hI := play_impl1 x q ho (by omega) fun p => hm (playS_iff.2 p)
   repeat' (first | exact aa | ((conv => whnf) <;> (first | (exfalso; exact ‹¬True› trivial) | refine And.intro ?_ ?_ | (intro _h; first | contradiction | (try simp only [dd] at _h)) | (refine dt_go ?_) | exact rfl | exact True.intro | exact dkk | exact dks | (refine .inr (.inl (.inr (.inl ⟨_, RetM.wka (hI), ?_⟩))); rintro _ _ ⟨rfl, rfl⟩; refine ⟨⟨rfl, nssA⟩, _, lokA, ?_⟩) | (refine .inr (.inl (.inr (.inl ⟨_, RetM.wka (hS), ?_⟩))); rintro _ _ ⟨rfl, rfl⟩; refine ⟨⟨rfl, nssA⟩, _, lokA, ?_⟩) | ((first | refine .inl ⟨_, Ret.wka (sam0), ?_⟩ | refine ⟨_, Ret.wka (sam0), ?_⟩); (try rintro _ rfl)) | (refine wrap_succ ?_; omega))))
theorem draws : Draws := ⟨fun s a h hg ha => by
 obtain ⟨s', c, c', h1, h2, h3, h4, h5⟩ := act_both h hg a ha
 exact h4.mono fun r H ⟨q1, q2⟩ => ⟨s', c, ⟨h1, h2⟩, q1, q2⟩, fun n h1 h7 => new_good h1 h7⟩
namespace fnHandlesOne
theorem law_ret (dss : List (List AV)) (h : TyCs Tryz.prog Tryz.f3.params.toList dss) : Ret Tryz.prog 3 (mkArgs Tryz.prog Tryz.f3.params.toList dss) fun r => r = .b true := by
 obtain ⟨d0, r0, rfl, h0, h⟩ := h.cons_inv
 obtain rfl := h.nil_inv
 obtain ⟨l, hl⟩ := arg_one (c := fun l => slL 1 byteC l) (rd_sl Tryz.underlying22 (by kernel_rfl) (rd_u8 Tryz.underlying5)) (by kernel_rfl) h0
 exact Ret.wk (.cons hl .nil) (handlesOneLaw draws l)
end fnHandlesOne
end Go.Proofs.YtmglpojnoadgeaaGreat
namespace Go.Proofs.YtmglpojnoadgeaaGreat.fnHandlesOne
open Go.ChangeShapes Go.WideShapes Go.ChangeAt Go.RowKit
set_option linter.unusedVariables false
theorem own : ownKnob Tryz.prog.godebug = none := by kernel_rfl
set_option maxRecDepth 100000 in
theorem lifted (os : Os) (started : os.Started) (H : Type) (enc : TypeId × Go.Value → H) :
  ReturnsInHanded {} Tryz.checked os 3 .any (Rows.fnHandlesOneSpec.pre6 enc Tryz.prog Tryz.f3 Rows.fnHandlesOneRow.domain false) (Rows.fnHandlesOneSpec.post enc Tryz.prog Tryz.f3 false true false false) := by
 refine returnsInHanded_of_change (C := Tryz.checked) own started (by kernel_rfl) Tryz.func3
  (ChangeSpec.witness6 (enc := enc) (C := Tryz.checked) false ⟨#[], #[.slice none 0 0], []⟩ 8 (by kernel_rfl) (by kernel_rfl) (by kernel_rfl) (by kernel_rfl)) ?_
 intro W base args ds gs before hval0 hW hcnd _
 refine law_end (k := closeT Tryz.prog 9 Tryz.f3.params.toList) rfl (by kernel_rfl) (by kernel_rfl) rfl Tryz.underlying4 ?_ (fun dss h => law_ret dss h) hval0 hW
 ·rintro ds hl
  match ds, hl with
  | [_], _ => rfl
theorem over : Rows.fnHandlesOneRow.holds Tryz.pinned (OpenSpec.ofChange Rows.fnHandlesOneSpec) :=
 OpenClaim.holds_of_wide 3 Tryz.f3 rfl rfl rfl rfl rfl rfl rfl ⟨rfl, rfl, rfl, rfl, rfl⟩ rfl rfl rfl rfl rfl fact_named Tryz.func3 fact_joined fact_inst fact_wrap
  (fun os started H enc _ => lifted os started H enc)
theorem proved : Rows.FnHandlesOneSaid :=
 over
end Go.Proofs.YtmglpojnoadgeaaGreat.fnHandlesOne
