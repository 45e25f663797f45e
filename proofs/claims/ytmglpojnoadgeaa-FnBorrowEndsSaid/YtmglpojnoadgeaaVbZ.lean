/-
  The law FnBorrowEnds returns true at every argument.
-/
import Derived.Test.YtmglpojnoadgeaaVb43
import Derived.Test.YtmglpojnoadgeaaVBorrowEndsF
import Derived.Test.YtmglpojnoadgeaaVBorrowEndsG
namespace Go.Proofs.Ytmglpojnoadgeaa
open Go Go.RowKit
set_option linter.unusedVariables false
set_option linter.unusedSimpArgs false
theorem own_is (s : Shelf) (h : s.ok) (hg : s.good) (id : Int) (p : Int × Int × Bool) (hp : s.ownV id = p) (h1 : p.2.2 = true) : Ret env.P 10 [.agg s.cs, .i .i64 id] (fun r => r = .tup [.i .i64 p.1, .i .i64 p.2.1, .b true]) :=
  (ownerOf_spec s h id).mono fun r hr => by
    rw [bif_t ((good_iff _).1 hg), hp] at hr
    rw [hr]
    unfold ownR
    rw [h1]
theorem own_x (s : Shelf) (h : s.ok) (hg : s.good) (sc : Int) {k : Nat} (hk : k < s.things.length) : Ret env.P 10 [.agg s.cs, .i .i64 (s.things.getD k default).id] (fun r => r = .tup [.i .i64 (s.ownV (s.things.getD k default).id).1, .i .i64 (s.ownV (s.things.getD k default).id).2.1, .b true]) :=
  own_is s h hg _ _ rfl (ended_own hg sc (getD_mem hk)).2
theorem own_e (s : Shelf) (sc : Int) (h : (s.ended sc).ok) (hg : s.good) {k : Nat} (hk : k < s.things.length) : Ret env.P 10 [.agg (s.ended sc).cs, .i .i64 (s.things.getD k default).id] (fun r => r = .tup [.i .i64 (s.ownV (s.things.getD k default).id).1, .i .i64 (s.ownV (s.things.getD k default).id).2.1, .b true]) :=
  own_is _ h (ended_good hg sc) _ _ (ended_own hg sc (getD_mem hk)).1 (ended_own hg sc (getD_mem hk)).2
theorem bo_is (s : Shelf) (sc : Int) (h : (s.ended sc).ok) (hg : s.good) : Ret env.P 11 [.agg (s.ended sc).cs, .i .i64 sc] (fun r => r = .i .i64 0) :=
  (borrowsIn_impl _ h sc).mono fun r hr => by rw [bif_t (ended_good hg sc), ended_bo] at hr; exact hr
theorem ok_is (s : Shelf) (sc : Int) (h : (s.ended sc).ok) (hg : s.good) : Ret env.P 12 [.agg (s.ended sc).cs] (fun r => r = .b true) :=
  (shelfOk_spec _ h).mono fun r hr => by rw [hr, pb_t.mpr ((good_iff _).1 (ended_good hg sc))]
theorem sam0 : Ret env.P 8 [.agg (Shelf.cs ⟨0, [], []⟩), .agg (Shelf.cs ⟨0, [], []⟩)] (fun r => r = .b true) := (sameShelf_spec ⟨0, [], []⟩ ⟨0, [], []⟩ ⟨⟨Nat.zero_le _, fun k hk => absurd hk (Nat.not_lt_zero _)⟩, Nat.zero_le _, fun k hk => absurd hk (Nat.not_lt_zero _)⟩).mono fun r h => by rw [h, decide_eq_true rfl]
theorem sam1 (s : Shelf) (h : s.ok) : Ret env.P 8 [.agg s.cs, .agg s.cs] (fun r => r = .b true) := (sameShelf_spec s s h).mono fun r h => by rw [h, decide_eq_true rfl]
set_option maxRecDepth 8000 in
set_option maxHeartbeats 8000000 in
theorem borrowEndsLaw (D : Draws) (l : List UInt8) : Ret env.P 3 [slL 1 byteC l] (fun r => r = .b true) := by
  by_cases hl : 1048576 < (l.length : Int)
  · refine ret_of (nt := 88) (rvs := [.tmp 2]) Try.func3 rfl rfl rfl rfl (fun X => ?_)
    repeat' (first | exact aa | ((conv => whnf) <;> (first | refine And.intro ?_ ?_ | (intro _h; first | contradiction | (try simp only [dd] at _h)) | (refine dt_go ?_) | exact rfl | exact True.intro | exact dkk | exact dks | ((first | refine .inl ⟨_, c2Big_ok l, ?_⟩ | refine ⟨_, c2Big_ok l, ?_⟩); (try rintro _ rfl)) | (refine wrap_succ ?_; omega))))
    all_goals (first | contradiction | skip)
  · refine ret_of (nt := 88) (rvs := [.tmp 2]) Try.func3 rfl rfl rfl rfl (fun X => ?_)
    repeat' (first | exact aa | ((conv => whnf) <;> (first | refine And.intro ?_ ?_ | (intro _h; first | contradiction | (try simp only [dd] at _h)) | (refine dt_go ?_) | exact rfl | exact True.intro | exact dkk | exact dks | ((first | refine .inl ⟨_, c2Big_ok l, ?_⟩ | refine ⟨_, c2Big_ok l, ?_⟩); (try rintro _ rfl)) | (refine .inr (.inl (.inl ⟨[], _, _, _, drawEndScope_ok D l (by omega), viewA, ⟨rfl, rfl⟩, ?_⟩)); rintro _ _ ⟨_, _, _, rfl, rfl⟩; refine ⟨rfl, _, lokA, ?_⟩) | (refine wrap_succ ?_; omega))))
    all_goals (first | contradiction | skip)
    rename_i x sc hx
    have ho := hx.ok
    have hl2 : x.things.length ≤ 25 := hx.n25
    by_cases hm : x.endS sc
    · have hi := endS_iff.1 hm
      have hg := hi.1
      have h' : (x.ended sc).ok := lendU_ok (keep_ok ho)
      have hS := end_specF x (x.ended sc) ho sc hm (by have := l19End_ok x ho hg sc _ (l19Loose_ok x ho hg.tidy (scK sc)); rw [until_zero] at this; exact this)
      have hI := end_implF x (x.ended sc) ho sc hi (endScope_ok x ho hg sc)
      repeat' (first | exact aa | ((conv => whnf) <;> (first | (exfalso; exact ‹¬True› trivial) | exact low_cells rfl | exact keeps0_nil _ _ | (refine dt_goC (id := 5) [] ?_) | refine loopN x.things.length (fun k => [(6, .i .i64 k)]) (fun k => []) (fun _ => True) ⟨trivial, ?_⟩ | refine And.intro ?_ ?_ | (intro _h; first | contradiction | (try simp only [dd] at _h)) | (refine dt_go ?_) | exact rfl | exact True.intro | exact dkk | exact dks | (refine .inr (.inl (.inr (.inl ⟨_, RetM.wka (hI), ?_⟩))); rintro _ _ ⟨rfl, rfl⟩; refine ⟨⟨rfl, nssA⟩, _, lokA, ?_⟩) | (refine .inr (.inl (.inr (.inl ⟨_, RetM.wka (hS), ?_⟩))); rintro _ _ ⟨rfl, rfl⟩; refine ⟨⟨rfl, nssA⟩, _, lokA, ?_⟩) | ((first | refine .inl ⟨_, Ret.wka (sam1 (x.ended sc) h'), ?_⟩ | refine ⟨_, Ret.wka (sam1 (x.ended sc) h'), ?_⟩); (try rintro _ rfl)) | ((first | refine .inl ⟨_, Ret.wka (own_x x ho hg sc (Int.ofNat_lt.1 _h)), ?_⟩ | refine ⟨_, Ret.wka (own_x x ho hg sc (Int.ofNat_lt.1 _h)), ?_⟩); (try rintro _ rfl)) | ((first | refine .inl ⟨_, Ret.wka (own_e x sc h' hg (Int.ofNat_lt.1 _h)), ?_⟩ | refine ⟨_, Ret.wka (own_e x sc h' hg (Int.ofNat_lt.1 _h)), ?_⟩); (try rintro _ rfl)) | ((first | refine .inl ⟨_, Ret.wka (bo_is x sc h' hg), ?_⟩ | refine ⟨_, Ret.wka (bo_is x sc h' hg), ?_⟩); (try rintro _ rfl)) | ((first | refine .inl ⟨_, Ret.wka (ok_is x sc h' hg), ?_⟩ | refine ⟨_, Ret.wka (ok_is x sc h' hg), ?_⟩); (try rintro _ rfl)) | (refine wrap_succ ?_; omega))))
      all_goals trace_state
    · have hS := end_spec1 x ho sc hm
      have hI := end_impl1 x ho sc fun q => hm (endS_iff.2 q)
      repeat' (first | exact aa | ((conv => whnf) <;> (first | (exfalso; exact ‹¬True› trivial) | exact low_cells rfl | exact keeps0_nil _ _ | (refine dt_goC (id := 5) [] ?_) | refine And.intro ?_ ?_ | (intro _h; first | contradiction | (try simp only [dd] at _h)) | (refine dt_go ?_) | exact rfl | exact True.intro | exact dkk | exact dks | (refine .inr (.inl (.inr (.inl ⟨_, RetM.wka (hI), ?_⟩))); rintro _ _ ⟨rfl, rfl⟩; refine ⟨⟨rfl, nssA⟩, _, lokA, ?_⟩) | (refine .inr (.inl (.inr (.inl ⟨_, RetM.wka (hS), ?_⟩))); rintro _ _ ⟨rfl, rfl⟩; refine ⟨⟨rfl, nssA⟩, _, lokA, ?_⟩) | ((first | refine .inl ⟨_, Ret.wka (sam0), ?_⟩ | refine ⟨_, Ret.wka (sam0), ?_⟩); (try rintro _ rfl)) | (refine wrap_succ ?_; omega))))
      all_goals trace_state
theorem draws : Draws := ⟨fun s a h hg ha => do_ex s h hg a ha, fun n h1 h7 => new_good h1 h7⟩
namespace fnBorrowEnds
theorem law_ret (dss : List (List AV)) (h : TyCs Try.prog Try.f3.params.toList dss) : Ret Try.prog 3 (mkArgs Try.prog Try.f3.params.toList dss) fun r => r = .b true := by
  obtain ⟨d0, r0, rfl, h0, h⟩ := h.cons_inv
  obtain rfl := h.nil_inv
  obtain ⟨l, hl⟩ := arg_one (c := fun l => slL 1 byteC l) (rd_sl Try.underlying22 (by kernel_rfl) (rd_u8 Try.underlying5)) (by kernel_rfl) h0
  exact Ret.wk (.cons hl .nil) (borrowEndsLaw draws l)
end fnBorrowEnds
end Go.Proofs.Ytmglpojnoadgeaa
namespace Go.Proofs.Ytmglpojnoadgeaa.fnBorrowEnds
open Go.ChangeShapes Go.WideShapes Go.ChangeAt Go.RowKit
set_option linter.unusedVariables false
theorem own : ownKnob Try.prog.godebug = none := by kernel_rfl
set_option maxRecDepth 100000 in
theorem lifted (os : Os) (started : os.Started) (H : Type) (enc : TypeId × Go.Value → H) :
    ReturnsInHanded {} Try.checked os 3 .any (Rows.fnBorrowEndsSpec.pre6 enc Try.prog Try.f3 Rows.fnBorrowEndsRow.domain false) (Rows.fnBorrowEndsSpec.post enc Try.prog Try.f3 false true false false) := by
  refine returnsInHanded_of_change (C := Try.checked) own started (by kernel_rfl) Try.func3
    (ChangeSpec.witness6 (enc := enc) (C := Try.checked) false ⟨#[], #[.slice none 0 0], []⟩ 8 (by kernel_rfl) (by kernel_rfl) (by kernel_rfl) (by kernel_rfl)) ?_
  intro W base args ds gs before hval0 hW hcnd _
  refine law_end (k := closeT Try.prog 9 Try.f3.params.toList) rfl (by kernel_rfl) (by kernel_rfl) rfl Try.underlying4 ?_ (fun dss h => law_ret dss h) hval0 hW
  · rintro ds hl
    match ds, hl with
    | [_], _ => rfl
theorem over : Rows.fnBorrowEndsRow.holds Try.pinned (OpenSpec.ofChange Rows.fnBorrowEndsSpec) :=
  OpenClaim.holds_of_wide 3 Try.f3 rfl rfl rfl rfl rfl rfl rfl ⟨rfl, rfl, rfl, rfl, rfl⟩ rfl rfl rfl rfl rfl fact_named Try.func3 fact_joined fact_inst fact_wrap
    (fun os started H enc _ => lifted os started H enc)
theorem proved : Rows.FnBorrowEndsSaid :=
  over
end Go.Proofs.Ytmglpojnoadgeaa.fnBorrowEnds
