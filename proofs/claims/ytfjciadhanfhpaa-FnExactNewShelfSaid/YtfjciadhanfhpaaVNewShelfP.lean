/-
  The law FnExactNewShelf returns true at every argument.
-/
import Derived.Test.YtfjciadhanfhpaaVNewShelfQ
import Derived.Test.YtfjciadhanfhpaaVNewShelfF
import Derived.Test.YtfjciadhanfhpaaVNewShelfG
namespace Go.Proofs.Ytfjciadhanfhpaa
open Go Go.RowKit
set_option linter.unusedVariables false
set_option linter.unusedSimpArgs false

set_option maxRecDepth 8000 in
theorem newShelfLaw (n : Int) : Ret env.P 3 [.i .i64 n] (fun r => r = .b true) := by
  by_cases h : 1 ≤ n ∧ n ≤ 7
  · obtain ⟨m, rfl⟩ : ∃ m : Nat, n = m := ⟨n.toNat, by omega⟩
    have hT : Shelf.ok ⟨1, newT m, []⟩ := ⟨newT_ok (by omega), Nat.zero_le _, fun k hk => absurd hk (Nat.not_lt_zero _)⟩
    have hT2 : Shelf.ok ⟨1, (markL Table.mkE (newT m) 1).1, []⟩ := ⟨newT_mok (by omega), Nat.zero_le _, fun k hk => absurd hk (Nat.not_lt_zero _)⟩
    have hM := newT_mark m 1
    have hH : Ret env.P 10 [.agg (Shelf.cs ⟨1, (markL Table.mkE (newT m) 1).1, []⟩), .i .i64 1] (fun r => r = .i .i64 (markL Table.mkE (newT m) 1).2) := by
      have := heldShelf_ok ⟨1, (markL Table.mkE (newT m) 1).1, []⟩ 1 (by omega) (by simp only [Shelf.mk_, markL_idem Table.mkE_idem, markL]; omega) hT2
      rwa [held_newS] at this
    refine ret_of (nt := 63) (rvs := [.tmp 2]) Try.func3 rfl rfl rfl rfl (fun X => ?_)
    repeat' (first | exact aa | ((conv => whnf) <;> (first | ((first | refine .inl ⟨_, Ret.wk (by repeat (first | exact WkL.nil | refine WkL.cons ?_ ?_ | exact Wk.refl _ | exact Wk.nilS0 | exact shr_L (d := 1) (k := 3) (newT_len m).symm | exact shr_L (d := 1) (k := 3) (by rw [markL_len, newT_len]) | refine Wk.agg ?_)) (eqShelf_ok ⟨1, newT m, []⟩ ⟨1, newT m, []⟩ hT), ?_⟩ | refine ⟨_, Ret.wk (by repeat (first | exact WkL.nil | refine WkL.cons ?_ ?_ | exact Wk.refl _ | exact Wk.nilS0 | exact shr_L (d := 1) (k := 3) (newT_len m).symm | exact shr_L (d := 1) (k := 3) (by rw [markL_len, newT_len]) | refine Wk.agg ?_)) (eqShelf_ok ⟨1, newT m, []⟩ ⟨1, newT m, []⟩ hT), ?_⟩); (try rintro _ rfl)) | ((first | refine .inl ⟨_, Ret.wk (by repeat (first | exact WkL.nil | refine WkL.cons ?_ ?_ | exact Wk.refl _ | exact Wk.nilS0 | exact shr_L (d := 1) (k := 3) (newT_len m).symm | exact shr_L (d := 1) (k := 3) (by rw [markL_len, newT_len]) | refine Wk.agg ?_)) (hH), ?_⟩ | refine ⟨_, Ret.wk (by repeat (first | exact WkL.nil | refine WkL.cons ?_ ?_ | exact Wk.refl _ | exact Wk.nilS0 | exact shr_L (d := 1) (k := 3) (newT_len m).symm | exact shr_L (d := 1) (k := 3) (by rw [markL_len, newT_len]) | refine Wk.agg ?_)) (hH), ?_⟩); (try rintro _ rfl)) | refine And.intro ?_ ?_ | (intro _h; first | contradiction | (try simp only [dd] at _h)) | (refine dt_go ?_) | exact rfl | exact True.intro | exact dkk | exact dks | (refine .inr (.inl (.inl ⟨[], _, _, _, newShelf_spec1 m (by omega), viewA, ⟨rfl, rfl⟩, ?_⟩)); rintro _ _ ⟨rfl, rfl⟩; refine ⟨rfl, _, lokA, ?_⟩) | (refine .inr (.inl (.inl ⟨[], _, _, _, newShelf_impl1 m (by omega), viewA, ⟨rfl, rfl⟩, ?_⟩)); rintro _ _ ⟨rfl, rfl⟩; refine ⟨rfl, _, lokA, ?_⟩) | (refine .inr (.inl (.inl ⟨[2], _, _, _, markShelf_new m (by omega), viewA, ⟨rfl, rfl⟩, ?_⟩)); rintro _ _ ⟨rfl, rfl⟩; refine ⟨rfl, _, lokA, ?_⟩) | (refine .inr (.inl (.inl ⟨[3], _, _, _, markShelf_new m (by omega), viewA, ⟨rfl, rfl⟩, ?_⟩)); rintro _ _ ⟨rfl, rfl⟩; refine ⟨rfl, _, lokA, ?_⟩) | (refine .inr (.inl (.inl ⟨[4], _, _, _, markShelf_new m (by omega), viewA, ⟨rfl, rfl⟩, ?_⟩)); rintro _ _ ⟨rfl, rfl⟩; refine ⟨rfl, _, lokA, ?_⟩) | (refine wrap_succ ?_; omega))))
    all_goals exact absurd trivial _h
  · refine ret_of (nt := 63) (rvs := [.tmp 2]) Try.func3 rfl rfl rfl rfl (fun X => ?_)
    repeat' (first | exact aa | ((conv => whnf) <;> (first | refine And.intro ?_ ?_ | (intro _h; first | contradiction | (try simp only [dd] at _h)) | (refine dt_go ?_) | exact rfl | exact True.intro | exact dkk | exact dks | (refine .inr (.inl (.inl ⟨[], _, _, _, newShelf_spec0 n h, viewA, ⟨rfl, rfl⟩, ?_⟩)); rintro _ _ ⟨rfl, rfl⟩; refine ⟨rfl, _, lokA, ?_⟩) | (refine .inr (.inl (.inl ⟨[], _, _, _, newShelf_impl0 n h, viewA, ⟨rfl, rfl⟩, ?_⟩)); rintro _ _ ⟨rfl, rfl⟩; refine ⟨rfl, _, lokA, ?_⟩) | ((first | refine .inl ⟨_, Ret.wka (eqShelf_ok ⟨0, [], []⟩ ⟨0, [], []⟩ ⟨⟨Nat.zero_le _, fun k hk => absurd hk (Nat.not_lt_zero _)⟩, Nat.zero_le _, fun k hk => absurd hk (Nat.not_lt_zero _)⟩), ?_⟩ | refine ⟨_, Ret.wka (eqShelf_ok ⟨0, [], []⟩ ⟨0, [], []⟩ ⟨⟨Nat.zero_le _, fun k hk => absurd hk (Nat.not_lt_zero _)⟩, Nat.zero_le _, fun k hk => absurd hk (Nat.not_lt_zero _)⟩), ?_⟩); (try rintro _ rfl)) | ((first | refine .inl ⟨_, markShelf_nil _, ?_⟩ | refine ⟨_, markShelf_nil _, ?_⟩); (try rintro _ rfl)) | ((first | refine .inl ⟨_, Ret.wka (heldShelf_ok ⟨0, [], []⟩ 1 (by omega) (by simp only [Shelf.mk_, markL]; omega) ⟨⟨Nat.zero_le _, fun k hk => absurd hk (Nat.not_lt_zero _)⟩, Nat.zero_le _, fun k hk => absurd hk (Nat.not_lt_zero _)⟩), ?_⟩ | refine ⟨_, Ret.wka (heldShelf_ok ⟨0, [], []⟩ 1 (by omega) (by simp only [Shelf.mk_, markL]; omega) ⟨⟨Nat.zero_le _, fun k hk => absurd hk (Nat.not_lt_zero _)⟩, Nat.zero_le _, fun k hk => absurd hk (Nat.not_lt_zero _)⟩), ?_⟩); (try rintro _ rfl)) | (refine wrap_succ ?_; omega))))

namespace fnExactNewShelf
theorem law_ret (dss : List (List AV)) (h : TyCs Try.prog Try.f3.params.toList dss) : Ret Try.prog 3 (mkArgs Try.prog Try.f3.params.toList dss) fun r => r = .b true := by
  obtain ⟨d1, r1, rfl, h1, h⟩ := h.cons_inv
  obtain rfl := h.nil_inv
  obtain ⟨x, hx⟩ := arg_one (c := fun n => .i .i64 n) (rd_int Try.underlying2) (by kernel_rfl) h1
  exact Ret.wk (.cons hx .nil) (newShelfLaw x)
end fnExactNewShelf
end Go.Proofs.Ytfjciadhanfhpaa
namespace Go.Proofs.Ytfjciadhanfhpaa.fnExactNewShelf
open Go.ChangeShapes Go.WideShapes Go.ChangeAt Go.RowKit
set_option linter.unusedVariables false

theorem own : ownKnob Try.prog.godebug = none := by kernel_rfl

set_option maxRecDepth 100000 in
theorem lifted (os : Os) (started : os.Started) (H : Type) (enc : TypeId × Value → H) :
    ReturnsInHanded {} Try.checked os 3 .any (Rows.fnExactNewShelfSpec.pre6 enc Try.prog Try.f3 Rows.fnExactNewShelfRow.domain false) (Rows.fnExactNewShelfSpec.post enc Try.prog Try.f3 false true false false) := by
  refine returnsInHanded_of_change (C := Try.checked) own started (by kernel_rfl) Try.func3
    (ChangeSpec.witness6 (enc := enc) (C := Try.checked) false ⟨#[], #[.int .i64 0], []⟩ 8 (by kernel_rfl) (by kernel_rfl) (by kernel_rfl) (by kernel_rfl)) ?_
  intro W base args ds gs before hval0 hW hcnd _
  refine law_end (k := 9) rfl (by kernel_rfl) (by kernel_rfl) rfl Try.underlying4 ?_ (fun dss h => law_ret dss h) hval0 hW
  · rintro ds hl
    match ds, hl with
    | [_], _ => rfl

theorem over : Rows.fnExactNewShelfRow.holds Try.pinned (OpenSpec.ofChange Rows.fnExactNewShelfSpec) :=
  OpenClaim.holds_of_wide 3 Try.f3 rfl rfl rfl rfl rfl rfl rfl ⟨rfl, rfl, rfl, rfl, rfl⟩ rfl rfl rfl rfl rfl fact_named Try.func3 fact_joined fact_inst fact_wrap
    (fun os started H enc _ => lifted os started H enc)

theorem proved : Rows.FnExactNewShelfSaid :=
  over
end Go.Proofs.Ytfjciadhanfhpaa.fnExactNewShelf
