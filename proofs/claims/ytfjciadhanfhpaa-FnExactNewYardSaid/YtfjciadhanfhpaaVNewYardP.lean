/-
  The law FnExactNewYard returns true at every argument.
-/
import Derived.Test.YtfjciadhanfhpaaVNewYardS
import Derived.Test.YtfjciadhanfhpaaVNewYardF
import Derived.Test.YtfjciadhanfhpaaVNewYardG
namespace Go.Proofs.Ytfjciadhanfhpaa
open Go Go.RowKit
set_option linter.unusedVariables false
set_option linter.unusedSimpArgs false

set_option maxRecDepth 8000 in
theorem newYardLaw (n : Int) : Ret env.P 4 [.i .i64 n] (fun r => r = .b true) := by
  by_cases h : 1 ≤ n ∧ n ≤ 6
  · obtain ⟨q, rfl⟩ : ∃ m : Nat, n = m := ⟨n.toNat, by omega⟩
    obtain ⟨m, hm⟩ : ∃ m, m = q + 1 := ⟨_, rfl⟩
    have c1 := newYard_spec1 q (by omega)
    have c2 := newYard_impl1 q (by omega)
    unfold yardN at c1 c2
    rw [← hm] at c1 c2
    have hT : Yard.ok (yardT (newT m)) := yardT_ok (newT_ok (by omega))
    have hT2 : Yard.ok (yardT (markL Table.mkE (newT m) 1).1) := yardT_ok (newT_mok (by omega))
    have hM := newT_mark m 1
    have hH : Ret env.P 15 [.agg (Yard.cs (yardT (markL Table.mkE (newT m) 1).1)), .i .i64 1] (fun r => r = .i .i64 (markL Table.mkE (newT m) 1).2) := by
      have := heldYard_ok (yardT (markL Table.mkE (newT m) 1).1) 1 (by omega) (by simp only [yardT, Yard.mk_, markL_idem Table.mkE_idem, markL]; omega) hT2
      rwa [held_newY] at this
    refine ret_of (nt := 63) (rvs := [.tmp 2]) Try.func4 rfl rfl rfl rfl (fun X => ?_)
    repeat' (first | exact aa | ((conv => whnf) <;> (first | ((first | refine .inl ⟨_, Ret.wk (by repeat (first | exact WkL.nil | refine WkL.cons ?_ ?_ | exact Wk.refl _ | exact Wk.nilS0 | exact shr_L (d := 1) (k := 3) (newT_len m).symm | exact shr_L (d := 1) (k := 3) (by rw [markL_len, newT_len]) | refine Wk.agg ?_)) (eqYard_ok (yardT (newT m)) (yardT (newT m)) hT), ?_⟩ | refine ⟨_, Ret.wk (by repeat (first | exact WkL.nil | refine WkL.cons ?_ ?_ | exact Wk.refl _ | exact Wk.nilS0 | exact shr_L (d := 1) (k := 3) (newT_len m).symm | exact shr_L (d := 1) (k := 3) (by rw [markL_len, newT_len]) | refine Wk.agg ?_)) (eqYard_ok (yardT (newT m)) (yardT (newT m)) hT), ?_⟩); (try rintro _ rfl)) | ((first | refine .inl ⟨_, Ret.wk (by repeat (first | exact WkL.nil | refine WkL.cons ?_ ?_ | exact Wk.refl _ | exact Wk.nilS0 | exact shr_L (d := 1) (k := 3) (newT_len m).symm | exact shr_L (d := 1) (k := 3) (by rw [markL_len, newT_len]) | refine Wk.agg ?_)) (hH), ?_⟩ | refine ⟨_, Ret.wk (by repeat (first | exact WkL.nil | refine WkL.cons ?_ ?_ | exact Wk.refl _ | exact Wk.nilS0 | exact shr_L (d := 1) (k := 3) (newT_len m).symm | exact shr_L (d := 1) (k := 3) (by rw [markL_len, newT_len]) | refine Wk.agg ?_)) (hH), ?_⟩); (try rintro _ rfl)) | refine And.intro ?_ ?_ | (intro _h; first | contradiction | (try simp only [dd] at _h)) | (refine dt_go ?_) | exact rfl | exact True.intro | exact dkk | exact dks | (refine .inr (.inl (.inl ⟨[], _, _, _, c1, viewA, ⟨rfl, rfl⟩, ?_⟩)); rintro _ _ ⟨rfl, rfl⟩; refine ⟨rfl, _, lokA, ?_⟩) | (refine .inr (.inl (.inl ⟨[], _, _, _, c2, viewA, ⟨rfl, rfl⟩, ?_⟩)); rintro _ _ ⟨rfl, rfl⟩; refine ⟨rfl, _, lokA, ?_⟩) | (refine .inr (.inl (.inl ⟨[2], _, _, _, markYard_new m (by omega), viewA, ⟨rfl, rfl⟩, ?_⟩)); rintro _ _ ⟨rfl, rfl⟩; refine ⟨rfl, _, lokA, ?_⟩) | (refine wrap_succ ?_; omega))))
    all_goals exact absurd trivial _h
  · have c1 := newYard_spec0 n h
    have c2 := newYard_impl0 n h
    unfold yard0 at c1 c2
    refine ret_of (nt := 63) (rvs := [.tmp 2]) Try.func4 rfl rfl rfl rfl (fun X => ?_)
    repeat' (first | exact aa | ((conv => whnf) <;> (first | refine And.intro ?_ ?_ | (intro _h; first | contradiction | (try simp only [dd] at _h)) | (refine dt_go ?_) | exact rfl | exact True.intro | exact dkk | exact dks | (refine .inr (.inl (.inl ⟨[], _, _, _, c1, viewA, ⟨rfl, rfl⟩, ?_⟩)); rintro _ _ ⟨rfl, rfl⟩; refine ⟨rfl, _, lokA, ?_⟩) | (refine .inr (.inl (.inl ⟨[], _, _, _, c2, viewA, ⟨rfl, rfl⟩, ?_⟩)); rintro _ _ ⟨rfl, rfl⟩; refine ⟨rfl, _, lokA, ?_⟩) | ((first | refine .inl ⟨_, Ret.wka (eqYard_ok ⟨⟨0, [], []⟩, [], 0, []⟩ ⟨⟨0, [], []⟩, [], 0, []⟩ ⟨⟨⟨Nat.zero_le _, fun k hk => absurd hk (Nat.not_lt_zero _)⟩, Nat.zero_le _, fun k hk => absurd hk (Nat.not_lt_zero _)⟩, ⟨Nat.zero_le _, fun k hk => absurd hk (Nat.not_lt_zero _)⟩, Nat.zero_le _, fun k hk => absurd hk (Nat.not_lt_zero _)⟩), ?_⟩ | refine ⟨_, Ret.wka (eqYard_ok ⟨⟨0, [], []⟩, [], 0, []⟩ ⟨⟨0, [], []⟩, [], 0, []⟩ ⟨⟨⟨Nat.zero_le _, fun k hk => absurd hk (Nat.not_lt_zero _)⟩, Nat.zero_le _, fun k hk => absurd hk (Nat.not_lt_zero _)⟩, ⟨Nat.zero_le _, fun k hk => absurd hk (Nat.not_lt_zero _)⟩, Nat.zero_le _, fun k hk => absurd hk (Nat.not_lt_zero _)⟩), ?_⟩); (try rintro _ rfl)) | ((first | refine .inl ⟨_, markYard_nil _, ?_⟩ | refine ⟨_, markYard_nil _, ?_⟩); (try rintro _ rfl)) | ((first | refine .inl ⟨_, Ret.wka (heldYard_ok ⟨⟨0, [], []⟩, [], 0, []⟩ 1 (by omega) (by simp only [Yard.mk_, markL]; omega) ⟨⟨⟨Nat.zero_le _, fun k hk => absurd hk (Nat.not_lt_zero _)⟩, Nat.zero_le _, fun k hk => absurd hk (Nat.not_lt_zero _)⟩, ⟨Nat.zero_le _, fun k hk => absurd hk (Nat.not_lt_zero _)⟩, Nat.zero_le _, fun k hk => absurd hk (Nat.not_lt_zero _)⟩), ?_⟩ | refine ⟨_, Ret.wka (heldYard_ok ⟨⟨0, [], []⟩, [], 0, []⟩ 1 (by omega) (by simp only [Yard.mk_, markL]; omega) ⟨⟨⟨Nat.zero_le _, fun k hk => absurd hk (Nat.not_lt_zero _)⟩, Nat.zero_le _, fun k hk => absurd hk (Nat.not_lt_zero _)⟩, ⟨Nat.zero_le _, fun k hk => absurd hk (Nat.not_lt_zero _)⟩, Nat.zero_le _, fun k hk => absurd hk (Nat.not_lt_zero _)⟩), ?_⟩); (try rintro _ rfl)) | (refine wrap_succ ?_; omega))))

namespace fnExactNewYard
theorem law_ret (dss : List (List AV)) (h : TyCs Try.prog Try.f4.params.toList dss) : Ret Try.prog 4 (mkArgs Try.prog Try.f4.params.toList dss) fun r => r = .b true := by
  obtain ⟨d1, r1, rfl, h1, h⟩ := h.cons_inv
  obtain rfl := h.nil_inv
  obtain ⟨x, hx⟩ := arg_one (c := fun n => .i .i64 n) (rd_int Try.underlying2) (by kernel_rfl) h1
  exact Ret.wk (.cons hx .nil) (newYardLaw x)
end fnExactNewYard
end Go.Proofs.Ytfjciadhanfhpaa
namespace Go.Proofs.Ytfjciadhanfhpaa.fnExactNewYard
open Go.ChangeShapes Go.WideShapes Go.ChangeAt Go.RowKit
set_option linter.unusedVariables false

theorem own : ownKnob Try.prog.godebug = none := by kernel_rfl

set_option maxRecDepth 100000 in
theorem lifted (os : Os) (started : os.Started) (H : Type) (enc : TypeId × Value → H) :
    ReturnsInHanded {} Try.checked os 4 .any (Rows.fnExactNewYardSpec.pre6 enc Try.prog Try.f4 Rows.fnExactNewYardRow.domain false) (Rows.fnExactNewYardSpec.post enc Try.prog Try.f4 false true false false) := by
  refine returnsInHanded_of_change (C := Try.checked) own started (by kernel_rfl) Try.func4
    (ChangeSpec.witness6 (enc := enc) (C := Try.checked) false ⟨#[], #[.int .i64 0], []⟩ 8 (by kernel_rfl) (by kernel_rfl) (by kernel_rfl) (by kernel_rfl)) ?_
  intro W base args ds gs before hval0 hW hcnd _
  refine law_end (k := 9) rfl (by kernel_rfl) (by kernel_rfl) rfl Try.underlying4 ?_ (fun dss h => law_ret dss h) hval0 hW
  · rintro ds hl
    match ds, hl with
    | [_], _ => rfl

theorem over : Rows.fnExactNewYardRow.holds Try.pinned (OpenSpec.ofChange Rows.fnExactNewYardSpec) :=
  OpenClaim.holds_of_wide 4 Try.f4 rfl rfl rfl rfl rfl rfl rfl ⟨rfl, rfl, rfl, rfl, rfl⟩ rfl rfl rfl rfl rfl fact_named Try.func4 fact_joined fact_inst fact_wrap
    (fun os started H enc _ => lifted os started H enc)

theorem proved : Rows.FnExactNewYardSaid :=
  over
end Go.Proofs.Ytfjciadhanfhpaa.fnExactNewYard
