/-
  The law FnExactNewShelf returns true at every argument.
-/
import Derived.Test.YthhenipljdanjaaVNewShelfI
import Derived.Test.YthhenipljdanjaaVNewShelfF
import Derived.Test.YthhenipljdanjaaVNewShelfG
namespace Go.Proofs.Ythhenipljdanjaa
open Go Go.RowKit
set_option linter.unusedVariables false
set_option linter.unusedSimpArgs false

theorem newShelf_spec1 (m : Nat) (h : 1 ≤ m ∧ m ≤ 7) : RetM env.P 22 [] [.i .i64 m] (fun r H => r = .tup [.agg [.i .i64 1, .row 0 m, .nils], .i .i64 0] ∧ H = [some (rowL 2 Table.csO (newT m))]) :=
  (newShelf_spec m).mono fun r H h' => by
    rcases h' with ⟨hn, _⟩ | ⟨m', e, _, h1, h2⟩
    · omega
    · obtain rfl : m = m' := by omega
      exact ⟨h1, h2⟩
theorem newShelf_spec0 (n : Int) (h : ¬ (1 ≤ n ∧ n ≤ 7)) : RetM env.P 22 [] [.i .i64 n] (fun r H => r = .tup [.agg [.i .i64 0, .nils, .nils], .i .i64 2] ∧ H = []) :=
  (newShelf_spec n).mono fun r H h' => by
    rcases h' with ⟨_, h1, h2⟩ | ⟨m', e, _, h1, h2⟩
    · exact ⟨h1, h2⟩
    · omega
theorem newShelf_impl1 (m : Nat) (h : 1 ≤ m ∧ m ≤ 7) : RetM env.P 23 [] [.i .i64 m] (fun r H => r = .tup [.agg [.i .i64 1, .row 0 m, .nils], .i .i64 0] ∧ H = [some (rowL 2 Table.csO (newT m))]) :=
  (newShelf_impl m).mono fun r H h' => by
    rcases h' with ⟨hn, _⟩ | ⟨m', e, _, h1, h2⟩
    · omega
    · obtain rfl : m = m' := by omega
      exact ⟨h1, h2⟩
theorem newShelf_impl0 (n : Int) (h : ¬ (1 ≤ n ∧ n ≤ 7)) : RetM env.P 23 [] [.i .i64 n] (fun r H => r = .tup [.agg [.i .i64 0, .nils, .nils], .i .i64 2] ∧ H = []) :=
  (newShelf_impl n).mono fun r H h' => by
    rcases h' with ⟨_, h1, h2⟩ | ⟨m', e, _, h1, h2⟩
    · exact ⟨h1, h2⟩
    · omega

theorem newT_mark : ∀ (m : Nat) (k : Int), (markL Table.mkE (newT m) k).2 = k + m
  | 0, k => by simp [newT, markL]
  | m + 1, k => by
    have : newT (m + 1) = ⟨1, []⟩ :: newT m := rfl
    rw [this]
    show (markL Table.mkE (newT m) (Table.mkE ⟨1, []⟩ k).2).2 = _
    rw [newT_mark m]
    simp only [Table.mkE, markL]
    omega
theorem newT_ok {m : Nat} (h : m ≤ 7) : okL Table.ok (newT m) := ⟨by rw [newT_len]; omega, fun k hk => by
  rw [newT_len] at hk
  rw [newT_at hk]
  exact ⟨Nat.zero_le _, fun k hk => absurd hk (Nat.not_lt_zero _)⟩⟩

set_option maxRecDepth 8000 in
theorem markShelf_n (x : Int) (t : List Table) (k : Int) (h0 : 0 ≤ k) (hk : (markL Table.mkE t k).2 ≤ 4611686018427387904) (h : okL Table.ok t) : RetM env.P 25 [some (rowL 2 Table.csO t)] [.agg [.i .i64 x, .row 0 t.length, .nils], .i .i64 k] (fun r H => r = .i .i64 (markL Table.mkE t k).2 ∧ H = [some (rowL 2 Table.csO (markL Table.mkE t k).1)]) := by
  refine ret_ofM (nt := 14) (rvs := [.tmp 4]) Try.func25 rfl rfl rfl rfl (fun X hX => ?_)
  repeat' (first | omega | (with_reducible show (_ : Int) < _; dsimp only; omega) | (with_reducible show (_ : Nat) ≤ _; dsimp only; omega) | exact srcOk_1 rfl | exact srcOk_L (fun _ => ⟨rfl, rfl⟩) | exact srcOk_E (fun _ => ⟨rfl, rfl⟩) | ((conv => whnf) <;> (first | refine And.intro ?_ ?_ | (intro _h; first | contradiction | (try simp only [decide_eq_true_eq, Bool.not_eq_true', Bool.not_eq_false', decide_eq_false_iff_not, Bool.not_eq_true, Decidable.not_not, Bool.true_eq_false, Bool.false_eq_true, pb_t, pb_f] at _h)) | exact rfl | exact True.intro | (refine dok ?_; kernel_rfl) | (refine doks ?_; kernel_rfl) | (refine .inr (.inl (.inl ⟨[0], _, _, _, markTableS_ok _ k h0 hk h, (view_of rfl (by repeat' (first | exact ViewL.nil | refine ViewL.cons rfl (RowBack.self ?_) ?_ | exact rowPl_L (fun _ => rfl) | exact rowPl_box rfl))), ⟨rfl, rfl⟩, ?_⟩)); rintro _ _ ⟨rfl, rfl⟩; refine ⟨rfl, _, (lok_pl (by repeat' (first | exact RowsPl.nil | refine RowsPl.cons ?_ ?_ | refine RowsPl.none ?_ | exact rowPl_L (fun _ => rfl) | exact rowPl_box rfl))), ?_⟩) | ((first | refine .inl ⟨_, markThingS_nil _, ?_⟩ | refine ⟨_, markThingS_nil _, ?_⟩); (try rintro _ rfl)) | (refine wrap_succ ?_; omega))))
  exact endM_pick [0] [some (rowL 2 Table.csO (markL Table.mkE t k).1)] (.i .i64 (markL Table.mkE t k).2) (view_of rfl (.cons rfl (.self (rowPl_L fun _ => rfl)) .nil)) rfl rfl (by rw [hX]; exact keepK (n := 1) rfl rfl) ⟨rfl, rfl⟩

theorem held_newS (t : List Table) (k : Int) : heldI (⟨1, (markL Table.mkE t k).1, []⟩ : Shelf) (Shelf.mk_ ⟨1, (markL Table.mkE t k).1, []⟩ k) = (markL Table.mkE t k).2 := by
  have e : Shelf.mk_ ⟨1, (markL Table.mkE t k).1, []⟩ k = (⟨1, (markL Table.mkE t k).1, []⟩, (markL Table.mkE t k).2) := by
    simp only [Shelf.mk_, markL_idem Table.mkE_idem, markL]
  rw [e]
  exact heldI_eq rfl

theorem markShelf_new (m : Nat) (h : m ≤ 7) : RetM env.P 25 [some (rowL 2 Table.csO (newT m))] [.agg [.i .i64 1, .row 0 m, .nils], .i .i64 1] (fun r H => r = .i .i64 (markL Table.mkE (newT m) 1).2 ∧ H = [some (rowL 2 Table.csO (markL Table.mkE (newT m) 1).1)]) := by
  have := markShelf_n 1 (newT m) 1 (by omega) (by rw [newT_mark]; omega) (newT_ok h)
  rwa [newT_len] at this
theorem newT_mok {m : Nat} (h : m ≤ 7) : okL Table.ok (markL Table.mkE (newT m) 1).1 := okL_mark Table.mkE_ok (newT_ok h)

set_option maxRecDepth 8000 in
theorem newShelfLaw (n : Int) : Ret env.P 6 [.i .i64 n] (fun r => r = .b true) := by
  by_cases h : 1 ≤ n ∧ n ≤ 7
  · obtain ⟨m, rfl⟩ : ∃ m : Nat, n = m := ⟨n.toNat, by omega⟩
    have hT : Shelf.ok ⟨1, newT m, []⟩ := ⟨newT_ok (by omega), Nat.zero_le _, fun k hk => absurd hk (Nat.not_lt_zero _)⟩
    have hT2 : Shelf.ok ⟨1, (markL Table.mkE (newT m) 1).1, []⟩ := ⟨newT_mok (by omega), Nat.zero_le _, fun k hk => absurd hk (Nat.not_lt_zero _)⟩
    have hM := newT_mark m 1
    have hH : Ret env.P 26 [.agg (Shelf.cs ⟨1, (markL Table.mkE (newT m) 1).1, []⟩), .i .i64 1] (fun r => r = .i .i64 (markL Table.mkE (newT m) 1).2) := by
      have := heldShelf_ok ⟨1, (markL Table.mkE (newT m) 1).1, []⟩ 1 (by omega) (by simp only [Shelf.mk_, markL_idem Table.mkE_idem, markL]; omega) hT2
      rwa [held_newS] at this
    refine ret_of (nt := 63) (rvs := [.tmp 2]) Try.func6 rfl rfl rfl rfl (fun X => ?_)
    repeat' (first | omega | (with_reducible show (_ : Int) < _; dsimp only; omega) | (with_reducible show (_ : Nat) ≤ _; dsimp only; omega) | exact srcOk_1 rfl | exact srcOk_L (fun _ => ⟨rfl, rfl⟩) | exact srcOk_E (fun _ => ⟨rfl, rfl⟩) | ((conv => whnf) <;> (first | ((first | refine .inl ⟨_, Ret.wk (by repeat (first | exact WkL.nil | refine WkL.cons ?_ ?_ | exact Wk.refl _ | exact Wk.nilS0 | exact shr_L (d := 1) (k := 3) (newT_len m).symm | exact shr_L (d := 1) (k := 3) (by rw [markL_len, newT_len]) | refine Wk.agg ?_)) (eqShelf_ok ⟨1, newT m, []⟩ ⟨1, newT m, []⟩ hT), ?_⟩ | refine ⟨_, Ret.wk (by repeat (first | exact WkL.nil | refine WkL.cons ?_ ?_ | exact Wk.refl _ | exact Wk.nilS0 | exact shr_L (d := 1) (k := 3) (newT_len m).symm | exact shr_L (d := 1) (k := 3) (by rw [markL_len, newT_len]) | refine Wk.agg ?_)) (eqShelf_ok ⟨1, newT m, []⟩ ⟨1, newT m, []⟩ hT), ?_⟩); (try rintro _ rfl)) | ((first | refine .inl ⟨_, Ret.wk (by repeat (first | exact WkL.nil | refine WkL.cons ?_ ?_ | exact Wk.refl _ | exact Wk.nilS0 | exact shr_L (d := 1) (k := 3) (newT_len m).symm | exact shr_L (d := 1) (k := 3) (by rw [markL_len, newT_len]) | refine Wk.agg ?_)) (hH), ?_⟩ | refine ⟨_, Ret.wk (by repeat (first | exact WkL.nil | refine WkL.cons ?_ ?_ | exact Wk.refl _ | exact Wk.nilS0 | exact shr_L (d := 1) (k := 3) (newT_len m).symm | exact shr_L (d := 1) (k := 3) (by rw [markL_len, newT_len]) | refine Wk.agg ?_)) (hH), ?_⟩); (try rintro _ rfl)) | refine And.intro ?_ ?_ | (intro _h; first | contradiction | (try simp only [decide_eq_true_eq, Bool.not_eq_true', Bool.not_eq_false', decide_eq_false_iff_not, Bool.not_eq_true, Decidable.not_not, Bool.true_eq_false, Bool.false_eq_true, pb_t, pb_f] at _h)) | exact rfl | exact True.intro | (refine dok ?_; kernel_rfl) | (refine doks ?_; kernel_rfl) | (refine .inr (.inl (.inl ⟨[], _, _, _, newShelf_spec1 m (by omega), (view_of rfl (by repeat' (first | exact ViewL.nil | refine ViewL.cons rfl (RowBack.self ?_) ?_ | exact rowPl_L (fun _ => rfl) | exact rowPl_box rfl))), ⟨rfl, rfl⟩, ?_⟩)); rintro _ _ ⟨rfl, rfl⟩; refine ⟨rfl, _, (lok_pl (by repeat' (first | exact RowsPl.nil | refine RowsPl.cons ?_ ?_ | refine RowsPl.none ?_ | exact rowPl_L (fun _ => rfl) | exact rowPl_box rfl))), ?_⟩) | (refine .inr (.inl (.inl ⟨[], _, _, _, newShelf_impl1 m (by omega), (view_of rfl (by repeat' (first | exact ViewL.nil | refine ViewL.cons rfl (RowBack.self ?_) ?_ | exact rowPl_L (fun _ => rfl) | exact rowPl_box rfl))), ⟨rfl, rfl⟩, ?_⟩)); rintro _ _ ⟨rfl, rfl⟩; refine ⟨rfl, _, (lok_pl (by repeat' (first | exact RowsPl.nil | refine RowsPl.cons ?_ ?_ | refine RowsPl.none ?_ | exact rowPl_L (fun _ => rfl) | exact rowPl_box rfl))), ?_⟩) | (refine .inr (.inl (.inl ⟨[2], _, _, _, markShelf_new m (by omega), (view_of rfl (by repeat' (first | exact ViewL.nil | refine ViewL.cons rfl (RowBack.self ?_) ?_ | exact rowPl_L (fun _ => rfl) | exact rowPl_box rfl))), ⟨rfl, rfl⟩, ?_⟩)); rintro _ _ ⟨rfl, rfl⟩; refine ⟨rfl, _, (lok_pl (by repeat' (first | exact RowsPl.nil | refine RowsPl.cons ?_ ?_ | refine RowsPl.none ?_ | exact rowPl_L (fun _ => rfl) | exact rowPl_box rfl))), ?_⟩) | (refine .inr (.inl (.inl ⟨[3], _, _, _, markShelf_new m (by omega), (view_of rfl (by repeat' (first | exact ViewL.nil | refine ViewL.cons rfl (RowBack.self ?_) ?_ | exact rowPl_L (fun _ => rfl) | exact rowPl_box rfl))), ⟨rfl, rfl⟩, ?_⟩)); rintro _ _ ⟨rfl, rfl⟩; refine ⟨rfl, _, (lok_pl (by repeat' (first | exact RowsPl.nil | refine RowsPl.cons ?_ ?_ | refine RowsPl.none ?_ | exact rowPl_L (fun _ => rfl) | exact rowPl_box rfl))), ?_⟩) | (refine .inr (.inl (.inl ⟨[4], _, _, _, markShelf_new m (by omega), (view_of rfl (by repeat' (first | exact ViewL.nil | refine ViewL.cons rfl (RowBack.self ?_) ?_ | exact rowPl_L (fun _ => rfl) | exact rowPl_box rfl))), ⟨rfl, rfl⟩, ?_⟩)); rintro _ _ ⟨rfl, rfl⟩; refine ⟨rfl, _, (lok_pl (by repeat' (first | exact RowsPl.nil | refine RowsPl.cons ?_ ?_ | refine RowsPl.none ?_ | exact rowPl_L (fun _ => rfl) | exact rowPl_box rfl))), ?_⟩) | (refine wrap_succ ?_; omega))))
    all_goals exact absurd trivial _h
  · refine ret_of (nt := 63) (rvs := [.tmp 2]) Try.func6 rfl rfl rfl rfl (fun X => ?_)
    repeat' (first | omega | (with_reducible show (_ : Int) < _; dsimp only; omega) | (with_reducible show (_ : Nat) ≤ _; dsimp only; omega) | exact srcOk_1 rfl | exact srcOk_L (fun _ => ⟨rfl, rfl⟩) | exact srcOk_E (fun _ => ⟨rfl, rfl⟩) | ((conv => whnf) <;> (first | refine And.intro ?_ ?_ | (intro _h; first | contradiction | (try simp only [decide_eq_true_eq, Bool.not_eq_true', Bool.not_eq_false', decide_eq_false_iff_not, Bool.not_eq_true, Decidable.not_not, Bool.true_eq_false, Bool.false_eq_true, pb_t, pb_f] at _h)) | exact rfl | exact True.intro | (refine dok ?_; kernel_rfl) | (refine doks ?_; kernel_rfl) | (refine .inr (.inl (.inl ⟨[], _, _, _, newShelf_spec0 n h, (view_of rfl (by repeat' (first | exact ViewL.nil | refine ViewL.cons rfl (RowBack.self ?_) ?_ | exact rowPl_L (fun _ => rfl) | exact rowPl_box rfl))), ⟨rfl, rfl⟩, ?_⟩)); rintro _ _ ⟨rfl, rfl⟩; refine ⟨rfl, _, (lok_pl (by repeat' (first | exact RowsPl.nil | refine RowsPl.cons ?_ ?_ | refine RowsPl.none ?_ | exact rowPl_L (fun _ => rfl) | exact rowPl_box rfl))), ?_⟩) | (refine .inr (.inl (.inl ⟨[], _, _, _, newShelf_impl0 n h, (view_of rfl (by repeat' (first | exact ViewL.nil | refine ViewL.cons rfl (RowBack.self ?_) ?_ | exact rowPl_L (fun _ => rfl) | exact rowPl_box rfl))), ⟨rfl, rfl⟩, ?_⟩)); rintro _ _ ⟨rfl, rfl⟩; refine ⟨rfl, _, (lok_pl (by repeat' (first | exact RowsPl.nil | refine RowsPl.cons ?_ ?_ | refine RowsPl.none ?_ | exact rowPl_L (fun _ => rfl) | exact rowPl_box rfl))), ?_⟩) | ((first | refine .inl ⟨_, Ret.wk (by repeat (first | exact WkL.nil | refine WkL.cons ?_ ?_ | exact Wk.refl _ | exact Wk.rfc rfl | refine Wk.fn ?_ | exact Wk.nilS0 | exact shr_L (d := 0) (k := 4) rfl | exact shr_L (d := 1) (k := 3) rfl | exact shr_L (d := 2) (k := 2) rfl | exact shr_L (d := 0) (k := 4) (by simp only [markL_len]) | exact shr_L (d := 1) (k := 3) (by simp only [markL_len]) | refine Wk.agg ?_)) (eqShelf_ok ⟨0, [], []⟩ ⟨0, [], []⟩ ⟨⟨Nat.zero_le _, fun k hk => absurd hk (Nat.not_lt_zero _)⟩, Nat.zero_le _, fun k hk => absurd hk (Nat.not_lt_zero _)⟩), ?_⟩ | refine ⟨_, Ret.wk (by repeat (first | exact WkL.nil | refine WkL.cons ?_ ?_ | exact Wk.refl _ | exact Wk.rfc rfl | refine Wk.fn ?_ | exact Wk.nilS0 | exact shr_L (d := 0) (k := 4) rfl | exact shr_L (d := 1) (k := 3) rfl | exact shr_L (d := 2) (k := 2) rfl | exact shr_L (d := 0) (k := 4) (by simp only [markL_len]) | exact shr_L (d := 1) (k := 3) (by simp only [markL_len]) | refine Wk.agg ?_)) (eqShelf_ok ⟨0, [], []⟩ ⟨0, [], []⟩ ⟨⟨Nat.zero_le _, fun k hk => absurd hk (Nat.not_lt_zero _)⟩, Nat.zero_le _, fun k hk => absurd hk (Nat.not_lt_zero _)⟩), ?_⟩); (try rintro _ rfl)) | ((first | refine .inl ⟨_, markShelf_nil _, ?_⟩ | refine ⟨_, markShelf_nil _, ?_⟩); (try rintro _ rfl)) | ((first | refine .inl ⟨_, Ret.wk (by repeat (first | exact WkL.nil | refine WkL.cons ?_ ?_ | exact Wk.refl _ | exact Wk.rfc rfl | refine Wk.fn ?_ | exact Wk.nilS0 | exact shr_L (d := 0) (k := 4) rfl | exact shr_L (d := 1) (k := 3) rfl | exact shr_L (d := 2) (k := 2) rfl | exact shr_L (d := 0) (k := 4) (by simp only [markL_len]) | exact shr_L (d := 1) (k := 3) (by simp only [markL_len]) | refine Wk.agg ?_)) (heldShelf_ok ⟨0, [], []⟩ 1 (by omega) (by simp only [Shelf.mk_, markL]; omega) ⟨⟨Nat.zero_le _, fun k hk => absurd hk (Nat.not_lt_zero _)⟩, Nat.zero_le _, fun k hk => absurd hk (Nat.not_lt_zero _)⟩), ?_⟩ | refine ⟨_, Ret.wk (by repeat (first | exact WkL.nil | refine WkL.cons ?_ ?_ | exact Wk.refl _ | exact Wk.rfc rfl | refine Wk.fn ?_ | exact Wk.nilS0 | exact shr_L (d := 0) (k := 4) rfl | exact shr_L (d := 1) (k := 3) rfl | exact shr_L (d := 2) (k := 2) rfl | exact shr_L (d := 0) (k := 4) (by simp only [markL_len]) | exact shr_L (d := 1) (k := 3) (by simp only [markL_len]) | refine Wk.agg ?_)) (heldShelf_ok ⟨0, [], []⟩ 1 (by omega) (by simp only [Shelf.mk_, markL]; omega) ⟨⟨Nat.zero_le _, fun k hk => absurd hk (Nat.not_lt_zero _)⟩, Nat.zero_le _, fun k hk => absurd hk (Nat.not_lt_zero _)⟩), ?_⟩); (try rintro _ rfl)) | (refine wrap_succ ?_; omega))))

namespace fnExactNewShelf
theorem law_ret (dss : List (List AV)) (h : TyCs Try.prog Try.f6.params.toList dss) : Ret Try.prog 6 (mkArgs Try.prog Try.f6.params.toList dss) fun r => r = .b true := by
  obtain ⟨d1, r1, rfl, h1, h⟩ := h.cons_inv
  obtain rfl := h.nil_inv
  obtain ⟨x, hx⟩ := arg_one (c := fun n => .i .i64 n) (rd_int Try.underlying2) (by kernel_rfl) h1
  exact Ret.wk (.cons hx .nil) (newShelfLaw x)
end fnExactNewShelf
end Go.Proofs.Ythhenipljdanjaa
namespace Go.Proofs.Ythhenipljdanjaa.fnExactNewShelf
open Go.ChangeShapes Go.WideShapes Go.ChangeAt Go.RowKit
set_option linter.unusedVariables false

theorem own : ownKnob Try.prog.godebug = none := by kernel_rfl

set_option maxRecDepth 100000 in
theorem lifted (os : Os) (started : os.Started) (H : Type) (enc : TypeId × Value → H) :
    ReturnsInHanded {} Try.checked os 6 .any (Rows.fnExactNewShelfSpec.pre6 enc Try.prog Try.f6 Rows.fnExactNewShelfRow.domain false) (Rows.fnExactNewShelfSpec.post enc Try.prog Try.f6 false true false false) := by
  refine returnsInHanded_of_change (C := Try.checked) own started (by kernel_rfl) Try.func6
    (ChangeSpec.witness6 (enc := enc) (C := Try.checked) false ⟨#[], #[.int .i64 0], []⟩ 8 (by kernel_rfl) (by kernel_rfl) (by kernel_rfl) (by kernel_rfl)) ?_
  intro W base args ds gs before hval0 hW hcnd _
  refine law_end (k := 9) rfl (by kernel_rfl) (by kernel_rfl) rfl Try.underlying4 ?_ (fun dss h => law_ret dss h) hval0 hW
  · rintro ds hl
    match ds, hl with
    | [_], _ => rfl

theorem over : Rows.fnExactNewShelfRow.holds Try.pinned (OpenSpec.ofChange Rows.fnExactNewShelfSpec) :=
  OpenClaim.holds_of_wide 6 Try.f6 rfl rfl rfl rfl rfl rfl rfl ⟨rfl, rfl, rfl, rfl, rfl⟩ rfl rfl rfl rfl rfl fact_named Try.func6 fact_joined fact_inst fact_wrap
    (fun os started H enc _ => lifted os started H enc)

theorem proved : Rows.FnExactNewShelfSaid :=
  over
end Go.Proofs.Ythhenipljdanjaa.fnExactNewShelf
