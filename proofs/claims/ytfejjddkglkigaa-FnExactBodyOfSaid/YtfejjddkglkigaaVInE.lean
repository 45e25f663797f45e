/-
  Instructions from bytes.
-/
import Derived.Test.YtfejjddkglkigaaVInD
namespace Go.Proofs.Ytfejjddkglkigaa
open Go Go.RowKit
set_option linter.unusedVariables false
set_option linter.unusedSimpArgs false
attribute [local irreducible] IntKind.wrap

/-- An operand's bytes. -/
def argV (op : Int) (r : ByteArray) : Int × Int := if op = 1 then ((getS r).1, (getS r).2.1) else if (opV op).2.2 = true then ((getL r).1, (getL r).2.1) else (0, 0)
def opB (b : ByteArray) : Int := IntKind.i64.wrap ((b.data.getD 0 0).toNat : Int)
def argB (b : ByteArray) : Int × Int := argV (opB b) (b.extract 1 b.size)
def insB (b : ByteArray) : Ins := ⟨opB b, (argB b).1⟩
/-- What InsOf gives. -/
def insV (b : ByteArray) : Ins × Int × Bool :=
  if b.size = 0 then (⟨0, 0⟩, 0, false)
  else if baN (insB b).by = ByteArray.empty ∨ ¬ baN (insB b).by = b.extract 0 (1 + (argB b).2).toNat then (⟨0, 0⟩, 0, false)
  else (insB b, 1 + (argB b).2, true)
def insR (v : Ins × Int × Bool) : AV := .tup [.agg v.1.cs, .i .i64 v.2.1, .b v.2.2]
theorem getL_many (b : ByteArray) : 0 ≤ (getL b).2.1 ∧ (getL b).2.1 ≤ b.size := by
  unfold getL
  cases h : fstI b 9 with
  | none => exact ⟨Int.le_refl 0, Int.natCast_nonneg _⟩
  | some i =>
    have := fstI_get h
    dsimp only
    split
    · exact ⟨by show (0 : Int) ≤ i + 1; omega, by show (i : Int) + 1 ≤ b.size; omega⟩
    · exact ⟨Int.le_refl 0, Int.natCast_nonneg _⟩
theorem getS_many (b : ByteArray) : 0 ≤ (getS b).2.1 ∧ (getS b).2.1 ≤ b.size := by
  unfold getS
  cases h : fstI b 10 with
  | none => exact ⟨Int.le_refl 0, Int.natCast_nonneg _⟩
  | some i =>
    have := fstI_get h
    dsimp only
    split
    · exact ⟨by show (0 : Int) ≤ i + 1; omega, by show (i : Int) + 1 ≤ b.size; omega⟩
    · exact ⟨Int.le_refl 0, Int.natCast_nonneg _⟩
theorem argV_many (op : Int) (b : ByteArray) : 0 ≤ (argV op b).2 ∧ (argV op b).2 ≤ b.size := by
  unfold argV
  split
  · exact getS_many b
  · split
    · exact getL_many b
    · exact ⟨Int.le_refl 0, Int.natCast_nonneg _⟩
theorem ext1 {b : ByteArray} (h : ¬ b.size = 0) : (b.extract 1 b.size).size = b.size - 1 := by
  rw [ByteArray.size_extract]
  omega
theorem argB_many {b : ByteArray} (h : ¬ b.size = 0) : 0 ≤ (argB b).2 ∧ (argB b).2 + 1 ≤ b.size := by
  have := argV_many (opB b) (b.extract 1 b.size)
  rw [ext1 h] at this
  show 0 ≤ (argV (opB b) (b.extract 1 b.size)).2 ∧ (argV (opB b) (b.extract 1 b.size)).2 + 1 ≤ b.size
  omega
theorem insV_nil {b : ByteArray} (h : b.size = 0) : insR (insV b) = .tup [.agg [.i .i64 0, .i .i64 0], .i .i64 0, .b false] := by
  unfold insV
  rw [if_pos h]
  rfl
theorem insV_no {b : ByteArray} (h : ¬ b.size = 0) (h1 : baN (insB b).by = ByteArray.empty ∨ ¬ baN (insB b).by = b.extract 0 (1 + (argB b).2).toNat) : insR (insV b) = .tup [.agg [.i .i64 0, .i .i64 0], .i .i64 0, .b false] := by
  unfold insV
  rw [if_neg h, if_pos h1]
  rfl
theorem insV_yes {b : ByteArray} (h : ¬ b.size = 0) (h1 : ¬ (baN (insB b).by = ByteArray.empty ∨ ¬ baN (insB b).by = b.extract 0 (1 + (argB b).2).toNat)) : insR (insV b) = .tup [.agg (insB b).cs, .i .i64 (1 + (argB b).2), .b true] := by
  unfold insV
  rw [if_neg h, if_neg h1]
  rfl
theorem insB_cs {b : ByteArray} {a m : Int} (h : argB b = (a, m)) : (insB b).cs = [.i .i64 (opB b), .i .i64 a] := by
  show [AV.i .i64 (opB b), .i .i64 (argB b).1] = _
  rw [h]
theorem i64in {n : Int} (h : 0 ≤ n ∧ n ≤ 1048576) : IntKind.i64.wrap (1 + n) = 1 + n := wrap_in (by omega) (by omega)
theorem argB_1 {b : ByteArray} (h1 : opB b = 1) : argB b = ((getS (b.extract 1 b.size)).1, (getS (b.extract 1 b.size)).2.1) := if_pos h1
theorem argB_n {b : ByteArray} (h1 : ¬ opB b = 1) (ho : (opV (opB b)).2.2 = true) : argB b = ((getL (b.extract 1 b.size)).1, (getL (b.extract 1 b.size)).2.1) := (if_neg h1).trans (if_pos ho)
theorem argB_0 {b : ByteArray} (h1 : ¬ opB b = 1) (ho : (opV (opB b)).2.2 = false) : argB b = (0, 0) := (if_neg h1).trans (if_neg (by rw [ho]; decide))
attribute [local irreducible] insV argB getS getL Ins.by baN
set_option maxRecDepth 8000 in
set_option maxHeartbeats 4000000 in
theorem insOf_spec (b : ByteArray) (hs : b.size ≤ 1048576) : Ret env.P 10 [.s b] (fun r => r = insR (insV b)) := by
  by_cases h0 : b.size = 0
  · have : b = ByteArray.empty := by
      apply ByteArray.ext
      exact Array.eq_empty_of_size_eq_zero h0
    subst this
    rw [insV_nil h0]
    refine ret_of (nt := 74) (rvs := [.cell 2 31, .tmp 3, .tmp 4]) Try.func10 rfl rfl rfl rfl (fun X => ?_)
    repeat' (first | exact aa | ((conv => whnf) <;> (first | (exfalso; exact ‹¬True› trivial) | (exfalso; exact ‹¬ByteArray.empty = ByteArray.empty› rfl) | refine And.intro ?_ ?_ | (intro _h; first | contradiction | (try simp only [dd] at _h)) | (refine dt_go ?_) | exact rfl | exact True.intro | exact dkk | exact dks | (refine wrap_succ ?_; omega))))
  · have hb := insBytes_spec (insB b)
    have hm := argB_many h0
    have hS : Ret env.P 18 [.s (b.extract 1 b.size)] (fun r => r = .tup [.i .i64 (getS (b.extract 1 b.size)).1, .i .i64 (getS (b.extract 1 b.size)).2.1, .b (getS (b.extract 1 b.size)).2.2]) := getSleb_spec (b.extract 1 b.size) (by rw [ext1 h0]; omega)
    have hL : Ret env.P 9 [.s (b.extract 1 b.size)] (fun r => r = .tup [.i .i64 (getL (b.extract 1 b.size)).1, .i .i64 (getL (b.extract 1 b.size)).2.1, .b (getL (b.extract 1 b.size)).2.2]) := getLeb_spec (b.extract 1 b.size) (by rw [ext1 h0]; omega)
    have hne : ¬ b = ByteArray.empty := fun e => h0 (by rw [e]; rfl)
    have hY := insV_yes h0
    have hN := insV_no h0
    by_cases h1 : opB b = 1
    · have ha := argB_1 h1
      have ho : (opV (opB b)).2.2 = true := by rw [h1]; rfl
      have hh := has_ok (opB b)
      rw [ho] at hh
      rw [insB_cs ha] at hb hY
      rw [ha] at hm hY hN
      dsimp only at hm hY hN
      have hw := i64in (n := (getS (b.extract 1 b.size)).2.1) (by omega)
      refine ret_of (nt := 74) (rvs := [.cell 2 31, .tmp 3, .tmp 4]) Try.func10 rfl rfl rfl rfl (fun X => ?_)
      repeat' (first | exact aa | ((conv => whnf) <;> (first | (exfalso; exact ‹¬True› trivial) | (exfalso; exact hne ‹_›) | (exfalso; exact ‹¬ opB b = 1› h1) | (rw [hw]; refine ⟨?_, ?_⟩ <;> omega) | (refine ⟨?_, ?_⟩ <;> omega) | refine And.intro ?_ ?_ | (intro _h; first | contradiction | (try simp only [dd] at _h)) | (refine dt_go ?_) | exact rfl | exact True.intro | exact dkk | exact dks | ((first | refine .inl ⟨_, hh, ?_⟩ | refine ⟨_, hh, ?_⟩); (try rintro _ rfl)) | ((first | refine .inl ⟨_, hS, ?_⟩ | refine ⟨_, hS, ?_⟩); (try rintro _ rfl)) | ((first | refine .inl ⟨_, hb, ?_⟩ | refine ⟨_, hb, ?_⟩); (try rintro _ rfl)) | (refine wrap_succ ?_; omega))))
      all_goals (conv => whnf)
      all_goals (try rw [hw] at *)
      all_goals first
        | exact (hN (.inl ‹_›)).symm
        | exact (hN (.inr ‹_›)).symm
        | exact (hY (fun q => q.elim (fun q => absurd q ‹_›) (fun q => q ‹_›))).symm
        | trace_state
    · cases ho : (opV (opB b)).2.2 with
      | true =>
        have ha := argB_n h1 ho
        have hh := has_ok (opB b)
        rw [ho] at hh
        rw [insB_cs ha] at hb hY
        rw [ha] at hm hY hN
        dsimp only at hm hY hN
        have hw := i64in (n := (getL (b.extract 1 b.size)).2.1) (by omega)
        refine ret_of (nt := 74) (rvs := [.cell 2 31, .tmp 3, .tmp 4]) Try.func10 rfl rfl rfl rfl (fun X => ?_)
        repeat' (first | exact aa | ((conv => whnf) <;> (first | (exfalso; exact ‹¬True› trivial) | (exfalso; exact hne ‹_›) | (exfalso; exact h1 ‹_›) | (rw [hw]; refine ⟨?_, ?_⟩ <;> omega) | (refine ⟨?_, ?_⟩ <;> omega) | refine And.intro ?_ ?_ | (intro _h; first | contradiction | (try simp only [dd] at _h)) | (refine dt_go ?_) | exact rfl | exact True.intro | exact dkk | exact dks | ((first | refine .inl ⟨_, hh, ?_⟩ | refine ⟨_, hh, ?_⟩); (try rintro _ rfl)) | ((first | refine .inl ⟨_, hL, ?_⟩ | refine ⟨_, hL, ?_⟩); (try rintro _ rfl)) | ((first | refine .inl ⟨_, hb, ?_⟩ | refine ⟨_, hb, ?_⟩); (try rintro _ rfl)) | (refine wrap_succ ?_; omega))))
        all_goals (conv => whnf)
        all_goals (try rw [hw] at *)
        all_goals first
          | exact (hN (.inl ‹_›)).symm
          | exact (hN (.inr ‹_›)).symm
          | exact (hY (fun q => q.elim (fun q => absurd q ‹_›) (fun q => q ‹_›))).symm
          | trace_state
      | false =>
        have ha := argB_0 h1 ho
        have hh := has_ok (opB b)
        rw [ho] at hh
        rw [insB_cs ha] at hb hY
        rw [ha] at hm hY hN
        dsimp only at hm hY hN
        have hw : IntKind.i64.wrap (1 + 0) = 1 + 0 := i64in (n := 0) (by omega)
        refine ret_of (nt := 74) (rvs := [.cell 2 31, .tmp 3, .tmp 4]) Try.func10 rfl rfl rfl rfl (fun X => ?_)
        repeat' (first | exact aa | ((conv => whnf) <;> (first | (exfalso; exact ‹¬True› trivial) | (exfalso; exact hne ‹_›) | (exfalso; exact h1 ‹_›) | (rw [hw]; refine ⟨?_, ?_⟩ <;> omega) | (refine ⟨?_, ?_⟩ <;> omega) | refine And.intro ?_ ?_ | (intro _h; first | contradiction | (try simp only [dd] at _h)) | (refine dt_go ?_) | exact rfl | exact True.intro | exact dkk | exact dks | ((first | refine .inl ⟨_, hh, ?_⟩ | refine ⟨_, hh, ?_⟩); (try rintro _ rfl)) | ((first | refine .inl ⟨_, hL, ?_⟩ | refine ⟨_, hL, ?_⟩); (try rintro _ rfl)) | ((first | refine .inl ⟨_, hb, ?_⟩ | refine ⟨_, hb, ?_⟩); (try rintro _ rfl)) | (refine wrap_succ ?_; omega))))
        all_goals (conv => whnf)
        all_goals (try rw [hw] at *)
        all_goals first
          | exact (hN (.inl ‹_›)).symm
          | exact (hN (.inr ‹_›)).symm
          | exact (hY (fun q => q.elim (fun q => absurd q ‹_›) (fun q => q ‹_›))).symm
          | trace_state
set_option maxRecDepth 8000 in
set_option maxHeartbeats 4000000 in
theorem insOf_impl (b : ByteArray) (hs : b.size ≤ 1048576) : Ret env.P 12 [.s b] (fun r => r = insR (insV b)) := by
  by_cases h0 : b.size = 0
  · have : b = ByteArray.empty := by
      apply ByteArray.ext
      exact Array.eq_empty_of_size_eq_zero h0
    subst this
    rw [insV_nil h0]
    refine ret_of (nt := 65) (rvs := [.cell 2 31, .tmp 3, .tmp 4]) Try.func12 rfl rfl rfl rfl (fun X => ?_)
    repeat' (first | exact aa | ((conv => whnf) <;> (first | (exfalso; exact ‹¬True› trivial) | (exfalso; exact ‹¬ByteArray.empty = ByteArray.empty› rfl) | refine And.intro ?_ ?_ | (intro _h; first | contradiction | (try simp only [dd] at _h)) | (refine dt_go ?_) | exact rfl | exact True.intro | exact dkk | exact dks | (refine wrap_succ ?_; omega))))
  · have hb := insBytes_impl (insB b)
    have hm := argB_many h0
    have hS : Ret env.P 21 [.s (b.extract 1 b.size)] (fun r => r = .tup [.i .i64 (getS (b.extract 1 b.size)).1, .i .i64 (getS (b.extract 1 b.size)).2.1, .b (getS (b.extract 1 b.size)).2.2]) := getSleb_impl (b.extract 1 b.size) (by rw [ext1 h0]; omega)
    have hL : Ret env.P 11 [.s (b.extract 1 b.size)] (fun r => r = .tup [.i .i64 (getL (b.extract 1 b.size)).1, .i .i64 (getL (b.extract 1 b.size)).2.1, .b (getL (b.extract 1 b.size)).2.2]) := getLeb_impl (b.extract 1 b.size) (by rw [ext1 h0]; omega)
    have hne : ¬ b = ByteArray.empty := fun e => h0 (by rw [e]; rfl)
    have hY := insV_yes h0
    have hN := insV_no h0
    by_cases h1 : opB b = 1
    · have ha := argB_1 h1
      have ho : (opV (opB b)).2.2 = true := by rw [h1]; rfl
      have hh := hasI_ok (opB b)
      rw [ho] at hh
      rw [insB_cs ha] at hb hY
      rw [ha] at hm hY hN
      dsimp only at hm hY hN
      have hw := i64in (n := (getS (b.extract 1 b.size)).2.1) (by omega)
      refine ret_of (nt := 65) (rvs := [.cell 2 31, .tmp 3, .tmp 4]) Try.func12 rfl rfl rfl rfl (fun X => ?_)
      repeat' (first | exact aa | ((conv => whnf) <;> (first | (exfalso; exact ‹¬True› trivial) | (exfalso; exact hne ‹_›) | (exfalso; exact ‹¬ opB b = 1› h1) | (rw [hw]; refine ⟨?_, ?_⟩ <;> omega) | (refine ⟨?_, ?_⟩ <;> omega) | refine And.intro ?_ ?_ | (intro _h; first | contradiction | (try simp only [dd] at _h)) | (refine dt_go ?_) | exact rfl | exact True.intro | exact dkk | exact dks | ((first | refine .inl ⟨_, hh, ?_⟩ | refine ⟨_, hh, ?_⟩); (try rintro _ rfl)) | ((first | refine .inl ⟨_, hS, ?_⟩ | refine ⟨_, hS, ?_⟩); (try rintro _ rfl)) | ((first | refine .inl ⟨_, hb, ?_⟩ | refine ⟨_, hb, ?_⟩); (try rintro _ rfl)) | (refine wrap_succ ?_; omega))))
      all_goals (conv => whnf)
      all_goals (try rw [hw] at *)
      all_goals first
        | exact (hN (.inl ‹_›)).symm
        | exact (hN (.inr ‹_›)).symm
        | exact (hY (fun q => q.elim (fun q => absurd q ‹_›) (fun q => q ‹_›))).symm
        | trace_state
    · cases ho : (opV (opB b)).2.2 with
      | true =>
        have ha := argB_n h1 ho
        have hh := hasI_ok (opB b)
        rw [ho] at hh
        rw [insB_cs ha] at hb hY
        rw [ha] at hm hY hN
        dsimp only at hm hY hN
        have hw := i64in (n := (getL (b.extract 1 b.size)).2.1) (by omega)
        refine ret_of (nt := 65) (rvs := [.cell 2 31, .tmp 3, .tmp 4]) Try.func12 rfl rfl rfl rfl (fun X => ?_)
        repeat' (first | exact aa | ((conv => whnf) <;> (first | (exfalso; exact ‹¬True› trivial) | (exfalso; exact hne ‹_›) | (exfalso; exact h1 ‹_›) | (rw [hw]; refine ⟨?_, ?_⟩ <;> omega) | (refine ⟨?_, ?_⟩ <;> omega) | refine And.intro ?_ ?_ | (intro _h; first | contradiction | (try simp only [dd] at _h)) | (refine dt_go ?_) | exact rfl | exact True.intro | exact dkk | exact dks | ((first | refine .inl ⟨_, hh, ?_⟩ | refine ⟨_, hh, ?_⟩); (try rintro _ rfl)) | ((first | refine .inl ⟨_, hL, ?_⟩ | refine ⟨_, hL, ?_⟩); (try rintro _ rfl)) | ((first | refine .inl ⟨_, hb, ?_⟩ | refine ⟨_, hb, ?_⟩); (try rintro _ rfl)) | (refine wrap_succ ?_; omega))))
        all_goals (conv => whnf)
        all_goals (try rw [hw] at *)
        all_goals first
          | exact (hN (.inl ‹_›)).symm
          | exact (hN (.inr ‹_›)).symm
          | exact (hY (fun q => q.elim (fun q => absurd q ‹_›) (fun q => q ‹_›))).symm
          | trace_state
      | false =>
        have ha := argB_0 h1 ho
        have hh := hasI_ok (opB b)
        rw [ho] at hh
        rw [insB_cs ha] at hb hY
        rw [ha] at hm hY hN
        dsimp only at hm hY hN
        have hw : IntKind.i64.wrap (1 + 0) = 1 + 0 := i64in (n := 0) (by omega)
        refine ret_of (nt := 65) (rvs := [.cell 2 31, .tmp 3, .tmp 4]) Try.func12 rfl rfl rfl rfl (fun X => ?_)
        repeat' (first | exact aa | ((conv => whnf) <;> (first | (exfalso; exact ‹¬True› trivial) | (exfalso; exact hne ‹_›) | (exfalso; exact h1 ‹_›) | (rw [hw]; refine ⟨?_, ?_⟩ <;> omega) | (refine ⟨?_, ?_⟩ <;> omega) | refine And.intro ?_ ?_ | (intro _h; first | contradiction | (try simp only [dd] at _h)) | (refine dt_go ?_) | exact rfl | exact True.intro | exact dkk | exact dks | ((first | refine .inl ⟨_, hh, ?_⟩ | refine ⟨_, hh, ?_⟩); (try rintro _ rfl)) | ((first | refine .inl ⟨_, hL, ?_⟩ | refine ⟨_, hL, ?_⟩); (try rintro _ rfl)) | ((first | refine .inl ⟨_, hb, ?_⟩ | refine ⟨_, hb, ?_⟩); (try rintro _ rfl)) | (refine wrap_succ ?_; omega))))
        all_goals (conv => whnf)
        all_goals (try rw [hw] at *)
        all_goals first
          | exact (hN (.inl ‹_›)).symm
          | exact (hN (.inr ‹_›)).symm
          | exact (hY (fun q => q.elim (fun q => absurd q ‹_›) (fun q => q ‹_›))).symm
          | trace_state
end Go.Proofs.Ytfejjddkglkigaa
