/-
  Instructions as bytes.
-/
import Derived.Test.YtfejjddkglkigaaVInC
namespace Go.Proofs.Ytfejjddkglkigaa
open Go Go.RowKit
set_option linter.unusedVariables false
set_option linter.unusedSimpArgs false
attribute [local irreducible] IntKind.wrap

theorem baN_app (l m : List Nat) : baN l ++ baN m = baN (l ++ m) := by
  unfold baN
  rw [List.map_append]
  apply ByteArray.ext
  rw [ByteArray.data_append]
  simp
theorem putLeb_specI {n : Int} (h : 0 ≤ n ∧ n < 9223372036854775808) : RetM env.P 16 [] [.i .i64 n] (fun r H => r = .s (baN (lebL n.toNat)) ∧ H = []) := by
  have := putLeb_spec n.toNat (by omega)
  rwa [show ((n.toNat : Nat) : Int) = n by omega] at this
theorem putLeb_implI {n : Int} (h : 0 ≤ n ∧ n < 9223372036854775808) : RetM env.P 34 [] [.i .i64 n] (fun r H => r = .s (baN (lebL n.toNat)) ∧ H = []) := by
  have := putLeb_impl n.toNat (by omega)
  rwa [show ((n.toNat : Nat) : Int) = n by omega] at this
theorem opV_rng {op : Int} (h1 : ¬ op = 1) (h : (opV op).2.2 = true) : (opV op).1 = 0 ∧ (opV op).2.1 ≤ 4096 := by
  unfold opV at *
  rw [if_neg h1] at *
  repeat' split at *
  all_goals first
    | (exact ⟨rfl, by dsimp only; omega⟩)
    | simp at h
theorem opV_one : opV 1 = (-9223372036854775808, 9223372036854775807, true) := rfl
theorem baN_size (l : List Nat) : (baN l).size = l.length := by
  unfold baN
  show (List.toArray _).size = _
  rw [List.size_toArray, List.length_map]
theorem maxLen_ge : 140737488355328 ≤ maxLen := by decide
theorem sum_le {l m : List Nat} (h : l.length + m.length ≤ 140737488355328) : (baN l).size + (baN m).size ≤ maxLen := by
  rw [baN_size, baN_size]
  exact Nat.le_trans h maxLen_ge
theorem sl10 {n : Int} (h : i64R n) : (slebL n).length ≤ 10 := slebL_len 9 n (by
  have : (128 : Int) ^ 9 = 9223372036854775808 := by decide
  obtain ⟨h1, h2⟩ := h
  omega)
theorem lb9 {n : Nat} (h : n < 9223372036854775808) : (lebL n).length ≤ 9 := lebL_len 8 n (by
  have : (128 : Nat) ^ (8 + 1) = 9223372036854775808 := by decide
  omega)
/-- The bytes of an instruction. -/
def Ins.by (i : Ins) : List Nat := if i.good = true then i.op.toNat :: (if i.op = 1 then slebL i.a else if (opV i.op).2.2 = true then lebL i.a.toNat else []) else []
theorem Ins.good_op {i : Ins} (h : i.good = true) : 1 ≤ i.op ∧ i.op ≤ 40 := (of_decide_eq_true h).1
theorem Ins.good_a {i : Ins} (h : i.good = true) : (opV i.op).1 ≤ i.a ∧ i.a ≤ (opV i.op).2.1 := (of_decide_eq_true h).2
theorem Ins.good_1 {i : Ins} (h : i.good = true) (h1 : i.op = 1) : i64R i.a := by
  have := i.good_a h
  rw [h1, opV_one] at this
  exact this
theorem Ins.good_n {i : Ins} (h : i.good = true) (h1 : ¬ i.op = 1) (h2 : (opV i.op).2.2 = true) : 0 ≤ i.a ∧ i.a < 9223372036854775808 := by
  have := i.good_a h
  have := opV_rng h1 h2
  omega
theorem fix1 {n : Int} (h : 1 ≤ n ∧ n ≤ 40) : fixL n 1 = [n.toNat] := by
  show [(n / 1 % 256).toNat] = [n.toNat]
  congr 1
  omega
theorem fix1_spec {n : Int} (h : 1 ≤ n ∧ n ≤ 40) : Ret env.P 25 [.i .i64 n, .i .i64 1] (fun r => r = .s (baN [n.toNat])) := by
  have := putFix_spec n 1 ⟨by omega, by omega⟩ (by omega)
  rw [fix1 h] at this
  exact this.toRet
theorem fix1_impl {n : Int} (h : 1 ≤ n ∧ n ≤ 40) : Ret env.P 33 [.i .i64 n, .i .i64 1] (fun r => r = .s (baN [n.toNat])) := by
  have := putFix_impl n 1 ⟨by omega, by omega⟩ (by omega)
  rw [fix1 h] at this
  exact this.toRet
theorem Ins.by_bad {i : Ins} (h : i.good = false) : baN i.by = ByteArray.empty := by
  unfold Ins.by
  rw [h]
  rfl
theorem Ins.by_1 {i : Ins} (h : i.good = true) (h1 : i.op = 1) : baN [i.op.toNat] ++ baN (slebL i.a) = baN i.by := by
  rw [baN_app]
  unfold Ins.by
  rw [if_pos h, if_pos h1]
  rfl
theorem Ins.by_n {i : Ins} (h : i.good = true) (h1 : ¬ i.op = 1) (h2 : (opV i.op).2.2 = true) : baN [i.op.toNat] ++ baN (lebL i.a.toNat) = baN i.by := by
  rw [baN_app]
  unfold Ins.by
  rw [if_pos h, if_neg h1, if_pos h2]
  rfl
theorem Ins.by_0 {i : Ins} (h : i.good = true) (h1 : ¬ i.op = 1) (h2 : (opV i.op).2.2 = false) : baN [i.op.toNat] = baN i.by := by
  unfold Ins.by
  rw [if_pos h, if_neg h1, if_neg (by rw [h2]; decide)]
set_option maxRecDepth 8000 in
set_option maxHeartbeats 4000000 in
theorem insBytes_spec (i : Ins) : Ret env.P 19 [.agg i.cs] (fun r => r = .s (baN i.by)) := by
  cases hg : i.good with
  | false =>
    have hk := insOk_spec i
    rw [hg] at hk
    rw [Ins.by_bad hg]
    refine ret_of (nt := 38) (rvs := [.tmp 2]) Try.func19 rfl rfl rfl rfl (fun X => ?_)
    repeat' (first | exact aa | ((conv => whnf) <;> (first | (exfalso; exact ‹¬True› trivial) | refine And.intro ?_ ?_ | (intro _h; first | contradiction | (try simp only [dd] at _h)) | (refine dt_go ?_) | exact rfl | exact True.intro | exact dkk | exact dks | ((first | refine .inl ⟨_, hk, ?_⟩ | refine ⟨_, hk, ?_⟩); (try rintro _ rfl)) | (refine wrap_succ ?_; omega))))
  | true =>
    have hk := insOk_spec i
    rw [hg] at hk
    have hf := fix1_spec (i.good_op hg)
    by_cases h1 : i.op = 1
    · have hp := (putSleb_spec _ (i.good_1 hg h1)).toRet
      rw [← Ins.by_1 hg h1]
      have ho : (opV i.op).2.2 = true := by rw [h1]; rfl
      have hh := has_ok i.op
      rw [ho] at hh
      refine ret_of (nt := 38) (rvs := [.tmp 2]) Try.func19 rfl rfl rfl rfl (fun X => ?_)
      repeat' (first | exact aa | ((conv => whnf) <;> (first | exact sum_le (by have := sl10 (i.good_1 hg h1); simp only [List.length_singleton]; omega) | (exfalso; exact ‹¬ i.op = 1› h1) | (exfalso; exact ‹¬True› trivial) | refine And.intro ?_ ?_ | (intro _h; first | contradiction | (try simp only [dd] at _h)) | (refine dt_go ?_) | exact rfl | exact True.intro | exact dkk | exact dks | ((first | refine .inl ⟨_, hk, ?_⟩ | refine ⟨_, hk, ?_⟩); (try rintro _ rfl)) | ((first | refine .inl ⟨_, hf, ?_⟩ | refine ⟨_, hf, ?_⟩); (try rintro _ rfl)) | ((first | refine .inl ⟨_, hh, ?_⟩ | refine ⟨_, hh, ?_⟩); (try rintro _ rfl)) | ((first | refine .inl ⟨_, hp, ?_⟩ | refine ⟨_, hp, ?_⟩); (try rintro _ rfl)) | (refine wrap_succ ?_; omega))))
    · cases ho : (opV i.op).2.2 with
      | true =>
        have hp := (putLeb_specI (i.good_n hg h1 ho)).toRet
        rw [← Ins.by_n hg h1 ho]
        have hh := has_ok i.op
        rw [ho] at hh
        refine ret_of (nt := 38) (rvs := [.tmp 2]) Try.func19 rfl rfl rfl rfl (fun X => ?_)
        repeat' (first | exact aa | ((conv => whnf) <;> (first | exact sum_le (by have := lb9 (n := i.a.toNat) (by have := i.good_n hg h1 ho; omega); simp only [List.length_singleton]; omega) | (exfalso; exact h1 ‹i.op = 1›) | (exfalso; exact ‹¬True› trivial) | refine And.intro ?_ ?_ | (intro _h; first | contradiction | (try simp only [dd] at _h)) | (refine dt_go ?_) | exact rfl | exact True.intro | exact dkk | exact dks | ((first | refine .inl ⟨_, hk, ?_⟩ | refine ⟨_, hk, ?_⟩); (try rintro _ rfl)) | ((first | refine .inl ⟨_, hf, ?_⟩ | refine ⟨_, hf, ?_⟩); (try rintro _ rfl)) | ((first | refine .inl ⟨_, hh, ?_⟩ | refine ⟨_, hh, ?_⟩); (try rintro _ rfl)) | ((first | refine .inl ⟨_, hp, ?_⟩ | refine ⟨_, hp, ?_⟩); (try rintro _ rfl)) | (refine wrap_succ ?_; omega))))
      | false =>
        rw [← Ins.by_0 hg h1 ho]
        have hh := has_ok i.op
        rw [ho] at hh
        refine ret_of (nt := 38) (rvs := [.tmp 2]) Try.func19 rfl rfl rfl rfl (fun X => ?_)
        repeat' (first | exact aa | ((conv => whnf) <;> (first | (exfalso; exact h1 ‹i.op = 1›) | (exfalso; exact ‹¬True› trivial) | refine And.intro ?_ ?_ | (intro _h; first | contradiction | (try simp only [dd] at _h)) | (refine dt_go ?_) | exact rfl | exact True.intro | exact dkk | exact dks | ((first | refine .inl ⟨_, hk, ?_⟩ | refine ⟨_, hk, ?_⟩); (try rintro _ rfl)) | ((first | refine .inl ⟨_, hf, ?_⟩ | refine ⟨_, hf, ?_⟩); (try rintro _ rfl)) | ((first | refine .inl ⟨_, hh, ?_⟩ | refine ⟨_, hh, ?_⟩); (try rintro _ rfl)) | (refine wrap_succ ?_; omega))))
set_option maxRecDepth 8000 in
set_option maxHeartbeats 4000000 in
theorem insBytesG_impl (i : Ins) (hg : i.good = true) : Ret env.P 29 [.agg i.cs] (fun r => r = .s (baN i.by)) := by
  have hf := fix1_impl (i.good_op hg)
  by_cases h1 : i.op = 1
  · have hp := (putSleb_impl _ (i.good_1 hg h1)).toRet
    rw [← Ins.by_1 hg h1]
    have ho : (opV i.op).2.2 = true := by rw [h1]; rfl
    have hh := hasI_ok i.op
    rw [ho] at hh
    refine ret_of (nt := 34) (rvs := [.tmp 2]) Try.func29 rfl rfl rfl rfl (fun X => ?_)
    repeat' (first | exact aa | ((conv => whnf) <;> (first | exact sum_le (by have := sl10 (i.good_1 hg h1); simp only [List.length_singleton]; omega) | (exfalso; exact ‹¬ i.op = 1› h1) | (exfalso; exact ‹¬True› trivial) | refine And.intro ?_ ?_ | (intro _h; first | contradiction | (try simp only [dd] at _h)) | (refine dt_go ?_) | exact rfl | exact True.intro | exact dkk | exact dks | ((first | refine .inl ⟨_, hf, ?_⟩ | refine ⟨_, hf, ?_⟩); (try rintro _ rfl)) | ((first | refine .inl ⟨_, hh, ?_⟩ | refine ⟨_, hh, ?_⟩); (try rintro _ rfl)) | ((first | refine .inl ⟨_, hp, ?_⟩ | refine ⟨_, hp, ?_⟩); (try rintro _ rfl)) | (refine wrap_succ ?_; omega))))
  · cases ho : (opV i.op).2.2 with
    | true =>
      have hp := (putLeb_implI (i.good_n hg h1 ho)).toRet
      rw [← Ins.by_n hg h1 ho]
      have hh := hasI_ok i.op
      rw [ho] at hh
      refine ret_of (nt := 34) (rvs := [.tmp 2]) Try.func29 rfl rfl rfl rfl (fun X => ?_)
      repeat' (first | exact aa | ((conv => whnf) <;> (first | exact sum_le (by have := lb9 (n := i.a.toNat) (by have := i.good_n hg h1 ho; omega); simp only [List.length_singleton]; omega) | (exfalso; exact h1 ‹i.op = 1›) | (exfalso; exact ‹¬True› trivial) | refine And.intro ?_ ?_ | (intro _h; first | contradiction | (try simp only [dd] at _h)) | (refine dt_go ?_) | exact rfl | exact True.intro | exact dkk | exact dks | ((first | refine .inl ⟨_, hf, ?_⟩ | refine ⟨_, hf, ?_⟩); (try rintro _ rfl)) | ((first | refine .inl ⟨_, hh, ?_⟩ | refine ⟨_, hh, ?_⟩); (try rintro _ rfl)) | ((first | refine .inl ⟨_, hp, ?_⟩ | refine ⟨_, hp, ?_⟩); (try rintro _ rfl)) | (refine wrap_succ ?_; omega))))
    | false =>
      rw [← Ins.by_0 hg h1 ho]
      have hh := hasI_ok i.op
      rw [ho] at hh
      refine ret_of (nt := 34) (rvs := [.tmp 2]) Try.func29 rfl rfl rfl rfl (fun X => ?_)
      repeat' (first | exact aa | ((conv => whnf) <;> (first | (exfalso; exact h1 ‹i.op = 1›) | (exfalso; exact ‹¬True› trivial) | refine And.intro ?_ ?_ | (intro _h; first | contradiction | (try simp only [dd] at _h)) | (refine dt_go ?_) | exact rfl | exact True.intro | exact dkk | exact dks | ((first | refine .inl ⟨_, hf, ?_⟩ | refine ⟨_, hf, ?_⟩); (try rintro _ rfl)) | ((first | refine .inl ⟨_, hh, ?_⟩ | refine ⟨_, hh, ?_⟩); (try rintro _ rfl)) | (refine wrap_succ ?_; omega))))
set_option maxRecDepth 8000 in
theorem insBytes_impl (i : Ins) : Ret env.P 22 [.agg i.cs] (fun r => r = .s (baN i.by)) := by
  have hk := insOk_impl i
  cases hg : i.good with
  | false =>
    rw [hg] at hk
    rw [Ins.by_bad hg]
    refine ret_of (nt := 8) (rvs := [.tmp 2]) Try.func22 rfl rfl rfl rfl (fun X => ?_)
    repeat' (first | exact aa | ((conv => whnf) <;> (first | (exfalso; exact ‹¬True› trivial) | refine And.intro ?_ ?_ | (intro _h; first | contradiction | (try simp only [dd] at _h)) | (refine dt_go ?_) | exact rfl | exact True.intro | exact dkk | exact dks | ((first | refine .inl ⟨_, hk, ?_⟩ | refine ⟨_, hk, ?_⟩); (try rintro _ rfl)) | (refine wrap_succ ?_; omega))))
  | true =>
    rw [hg] at hk
    have hb := insBytesG_impl i hg
    refine ret_of (nt := 8) (rvs := [.tmp 2]) Try.func22 rfl rfl rfl rfl (fun X => ?_)
    repeat' (first | exact aa | ((conv => whnf) <;> (first | (exfalso; exact ‹¬True› trivial) | refine And.intro ?_ ?_ | (intro _h; first | contradiction | (try simp only [dd] at _h)) | (refine dt_go ?_) | exact rfl | exact True.intro | exact dkk | exact dks | ((first | refine .inl ⟨_, hk, ?_⟩ | refine ⟨_, hk, ?_⟩); (try rintro _ rfl)) | ((first | refine .inl ⟨_, hb, ?_⟩ | refine ⟨_, hb, ?_⟩); (try rintro _ rfl)) | (refine wrap_succ ?_; omega))))
end Go.Proofs.Ytfejjddkglkigaa
