/-
  Versions: the reference's functions, and what is drawn.
-/
import Derived.Test.YtcmnohbbjkdpdaaDoorVVrC
import Derived.Test.YtcmnohbbjkdpdaaDoorVSrS
namespace Go.Proofs.YtcmnohbbjkdpdaaDoor
open Go Go.RowKit
set_option linter.unusedVariables false
set_option linter.unusedSimpArgs false
attribute [local irreducible] IntKind.wrap

theorem l00In_ok (x lo hi : Int) : Ret env.P 37 [.i .i64 x, .i .i64 lo, .i .i64 hi] (fun r => r = .b (decide (lo ≤ x ∧ x ≤ hi))) := by
  refine ret_of (nt := 15) (rvs := [.tmp 6]) Tryd.func37 rfl rfl rfl rfl (fun X => ?_)
  repeat' (first | exact aa | ((conv => whnf) <;> (first | refine And.intro ?_ ?_ | (intro _h; first | contradiction | (try simp only [dd] at _h)) | (refine dt_go ?_) | exact rfl | exact True.intro | exact dkk | exact dks | (refine wrap_succ ?_; omega))))
  all_goals (refine leaf_b ?_; rw [Bool.eq_iff_iff]; simp at *; omega)
theorem bytes1 {g : Nat → Nat → AV} {z : Int} (h : g 0 0 = .i .u8 z) : Bytes 1 g := ⟨fun i hi => by
  obtain rfl : i = 0 := by omega
  exact ⟨z, h⟩⟩
theorem bytesOf1 {g : Nat → Nat → AV} {z : Nat} (h : g 0 0 = .i .u8 (z : Int)) : bytesOf 1 g = ⟨#[UInt8.ofNat z]⟩ := by
  unfold bytesOf
  simp [h]
  rfl
theorem bytesOf_sz (n : Nat) (g : Nat → Nat → AV) : (bytesOf n g).size = n := by
  unfold bytesOf
  show ((List.range n).map _).length = n
  simp
theorem dec_cat {l : List UInt8} {g : Nat → Nat → AV} {z : Nat} (h : g 0 0 = .i .u8 (z : Int)) : AV.s ((⟨l.toArray⟩ : ByteArray) ++ bytesOf 1 g) = AV.s ⟨(l ++ [UInt8.ofNat z]).toArray⟩ := by
  rw [bytesOf1 h]
  congr 1
theorem dig_eq {n : Int} (h : 0 ≤ n ∧ n < 10) : IntKind.u8.wrap (IntKind.i64.wrap (48 + n)) = ((48 + n.toNat : Nat) : Int) := by
  rw [wrap_in (by omega) (by omega), IntKind.wrap_u8]
  omega
set_option maxRecDepth 8000 in
theorem dec0_ok (n : Nat) (h : n < 10) : Ret env.P 50 [.i .i64 (n : Int)] (fun r => r = .s ⟨(Lib.decDigits n).toArray⟩) := by
  have e : Lib.decDigits n = [UInt8.ofNat (48 + n)] := by rw [Lib.decDigits, dif_pos h]
  have e2 := dig_eq (n := (n : Int)) (by omega)
  rw [Int.toNat_natCast] at e2
  rw [e]
  refine ret_of (nt := 20) (rvs := [.tmp 2]) Tryd.func50 rfl rfl rfl rfl (fun X => ?_)
  repeat' (first | exact aa | ((conv => whnf) <;> (first | exact bytes1 rfl | exact congrArg AV.s (bytesOf1 (congrArg (AV.i .u8) e2)) | refine And.intro ?_ ?_ | (intro _h; first | contradiction | (try simp only [dd] at _h)) | (refine dt_go ?_) | exact rfl | exact True.intro | exact dkk | exact dks | (refine wrap_succ ?_; omega))))
theorem decD_len {n : Nat} : ∀ {k : Nat}, n < 10 ^ (k + 1) → (Lib.decDigits n).length ≤ k + 1
  | 0, h => by rw [Lib.decDigits, dif_pos (by simpa using h)]; exact Nat.le_refl _
  | k + 1, h => by
    rw [Lib.decDigits]
    split
    · simp
    · rename_i q
      have := decD_len (n := n / 10) (k := k) (by rw [Nat.pow_succ] at h; omega)
      rw [List.length_append, List.length_singleton]
      omega
set_option maxRecDepth 8000 in
theorem dec_ok : ∀ (k n : Nat), n < 10 ^ (k + 1) → k ≤ 10 → Ret env.P 50 [.i .i64 (n : Int)] (fun r => r = .s ⟨(Lib.decDigits n).toArray⟩)
  | 0, n, h, _ => dec0_ok n (by simpa using h)
  | k + 1, n, h, hk => by
    by_cases q : n < 10
    · exact dec0_ok n q
    · have ih := dec_ok k (n / 10) (by rw [Nat.pow_succ] at h; omega) (by omega)
      have hn : n < 1000000000000 := Nat.lt_of_lt_of_le h (Nat.pow_le_pow_right (by decide) (show k + 1 + 1 ≤ 12 by omega))
      have e : Lib.decDigits n = Lib.decDigits (n / 10) ++ [UInt8.ofNat (48 + n % 10)] := by rw [Lib.decDigits, dif_neg q]
      have e2 := dig_eq (n := (n : Int).tmod 10) (by rw [Int.tmod_eq_emod_of_nonneg (by omega)]; omega)
      have e3 : ((n : Int).tmod 10).toNat = n % 10 := by rw [Int.tmod_eq_emod_of_nonneg (by omega)]; omega
      rw [e3] at e2
      have e4 : IntKind.i64.wrap ((n : Int).tdiv 10) = ((n / 10 : Nat) : Int) := by rw [Int.tdiv_eq_ediv_of_nonneg (by omega), wrap_in (by omega) (by omega)]; rfl
      rw [← e4] at ih
      have hl := decD_len (n := n / 10) (k := 11) (by omega)
      have hs : (⟨(Lib.decDigits (n / 10)).toArray⟩ : ByteArray).size ≤ 12 := hl
      rw [e]
      refine ret_of (nt := 20) (rvs := [.tmp 2]) Tryd.func50 rfl rfl rfl rfl (fun X => ?_)
      repeat' (first | exact aa | ((conv => whnf) <;> (first | exact bytes1 rfl | (refine le_max ?_; rw [bytesOf_sz]; omega) | exact dec_cat (congrArg (AV.i .u8) e2) | refine And.intro ?_ ?_ | (intro _h; first | contradiction | (try simp only [dd] at _h)) | (refine dt_go ?_) | exact rfl | exact True.intro | exact dkk | exact dks | ((first | refine .inl ⟨_, ih, ?_⟩ | refine ⟨_, ih, ?_⟩); (try rintro _ rfl)) | (refine wrap_succ ?_; omega))))
theorem dec_dg {n : Nat} (h : n < 1000) : Ret env.P 50 [.i .i64 (n : Int)] (fun r => r = .s (dgB n)) := by
  have := dec_ok 10 n (by omega) (by omega)
  rwa [decDigits_dg h] at this
set_option maxRecDepth 8000 in
set_option maxHeartbeats 4000000 in
theorem l02Text_ok (m : Nat) (h : m < 1000000000) : Ret env.P 39 [.i .i64 (m : Int)] (fun r => r = .s (vtext m)) := by
  have t1 : IntKind.i64.wrap ((m : Int).tdiv 1000000) = ((m / 1000000 : Nat) : Int) := by rw [Int.tdiv_eq_ediv_of_nonneg (by omega), wrap_in (by omega) (by omega)]; rfl
  have t3 : ∀ k : Nat, (k : Int).tmod 1000 = ((k % 1000 : Nat) : Int) := fun k => by rw [Int.tmod_eq_emod_of_nonneg (by omega)]; rfl
  have t2 : IntKind.i64.wrap ((m : Int).tdiv 1000) = ((m / 1000 : Nat) : Int) := by rw [Int.tdiv_eq_ediv_of_nonneg (by omega), wrap_in (by omega) (by omega)]; rfl
  have d1 : Ret env.P 50 [.i .i64 (IntKind.i64.wrap ((m : Int).tdiv 1000000))] (fun r => r = .s (dgB (m / 1000000))) := by rw [t1]; exact dec_dg (by omega)
  have d2 : Ret env.P 50 [.i .i64 ((IntKind.i64.wrap ((m : Int).tdiv 1000)).tmod 1000)] (fun r => r = .s (dgB (m / 1000 % 1000))) := by rw [t2, t3]; exact dec_dg (by omega)
  have d3 : Ret env.P 50 [.i .i64 ((m : Int).tmod 1000)] (fun r => r = .s (dgB (m % 1000))) := by rw [t3]; exact dec_dg (by omega)
  have z0 : (⟨#[46]⟩ : ByteArray).size = 1 := rfl
  have z1 := dgB_size (m / 1000000)
  have z2 := dgB_size (m / 1000 % 1000)
  have z3 := dgB_size (m % 1000)
  refine ret_of (nt := 17) (rvs := [.tmp 2]) Tryd.func39 rfl rfl rfl rfl (fun X => ?_)
  repeat' (first | exact aa | ((conv => whnf) <;> (first | (refine le_max ?_; (try simp only [ByteArray.size_append]); omega) | refine And.intro ?_ ?_ | (intro _h; first | contradiction | (try simp only [dd] at _h)) | (refine dt_go ?_) | exact rfl | exact True.intro | exact dkk | exact dks | ((first | refine .inl ⟨_, d1, ?_⟩ | refine ⟨_, d1, ?_⟩); (try rintro _ rfl)) | ((first | refine .inl ⟨_, d2, ?_⟩ | refine ⟨_, d2, ?_⟩); (try rintro _ rfl)) | ((first | refine .inl ⟨_, d3, ?_⟩ | refine ⟨_, d3, ?_⟩); (try rintro _ rfl)) | (refine wrap_succ ?_; omega))))
theorem verOf_spec (n : Int) (h : 0 ≤ n ∧ n < 1000000000) : Ret env.P 39 [.i .i64 n] (fun r => r = .s (vtext n.toNat)) := by
  obtain ⟨m, rfl⟩ := Int.eq_ofNat_of_zero_le h.1
  exact l02Text_ok m (by omega)
end Go.Proofs.YtcmnohbbjkdpdaaDoor
