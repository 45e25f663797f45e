/-
  Texts that are marks, as the laws make them.
-/
import Derived.Test.YtgjihfinbaopcaaVTOwn
import Derived.Test.YtgjihfinbaopcaaVTStringS
namespace Go.Proofs.Ytgjihfinbaopcaa
open Go Go.RowKit
set_option linter.unusedVariables false
set_option linter.unusedSimpArgs false
attribute [local irreducible] IntKind.wrap

/-- The rest of a number and its digits so far. -/
def mst (k : Int) : Nat → Int × ByteArray
  | 0 => (k, ⟨#[]⟩)
  | i + 1 => if 0 < (mst k i).1 then ((mst k i).1 / 10, (⟨#[UInt8.ofNat (48 + ((mst k i).1 % 10).toNat)]⟩ : ByteArray) ++ (mst k i).2) else mst k i
theorem mst_succ {k : Int} {i : Nat} (h : 0 < (mst k i).1) : mst k (i + 1) = ((mst k i).1 / 10, (⟨#[UInt8.ofNat (48 + ((mst k i).1 % 10).toNat)]⟩ : ByteArray) ++ (mst k i).2) := if_pos h
theorem mst_stay {k : Int} {i : Nat} (h : ¬ 0 < (mst k i).1) : ∀ j, i ≤ j → mst k j = mst k i
  | 0, hj => by obtain rfl : i = 0 := by omega
                rfl
  | j + 1, hj => by
    rcases Nat.lt_or_eq_of_le hj with q | rfl
    · have e := mst_stay h j (by omega)
      show (if 0 < (mst k j).1 then _ else mst k j) = _
      rw [e, if_neg h]
    · rfl
theorem mst_lo {k : Int} (h : 0 ≤ k) : ∀ i, 0 ≤ (mst k i).1
  | 0 => h
  | i + 1 => by
    have ih := mst_lo h i
    show 0 ≤ (if 0 < (mst k i).1 then _ else mst k i).1
    split
    · dsimp only; omega
    · exact ih
theorem mst_hi {k : Int} (h : 0 ≤ k) : ∀ i, (mst k i).1 ≤ k
  | 0 => Int.le_refl _
  | i + 1 => by
    have ih := mst_hi h i
    have lo := mst_lo h i
    show (if 0 < (mst k i).1 then _ else mst k i).1 ≤ _
    split
    · dsimp only; omega
    · exact ih
theorem mst_pow {k : Int} (h : 0 ≤ k) : ∀ i, 0 < (mst k i).1 → 10 ^ i * (mst k i).1 ≤ k
  | 0, _ => by show 1 * k ≤ k; omega
  | i + 1, q => by
    have ih := mst_pow h i
    by_cases p : 0 < (mst k i).1
    · have ih := ih p
      rw [mst_succ p]
      dsimp only
      have e : (10 : Int) ^ (i + 1) * ((mst k i).1 / 10) = 10 ^ i * (10 * ((mst k i).1 / 10)) := by rw [Int.pow_succ, Int.mul_assoc]
      rw [e]
      refine Int.le_trans (Int.mul_le_mul_of_nonneg_left ?_ (Int.le_of_lt (Int.pow_pos (by decide)))) ih
      omega
    · rw [mst_stay p (i + 1) (by omega)] at q
      exact absurd q p
theorem mst_lt {k : Int} (h : 0 ≤ k) (hk : k ≤ 4611686018427387904) {i : Nat} (q : 0 < (mst k i).1) : i < 19 := by
  have h1 := mst_pow h i q
  have h2 : (10 : Int) ^ i ≤ 10 ^ i * (mst k i).1 := by
    have : (10 : Int) ^ i * 1 ≤ 10 ^ i * (mst k i).1 := Int.mul_le_mul_of_nonneg_left (by omega) (Int.le_of_lt (Int.pow_pos (by decide)))
    omega
  apply Nat.lt_of_not_le
  intro hc
  have h3 : (10 : Nat) ^ 19 ≤ 10 ^ i := Nat.pow_le_pow_right (by decide) hc
  have h4 : ((10 ^ i : Nat) : Int) = (10 : Int) ^ i := by norm_cast
  have h5 : (10 : Nat) ^ 19 = 10000000000000000000 := by decide
  omega
theorem mst_sz {k : Int} : ∀ i, (mst k i).2.size ≤ i
  | 0 => Nat.le_refl _
  | i + 1 => by
    have ih := mst_sz (k := k) i
    show (if 0 < (mst k i).1 then _ else mst k i).2.size ≤ _
    split
    · dsimp only
      rw [ByteArray.size_append]
      have : (⟨#[UInt8.ofNat (48 + ((mst k i).1 % 10).toNat)]⟩ : ByteArray).size = 1 := rfl
      omega
    · omega
def mtxt (k : Int) : ByteArray := if k ≤ 0 then ⟨#[109, 48]⟩ else (⟨#[109]⟩ : ByteArray) ++ (mst k 19).2
theorem tbytes1 {g : Nat → Nat → AV} {z : Int} (h : g 0 0 = .i .u8 z) : Bytes 1 g := ⟨fun i hi => by
  obtain rfl : i = 0 := by omega
  exact ⟨z, h⟩⟩
theorem tbytesOf1 {g : Nat → Nat → AV} {z : Nat} (h : g 0 0 = .i .u8 (z : Int)) : bytesOf 1 g = ⟨#[UInt8.ofNat z]⟩ := by
  unfold bytesOf
  simp [h]
  rfl
theorem tbytesOf_sz (n : Nat) (g : Nat → Nat → AV) : (bytesOf n g).size = n := by
  unfold bytesOf
  show ((List.range n).map _).length = n
  simp
theorem tdig_eq {n : Int} (h : 0 ≤ n ∧ n < 10) : IntKind.u8.wrap (IntKind.i64.wrap (48 + n)) = ((48 + n.toNat : Nat) : Int) := by
  rw [wrap_in (by omega) (by omega), IntKind.wrap_u8]
  omega
theorem tle_max {n : Nat} (h : n ≤ 1000000000) : n ≤ maxLen := Nat.le_trans h (by decide)
theorem mcat {m : Int} {y : ByteArray} {g : Nat → Nat → AV} (h0 : 0 ≤ m) (h : g 0 0 = .i .u8 (IntKind.u8.wrap (IntKind.i64.wrap (48 + m.tmod 10)))) : AV.s (bytesOf 1 g ++ y) = AV.s ((⟨#[UInt8.ofNat (48 + (m % 10).toNat)]⟩ : ByteArray) ++ y) := by
  rw [Int.tmod_eq_emod_of_nonneg h0, tdig_eq (by omega)] at h
  rw [tbytesOf1 h]
set_option maxRecDepth 8000 in
theorem markText_ok (k : Int) (h0 : 0 ≤ k) (hk : k ≤ 4611686018427387904) : Ret env.P 42 [.i .i64 k] (fun r => r = .s (mtxt k)) := by
  refine ret_of (nt := 20) (rvs := [.tmp 2]) Try.func42 rfl rfl rfl rfl (fun X => ?_)
  repeat' (first | exact aa | ((conv => whnf) <;> (first | refine loopN 19 (fun i => [(0, .i .i64 (mst k i).1), (3, .s (mst k i).2)]) (fun i => []) (fun i => True) ⟨trivial, ?_⟩ | exact tbytes1 rfl | refine And.intro ?_ ?_ | (intro _h; first | contradiction | (try simp only [dd] at _h)) | (refine dt_go ?_) | exact rfl | exact True.intro | exact dkk | exact dks | (refine wrap_succ ?_; omega))))
  · repeat' (first | exact aa | ((conv => whnf) <;> (first | refine And.intro ?_ ?_ | (intro _h; first | contradiction | (try simp only [dd] at _h)) | (refine dt_go ?_) | exact rfl | exact True.intro | exact dkk | exact dks | (refine wrap_succ ?_; omega))))
    exact congrArg AV.s (if_pos (by assumption)).symm
  · rename_i i _ _
    refine tle_max ?_
    have := mst_sz (k := k) i
    rw [tbytesOf_sz]
    omega
  · exact mst_lt h0 hk (by assumption)
  · rename_i i _ _
    rw [mst_succ (by assumption)]
    have := mst_lo h0 i
    have := mst_hi h0 i
    rw [Int.tdiv_eq_ediv_of_nonneg (by omega), wrap_in (by omega) (by omega)]
  · rename_i i _ _
    conv => whnf
    rw [mst_succ (by assumption)]
    refine AV.s.inj (mcat (mst_lo h0 i) ?_)
    rfl
  · rename_i i _ _
    refine tle_max ?_
    have := mst_sz (k := k) i
    have : (⟨#[109]⟩ : ByteArray).size = 1 := rfl
    omega
  · rename_i i hi _
    have hk0 : ¬ k ≤ 0 := by assumption
    conv => whnf
    refine congrArg AV.s ?_
    unfold mtxt
    rw [if_neg hk0, mst_stay (by assumption) 19 hi]
end Go.Proofs.Ytgjihfinbaopcaa
