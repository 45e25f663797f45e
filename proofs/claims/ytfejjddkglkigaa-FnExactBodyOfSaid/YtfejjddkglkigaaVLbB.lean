/-
  Strings as lists of bytes; numbers that they begin with (plain).
-/
import Derived.Test.YtfejjddkglkigaaVLbA
namespace Go.Proofs.Ytfejjddkglkigaa
open Go Go.RowKit
set_option linter.unusedVariables false
set_option linter.unusedSimpArgs false

def bsN (b : ByteArray) : List Nat := b.data.toList.map UInt8.toNat
def baN (l : List Nat) : ByteArray := ⟨(l.map UInt8.ofNat).toArray⟩
def u8C (n : Nat) : List AV := [.i .u8 (n : Int)]
theorem bsN_len (b : ByteArray) : (bsN b).length = b.size := by
  unfold bsN
  rw [List.length_map, Array.length_toList]
  rfl
theorem bsN_lt {b : ByteArray} : ∀ x ∈ bsN b, x < 256 := fun x hx => by
  obtain ⟨c, _, rfl⟩ := List.mem_map.1 hx
  exact c.toNat_lt
theorem bsN_at (b : ByteArray) (i : Nat) : (bsN b).getD i 0 = (b.data.getD i 0).toNat := by
  unfold bsN
  rw [List.getD_eq_getElem?_getD, List.getElem?_map, Array.getElem?_toList, Array.getD_eq_getD_getElem?]
  cases b.data[i]? <;> rfl
theorem bsN_ba {l : List Nat} (h : ∀ x ∈ l, x < 256) : bsN (baN l) = l := by
  unfold bsN baN
  dsimp only
  rw [List.map_map]
  conv => rhs; rw [← List.map_id l]
  refine List.map_congr_left fun x hx => ?_
  have := h x hx
  show (UInt8.ofNat x).toNat = x
  rw [UInt8.toNat_ofNat']
  omega
theorem baN_bs (b : ByteArray) : baN (bsN b) = b := by
  unfold bsN baN
  rw [List.map_map]
  have : (UInt8.ofNat ∘ UInt8.toNat) = id := by
    funext x
    exact UInt8.ofNat_toNat
  rw [this, List.map_id]
theorem baN_eq {l : List Nat} {b : ByteArray} (h : ∀ x ∈ l, x < 256) : baN l = b ↔ l = bsN b :=
  ⟨fun e => by rw [← e, bsN_ba h], fun e => by rw [e, baN_bs]⟩
theorem bsN_take {b : ByteArray} {k : Nat} (h : k ≤ b.size) : bsN (b.extract 0 k) = (bsN b).take k := by
  unfold bsN
  rw [ByteArray.data_extract, Array.toList_extract, List.map_take]
  simp
theorem bytesOf_u8 (l : List Nat) : bytesOf l.length (elE u8C l) = baN l := by
  unfold bytesOf baN
  congr 2
  refine List.ext_getElem? fun i => ?_
  rw [List.getElem?_map, List.getElem?_map]
  by_cases hi : i < l.length
  · rw [List.getElem?_range hi, List.getElem?_eq_getElem hi, Option.map_some, Option.map_some]
    congr 1
    show UInt8.ofNat (Int.toNat ((l.getD i default : Nat) : Int)) = _
    rw [Int.toNat_natCast, List.getD_eq_getElem?_getD, List.getElem?_eq_getElem hi]
    rfl
  · rw [List.getElem?_eq_none (by rw [List.length_range]; omega), List.getElem?_eq_none (by omega)]
    rfl
theorem lebL_lt : ∀ (n : Nat), ∀ x ∈ lebL n, x < 256 := fun n => by
  induction n using Nat.strongRecOn with
  | ind n ih =>
    intro x hx
    by_cases h : n ≤ 127
    · rw [lebL_small h, List.mem_singleton] at hx
      omega
    · rw [lebL_big h] at hx
      rcases List.mem_cons.1 hx with e | e
      · omega
      · exact ih (n / 128) (by omega) x e
/-- The first byte below 128 among the first m. -/
def fstI (b : ByteArray) (m : Nat) : Option Nat := ((bsN b).take m).findIdx? fun x => decide (x < 128)
structure FstTo (b : ByteArray) (k : Nat) : Prop where
  h : ∀ j, j < k → ¬ (bsN b).getD j 0 < 128
theorem FstTo.zero (b : ByteArray) : FstTo b 0 := ⟨fun j hj => absurd hj (Nat.not_lt_zero _)⟩
theorem FstTo.succ {b : ByteArray} {k : Nat} (h : FstTo b k) (hk : ¬ (bsN b).getD k 0 < 128) : FstTo b (k + 1) := ⟨fun j hj => by
  rcases Nat.lt_or_eq_of_le (Nat.le_of_lt_succ hj) with q | rfl
  · exact h.h j q
  · exact hk⟩
theorem bsN_get {b : ByteArray} {i : Nat} (hi : i < (bsN b).length) : (bsN b)[i] = (bsN b).getD i 0 := by
  rw [List.getD_eq_getElem?_getD, List.getElem?_eq_getElem hi]; rfl
theorem fstI_some {b : ByteArray} {m i : Nat} (hi : i < b.size) (hm : i < m) (h : (bsN b).getD i 0 < 128) (hb : FstTo b i) : fstI b m = some i := by
  unfold fstI
  rw [List.findIdx?_eq_some_iff_getElem]
  have hl : i < ((bsN b).take m).length := by rw [List.length_take, bsN_len]; omega
  refine ⟨hl, ?_, fun j hj => ?_⟩
  · rw [List.getElem_take, bsN_get (by rw [bsN_len]; exact hi)]
    exact decide_eq_true h
  · rw [List.getElem_take, bsN_get (by rw [bsN_len]; omega)]
    simpa using hb.h j hj
theorem fstI_none {b : ByteArray} {m k : Nat} (hb : FstTo b k) (hk : b.size ≤ k ∨ m ≤ k) : fstI b m = none := by
  unfold fstI
  rw [List.findIdx?_eq_none_iff]
  intro x hx
  obtain ⟨j, hj, rfl⟩ := List.mem_iff_getElem.1 hx
  rw [List.length_take, bsN_len] at hj
  rw [List.getElem_take, bsN_get (by rw [bsN_len]; omega)]
  simpa using hb.h j (by omega)
theorem isLeb_of {b : ByteArray} {i : Nat} (hi : i < b.size) (h : (bsN b).getD i 0 < 128) (hb : FstTo b i) : isLeb ((bsN b).take (i + 1)) := by
  have hl : i < (bsN b).length := by rw [bsN_len]; exact hi
  rw [List.take_add_one, List.getElem?_eq_getElem hl]
  refine leb_snoc (fun x hx => ?_) (by rw [bsN_get hl]; exact h)
  obtain ⟨j, hj, rfl⟩ := List.mem_iff_getElem.1 hx
  rw [List.length_take] at hj
  rw [List.getElem_take]
  have h1 := bsN_lt (b := b) _ (List.getElem_mem (show j < (bsN b).length by omega))
  have h2 := hb.h j (by omega)
  rw [← bsN_get (by omega)] at h2
  omega
/-- What GetLeb gives. -/
def getL (b : ByteArray) : Int × Int × Bool := match fstI b 9 with
  | none => (0, 0, false)
  | some i => if i = 0 ∨ ¬ (bsN b).getD i 0 = 0 then ((decL ((bsN b).take (i + 1)) : Nat), (i : Int) + 1, true) else (0, 0, false)
theorem canon {b : ByteArray} {i : Nat} (hi : i < b.size) (h : (bsN b).getD i 0 < 128) (hb : FstTo b i) : baN (lebL (decL ((bsN b).take (i + 1)))) = b.extract 0 (i + 1) ↔ (i = 0 ∨ ¬ (bsN b).getD i 0 = 0) := by
  have hl : i < (bsN b).length := by rw [bsN_len]; exact hi
  rw [baN_eq (lebL_lt _), bsN_take (by omega), leb_iff (isLeb_of hi h hb), List.length_take, show min (i + 1) (bsN b).length = i + 1 by omega, List.getLast?_eq_getElem?, List.length_take, show min (i + 1) (bsN b).length - 1 = i by omega, List.getElem?_take, if_pos (by omega), List.getElem?_eq_getElem hl, bsN_get hl, Option.some_inj]
  constructor
  · rintro (h | h)
    · exact .inl (by omega)
    · exact .inr h
  · rintro (h | h)
    · exact .inl (by omega)
    · exact .inr h
/-- The shortest signed encoding. -/
def slebL (n : Int) : List Nat := if h : -64 ≤ n ∧ n ≤ 63 then [(n % 128).toNat] else ((n % 128).toNat + 128) :: slebL (n / 128)
termination_by n.natAbs
decreasing_by omega
theorem slebL_small {n : Int} (h : -64 ≤ n ∧ n ≤ 63) : slebL n = [(n % 128).toNat] := by rw [slebL, dif_pos h]
theorem slebL_big {n : Int} (h : ¬ (-64 ≤ n ∧ n ≤ 63)) : slebL n = ((n % 128).toNat + 128) :: slebL (n / 128) := by rw [slebL, dif_neg h]
/-! ### Bits -/
theorem and_i64 {n : Int} (h : -9223372036854775808 ≤ n ∧ n ≤ 9223372036854775807) : bits .and .i64 n 127 = n % 128 := by
  have e : bits .and .i64 n 127 = IntKind.i64.wrap ((BitVec.ofInt 64 n &&& BitVec.ofInt 64 127).toNat : Int) := rfl
  have h1 : (BitVec.ofInt 64 n).toNat = (n % 18446744073709551616).toNat := by rw [BitVec.toNat_ofInt]; rfl
  have h2 : (BitVec.ofInt 64 127).toNat = 2 ^ 7 - 1 := by decide
  rw [e, BitVec.toNat_and, h1, h2, Nat.and_two_pow_sub_one_eq_mod, wrap_in (by omega) (by omega)]
  omega
theorem or_u8 {x : Int} (h : 0 ≤ x ∧ x < 128) : bits .or .u8 x 128 = x + 128 := by
  have e : bits .or .u8 x 128 = IntKind.u8.wrap ((BitVec.ofInt 8 x ||| BitVec.ofInt 8 128).toNat : Int) := rfl
  have h1 : (BitVec.ofInt 8 x).toNat = x.toNat := by rw [BitVec.toNat_ofInt]; omega
  have h2 : (BitVec.ofInt 8 128).toNat = 1 * 2 ^ 7 := by decide
  rw [e, BitVec.toNat_or, h1, h2, or_add (by omega), IntKind.wrap_u8]
  omega
end Go.Proofs.Ytfejjddkglkigaa
