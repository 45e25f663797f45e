/-
  Numbers of seven bits a byte (plain).
-/
import Derived.Test.YtfejjddkglkigaaVU
namespace Go.Proofs.Ytfejjddkglkigaa
open Go Go.RowKit
set_option linter.unusedVariables false
set_option linter.unusedSimpArgs false

/-- The shortest encoding. -/
def lebL (n : Nat) : List Nat := if h : n ≤ 127 then [n] else (n % 128 + 128) :: lebL (n / 128)
termination_by n
decreasing_by omega
def decL : List Nat → Nat
  | [] => 0
  | b :: l => b % 128 + 128 * decL l
/-- Bytes of which the last alone is below 128. -/
def isLeb : List Nat → Prop
  | [] => False
  | [b] => b < 128
  | b :: c :: l => (128 ≤ b ∧ b < 256) ∧ isLeb (c :: l)
theorem lebL_small {n : Nat} (h : n ≤ 127) : lebL n = [n] := by rw [lebL, dif_pos h]
theorem lebL_big {n : Nat} (h : ¬ n ≤ 127) : lebL n = (n % 128 + 128) :: lebL (n / 128) := by rw [lebL, dif_neg h]
theorem dec_zero : ∀ {l : List Nat}, isLeb l → decL l = 0 → l.getLast? = some 0
  | [], h, _ => h.elim
  | [b], h, e => by
    have h' : b < 128 := h
    have e' : b % 128 + 128 * 0 = 0 := e
    obtain rfl : b = 0 := by omega
    rfl
  | b :: c :: l, h, e => by
    have e' : b % 128 + 128 * decL (c :: l) = 0 := e
    have := dec_zero h.2 (by omega)
    rw [List.getLast?_cons_cons]
    exact this
theorem dec_last : ∀ {l : List Nat}, isLeb l → l.getLast? = some 0 → l.length = 1 ∨ lebL (decL l) ≠ l
  | [], h, _ => h.elim
  | [b], _, _ => .inl rfl
  | b :: c :: l, h, e => .inr fun q => by
    obtain ⟨⟨h1, h2⟩, h3⟩ := h
    rw [List.getLast?_cons_cons] at e
    have q' : lebL (b % 128 + 128 * decL (c :: l)) = b :: c :: l := q
    by_cases hd : decL (c :: l) = 0
    · rw [hd, lebL_small (by omega)] at q'
      exact absurd (congrArg List.length q') (by simp)
    · rw [lebL_big (by omega)] at q'
      have q2 := (List.cons.inj q').2
      rw [show (b % 128 + 128 * decL (c :: l)) / 128 = decL (c :: l) by omega] at q2
      rcases dec_last h3 e with hl | hl
      · have : l = [] := by simpa using hl
        subst this
        have : c = 0 := by simpa using e
        subst this
        exact hd rfl
      · exact hl q2
theorem leb_dec : ∀ {l : List Nat}, isLeb l → (l.length = 1 ∨ ¬ l.getLast? = some 0) → lebL (decL l) = l
  | [], h, _ => h.elim
  | [b], h, _ => by
    have h' : b < 128 := h
    show lebL (b % 128 + 128 * 0) = [b]
    rw [show b % 128 + 128 * 0 = b by omega, lebL_small (by omega)]
  | b :: c :: l, h, e => by
    obtain ⟨⟨h1, h2⟩, h3⟩ := h
    have e' : ¬ (c :: l).getLast? = some 0 := by
      rcases e with e | e
      · simp at e
      · rwa [List.getLast?_cons_cons] at e
    have hd : decL (c :: l) ≠ 0 := fun q => e' (dec_zero h3 q)
    show lebL (b % 128 + 128 * decL (c :: l)) = b :: c :: l
    rw [lebL_big (by omega), show (b % 128 + 128 * decL (c :: l)) / 128 = decL (c :: l) by omega, leb_dec h3 (.inr e')]
    congr 1
    omega
theorem leb_iff {l : List Nat} (h : isLeb l) : lebL (decL l) = l ↔ (l.length = 1 ∨ ¬ l.getLast? = some 0) := by
  refine ⟨fun q => ?_, leb_dec h⟩
  by_cases e : l.getLast? = some 0
  · exact (dec_last h e).imp_right fun r => absurd q r
  · exact .inr e
theorem dec_lt : ∀ (l : List Nat), decL l < 128 ^ l.length
  | [] => Nat.one_pos
  | b :: l => by
    have := dec_lt l
    show b % 128 + 128 * decL l < 128 ^ (l.length + 1)
    rw [Nat.pow_succ]
    omega
theorem dec_snoc : ∀ (l : List Nat) (b : Nat), decL (l ++ [b]) = decL l + 128 ^ l.length * (b % 128)
  | [], b => by show b % 128 + 128 * 0 = 0 + 128 ^ 0 * (b % 128); omega
  | a :: l, b => by
    show a % 128 + 128 * decL (l ++ [b]) = a % 128 + 128 * decL l + 128 ^ (l.length + 1) * (b % 128)
    rw [dec_snoc l b, Nat.pow_succ, Nat.mul_add, Nat.add_assoc, ← Nat.mul_assoc, Nat.mul_comm 128 (128 ^ l.length)]
/-- All but the last at least 128. -/
theorem leb_snoc : ∀ {l : List Nat} {b : Nat}, (∀ x ∈ l, 128 ≤ x ∧ x < 256) → b < 128 → isLeb (l ++ [b])
  | [], b, _, h => h
  | [a], b, hl, h => ⟨hl a (List.mem_singleton.2 rfl), h⟩
  | a :: c :: l, b, hl, h => ⟨hl a List.mem_cons_self, leb_snoc (l := c :: l) (fun x hx => hl x (List.mem_cons_of_mem _ hx)) h⟩
/-- Bits that do not meet. -/
theorem or_add {a b i : Nat} (h : a < 2 ^ i) : a ||| (b * 2 ^ i) = a + 2 ^ i * b := by
  rw [Nat.or_comm, Nat.mul_comm b, ← Nat.two_pow_add_eq_or_of_lt h, Nat.add_comm]

/-! ### The machine's operations on bits -/
theorem or_i64 {a b : Int} (ha : 0 ≤ a ∧ a < 9223372036854775808) (hb : 0 ≤ b ∧ b < 9223372036854775808) : bits .or .i64 a b = ((a.toNat ||| b.toNat : Nat) : Int) := by
  have e : bits .or .i64 a b = IntKind.i64.wrap ((BitVec.ofInt 64 a ||| BitVec.ofInt 64 b).toNat : Int) := rfl
  have h1 : (BitVec.ofInt 64 a).toNat = a.toNat := by rw [BitVec.toNat_ofInt]; omega
  have h2 : (BitVec.ofInt 64 b).toNat = b.toNat := by rw [BitVec.toNat_ofInt]; omega
  have h3 : a.toNat ||| b.toNat < 2 ^ 63 := Nat.or_lt_two_pow (by omega) (by omega)
  rw [e, BitVec.toNat_or, h1, h2, wrap_in (by omega) (by omega)]
theorem or_u64 {a b : Int} (ha : 0 ≤ a ∧ a < 9223372036854775808) (hb : 0 ≤ b ∧ b < 9223372036854775808) : bits .or .u64 a b = ((a.toNat ||| b.toNat : Nat) : Int) := by
  have e : bits .or .u64 a b = IntKind.u64.wrap ((BitVec.ofInt 64 a ||| BitVec.ofInt 64 b).toNat : Int) := rfl
  have h1 : (BitVec.ofInt 64 a).toNat = a.toNat := by rw [BitVec.toNat_ofInt]; omega
  have h2 : (BitVec.ofInt 64 b).toNat = b.toNat := by rw [BitVec.toNat_ofInt]; omega
  have h3 : a.toNat ||| b.toNat < 2 ^ 63 := Nat.or_lt_two_pow (by omega) (by omega)
  rw [e, BitVec.toNat_or, h1, h2, IntKind.wrap_u64]
  omega
theorem and_u8 {x : Int} (h : 0 ≤ x ∧ x < 256) : bits .and .u8 x 127 = x % 128 := by
  have e : bits .and .u8 x 127 = IntKind.u8.wrap ((BitVec.ofInt 8 x &&& BitVec.ofInt 8 127).toNat : Int) := rfl
  have h1 : (BitVec.ofInt 8 x).toNat = x.toNat := by rw [BitVec.toNat_ofInt]; omega
  have h2 : (BitVec.ofInt 8 127).toNat = 2 ^ 7 - 1 := by decide
  rw [e, BitVec.toNat_and, h1, h2, Nat.and_two_pow_sub_one_eq_mod, IntKind.wrap_u8]
  omega
/-- The number so far, the next byte put on. -/
theorem leb_step {l : List Nat} {x : Nat} (hl : l.length ≤ 8) : bits .or .i64 (decL l : Int) (IntKind.i64.wrap ((x % 128 : Nat) * 2 ^ (7 * l.length))) = (decL (l ++ [x]) : Int) := by
  have h1 := dec_lt l
  have hp : (128 : Nat) ^ l.length = 2 ^ (7 * l.length) := by rw [Nat.pow_mul]
  have h8 : (128 : Nat) ^ l.length ≤ 128 ^ 8 := Nat.pow_le_pow_right (by decide) hl
  have hm : x % 128 * 2 ^ (7 * l.length) ≤ 127 * 128 ^ 8 := by
    rw [← hp]
    exact Nat.mul_le_mul (by omega) h8
  have hc : ((x % 128 : Nat) : Int) * 2 ^ (7 * l.length) = ((x % 128 * 2 ^ (7 * l.length) : Nat) : Int) := by push_cast; rfl
  have h9 : (128 : Nat) ^ 8 = 72057594037927936 := by decide
  rw [hc, wrap_in (by omega) (by omega), or_i64 ⟨by omega, by omega⟩ ⟨by omega, by omega⟩, Int.toNat_natCast, Int.toNat_natCast, or_add (by rw [← hp]; exact h1), dec_snoc, hp]
end Go.Proofs.Ytfejjddkglkigaa
