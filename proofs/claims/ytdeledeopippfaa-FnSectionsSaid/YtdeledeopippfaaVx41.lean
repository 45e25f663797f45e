/- Texts for VSectionsP. -/
import Derived.Test.YtdeledeopippfaaVx40
namespace Go.Proofs.Ytdeledeopippfaa
open Go Go.RowKit
set_option linter.unusedVariables false
set_option linter.unusedSimpArgs false
set_option maxRecDepth 8000
section
attribute [local irreducible] IntKind.wrap
theorem lebL_isLeb : ∀ n : Nat, isLeb (lebL n) := fun n => by
  induction n using Nat.strongRecOn with
  | ind n ih =>
    by_cases h : n ≤ 127
    · rw [lebL_small h]; show n < 128; omega
    · have e := lebL_big h
      have := ih (n / 128) (by omega)
      cases hq : lebL (n / 128) with
      | nil => rw [hq] at this; exact this.elim
      | cons c l =>
        rw [e, hq]
        rw [hq] at this
        exact ⟨by omega, this⟩
theorem decL_lebL : ∀ n : Nat, decL (lebL n) = n := fun n => by
  induction n using Nat.strongRecOn with
  | ind n ih =>
    by_cases h : n ≤ 127
    · rw [lebL_small h]; show n % 128 + 128 * 0 = n; omega
    · rw [lebL_big h]
      show (n % 128 + 128) % 128 + 128 * decL (lebL (n / 128)) = n
      rw [ih (n / 128) (by omega)]
      omega
structure Ends (l : List Nat) (k : Nat) : Prop where
  len : l.length = k + 1
  hi : ∀ j, j < k → ¬ l.getD j 0 < 128
  lo : l.getD k 0 < 128
theorem isLeb_ends : ∀ {l : List Nat}, isLeb l → Ends l (l.length - 1)
  | [], h => h.elim
  | [b], h => ⟨rfl, fun j hj => absurd hj (Nat.not_lt_zero _), h⟩
  | b :: c :: l, h => by
    obtain ⟨⟨h1, h2⟩, h3⟩ := h
    have q := isLeb_ends h3
    refine ⟨rfl, fun j hj => ?_, q.lo⟩
    cases j with
    | zero => show ¬ b < 128; omega
    | succ j => exact q.hi j (by simp only [List.length_cons] at hj ⊢; omega)
theorem getD_app {l r : List Nat} {j : Nat} (h : j < l.length) : (l ++ r).getD j 0 = l.getD j 0 := by
  rw [List.getD_eq_getElem?_getD, List.getD_eq_getElem?_getD, List.getElem?_append_left h]
theorem Ends.fst {l r : List Nat} {b : ByteArray} {k m : Nat} (h : Ends l k) (hb : bsN b = l ++ r) (hm : k < m) : fstI b m = some k ∧ k < b.size ∧ (bsN b).take (k + 1) = l ∧ (bsN b).getD k 0 = l.getD k 0 ∧ FstTo b k := by
  have hl := h.len
  have hs : k < b.size := by rw [← bsN_len, hb, List.length_append]; omega
  have hF : FstTo b k := ⟨fun j hj => by rw [hb, getD_app (by omega)]; exact h.hi j hj⟩
  refine ⟨fstI_some hs hm (by rw [hb, getD_app (by omega)]; exact h.lo) hF, hs, ?_, by rw [hb, getD_app (by omega)], hF⟩
  rw [hb, List.take_left' hl]
theorem getL_of {n : Nat} {r : List Nat} {b : ByteArray} (hn : n < 9223372036854775808) (hb : bsN b = lebL n ++ r) : getL b = ((n : Int), ((lebL n).length : Int), true) := by
  have h := isLeb_ends (lebL_isLeb n)
  have h9 := lb9 hn
  have hl := h.len
  obtain ⟨e1, e2, e3, e4, e5⟩ := h.fst hb (m := 9) (by omega)
  unfold getL
  rw [e1]
  dsimp only
  have hc := (canon e2 (by rw [e4]; exact h.lo) e5).1 (by
    rw [e3, decL_lebL]
    exact (baN_eq (lebL_lt _)).2 (by rw [bsN_take (by omega), e3]))
  rw [if_pos hc, e3, decL_lebL]
  congr 2
  omega
theorem slebL_ends : ∀ (k : Nat) (n : Int), -(64 * 128 ^ k) ≤ n ∧ n < 64 * 128 ^ k → ∃ m, Ends (slebL n) m ∧ ∀ x ∈ slebL n, x < 256
  | 0, n, h => by
    rw [slebL_small (by omega)]
    exact ⟨0, ⟨rfl, fun j hj => absurd hj (Nat.not_lt_zero _), by show (n % 128).toNat < 128; omega⟩, fun x hx => by rw [List.mem_singleton] at hx; omega⟩
  | k + 1, n, h => by
    by_cases hs : -64 ≤ n ∧ n ≤ 63
    · rw [slebL_small hs]
      exact ⟨0, ⟨rfl, fun j hj => absurd hj (Nat.not_lt_zero _), by show (n % 128).toNat < 128; omega⟩, fun x hx => by rw [List.mem_singleton] at hx; omega⟩
    · rw [slebL_big hs]
      have e : (64 : Int) * 128 ^ (k + 1) = 128 * (64 * 128 ^ k) := by rw [Int.pow_succ]; omega
      rw [e] at h
      obtain ⟨m, q, ql⟩ := slebL_ends k (n / 128) (by omega)
      refine ⟨m + 1, ⟨by rw [List.length_cons, q.len], fun j hj => ?_, q.lo⟩, fun x hx => ?_⟩
      · cases j with
        | zero => show ¬ (n % 128).toNat + 128 < 128; omega
        | succ j => exact q.hi j (by omega)
      · rcases List.mem_cons.1 hx with rfl | hx
        · omega
        · exact ql x hx
theorem slebL_dec : ∀ (k : Nat) (n : Int), -(64 * 128 ^ k) ≤ n ∧ n < 64 * 128 ^ k → (decL (slebL n) : Int) = n + (if n < 0 then 128 ^ (slebL n).length else 0) ∧ (64 ≤ (slebL n).getD ((slebL n).length - 1) 0 ↔ n < 0)
  | 0, n, h => by
    rw [slebL_small (by omega)]
    show ((((n % 128).toNat % 128 + 128 * 0 : Nat) : Int) = n + if n < 0 then 128 ^ 1 else 0) ∧ (64 ≤ (n % 128).toNat ↔ n < 0)
    split <;> omega
  | k + 1, n, h => by
    by_cases hs : -64 ≤ n ∧ n ≤ 63
    · rw [slebL_small hs]
      show ((((n % 128).toNat % 128 + 128 * 0 : Nat) : Int) = n + if n < 0 then 128 ^ 1 else 0) ∧ (64 ≤ (n % 128).toNat ↔ n < 0)
      split <;> omega
    · have e : (64 : Int) * 128 ^ (k + 1) = 128 * (64 * 128 ^ k) := by rw [Int.pow_succ]; omega
      rw [e] at h
      obtain ⟨q1, q2⟩ := slebL_dec k (n / 128) (by omega)
      obtain ⟨m, q, _⟩ := slebL_ends k (n / 128) (by omega)
      have hl := q.len
      rw [slebL_big hs]
      refine ⟨?_, ?_⟩
      · show (((((n % 128).toNat + 128) % 128 + 128 * decL (slebL (n / 128)) : Nat) : Int)) = n + if n < 0 then 128 ^ ((slebL (n / 128)).length + 1) else 0
        rw [Int.pow_succ]
        by_cases hn : n < 0
        · rw [if_pos hn]
          rw [if_pos (by omega)] at q1
          generalize (128 : Int) ^ (slebL (n / 128)).length = P at q1 ⊢
          omega
        · rw [if_neg hn]
          rw [if_neg (by omega)] at q1
          omega
      · rw [List.length_cons, show (slebL (n / 128)).length + 1 - 1 = (slebL (n / 128)).length - 1 + 1 by omega]
        show 64 ≤ (slebL (n / 128)).getD ((slebL (n / 128)).length - 1) 0 ↔ n < 0
        rw [q2]
        omega
theorem slA_dec {b : ByteArray} : ∀ k, k ≤ 9 → k ≤ b.size → slA b k = (decL ((bsN b).take k) : Int)
  | 0, _, _ => rfl
  | k + 1, h, hs => by
    show bits .or .i64 (slA b k) (IntKind.i64.wrap (IntKind.i64.wrap (bits .and .u8 ((b.data.getD k 0).toNat : Int) 127) * 2 ^ min (7 * k) 64)) = _
    have hx : (b.data.getD k 0).toNat < 256 := (b.data.getD k 0).toNat_lt
    have hl : k < (bsN b).length := by rw [bsN_len]; omega
    have hk : ((bsN b).take k).length = k := by rw [List.length_take]; omega
    rw [slA_dec k (by omega) (by omega), and_u8 (by omega), show ((b.data.getD k 0).toNat : Int) % 128 = (((b.data.getD k 0).toNat % 128 : Nat) : Int) by omega, wrap_in (n := (((b.data.getD k 0).toNat % 128 : Nat) : Int)) (by omega) (by omega), List.take_add_one, List.getElem?_eq_getElem hl, bsN_get hl, bsN_at]
    have := leb_step (l := (bsN b).take k) (x := (b.data.getD k 0).toNat) (by omega)
    rw [hk] at this
    rw [show min (7 * k) 64 = 7 * k by omega]
    exact this
theorem or_sign {d m : Nat} (hm : m ≤ 63) (hd : d < 2 ^ m) : bits .or .i64 (d : Int) (IntKind.i64.wrap (-1 * 2 ^ m)) = (d : Int) - 2 ^ m := by
  have hp : (2 : Nat) ^ m ≤ 2 ^ 63 := Nat.pow_le_pow_right (by decide) hm
  have hc : ((2 ^ m : Nat) : Int) = 2 ^ m := by push_cast; rfl
  have h63 : (2 : Nat) ^ 63 = 9223372036854775808 := by decide
  have e : bits .or .i64 (d : Int) (IntKind.i64.wrap (-1 * 2 ^ m)) = IntKind.i64.wrap ((BitVec.ofInt 64 d ||| BitVec.ofInt 64 (IntKind.i64.wrap (-1 * 2 ^ m))).toNat : Int) := rfl
  have hw : IntKind.i64.wrap (-1 * 2 ^ m) = -((2 ^ m : Nat) : Int) := by
    rw [hc, wrap_in (by omega) (by omega)]; omega
  have h1 : (BitVec.ofInt 64 (d : Int)).toNat = d := by rw [BitVec.toNat_ofInt]; omega
  have h2 : (BitVec.ofInt 64 (-((2 ^ m : Nat) : Int))).toNat = 2 ^ 64 - 2 ^ m := by
    rw [BitVec.toNat_ofInt]
    have : 0 < 2 ^ m := Nat.two_pow_pos m
    have h64 : (2 : Nat) ^ 64 = 18446744073709551616 := by decide
    omega
  have h3 : (2 ^ 64 - 2 ^ m : Nat) = (2 ^ (64 - m) - 1) * 2 ^ m := by
    rw [Nat.sub_mul, ← Nat.pow_add, Nat.one_mul, show 64 - m + m = 64 by omega]
  have h4 : d ||| (2 ^ 64 - 2 ^ m) = d + (2 ^ 64 - 2 ^ m) := by
    rw [h3, or_add hd, Nat.mul_comm (2 ^ m)]
  rw [e, hw, BitVec.toNat_or, h1, h2, h4, ← hc]
  have h64 : (2 : Nat) ^ 64 = 18446744073709551616 := by decide
  rw [IntKind.wrap_i64]
  omega
theorem slM_of {a : Int} {r : List Nat} {b : ByteArray} (ha : i64R a) (hb : bsN b = slebL a ++ r) : slM b ((slebL a).length - 1) = a := by
  have ha1 : -(64 * 128 ^ 9) ≤ a ∧ a < 64 * 128 ^ 9 := by
    have : (64 : Int) * 128 ^ 9 = 590295810358705651712 := by decide
    have := ha.1
    have := ha.2
    omega
  obtain ⟨m, q, ql⟩ := slebL_ends 9 a ha1
  obtain ⟨d1, d2⟩ := slebL_dec 9 a ha1
  have hl := q.len
  have h10 := sl10 ha
  have hs : (slebL a).length ≤ b.size := by rw [← bsN_len, hb, List.length_append]; omega
  have hm : (slebL a).length - 1 = m := by omega
  have ht : ∀ j, j ≤ m + 1 → (bsN b).take j = (slebL a).take j := fun j hj => by rw [hb, List.take_append_of_le_length (by omega)]
  have hg : ∀ j, j ≤ m → (b.data.getD j 0).toNat = (slebL a).getD j 0 := fun j hj => by rw [← bsN_at, hb, getD_app (by omega)]
  rw [hm] at d2 ⊢
  have hlt := dec_lt (slebL a)
  unfold slM
  rw [hg m (Nat.le_refl _)]
  by_cases h9 : m < 9
  · have e1 : slA b (m + 1) = (decL (slebL a) : Int) := by
      rw [slA_dec _ (by omega) (by omega), ht _ (Nat.le_refl _), ← hl, List.take_length]
    rw [e1]
    have hp : (128 : Nat) ^ (slebL a).length = 2 ^ (7 * m + 7) := by rw [hl, show (128 : Nat) = 2 ^ 7 by decide, ← Nat.pow_mul]; congr 1
    have hpi : (128 : Int) ^ (slebL a).length = 2 ^ (7 * m + 7) := by
      have := congrArg (fun x : Nat => (x : Int)) hp
      push_cast at this
      exact this
    by_cases hn : a < 0
    · rw [if_pos ⟨h9, d2.2 hn⟩, show min (7 * m + 7) 64 = 7 * m + 7 by omega, or_sign (by omega) (by rw [← hp]; exact hlt), d1, if_pos hn, hpi]
      omega
    · rw [if_neg (fun q => hn (d2.1 q.2)), d1, if_neg hn]
      omega
  · have h9' : m = 9 := by omega
    subst h9'
    rw [if_neg (fun q => absurd q.1 (by decide))]
    have hx : (slebL a).getD 9 0 < 128 := q.lo
    have e9 : slA b 9 = (decL ((slebL a).take 9) : Int) := by rw [slA_dec 9 (by omega) (by omega), ht _ (by omega)]
    have es : slebL a = (slebL a).take 9 ++ [(slebL a).getD 9 0] := by
      have h1 : (slebL a).take 10 = slebL a := by rw [show 10 = (slebL a).length by omega, List.take_length]
      have h2 : 9 < (slebL a).length := by omega
      conv => lhs; rw [← h1, List.take_add_one, List.getElem?_eq_getElem h2]
      rw [List.getD_eq_getElem?_getD, List.getElem?_eq_getElem h2]
      rfl
    have hk : ((slebL a).take 9).length = 9 := by rw [List.length_take]; omega
    have ed := dec_snoc ((slebL a).take 9) ((slebL a).getD 9 0)
    rw [← es, hk] at ed
    have hd := dec_lt ((slebL a).take 9)
    rw [hk] at hd
    have p9 : (128 : Nat) ^ 9 = 9223372036854775808 := by decide
    have p10 : (128 : Int) ^ (9 + 1) = 1180591620717411303424 := by decide
    rw [p9] at ed hd
    rw [hl, p10] at d1
    have e0 : bits .and .u8 ((b.data.getD 9 0).toNat : Int) 127 = (((slebL a).getD 9 0 : Nat) : Int) := by
      rw [hg 9 (Nat.le_refl _), and_u8 (by omega)]; omega
    show bits .or .i64 (slA b 9) (IntKind.i64.wrap (IntKind.i64.wrap (bits .and .u8 ((b.data.getD 9 0).toNat : Int) 127) * 2 ^ min (7 * 9) 64)) = a
    have r1 := ha.1
    have r2 := ha.2
    rw [e9, e0, wrap_in (n := (((slebL a).getD 9 0 : Nat) : Int)) (by omega) (by omega), show (2 : Int) ^ min (7 * 9) 64 = 9223372036854775808 by decide]
    by_cases hn : a < 0
    · rw [if_pos hn] at d1
      have hb9 : (slebL a).getD 9 0 = 127 := by omega
      have ew : IntKind.i64.wrap (((127 : Nat) : Int) * 9223372036854775808) = IntKind.i64.wrap (-1 * 2 ^ 63) := by rw [IntKind.wrap_i64, IntKind.wrap_i64]; decide
      rw [hb9, ew, or_sign (by decide) (by rw [show (2 : Nat) ^ 63 = 9223372036854775808 by decide]; exact hd), show (2 : Int) ^ 63 = 9223372036854775808 by decide]
      omega
    · rw [if_neg hn] at d1
      have hb9 : (slebL a).getD 9 0 = 0 := by omega
      rw [hb9, show IntKind.i64.wrap (((0 : Nat) : Int) * 9223372036854775808) = 0 by rw [IntKind.wrap_i64]; decide, or_i64 ⟨by omega, by omega⟩ ⟨by decide, by decide⟩]
      show ((_ ||| 0 : Nat) : Int) = a
      rw [Nat.or_zero]
      omega
theorem getS_of {a : Int} {r : List Nat} {b : ByteArray} (ha : i64R a) (hb : bsN b = slebL a ++ r) : getS b = (a, ((slebL a).length : Int), true) := by
  have ha1 : -(64 * 128 ^ 9) ≤ a ∧ a < 64 * 128 ^ 9 := by
    have : (64 : Int) * 128 ^ 9 = 590295810358705651712 := by decide
    have := ha.1
    have := ha.2
    omega
  obtain ⟨m, q, ql⟩ := slebL_ends 9 a ha1
  have hl := q.len
  have h10 := sl10 ha
  obtain ⟨e1, e2, e3, e4, e5⟩ := q.fst hb (m := 10) (by omega)
  have es := slM_of ha hb
  rw [show (slebL a).length - 1 = m by omega] at es
  unfold getS
  rw [e1]
  dsimp only
  rw [es, if_pos ((baN_eq ql).2 (by rw [bsN_take (by omega), e3]))]
  congr 2
  omega
theorem opV_no {op : Int} (h : (opV op).2.2 = false) : opV op = (0, 0, false) := by
  unfold opV at h ⊢
  repeat' split at h
  all_goals first
    | exact absurd h (by decide)
    | skip
  simp only [*, if_false, ite_false]
  first
    | rfl
    | (repeat' rw [if_neg (by assumption)])
def Ins.arg (i : Ins) : List Nat := if i.op = 1 then slebL i.a else if (opV i.op).2.2 = true then lebL i.a.toNat else []
theorem Ins.by_arg {i : Ins} (h : i.good = true) : i.by = i.op.toNat :: i.arg := by unfold Ins.by Ins.arg; rw [if_pos h]
theorem Ins.arg_lt {i : Ins} (h : i.good = true) : ∀ x ∈ i.arg, x < 256 := by
  unfold Ins.arg
  split
  · rename_i h1
    have ha := Ins.good_1 h h1
    have : -(64 * 128 ^ 9) ≤ i.a ∧ i.a < 64 * 128 ^ 9 := by
      have : (64 : Int) * 128 ^ 9 = 590295810358705651712 := by decide
      have := ha.1
      have := ha.2
      omega
    obtain ⟨m, q, ql⟩ := slebL_ends 9 i.a this
    exact ql
  · split
    · exact lebL_lt _
    · intro x hx; cases hx
theorem Ins.by_lt {i : Ins} (h : i.good = true) : ∀ x ∈ i.by, x < 256 := by
  rw [Ins.by_arg h]
  intro x hx
  have := Ins.good_op h
  rcases List.mem_cons.1 hx with rfl | hx
  · omega
  · exact Ins.arg_lt h x hx
theorem argV_of {i : Ins} (h : i.good = true) {b : ByteArray} {r : List Nat} (hb : bsN b = i.arg ++ r) : argV i.op b = (i.a, (i.arg.length : Int)) := by
  unfold argV
  unfold Ins.arg at hb ⊢
  by_cases h1 : i.op = 1
  · rw [if_pos h1] at hb
    rw [if_pos h1, if_pos h1, getS_of (Ins.good_1 h h1) hb]
  · rw [if_neg h1] at hb
    rw [if_neg h1, if_neg h1]
    by_cases h2 : (opV i.op).2.2 = true
    · rw [if_pos h2] at hb
      have hr := Ins.good_n h h1 h2
      rw [if_pos h2, if_pos h2, getL_of (by omega) hb]
      show ((i.a.toNat : Int), _) = _
      rw [Int.toNat_of_nonneg hr.1]
    · rw [if_neg h2, if_neg h2]
      have e := opV_no (Bool.eq_false_iff.2 h2)
      have hr := Ins.good_a h
      rw [e] at hr
      have hz : i.a = 0 := by
        have h1 : (0 : Int) ≤ i.a := hr.1
        have h2 : i.a ≤ (0 : Int) := hr.2
        omega
      rw [hz]
      rfl
theorem insV_of {i : Ins} (h : i.good = true) {b : ByteArray} {r : List Nat} (hb : bsN b = i.by ++ r) : insV b = (i, (i.by.length : Int), true) := by
  have ho := Ins.good_op h
  rw [Ins.by_arg h, List.cons_append] at hb
  have hs : 1 ≤ b.size := by rw [← bsN_len, hb]; exact Nat.succ_le_succ (Nat.zero_le _)
  have hh := bsN_head hs
  rw [hb] at hh
  obtain ⟨q1, q2⟩ := List.cons.inj hh
  have eo : opB b = i.op := by
    unfold opB
    rw [← q1, wrap_in (by omega) (by omega)]
    omega
  have ea : argB b = (i.a, (i.arg.length : Int)) := by
    unfold argB
    rw [eo]
    exact argV_of h q2.symm
  have ei : insB b = i := by
    unfold insB
    rw [eo, ea]
  unfold insV
  have en : baN i.by = b.extract 0 (1 + (argB b).2).toNat := by
    rw [baN_eq (Ins.by_lt h), bsN_ext, List.drop_zero, hb, ea, Ins.by_arg h, ← List.cons_append]
    rw [List.take_append_of_le_length (by simp only [List.length_cons]; omega), List.take_of_length_le (by simp only [List.length_cons]; omega)]
  have hne : ¬ baN i.by = ByteArray.empty := fun q => by
    have := congrArg ByteArray.size q
    rw [baN_size, Ins.by_arg h] at this
    exact absurd this (by simp)
  rw [if_neg (by omega), ei, if_neg (fun q => q.elim hne (fun q => q en)), ea]
  congr 2
  rw [Ins.by_arg h, List.length_cons]
  omega
theorem insV_back {b : ByteArray} (h : (insV b).2.2 = true) : (insV b).1.good = true ∧ bsN b = (insV b).1.by ++ (bsN b).drop (insV b).2.1.toNat := by
  unfold insV at h ⊢
  split at h
  · exact absurd h (by decide)
  · rename_i h0
    split at h
    · exact absurd h (by decide)
    · rename_i h1
      rw [if_neg h0, if_neg h1]
      dsimp only
      have hg : (insB b).good = true := by
        cases hg : (insB b).good with
        | true => rfl
        | false => exact absurd (.inl (Ins.by_bad hg)) h1
      refine ⟨hg, ?_⟩
      have e : baN (insB b).by = b.extract 0 (1 + (argB b).2).toNat := Classical.byContradiction fun q => h1 (.inr q)
      rw [baN_eq (Ins.by_lt hg), bsN_ext, List.drop_zero] at e
      rw [e, List.take_append_drop]
theorem bodyW_back (b : ByteArray) : ∀ (k : Nat) (p : Int) (l l' : List Ins) (p' : Int), 0 ≤ p ∧ p ≤ b.size → bodyW b k p l = some (l', p') → ∃ l2, l' = l ++ l2 ∧ l2.length = k ∧ (∀ x ∈ l2, x.good = true) ∧ (0 ≤ p' ∧ p' ≤ b.size) ∧ (bsN b).drop p.toNat = l2.flatMap Ins.by ++ (bsN b).drop p'.toNat
  | 0, p, l, l', p', hp, h => by
    obtain ⟨rfl, rfl⟩ := Prod.mk.inj (Option.some.inj h)
    exact ⟨[], by rw [List.append_nil], rfl, (fun x hx => nomatch hx), hp, rfl⟩
  | k + 1, p, l, l', p', hp, h => by
    unfold bodyW at h
    split at h
    · rename_i hv
      obtain ⟨hg, he⟩ := insV_back hv
      have hm := insV_many (b.extract p.toNat b.size)
      rw [ByteArray.size_extract] at hm
      obtain ⟨l2, e1, e2, e3, e4, e5⟩ := bodyW_back b k _ _ _ _ (by omega) h
      refine ⟨(insV (b.extract p.toNat b.size)).1 :: l2, by rw [e1, List.append_assoc]; rfl, by rw [List.length_cons, e2], fun x hx => ?_, e4, ?_⟩
      · rcases List.mem_cons.1 hx with rfl | hx
        · exact hg
        · exact e3 x hx
      · rw [List.flatMap_cons, List.append_assoc, ← e5, ← bsN_tail]
        conv => lhs; rw [he]
        rw [bsN_tail, List.drop_drop, show (p + (insV (b.extract p.toNat b.size)).2.1).toNat = p.toNat + (insV (b.extract p.toNat b.size)).2.1.toNat by omega]
    · exact absurd h (by simp)
theorem body_back {b : ByteArray} {l : List Ins} (h : bodyV b = some l) : l.length ≤ 120 ∧ CodeTo l l.length ∧ baN (bodyN l) = b := by
  unfold bodyV at h
  split at h
  · rename_i hc
    have hn := getL_nn b
    cases e : bodyW b (getL b).1.toNat (getL b).2.1 [] with
    | none => rw [e] at h; exact absurd h (by simp)
    | some v =>
      obtain ⟨l', p⟩ := v
      rw [e] at h
      dsimp only at h
      split at h
      · rename_i hp
        obtain rfl : l' = l := Option.some.inj h
        obtain ⟨l2, e1, e2, e3, e4, e5⟩ := bodyW_back b _ _ _ _ _ (getL_many b) e
        rw [List.nil_append] at e1
        subst e1
        obtain ⟨c1, c2⟩ := getL_canon hc.1
        refine ⟨by omega, ⟨fun j hj => e3 _ (getD_memS hj)⟩, ?_⟩
        have e6 : bsN b = bodyN l' := by
          unfold bodyN
          rw [e2, c1]
          have ez : (bsN b).drop p.toNat = [] := List.drop_of_length_le (by rw [bsN_len]; omega)
          rw [ez, List.append_nil] at e5
          rw [← e5, List.take_append_drop]
        rw [← e6, baN_bs]
      · exact absurd h (by simp)
  · exact absurd h (by simp)
end
section
attribute [local irreducible] IntKind.wrap
theorem sectionsOf_some {s : ByteArray} (hs : s.size ≤ 1048576) {l : List Section} (h : secAll s = some l) : RetM env.P 16 [] [.s s] (fun r H => r = .tup [.row 0 l.length, .b true] ∧ H = [some (rowL 3 Section.cs l)]) :=
  (sectionsOf_in s hs).mono fun r H ⟨l', b, h1, h2, h3, h4⟩ => by
    cases b with
    | false => exact absurd (h.symm.trans (h4 rfl)) (by simp)
    | true =>
      have := h.symm.trans (h3 rfl)
      cases this
      exact ⟨h1, h2⟩
theorem wk_any (x : AV) : Wk x .any := ⟨fun _ => trivial, fun w S u _ => Conc.any u⟩
theorem sectionsOf_none {s : ByteArray} (hs : s.size ≤ 1048576) (h : secAll s = none) : Ret env.P 16 [.s s] (fun r => r = .tup [.any, .b false]) := by
  refine Ret.ofFrz (RetM.mono (sectionsOf_in s hs) fun r H q => ?_)
  obtain ⟨l', b, h1, h2, h3, h4⟩ := q
  cases b with
  | true => exact absurd (h.symm.trans (h3 rfl)) (by simp)
  | false =>
    subst h1
    exact frz0 (frz_tup (.cons (wk_any _) (.cons (.refl _) .nil))) rfl
theorem sectionsOf_impl_ok (s : ByteArray) (hs : s.size ≤ 1048576) {l : List Section} (h : secAll s = some l) (hz : ¬ 30000 < s.size) : RetM env.P 6 [] [.s s] (fun r H => r = .tup [.row 0 l.length, .i .i64 0] ∧ H = [some (rowL 3 Section.cs l)]) := by
  have hm := sectionsOf_some hs h
  refine ret_ofM (nt := 17) (rvs := [.tmp 2, .tmp 3]) Try.func6 rfl rfl rfl rfl (fun X hX => ?_)
  repeat' (first | omega | (with_reducible show (_ : Int) < _; dsimp only; omega) | (with_reducible show (_ : Nat) ≤ _; dsimp only; omega) | ((with_reducible show SrcOk _ _ _) <;> (first | exact srcOk_1 rfl | exact srcOk_L (fun _ => ⟨rfl, rfl⟩) | exact srcOk_E (fun _ => ⟨rfl, rfl⟩))) | ((conv => whnf) <;> (first | (exfalso; omega) | refine And.intro ?_ ?_ | (intro _h; first | contradiction | (try simp only [dd] at _h)) | (refine dt_go ?_) | exact rfl | exact True.intro | exact dkk | exact dks | (refine .inr (.inl (.inl ⟨[], _, _, _, hm, viewA, ⟨rfl, rfl⟩, ?_⟩)); (rintro _ _ ⟨rfl, rfl⟩) <;> (refine ⟨rfl, _, lokA, ?_⟩)) | (refine wrap_succ ?_; omega))))
  all_goals (conv => whnf)
  all_goals exact endM_pick [0] [some (rowL 3 Section.cs l)] (.tup [.row 0 l.length, .i .i64 0]) (view_of rfl (.cons rfl (.self (rowPl_L fun _ => rfl)) .nil)) rfl rfl (fun k hk => by rw [hX] at hk; exact absurd hk (Nat.not_lt_zero _)) ⟨rfl, rfl⟩
theorem sectionsOf_impl_no (s : ByteArray) (hs : s.size ≤ 1048576) (h : soC s ≠ 0) : Ret env.P 6 [.s s] (fun r => r = .tup [.nils, .i .i64 (soC s)]) := by
  by_cases hz : 30000 < s.size
  · rw [(so_4 hz).2]
    refine ret_of (nt := 17) (rvs := [.tmp 2, .tmp 3]) Try.func6 rfl rfl rfl rfl (fun X => ?_)
    repeat' (first | omega | (with_reducible show (_ : Int) < _; dsimp only; omega) | (with_reducible show (_ : Nat) ≤ _; dsimp only; omega) | ((with_reducible show SrcOk _ _ _) <;> (first | exact srcOk_1 rfl | exact srcOk_L (fun _ => ⟨rfl, rfl⟩) | exact srcOk_E (fun _ => ⟨rfl, rfl⟩))) | ((conv => whnf) <;> (first | (exfalso; omega) | refine And.intro ?_ ?_ | (intro _h; first | contradiction | (try simp only [dd] at _h)) | (refine dt_go ?_) | exact rfl | exact True.intro | exact dkk | exact dks | (refine wrap_succ ?_; omega))))
    all_goals (conv => whnf)
    all_goals trace_state
  · have hn : secAll s = none := by
      cases e : secAll s with
      | none => rfl
      | some l => exact absurd (so_0 hz e).2 h
    rw [(so_18 hz hn).2]
    have hm := sectionsOf_none hs hn
    refine ret_of (nt := 17) (rvs := [.tmp 2, .tmp 3]) Try.func6 rfl rfl rfl rfl (fun X => ?_)
    repeat' (first | omega | (with_reducible show (_ : Int) < _; dsimp only; omega) | (with_reducible show (_ : Nat) ≤ _; dsimp only; omega) | ((with_reducible show SrcOk _ _ _) <;> (first | exact srcOk_1 rfl | exact srcOk_L (fun _ => ⟨rfl, rfl⟩) | exact srcOk_E (fun _ => ⟨rfl, rfl⟩))) | ((conv => whnf) <;> (first | (exfalso; omega) | refine And.intro ?_ ?_ | (intro _h; first | contradiction | (try simp only [dd] at _h)) | (refine dt_go ?_) | exact rfl | exact True.intro | exact dkk | exact dks | ((first | refine .inl ⟨_, hm, ?_⟩ | refine ⟨_, hm, ?_⟩); (try rintro _ rfl)) | (refine wrap_succ ?_; omega))))
    all_goals (conv => whnf)
    all_goals trace_state
end
section
attribute [local irreducible] IntKind.wrap insV getL bodyW
theorem length_ok (b : ByteArray) : Ret env.P 33 [.s b] (fun r => r = .i .i64 b.size) := by
  refine ret_of (nt := 5) (rvs := [.tmp 2]) Try.func33 rfl rfl rfl rfl (fun X => ?_)
  repeat' (first | omega | (with_reducible show (_ : Int) < _; dsimp only; omega) | (with_reducible show (_ : Nat) ≤ _; dsimp only; omega) | ((with_reducible show SrcOk _ _ _) <;> (first | exact srcOk_1 rfl | exact srcOk_L (fun _ => ⟨rfl, rfl⟩) | exact srcOk_E (fun _ => ⟨rfl, rfl⟩))) | ((conv => whnf) <;> (first | refine And.intro ?_ ?_ | (intro _h; first | contradiction | (try simp only [dd] at _h)) | (refine dt_go ?_) | exact rfl | exact True.intro | exact dkk | exact dks | (refine wrap_succ ?_; omega))))
set_option maxHeartbeats 4000000 in
theorem bodyOf_impl (b : ByteArray) (hs : b.size ≤ 1048576) : RetM env.P 12 [] [.s b] (fun r H => bodyP (bodyV b) r H) := by
  have hG : Ret env.P 28 [.s b] (fun r => r = .tup [.i .i64 (getL b).1, .i .i64 (getL b).2.1, .b (getL b).2.2]) := getLeb_impl b hs
  have hO : ∀ p : Int, Ret env.P 10 [.s (b.extract p.toNat b.size)] (fun r => r = .tup [.agg (insV (b.extract p.toNat b.size)).1.cs, .i .i64 (insV (b.extract p.toNat b.size)).2.1, .b (insV (b.extract p.toNat b.size)).2.2]) := fun p => insOf_impl _ (by rw [ByteArray.size_extract]; omega)
  have hn := getL_nn b
  refine ret_ofPM (nt := 50) (rvs := [.tmp 2, .tmp 3]) Try.func12 rfl rfl rfl rfl (fun X hX => ?_)
  refine pw_cut 4 (fun _ : Unit => (getL b).2.2 = true ∧ (getL b).1 ≤ 120) (fun _ => [(0, .s b), (4, .i .i64 (getL b).1), (5, .i .i64 (getL b).2.1), (7, .row 0 0)]) (fun _ => [some (rowL 2 Ins.cs [])]) ?_ (fun _ hc => ?_)
  · repeat' (first | omega | (with_reducible show (_ : Int) < _; dsimp only; omega) | (with_reducible show (_ : Nat) ≤ _; dsimp only; omega) | ((with_reducible show SrcOk _ _ _) <;> (first | exact srcOk_1 rfl | exact srcOk_L (fun _ => ⟨rfl, rfl⟩) | exact srcOk_E (fun _ => ⟨rfl, rfl⟩))) | ((conv => whnf) <;> (first | refine And.intro ?_ ?_ | (intro _h; first | contradiction | (try simp only [dd] at _h)) | (refine dt_go ?_) | exact rfl | exact True.intro | exact dkk | exact dks | ((first | refine .inl ⟨_, hG, ?_⟩ | refine ⟨_, hG, ?_⟩); (try rintro _ rfl)) | (refine wrap_succ ?_; omega))))
    · conv => whnf
      refine endM_pick [] [] (.tup [.nils, .kb false]) (view_of rfl .nil) rfl rfl (fun k hk => by rw [hX] at hk; exact absurd hk (Nat.not_lt_zero _)) ?_
      rw [body_no2 ‹_›]
      exact ⟨rfl, rfl⟩
    · conv => whnf
      refine cut_turn (turn_eq (id := 0) (x := rowL 2 Ins.cs []) rfl rfl rfl rfl rfl (fun i j hi _ => absurd hi (Nat.not_lt_zero _))) ?_
      exact cut_go () ⟨by simp_all, by omega⟩ (by repeat' (first | exact trivial | refine And.intro rfl ?_)) (by repeat' (first | exact trivial | refine And.intro (.inl rfl) ?_ | refine And.intro (.inr rfl) ?_ | refine And.intro rfl ?_))
    · conv => whnf
      refine endM_pick [] [] (.tup [.nils, .kb false]) (view_of rfl .nil) rfl rfl (fun k hk => by rw [hX] at hk; exact absurd hk (Nat.not_lt_zero _)) ?_
      rw [body_no1 (by simp_all)]
      exact ⟨rfl, rfl⟩
  obtain ⟨hc1, hc2⟩ := hc
  refine wpc_ok _ _ _ _ ?_
  (try dsimp only)
  conv => whnf
  refine loopFT (fun y : BdS => [(25, .i .i64 (y.k : Int)), (5, .i .i64 y.p), (7, .row 0 y.l.length)]) (fun y => [some (.arr ⟨2, y.l.length, elE Ins.cs y.l, .arr⟩)]) (fun y => BdI b (getL b).1.toNat y) (fun y => (getL b).1.toNat - y.k) ⟨0, (getL b).2.1, []⟩ ⟨.zero b _, ?_⟩
  repeat' (first | omega | (with_reducible show (_ : Int) < _; dsimp only; omega) | (with_reducible show (_ : Nat) ≤ _; dsimp only; omega) | ((with_reducible show SrcOk _ _ _) <;> (first | exact srcOk_1 rfl | exact srcOk_L (fun _ => ⟨rfl, rfl⟩) | exact srcOk_E (fun _ => ⟨rfl, rfl⟩))) | ((conv => whnf) <;> (first | exact lbz_zero rfl rfl | exact low_cells rfl | exact lbz_capB ((‹BdI b _ _›).len (by omega)) (show 16 ≤ 1000 by decide) | exact Nat.le_trans (Nat.succ_le_succ ((‹BdI b _ _›).len (by omega))) (by decide) | (have := (‹BdI b _ _›).hp; refine ⟨?_, ?_⟩ <;> omega) | refine And.intro ?_ ?_ | (intro _h; first | contradiction | (try simp only [dd] at _h)) | (refine dt_go ?_) | exact rfl | exact True.intro | exact dkk | exact dks | ((first | refine .inl ⟨_, hO _, ?_⟩ | refine ⟨_, hO _, ?_⟩); (try rintro _ rfl)) | ((first | refine .inl ⟨_, length_ok b, ?_⟩ | refine ⟨_, length_ok b, ?_⟩); (try rintro _ rfl)) | (refine wrap_succ ?_; omega))))
  · rename_i y hy _
    conv => whnf
    refine endM_pick [] [] (.tup [.nils, .kb false]) (view_of rfl .nil) rfl rfl (fun k hk => by rw [hX] at hk; exact absurd hk (Nat.not_lt_zero _)) ?_
    rw [body_no3 (hy.none (by omega) (by simp_all))]
    exact ⟨rfl, rfl⟩
  · rename_i y hy _
    conv => whnf
    refine roundET_turn (turn_eq (id := 3) (x := rowL 2 Ins.cs (y.l ++ [(insV (b.extract y.p.toNat b.size)).1])) rfl rfl lbz_len.symm rfl rfl (snoc_eq (l := y.l) (sz := 2) (a := (insV (b.extract y.p.toNat b.size)).1) (c := Ins.cs) rfl (fun j hj => ?_))) ?_
    · have hj2 : j = 0 ∨ j = 1 := by omega
      rcases hj2 with rfl | rfl <;> exact .refl _
    refine roundET_end ?_
    refine ⟨⟨y.k + 1, y.p + (insV (b.extract y.p.toNat b.size)).2.1, y.l ++ [(insV (b.extract y.p.toNat b.size)).1]⟩, [3], hy.next (by omega) (by simp_all), ?_, ?_⟩
    · dsimp only; omega
    repeat' (first | omega | (with_reducible show (_ : Int) < _; dsimp only; omega) | (with_reducible show (_ : Nat) ≤ _; dsimp only; omega) | ((with_reducible show SrcOk _ _ _) <;> (first | exact srcOk_1 rfl | exact srcOk_L (fun _ => ⟨rfl, rfl⟩) | exact srcOk_E (fun _ => ⟨rfl, rfl⟩))) | ((conv => whnf) <;> (first | exact arr_same rfl rfl (fun a j => low_cells rfl) | exact low_cells rfl | exact lbz_len | (have := hy.many; have := hy.hp; exact wrap_in (by omega) (by omega)) | (have := hy.hk; exact wrap_in (by omega) (by omega)) | exact lbz_rho hX ‹_› | refine And.intro ?_ ?_ | (intro _h; first | contradiction | (try simp only [dd] at _h)) | (refine dt_go ?_) | exact rfl | exact True.intro | exact dkk | exact dks | (refine wrap_succ ?_; omega))))
  · rename_i y hy _
    conv => whnf
    refine endM_pick [] [] (.tup [.nils, .kb false]) (view_of rfl .nil) rfl rfl (fun k hk => by rw [hX] at hk; exact absurd hk (Nat.not_lt_zero _)) ?_
    rw [body_no4 (hy.last (by omega)) ‹_›]
    exact ⟨rfl, rfl⟩
  · rename_i y hy _
    conv => whnf
    refine endM_pick [0] [some (rowL 2 Ins.cs y.l)] (.tup [.row 0 y.l.length, .kb true]) (view_of rfl (.cons rfl (.self (rowPl_L fun _ => rfl)) .nil)) rfl rfl (fun k hk => by rw [hX] at hk; exact absurd hk (Nat.not_lt_zero _)) ?_
    rw [body_yes hc1 hc2 (hy.last (by omega)) ‹_›]
    exact ⟨rfl, rfl⟩
end
end Go.Proofs.Ytdeledeopippfaa
