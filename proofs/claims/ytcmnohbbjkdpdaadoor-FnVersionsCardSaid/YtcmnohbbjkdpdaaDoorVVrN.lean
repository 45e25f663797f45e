/-
  Versions in plain: their numbers, ranges, texts (no program in sight).
-/
import Derived.Lib.Split
import Derived.Lib.ParseIntB
import Derived.Lib.ItoaNum
import Derived.WalkKit
namespace Go.Proofs.YtcmnohbbjkdpdaaDoor
open Go
set_option linter.unusedVariables false
set_option linter.unusedSimpArgs false

/-- The decimal digits of a number below 1000. -/
def dg (n : Nat) : List UInt8 := if n < 10 then [UInt8.ofNat (48 + n)] else if n < 100 then [UInt8.ofNat (48 + n / 10), UInt8.ofNat (48 + n % 10)] else [UInt8.ofNat (48 + n / 100), UInt8.ofNat (48 + n / 10 % 10), UInt8.ofNat (48 + n % 10)]
def pdN (l : List UInt8) : Nat := l.foldl (fun n c => 10 * n + (c.toNat - 48)) 0
/-- The number below 1000 with these digits. -/
def pd (l : List UInt8) : Option Nat := if pdN l < 1000 ∧ dg (pdN l) = l then some (pdN l) else none
theorem pd_some {l : List UInt8} {m : Nat} (h : pd l = some m) : m < 1000 ∧ l = dg m := by
  unfold pd at h
  split at h
  · rename_i q
    cases h
    exact ⟨q.1, q.2.symm⟩
  · cases h
theorem pd_dg : ∀ m < 1000, pd (dg m) = some m := by decide +kernel
def okN : Lib.NumEnd Int → Int → Bool
  | .ok v, m => v == m
  | _, _ => false
theorem okN_eq {x : Lib.NumEnd Int} {m : Int} (h : okN x m = true) : x = .ok m := by
  cases x
  · unfold okN at h; rw [beq_iff_eq] at h; rw [h]
  · cases h
  · cases h
theorem parse_dgB : ∀ m < 1000, okN (Lib.parseIntB 64 (dg m)) (m : Nat) = true := by decide +kernel
theorem parse_dg {m : Nat} (h : m < 1000) : Lib.parseIntB 64 (dg m) = .ok (m : Int) := okN_eq (parse_dgB m h)
theorem decDigits_dg {m : Nat} (h : m < 1000) : Lib.decDigits m = dg m := by
  unfold dg
  by_cases h1 : m < 10
  · rw [if_pos h1, Lib.decDigits, dif_pos h1]
  · rw [if_neg h1, Lib.decDigits, dif_neg h1]
    by_cases h2 : m < 100
    · rw [if_pos h2, Lib.decDigits, dif_pos (by omega)]
      rfl
    · rw [if_neg h2, Lib.decDigits, dif_neg (by omega), Lib.decDigits, dif_pos (by omega)]
      rw [Nat.div_div_eq_div_mul]
      rfl
theorem itoa_dg {m : Nat} (h : m < 1000) : Lib.itoa (m : Int) = dg m := by
  unfold Lib.itoa
  rw [if_neg (by omega), Int.toNat_natCast, decDigits_dg h]
def dotB : ByteArray := ⟨#[46]⟩
/-- The pieces between dots. -/
def parts (s : ByteArray) : List ByteArray := Lib.splitB dotB 0 (Lib.countB s dotB) s
def pdB (s : ByteArray) : Option Nat := pd s.data.toList
/-- A version's number. -/
def vnum (s : ByteArray) : Option Nat := match parts s with
  | [p, q, r] => match pdB p, pdB q, pdB r with
    | some a, some b, some c => some ((a * 1000 + b) * 1000 + c)
    | _, _, _ => none
  | _ => none
theorem vnum_lt {s : ByteArray} {n : Nat} (h : vnum s = some n) : n < 1000000000 := by
  unfold vnum at h
  split at h
  · split at h
    · rename_i _ _ _ _ _ _ a b c e1 e2 e3
      cases h
      have := (pd_some e1).1
      have := (pd_some e2).1
      have := (pd_some e3).1
      omega
    · cases h
  · cases h
theorem piece_size (sep : ByteArray) : ∀ (k : Nat) (s : ByteArray) (p : ByteArray), p ∈ Lib.splitB sep 0 k s → p.size ≤ s.size
  | 0, s, p, h => by
    rw [Lib.splitB_zero] at h
    rw [List.mem_singleton.1 h]
    exact Nat.le_refl _
  | k + 1, s, p, h => by
    unfold Lib.splitB at h
    split at h
    · rw [List.mem_singleton.1 h]
      exact Nat.le_refl _
    · rcases List.mem_cons.1 h with rfl | h
      · rw [ByteArray.size_extract]; omega
      · have := piece_size sep k _ p h
        rw [ByteArray.size_extract] at this
        omega
theorem parts_size {s p : ByteArray} (h : p ∈ parts s) : p.size ≤ s.size := piece_size _ _ _ _ h
def dgB (n : Nat) : ByteArray := ⟨(dg n).toArray⟩
/-- A version. -/
def vtext (n : Nat) : ByteArray := dgB (n / 1000000) ++ dotB ++ dgB (n / 1000 % 1000) ++ dotB ++ dgB (n % 1000)
structure Rng where
  low : Int
  below : Int
deriving DecidableEq
def rangeOk (r : Rng) : Bool := decide (0 ≤ r.low ∧ r.low ≤ 999999999) && decide (r.low + 1 ≤ r.below ∧ r.below ≤ 1000000000)
def opEq : ByteArray := ⟨#[61]⟩
def opGt : ByteArray := ⟨#[62]⟩
def opHat : ByteArray := ⟨#[94]⟩
def opTl : ByteArray := ⟨#[126]⟩
def belowN (o : ByteArray) (n : Nat) : Nat :=
  if o = opEq then n + 1 else if o = opGt then 1000000000 else if o = opHat then (if 1000000 ≤ n then n / 1000000 * 1000000 + 1000000 else n / 1000 * 1000 + 1000) else if o = opTl then n / 1000 * 1000 + 1000 else 0
/-- The range of a text. -/
def rangeN (s : ByteArray) : Option Rng := if s.size = 0 then none else match vnum (s.extract 1 s.size) with
  | none => none
  | some n => if belowN (s.extract 0 1) n = 0 then none else some ⟨n, belowN (s.extract 0 1) n⟩
def verOf (n : Int) : ByteArray := if 0 ≤ n ∧ n ≤ 999999999 then vtext n.toNat else ByteArray.empty
def gtB : ByteArray := ⟨#[62]⟩
def ltB : ByteArray := ⟨#[32, 60]⟩
def rtext (r : Rng) : ByteArray := if rangeOk r then
    if belowN opEq r.low.toNat = r.below then opEq ++ verOf r.low
    else if belowN opTl r.low.toNat = r.below then opTl ++ verOf r.low
    else if belowN opHat r.low.toNat = r.below then opHat ++ verOf r.low
    else if belowN opGt r.low.toNat = r.below then opGt ++ verOf r.low
    else gtB ++ verOf r.low ++ ltB ++ verOf r.below
  else ByteArray.empty
def inR (v : ByteArray) (r : Rng) : Bool := match vnum v with
  | none => false
  | some n => rangeOk r && decide (r.low ≤ n ∧ n ≤ r.below - 1)
def meetN (a b : Rng) : Option Rng := if rangeOk a && rangeOk b && decide (max a.low b.low < min a.below b.below) then some ⟨max a.low b.low, min a.below b.below⟩ else none
theorem meet_law (v : ByteArray) (a b : Rng) : (inR v a && inR v b) = (match meetN a b with | none => false | some r => inR v r) := by
  unfold inR meetN
  cases vnum v with
  | none =>
    generalize (if (rangeOk a && rangeOk b && decide (max a.low b.low < min a.below b.below)) = true then some (⟨max a.low b.low, min a.below b.below⟩ : Rng) else none) = q
    cases q <;> rfl
  | some n =>
    by_cases h1 : rangeOk a = true
    · by_cases h2 : rangeOk b = true
      · have e1 := h1
        have e2 := h2
        unfold rangeOk at e1 e2
        simp only [Bool.and_eq_true, decide_eq_true_eq] at e1 e2
        by_cases h3 : max a.low b.low < min a.below b.below
        · have h4 : rangeOk ⟨max a.low b.low, min a.below b.below⟩ = true := by
            unfold rangeOk
            simp only [Bool.and_eq_true, decide_eq_true_eq]
            omega
          simp only [h1, h2, h3, h4, Bool.true_and, decide_true, if_true]
          rw [← Bool.decide_and]
          exact decide_eq_decide.2 (by omega)
        · simp only [h1, h2, h3, Bool.true_and, decide_false, Bool.and_false, if_false, Bool.false_eq_true]
          rw [← Bool.decide_and]
          exact decide_eq_false (by omega)
      · rw [Bool.not_eq_true] at h2
        simp [h2]
    · rw [Bool.not_eq_true] at h1
      simp [h1]
/-! The drawn texts. -/
def someL : List ByteArray := [⟨#[48, 46, 48, 46, 48]⟩, ⟨#[48, 46, 49, 46, 48]⟩, ⟨#[48, 46, 49, 46, 50]⟩, ⟨#[48, 46, 50, 46, 48]⟩, ⟨#[49, 46, 48, 46, 48]⟩, ⟨#[49, 46, 48, 46, 49]⟩, ⟨#[49, 46, 50, 46, 48]⟩, ⟨#[49, 46, 50, 46, 51]⟩, ⟨#[50, 46, 48, 46, 48]⟩, ⟨#[50, 46, 49, 46, 48]⟩, ⟨#[49, 48, 46, 48, 46, 49]⟩, ⟨#[57, 57, 57, 46, 57, 57, 57, 46, 57, 57, 57]⟩, ⟨#[57, 57, 57, 46, 48, 46, 48]⟩]
def oddL : List ByteArray := [⟨#[]⟩, ⟨#[49]⟩, ⟨#[49, 46, 50]⟩, ⟨#[49, 46, 50, 46, 51, 46, 52]⟩, ⟨#[48, 49, 46, 50, 46, 51]⟩, ⟨#[49, 46, 50, 46, 49, 48, 48, 48]⟩, ⟨#[49, 46, 45, 50, 46, 51]⟩, ⟨#[97, 46, 98, 46, 99]⟩, ⟨#[49, 46, 46, 50]⟩, ⟨#[46, 49, 46, 50]⟩, ⟨#[49, 46, 50, 46]⟩, ⟨#[57, 57, 57, 46, 57, 57, 57, 46, 57, 57, 57, 57]⟩, ⟨#[48, 46, 48, 46, 48, 48]⟩, ⟨#[49, 48, 48, 48, 46, 48, 46, 48]⟩, ⟨#[49, 50, 51, 52, 53, 54, 55, 56, 46, 49, 46, 49]⟩]
def opsV : List ByteArray := [⟨#[61]⟩, ⟨#[126]⟩, ⟨#[94]⟩, ⟨#[62]⟩, ⟨#[]⟩, ⟨#[60]⟩, ⟨#[42]⟩, ⟨#[62, 61]⟩]
def opsV4 : List ByteArray := [⟨#[61]⟩, ⟨#[126]⟩, ⟨#[94]⟩, ⟨#[62]⟩]
/-- A range that is parsed comes back from its text. -/
def backB (t : ByteArray) : Bool := match rangeN t with
  | none => true
  | some x => rangeN (rtext x) == some x && rangeOk x && inR (verOf x.low) x
theorem back_ok : ∀ o ∈ opsV, ∀ v ∈ oddL ++ someL, backB (o ++ v) = true := by decide +kernel
theorem vnum_some : ∀ v ∈ someL, (vnum v).isSome = true := by decide +kernel
theorem vnum_odd : ∀ v ∈ oddL, vnum v = none := by decide +kernel
end Go.Proofs.YtcmnohbbjkdpdaaDoor
