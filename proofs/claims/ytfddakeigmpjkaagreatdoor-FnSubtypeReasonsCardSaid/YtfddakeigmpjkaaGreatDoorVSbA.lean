/-
  Subtypes (plain): the first reason why a type may not stand for another one; the order.
-/
import Derived.Test.YtfddakeigmpjkaaGreatDoorVTpA
import Derived.Test.YtfddakeigmpjkaaGreatDoorVSsB
namespace Go.Proofs.YtfddakeigmpjkaaGreatDoor
open Go Go.RowKit
set_option linter.unusedVariables false
set_option linter.unusedSimpArgs false

/-- The first of so many that is there. -/
def fstK {α : Type} (f : Nat → Option α) (k : Nat) : Option α := Nat.rec (motive := fun _ => Option α) none (fun k r => match r with | some x => some x | none => f k) k
theorem fstK_next {α : Type} {f : Nat → Option α} {k : Nat} (h : fstK f k = none) : fstK f (k + 1) = f k := by
  show (match fstK f k with | some x => some x | none => f k) = _
  rw [h]
theorem fstK_some {α : Type} {f : Nat → Option α} {k : Nat} {x : α} (h : fstK f k = some x) : ∀ n, k ≤ n → fstK f n = some x
  | 0, hn => by obtain rfl : k = 0 := by omega
                exact h
  | n + 1, hn => by
    rcases Nat.lt_or_eq_of_le hn with q | rfl
    · show (match fstK f n with | some x => some x | none => f n) = _
      rw [fstK_some h n (Nat.le_of_lt_succ q)]
    · exact h
theorem fstK_none {α : Type} {f : Nat → Option α} : ∀ {n : Nat}, fstK f n = none ↔ ∀ k, k < n → f k = none
  | 0 => ⟨fun _ k hk => absurd hk (Nat.not_lt_zero _), fun _ => rfl⟩
  | n + 1 => by
    constructor
    · intro h k hk
      have hn : fstK f n = none := by
        cases e : fstK f n with
        | none => rfl
        | some x => rw [fstK_some e (n + 1) (Nat.le_succ n)] at h; cases h
      rcases Nat.lt_or_eq_of_le (Nat.le_of_lt_succ hk) with q | rfl
      · exact fstK_none.1 hn k q
      · rw [fstK_next hn] at h; exact h
    · intro h
      rw [fstK_next (fstK_none.2 fun k hk => h k (by omega))]
      exact h n (Nat.lt_succ_self n)
/-- The place of a text in a list, or -1. -/
def isAt (l : List ByteArray) (s : ByteArray) (j : Nat) : Prop := j < l.length ∧ l.getD j default = s ∧ ∀ i, i < j → ¬ l.getD i default = s
open Classical in
noncomputable def plI (l : List ByteArray) (s : ByteArray) : Int := if h : ∃ j, isAt l s j then ((Classical.choose h : Nat) : Int) else -1
theorem isAt_eq {l : List ByteArray} {s : ByteArray} {j k : Nat} (h : isAt l s j) (h' : isAt l s k) : j = k := by
  rcases Nat.lt_trichotomy j k with q | q | q
  · exact absurd h.2.1 (h'.2.2 j q)
  · exact q
  · exact absurd h'.2.1 (h.2.2 k q)
theorem pl_at {l : List ByteArray} {s : ByteArray} {k : Nat} (h : isAt l s k) : plI l s = k := by
  unfold plI
  rw [dif_pos ⟨k, h⟩]
  exact congrArg Nat.cast (isAt_eq (Classical.choose_spec (⟨k, h⟩ : ∃ j, isAt l s j)) h)
theorem pl_mem {l : List ByteArray} {s : ByteArray} : ∀ {k : Nat}, k < l.length → l.getD k default = s → ∃ j, isAt l s j
  | k, hk, he => by
    by_cases h : ∃ i, i < k ∧ l.getD i default = s
    · obtain ⟨i, hi, e⟩ := h
      exact pl_mem (by omega) e
    · exact ⟨k, hk, he, fun i hi e => h ⟨i, hi, e⟩⟩
theorem pl_no {l : List ByteArray} {s : ByteArray} (h : ∀ j, j < l.length → ¬ l.getD j default = s) : plI l s = -1 := by
  unfold plI
  rw [dif_neg]
  rintro ⟨j, hj, e, _⟩
  exact h j hj e
theorem pl_is {l : List ByteArray} {s : ByteArray} (h : ¬ plI l s < 0) : ∃ j : Nat, plI l s = j ∧ isAt l s j := by
  by_cases q : ∃ j, isAt l s j
  · obtain ⟨j, hj⟩ := q
    exact ⟨j, pl_at hj, hj⟩
  · exfalso
    unfold plI at h
    rw [dif_neg q] at h
    omega
theorem pl_neg {l : List ByteArray} {s : ByteArray} (h : plI l s < 0) : ∀ j, j < l.length → ¬ l.getD j default = s := fun j hj e => by
  obtain ⟨k, hk⟩ := pl_mem hj e
  rw [pl_at hk] at h
  omega
/-! Numbers. -/
def numK (k : Int) : Prop := 3 ≤ k ∧ k ≤ 9
instance (k : Int) : Decidable (numK k) := inferInstanceAs (Decidable (_ ∧ _))
def lowK (k : Int) : Int := if k = 4 then -128 else if k = 6 then -32768 else if k = 8 then -2147483648 else if k = 9 then -9223372036854775808 else 0
def highK (k : Int) : Int := if k = 3 then 255 else if k = 4 then 127 else if k = 5 then 65535 else if k = 6 then 32767 else if k = 7 then 4294967295 else if k = 8 then 2147483647 else if k = 9 then 9223372036854775807 else 0
def widK (a b : Int) : Prop := lowK b ≤ lowK a ∧ highK a ≤ highK b
instance (a b : Int) : Decidable (widK a b) := inferInstanceAs (Decidable (_ ∧ _))
/-! Reasons: a kind and a path. -/
abbrev Rsn := Int × ByteArray
def dotL (s t : ByteArray) : ByteArray := s ++ ⟨#[46]⟩ ++ t
def digB (k : Nat) : ByteArray := ⟨#[UInt8.ofNat (48 + k)]⟩
def kidA (a : Typ) (k : Nat) : Typ := a.kids.getD k default
def labA (a : Typ) (k : Nat) : ByteArray := a.labels.getD k default
def orE (x y : Option Rsn) : Option Rsn := match x with | some r => some r | none => y
abbrev Why := Typ → Typ → ByteArray → Option Rsn
def tupW (w : Why) (a b : Typ) (s : ByteArray) : Option Rsn := if a.kids.length = b.kids.length then fstK (fun k => w (kidA a k) (kidA b k) (dotL s (digB k))) a.kids.length else some (3, s)
/-- The labels of a type that another one lacks, or whose types differ. -/
noncomputable def labW (w : Why) (a b : Typ) (s : ByteArray) (kind : Int) (k : Nat) : Option Rsn :=
  if plI b.labels (labA a k) < 0 then some (kind, dotL s (labA a k))
  else if a.kids.length = 0 then none
  else w (kidA a k) (kidA b (plI b.labels (labA a k)).toNat) (dotL s (labA a k))
noncomputable def labsW (w : Why) (a b : Typ) (s : ByteArray) (kind : Int) : Option Rsn := fstK (labW w a b s kind) a.labels.length
noncomputable def whyS (w : Why) (a b : Typ) (s : ByteArray) : Option Rsn :=
  if numK a.kind ∧ numK b.kind then (if widK a.kind b.kind then none else some (2, s))
  else if ¬ a.kind = b.kind then some (1, s)
  else if a.kind = 12 then w (kidA a 0) (kidA b 0) (s ++ ⟨#[91, 93]⟩)
  else if a.kind = 13 then w (kidA a 0) (kidA b 0) (s ++ ⟨#[63]⟩)
  else if a.kind = 14 then orE (w (kidA a 0) (kidA b 0) (s ++ ⟨#[46, 111, 107]⟩)) (w (kidA a 1) (kidA b 1) (s ++ ⟨#[46, 101, 114, 114]⟩))
  else if a.kind = 15 then tupW w a b s
  else if a.kind = 16 then labsW (fun x y s => w y x s) b a s 4
  else if a.kind = 17 ∨ a.kind = 18 ∨ a.kind = 19 then labsW w a b s 5
  else if a.kind = 20 ∨ a.kind = 21 then (if a.name = b.name then none else some (6, s))
  else if a.kind = 22 ∨ a.kind = 23 then (if pb (Typ.sam 100 (kidA a 0) (kidA b 0)) then none else some (3, s))
  else none
noncomputable def whyN (n : Nat) : Why := Nat.rec (motive := fun _ => Why) (fun _ _ _ => none) (fun _ ih => whyS ih) n
theorem whyN_succ (n : Nat) (a b : Typ) (s : ByteArray) : whyN (n + 1) a b s = whyS (whyN n) a b s := rfl
/-- Whether a type may stand for another one. -/
structure mayS (w : Typ → Typ → Prop) (a b : Typ) : Prop where
  num : numK a.kind → numK b.kind → widK a.kind b.kind
  kind : ¬ (numK a.kind ∧ numK b.kind) → a.kind = b.kind
  one : a.kind = b.kind → a.kind = 12 ∨ a.kind = 13 → w (kidA a 0) (kidA b 0)
  two : a.kind = b.kind → a.kind = 14 → w (kidA a 0) (kidA b 0) ∧ w (kidA a 1) (kidA b 1)
  tup : a.kind = b.kind → a.kind = 15 → a.kids.length = b.kids.length ∧ ∀ k, k < a.kids.length → w (kidA a k) (kidA b k)
  rcd : a.kind = b.kind → a.kind = 16 → ∀ k, k < b.labels.length → ∃ j, isAt a.labels (labA b k) j ∧ (b.kids.length = 0 ∨ w (kidA a j) (kidA b k))
  vrt : a.kind = b.kind → a.kind = 17 ∨ a.kind = 18 ∨ a.kind = 19 → ∀ k, k < a.labels.length → ∃ j, isAt b.labels (labA a k) j ∧ (a.kids.length = 0 ∨ w (kidA a k) (kidA b j))
  own : a.kind = b.kind → a.kind = 20 ∨ a.kind = 21 → a.name = b.name
  str : a.kind = b.kind → a.kind = 22 ∨ a.kind = 23 → Typ.sam 100 (kidA a 0) (kidA b 0)
def mayN (n : Nat) : Typ → Typ → Prop := Nat.rec (motive := fun _ => Typ → Typ → Prop) (fun _ _ => True) (fun _ ih => mayS ih) n
theorem labW_none {w : Why} {a b : Typ} {s : ByteArray} {kind : Int} {k : Nat} : labW w a b s kind k = none ↔ ∃ j, isAt b.labels (labA a k) j ∧ (a.kids.length = 0 ∨ w (kidA a k) (kidA b j) (dotL s (labA a k)) = none) := by
  unfold labW
  by_cases h : plI b.labels (labA a k) < 0
  · rw [if_pos h]
    constructor
    · intro q; cases q
    · rintro ⟨j, hj, _⟩
      rw [pl_at hj] at h
      omega
  · rw [if_neg h]
    obtain ⟨j, e, hj⟩ := pl_is h
    rw [e, Int.toNat_natCast]
    by_cases h0 : a.kids.length = 0
    · rw [if_pos h0]
      exact ⟨fun _ => ⟨j, hj, .inl h0⟩, fun _ => rfl⟩
    · rw [if_neg h0]
      constructor
      · exact fun q => ⟨j, hj, .inr q⟩
      · rintro ⟨i, hi, q⟩
        rw [isAt_eq hj hi]
        exact q.resolve_left h0
theorem orE_none {x y : Option Rsn} : orE x y = none ↔ x = none ∧ y = none := by
  cases x with
  | none => exact ⟨fun h => ⟨rfl, h⟩, fun h => h.2⟩
  | some r => exact ⟨fun h => (nomatch h), fun h => (nomatch h.1)⟩
theorem tupW_none {w : Why} {a b : Typ} {s : ByteArray} : tupW w a b s = none ↔ a.kids.length = b.kids.length ∧ ∀ k, k < a.kids.length → w (kidA a k) (kidA b k) (dotL s (digB k)) = none := by
  unfold tupW
  by_cases h : a.kids.length = b.kids.length
  · rw [if_pos h, fstK_none]
    exact ⟨fun q => ⟨h, q⟩, fun q => q.2⟩
  · rw [if_neg h]
    exact ⟨fun q => (nomatch q), fun q => absurd q.1 h⟩
theorem if_none {p : Prop} [Decidable p] {r : Rsn} : (if p then none else some r) = none ↔ p := by
  by_cases h : p
  · rw [if_pos h]; exact ⟨fun _ => h, fun _ => rfl⟩
  · rw [if_neg h]; exact ⟨fun q => (nomatch q), fun q => absurd q h⟩
theorem whyS_may {w : Why} {v : Typ → Typ → Prop} (hw : ∀ a b s, w a b s = none ↔ v a b) (a b : Typ) (s : ByteArray) : whyS w a b s = none ↔ mayS v a b := by
  unfold whyS
  by_cases h1 : numK a.kind ∧ numK b.kind
  · rw [if_pos h1, if_none]
    unfold numK at h1
    refine ⟨fun q => ⟨fun _ _ => q, fun c => absurd h1 c, ?_, ?_, ?_, ?_, ?_, ?_, ?_⟩, fun q => q.num h1.1 h1.2⟩ <;> intro _ e <;> exfalso <;> omega
  rw [if_neg h1]
  have hn : numK a.kind → numK b.kind → widK a.kind b.kind := fun p q => absurd ⟨p, q⟩ h1
  by_cases h2' : ¬ a.kind = b.kind
  · rw [if_pos h2']
    exact ⟨fun q => (nomatch q), fun q => absurd (q.kind h1) h2'⟩
  rw [if_neg h2']
  have h2 : a.kind = b.kind := Classical.not_not.1 h2'
  by_cases h3 : a.kind = 12
  · rw [if_pos h3, hw]
    exact ⟨fun q => ⟨hn, fun _ => h2, fun _ _ => q, fun _ e => absurd e (by omega), fun _ e => absurd e (by omega), fun _ e => absurd e (by omega), fun _ e => absurd e (by omega), fun _ e => absurd e (by omega), fun _ e => absurd e (by omega)⟩, fun q => q.one h2 (.inl h3)⟩
  rw [if_neg h3]
  by_cases h4 : a.kind = 13
  · rw [if_pos h4, hw]
    exact ⟨fun q => ⟨hn, fun _ => h2, fun _ _ => q, fun _ e => absurd e (by omega), fun _ e => absurd e (by omega), fun _ e => absurd e (by omega), fun _ e => absurd e (by omega), fun _ e => absurd e (by omega), fun _ e => absurd e (by omega)⟩, fun q => q.one h2 (.inr h4)⟩
  rw [if_neg h4]
  by_cases h5 : a.kind = 14
  · rw [if_pos h5, orE_none, hw, hw]
    exact ⟨fun q => ⟨hn, fun _ => h2, fun _ e => absurd e (by omega), fun _ _ => q, fun _ e => absurd e (by omega), fun _ e => absurd e (by omega), fun _ e => absurd e (by omega), fun _ e => absurd e (by omega), fun _ e => absurd e (by omega)⟩, fun q => q.two h2 h5⟩
  rw [if_neg h5]
  by_cases h6 : a.kind = 15
  · rw [if_pos h6, tupW_none]
    exact ⟨fun q => ⟨hn, fun _ => h2, fun _ e => absurd e (by omega), fun _ e => absurd e (by omega), fun _ _ => ⟨q.1, fun k hk => (hw _ _ _).1 (q.2 k hk)⟩, fun _ e => absurd e (by omega), fun _ e => absurd e (by omega), fun _ e => absurd e (by omega), fun _ e => absurd e (by omega)⟩, fun q => ⟨(q.tup h2 h6).1, fun k hk => (hw _ _ _).2 ((q.tup h2 h6).2 k hk)⟩⟩
  rw [if_neg h6]
  by_cases h7 : a.kind = 16
  · rw [if_pos h7]
    unfold labsW
    rw [fstK_none]
    refine ⟨fun q => ⟨hn, fun _ => h2, fun _ e => absurd e (by omega), fun _ e => absurd e (by omega), fun _ e => absurd e (by omega), fun _ _ k hk => ?_, fun _ e => absurd e (by omega), fun _ e => absurd e (by omega), fun _ e => absurd e (by omega)⟩, fun q k hk => labW_none.2 ?_⟩
    · obtain ⟨j, hj, r⟩ := labW_none.1 (q k hk)
      exact ⟨j, hj, r.imp_right (hw _ _ _).1⟩
    · obtain ⟨j, hj, r⟩ := q.rcd h2 h7 k hk
      exact ⟨j, hj, r.imp_right (hw _ _ _).2⟩
  rw [if_neg h7]
  by_cases h8 : a.kind = 17 ∨ a.kind = 18 ∨ a.kind = 19
  · rw [if_pos h8]
    unfold labsW
    rw [fstK_none]
    refine ⟨fun q => ⟨hn, fun _ => h2, fun _ e => absurd e (by omega), fun _ e => absurd e (by omega), fun _ e => absurd e (by omega), fun _ e => absurd e (by omega), fun _ _ k hk => ?_, fun _ e => absurd e (by omega), fun _ e => absurd e (by omega)⟩, fun q k hk => labW_none.2 ?_⟩
    · obtain ⟨j, hj, r⟩ := labW_none.1 (q k hk)
      exact ⟨j, hj, r.imp_right (hw _ _ _).1⟩
    · obtain ⟨j, hj, r⟩ := q.vrt h2 h8 k hk
      exact ⟨j, hj, r.imp_right (hw _ _ _).2⟩
  rw [if_neg h8]
  by_cases h9 : a.kind = 20 ∨ a.kind = 21
  · rw [if_pos h9, if_none]
    exact ⟨fun q => ⟨hn, fun _ => h2, fun _ e => absurd e (by omega), fun _ e => absurd e (by omega), fun _ e => absurd e (by omega), fun _ e => absurd e (by omega), fun _ e => absurd e (by omega), fun _ _ => q, fun _ e => absurd e (by omega)⟩, fun q => q.own h2 h9⟩
  rw [if_neg h9]
  by_cases h10 : a.kind = 22 ∨ a.kind = 23
  · rw [if_pos h10, if_none, pb_t]
    exact ⟨fun q => ⟨hn, fun _ => h2, fun _ e => absurd e (by omega), fun _ e => absurd e (by omega), fun _ e => absurd e (by omega), fun _ e => absurd e (by omega), fun _ e => absurd e (by omega), fun _ e => absurd e (by omega), fun _ _ => q⟩, fun q => q.str h2 h10⟩
  rw [if_neg h10]
  exact ⟨fun _ => ⟨hn, fun _ => h2, fun _ e => absurd e (by omega), fun _ e => absurd e (by omega), fun _ e => absurd e (by omega), fun _ e => absurd e (by omega), fun _ e => absurd e (by omega), fun _ e => absurd e (by omega), fun _ e => absurd e (by omega)⟩, fun _ => rfl⟩
theorem why_may : ∀ (n : Nat) (a b : Typ) (s : ByteArray), whyN n a b s = none ↔ mayN n a b
  | 0, _, _, _ => ⟨fun _ => trivial, fun _ => rfl⟩
  | n + 1, a, b, s => whyS_may (why_may n) a b s
/-! The order. -/
theorem sam_refl : ∀ (n : Nat) (a : Typ), Typ.fN n a → Typ.sam n a a
  | 0, _, h => h.elim
  | n + 1, a, h => ⟨rfl, rfl, rfl, rfl, fun k hk => sam_refl n _ (Typ.fN_get.1 h k hk)⟩
theorem sam_trans : ∀ (n : Nat) {a b c : Typ}, Typ.sam n a b → Typ.sam n b c → Typ.sam n a c
  | 0, _, _, _, h, _ => h.elim
  | n + 1, _, _, _, h, k => ⟨h.1.trans k.1, h.2.1.trans k.2.1, h.2.2.1.trans k.2.2.1, h.2.2.2.1.trans k.2.2.2.1, fun j hj => sam_trans n (h.2.2.2.2 j hj) (k.2.2.2.2 j (by rw [← h.2.2.2.1]; exact hj))⟩
theorem isAt_self {l : List ByteArray} (h : l.Nodup) {k : Nat} (hk : k < l.length) : isAt l (l.getD k default) k := ⟨hk, rfl, fun i hi e => by
  rw [List.getD_eq_getElem?_getD, List.getD_eq_getElem?_getD, List.getElem?_eq_getElem hk, List.getElem?_eq_getElem (by omega)] at e
  exact absurd e (List.pairwise_iff_getElem.1 h i k (by omega) hk hi)⟩
theorem fN_le {n : Nat} {a : Typ} (h : Typ.fN n a) : ∀ m, n ≤ m → Typ.fN m a
  | 0, hm => by obtain rfl : n = 0 := by omega
                exact h
  | m + 1, hm => by
    rcases Nat.lt_or_eq_of_le hm with q | rfl
    · exact Typ.fN_up _ _ (fN_le h m (Nat.le_of_lt_succ q))
    · exact h
theorem may_refl : ∀ (n : Nat) (a : Typ), Typ.sh a → Typ.fN n a → n ≤ 100 → mayN n a a
  | 0, _, _, _, _ => trivial
  | n + 1, a, h, hf, hn => by
    have hs := (Typ.sh_eq.1 h).1
    have hk : ∀ k, k < a.kids.length → mayN n (kidA a k) (kidA a k) := fun k hk => may_refl n _ ((Typ.sh_eq.1 h).2 k hk) (Typ.fN_get.1 hf k hk) (by omega)
    refine ⟨fun _ _ => ⟨Int.le_refl _, Int.le_refl _⟩, fun _ => rfl, fun _ e => hk 0 (by rw [(hs.ks.k1 e).1]; exact Nat.one_pos), fun _ e => ⟨hk 0 (by rw [hs.ks.k3 e]; decide), hk 1 (by rw [hs.ks.k3 e]; decide)⟩, fun _ _ => ⟨rfl, hk⟩, fun _ e k hl => ⟨k, isAt_self (hs.l1 (by unfold isLab; omega)).nd hl, ?_⟩, fun _ e k hl => ⟨k, isAt_self (hs.l1 (by unfold isLab; omega)).nd hl, ?_⟩, fun _ _ => rfl, fun _ e => ?_⟩
    · exact .inr (hk k (by rw [(hs.ks.k5 e).1]; exact hl))
    · rcases e with e | e
      · exact .inr (hk k (by rw [hs.ks.k6 e]; exact hl))
      · exact .inl (hs.ks.k7 (by omega)).2
    · have h0 : 0 < a.kids.length := by rw [(hs.ks.k2 e).1]; exact Nat.one_pos
      have hf0 : Typ.fN n (kidA a 0) := Typ.fN_get.1 hf 0 h0
      exact sam_refl 100 _ (fN_le hf0 100 (by omega))
theorem sh_kid {a : Typ} (h : Typ.sh a) {k : Nat} (hk : k < a.kids.length) : Typ.sh (kidA a k) := (Typ.sh_eq.1 h).2 k hk
theorem may_trans : ∀ (n : Nat) {a b c : Typ}, Typ.sh a → Typ.sh b → Typ.sh c → mayN n a b → mayN n b c → mayN n a c
  | 0, _, _, _, _, _, _, _, _ => trivial
  | n + 1, a, b, c, ha, hb, hc, h, k => by
    have sa := (Typ.sh_eq.1 ha).1.ks
    have sb := (Typ.sh_eq.1 hb).1.ks
    have sc := (Typ.sh_eq.1 hc).1.ks
    have h : mayS (mayN n) a b := h
    have k : mayS (mayN n) b c := k
    have ih : ∀ i j l, i < a.kids.length → j < b.kids.length → l < c.kids.length → mayN n (kidA a i) (kidA b j) → mayN n (kidA b j) (kidA c l) → mayN n (kidA a i) (kidA c l) := fun i j l hi hj hl => may_trans n (sh_kid ha hi) (sh_kid hb hj) (sh_kid hc hl)
    have hab : ¬ (numK a.kind ∧ numK b.kind) → a.kind = b.kind := h.kind
    have hbc : ¬ (numK b.kind ∧ numK c.kind) → b.kind = c.kind := k.kind
    have hm : ¬ numK a.kind → a.kind = c.kind → a.kind = b.kind ∧ b.kind = c.kind := fun q e => by
      have e1 := hab fun r => q r.1
      exact ⟨e1, by omega⟩
    refine ⟨fun p q => ?_, fun q => ?_, fun e q => ?_, fun e q => ?_, fun e q => ?_, fun e q i hi => ?_, fun e q i hi => ?_, fun e q => ?_, fun e q => ?_⟩
    · by_cases hn : numK b.kind
      · have h1 := h.num p hn
        have h2 := k.num hn q
        exact ⟨Int.le_trans h2.1 h1.1, Int.le_trans h1.2 h2.2⟩
      · exact absurd ((hab fun r => hn r.2) ▸ p) hn
    · by_cases hn : numK b.kind
      · by_cases hp : numK a.kind
        · exact absurd (hbc (fun r => q ⟨hp, r.2⟩)) (fun r => q ⟨hp, r ▸ hn⟩)
        · exact absurd (hab fun r => hp r.1) (fun r => hp (r ▸ hn))
      · rw [hab fun r => hn r.2, hbc fun r => hn r.1]
    · obtain ⟨e1, e2⟩ := hm (by unfold numK; omega) e
      have l1 := (sa.k1 q).1
      have l2 := (sb.k1 (by omega)).1
      have l3 := (sc.k1 (by omega)).1
      exact ih 0 0 0 (by omega) (by omega) (by omega) (h.one e1 q) (k.one e2 (by omega))
    · obtain ⟨e1, e2⟩ := hm (by unfold numK; omega) e
      have l1 := sa.k3 q
      have l2 := sb.k3 (by omega)
      have l3 := sc.k3 (by omega)
      have t1 := h.two e1 q
      have t2 := k.two e2 (by omega)
      exact ⟨ih 0 0 0 (by omega) (by omega) (by omega) t1.1 t2.1, ih 1 1 1 (by omega) (by omega) (by omega) t1.2 t2.2⟩
    · obtain ⟨e1, e2⟩ := hm (by unfold numK; omega) e
      have t1 := h.tup e1 q
      have t2 := k.tup e2 (by omega)
      exact ⟨t1.1.trans t2.1, fun i hi => ih i i i hi (by omega) (by omega) (t1.2 i hi) (t2.2 i (by omega))⟩
    · obtain ⟨e1, e2⟩ := hm (by unfold numK; omega) e
      obtain ⟨j, hj, r⟩ := k.rcd e2 (by omega) i hi
      obtain ⟨l, hl, r'⟩ := h.rcd e1 q j hj.1
      have eb : labA b j = labA c i := hj.2.1
      rw [eb] at hl
      have l1 := (sa.k5 q).1
      have l2 := (sb.k5 (by omega)).1
      have l3 := (sc.k5 (by omega)).1
      have hj1 := hj.1
      have hl1 := hl.1
      exact ⟨l, hl, .inr (ih l j i (by omega) (by omega) (by omega) (r'.resolve_left (by omega)) (r.resolve_left (by omega)))⟩
    · obtain ⟨e1, e2⟩ := hm (by unfold numK; omega) e
      obtain ⟨j, hj, r⟩ := h.vrt e1 q i hi
      obtain ⟨l, hl, r'⟩ := k.vrt e2 (by omega) j hj.1
      have eb : labA b j = labA a i := hj.2.1
      rw [eb] at hl
      have hj1 := hj.1
      have hl1 := hl.1
      refine ⟨l, hl, ?_⟩
      rcases q with q | q
      · have l1 := sa.k6 q
        have l2 := sb.k6 (by omega)
        have l3 := sc.k6 (by omega)
        exact .inr (ih i j l (by omega) (by omega) (by omega) (r.resolve_left (by omega)) (r'.resolve_left (by omega)))
      · exact .inl (sa.k7 (by omega)).2
    · obtain ⟨e1, e2⟩ := hm (by unfold numK; omega) e
      exact (h.own e1 q).trans (k.own e2 (by omega))
    · obtain ⟨e1, e2⟩ := hm (by unfold numK; omega) e
      exact sam_trans 100 (h.str e1 q) (k.str e2 (by omega))
end Go.Proofs.YtfddakeigmpjkaaGreatDoor
