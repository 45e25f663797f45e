/-
  Shelves that are read: owners, borrows, typed entries. Plain Lean, no program in sight.
-/
import Derived.Test.YtaiohiincgpomaaVShP
namespace Go.Proofs.Ytaiohiincgpomaa
open Go Go.RowKit
set_option linter.unusedVariables false
set_option linter.unusedSimpArgs false

/-! ### The own entry of a thing -/
def Shelf.isOwn (s : Shelf) (id : Int) (i k : Nat) : Prop := i < s.tables.length ∧ k < (s.tables.getD i default).entries.length ∧ ((s.tables.getD i default).entries.getD k default).own = true ∧ ((s.tables.getD i default).entries.getD k default).id = id
def Shelf.fstOwn (s : Shelf) (id : Int) (i k : Nat) : Prop := s.isOwn id i k ∧ ∀ i' k', s.isOwn id i' k' → i < i' ∨ i = i' ∧ k ≤ k'
structure Shelf.UpW (s : Shelf) (id : Int) (i k : Nat) : Prop where
  h : ∀ i' k', s.isOwn id i' k' → i < i' ∨ i = i' ∧ k ≤ k'
theorem Shelf.upW_zero (s : Shelf) (id : Int) : s.UpW id 0 0 := ⟨fun _ _ _ => by omega⟩
theorem Shelf.upW_succ {s : Shelf} {id : Int} {i k : Nat} (h : s.UpW id i k) (hn : ¬ (((s.tables.getD i default).entries.getD k default).own = true ∧ ((s.tables.getD i default).entries.getD k default).id = id)) : s.UpW id i (k + 1) := ⟨fun i' k' q => by
  rcases h.h i' k' q with q1 | ⟨rfl, q2⟩
  · exact .inl q1
  · rcases Nat.lt_or_eq_of_le q2 with q3 | rfl
    · exact .inr ⟨rfl, q3⟩
    · exact absurd q.2.2 hn⟩
theorem Shelf.upW_next {s : Shelf} {id : Int} {i k : Nat} (h : s.UpW id i k) (hn : ¬ k < (s.tables.getD i default).entries.length) : s.UpW id (i + 1) 0 := ⟨fun i' k' q => by
  rcases h.h i' k' q with q1 | ⟨rfl, q2⟩
  · rcases Nat.lt_or_eq_of_le (Nat.succ_le_of_lt q1) with q3 | q3
    · exact .inl q3
    · exact .inr ⟨q3, Nat.zero_le _⟩
  · exact absurd q.2.1 (by omega)⟩
noncomputable def Shelf.ownV (s : Shelf) (id : Int) : Int × Int × Bool :=
  haveI := Classical.propDecidable (∃ p : Nat × Nat, s.fstOwn id p.1 p.2)
  if h : ∃ p : Nat × Nat, s.fstOwn id p.1 p.2 then ((Classical.choose h).1, ((s.tables.getD (Classical.choose h).1 default).entries.getD (Classical.choose h).2 default).num, true) else (0, 0, false)
theorem ownV_some {s : Shelf} {id : Int} {i k : Nat} (h : s.UpW id i k) (hi : (i : Int) < s.tables.length) (hk : (k : Int) < (s.tables.getD i default).entries.length) (h1 : ((s.tables.getD i default).entries.getD k default).own = true) (h2 : ((s.tables.getD i default).entries.getD k default).id = id) :
    s.ownV id = ((i : Int), ((s.tables.getD i default).entries.getD k default).num, true) := by
  have hi' : i < s.tables.length := by omega
  have hk' : k < (s.tables.getD i default).entries.length := by omega
  have hex : ∃ p : Nat × Nat, s.fstOwn id p.1 p.2 := ⟨(i, k), ⟨hi', hk', h1, h2⟩, h.h⟩
  unfold Shelf.ownV
  rw [dif_pos hex]
  have hc := Classical.choose_spec hex
  generalize Classical.choose hex = p at hc ⊢
  obtain ⟨a, b⟩ := p
  obtain ⟨q1, q2⟩ := hc
  have e1 := q2 i k ⟨by omega, by omega, h1, h2⟩
  have e2 := h.h a b q1
  obtain rfl : a = i := by omega
  obtain rfl : b = k := by omega
  rfl
theorem ownV_none {s : Shelf} {id : Int} {i : Nat} (h : s.UpW id i 0) (hi : ¬ (i : Int) < s.tables.length) : s.ownV id = (0, 0, false) := by
  unfold Shelf.ownV
  rw [dif_neg]
  rintro ⟨⟨a, b⟩, q1, _⟩
  have := h.h a b q1
  have := q1.1
  omega
def ownR (v : Int × Int × Bool) : AV := .tup [.i .i64 v.1, .i .i64 v.2.1, .b v.2.2]

/-! ### How many borrows have a scope -/
def boStep (sc : Int) (n : Int) (e : Entry) : Int := if e.own = true then n else if e.scope = sc then IntKind.i64.wrap (n + 1) else n
def boF (sc : Int) (l : List Entry) : Int := l.foldl (boStep sc) 0
theorem boF_snoc (sc : Int) (l : List Entry) (e : Entry) : boF sc (l ++ [e]) = boStep sc (boF sc l) e := by simp [boF]
theorem bo_hit {s : Shelf} {i k : Nat} {sc : Int} (h : k < (s.tables.getD i default).entries.length) (ho : ((s.tables.getD i default).entries.getD k default).own = false) (h1 : ((s.tables.getD i default).entries.getD k default).scope = sc) : IntKind.i64.wrap (boF sc (s.upTo i k) + 1) = boF sc (s.upTo i (k + 1)) := by
  rw [upTo_succ h, boF_snoc, boStep, if_neg (by rw [ho]; decide), if_pos h1]
theorem bo_miss {s : Shelf} {i k : Nat} {sc : Int} (h : k < (s.tables.getD i default).entries.length) (h1 : ¬ ((s.tables.getD i default).entries.getD k default).scope = sc) : boF sc (s.upTo i k) = boF sc (s.upTo i (k + 1)) := by
  rw [upTo_succ h, boF_snoc, boStep, if_neg h1]
  split <;> rfl
theorem bo_own {s : Shelf} {i k : Nat} {sc : Int} (h : k < (s.tables.getD i default).entries.length) (ho : ((s.tables.getD i default).entries.getD k default).own = true) : boF sc (s.upTo i k) = boF sc (s.upTo i (k + 1)) := by
  rw [upTo_succ h, boF_snoc, boStep, if_pos ho]
theorem wrap_wrap (n : Int) : IntKind.i64.wrap (IntKind.i64.wrap n) = IntKind.i64.wrap n := by
  simp only [IntKind.wrap_i64]; omega
theorem boF_wrap (sc : Int) (l : List Entry) : IntKind.i64.wrap (boF sc l) = boF sc l := by
  have h : ∀ (l : List Entry) (n : Int), IntKind.i64.wrap n = n → IntKind.i64.wrap (l.foldl (boStep sc) n) = l.foldl (boStep sc) n := by
    intro l
    induction l with
    | nil => intro n hn; exact hn
    | cons e l ih =>
      intro n hn
      refine ih _ ?_
      unfold boStep
      split
      · exact hn
      · split
        · exact wrap_wrap _
        · exact hn
  exact h l 0 (wrap_in (by omega) (by omega))
theorem bo_bit {s : Shelf} {i k : Nat} {sc : Int} (h : k < (s.tables.getD i default).entries.length) (ho : ((s.tables.getD i default).entries.getD k default).own = false) :
    IntKind.i64.wrap (boF sc (s.upTo i k) + if decide (((s.tables.getD i default).entries.getD k default).scope = sc) = true then 1 else 0) = boF sc (s.upTo i (k + 1)) := by
  by_cases hs : ((s.tables.getD i default).entries.getD k default).scope = sc
  · rw [if_pos (by rw [decide_eq_true_eq]; exact hs)]; exact bo_hit h ho hs
  · rw [if_neg (by rw [decide_eq_true_eq]; exact hs), Int.add_zero, boF_wrap]; exact bo_miss h hs
theorem bo_bit0 {s : Shelf} {i k : Nat} {sc : Int} (h : k < (s.tables.getD i default).entries.length) (ho : ¬ ((s.tables.getD i default).entries.getD k default).own = false) :
    IntKind.i64.wrap (boF sc (s.upTo i k) + if false = true then 1 else 0) = boF sc (s.upTo i (k + 1)) := by
  rw [if_neg (by decide), Int.add_zero, boF_wrap]; exact bo_own h (by simpa using ho)
theorem boF_range (sc : Int) (l : List Entry) : 0 ≤ boF sc l ∧ boF sc l ≤ l.length ∨ 1048576 < l.length := by
  have h : ∀ (l : List Entry) (n : Int), 0 ≤ n → n + l.length ≤ 2097152 → 0 ≤ l.foldl (boStep sc) n ∧ l.foldl (boStep sc) n ≤ n + l.length := by
    intro l
    induction l with
    | nil => intro n h0 h1; simp; omega
    | cons e l ih =>
      intro n h0 h1
      simp only [List.length_cons] at h1 ⊢
      have hs : boStep sc n e = n ∨ boStep sc n e = n + 1 := by
        unfold boStep
        split
        · exact .inl rfl
        · split
          · exact .inr (wrap_in (by omega) (by omega))
          · exact .inl rfl
      show 0 ≤ l.foldl (boStep sc) (boStep sc n e) ∧ l.foldl (boStep sc) (boStep sc n e) ≤ _
      rcases hs with hs | hs <;> rw [hs]
      · have := ih n h0 (by omega); omega
      · have := ih (n + 1) (by omega) (by omega); omega
  by_cases hl : l.length ≤ 1048576
  · left
    have := h l 0 (by omega) (by omega)
    unfold boF
    omega
  · right; omega
theorem boF_zero {sc : Int} {l : List Entry} (h : ∀ e ∈ l, e.own = true ∨ ¬ e.scope = sc) : boF sc l = 0 := by
  unfold boF
  induction l with
  | nil => rfl
  | cons e l ih =>
    show l.foldl (boStep sc) (boStep sc 0 e) = 0
    have : boStep sc 0 e = 0 := by
      unfold boStep
      rcases h e (by simp) with q | q
      · rw [if_pos q]
      · rw [if_neg q]
        split <;> rfl
    rw [this]
    exact ih fun e he => h e (by simp [he])
theorem mem_all' {s : Shelf} {e : Entry} (h : e ∈ s.all) : ∃ i k, i < s.tables.length ∧ k < (s.tables.getD i default).entries.length ∧ (s.tables.getD i default).entries.getD k default = e := by
  obtain ⟨t, ht, he⟩ := List.mem_flatMap.1 h
  obtain ⟨i, hi⟩ := List.getElem?_of_mem ht
  obtain ⟨k, hk⟩ := List.getElem?_of_mem he
  have e1 : s.tables.getD i default = t := by rw [List.getD_eq_getElem?_getD, hi]; rfl
  exact ⟨i, k, (List.getElem?_eq_some_iff.1 hi).1, by rw [e1]; exact (List.getElem?_eq_some_iff.1 hk).1, by rw [e1, List.getD_eq_getElem?_getD, hk]; rfl⟩
/-- No borrow of a valid shelf has a scope that is none. -/
theorem bo_none {s : Shelf} (h : s.good) {sc : Int} (hs : ¬ (1 ≤ sc ∧ sc ≤ 1000000)) : boF sc s.all = 0 := boF_zero fun e he => by
  obtain ⟨i, k, hi, hk, rfl⟩ := mem_all' he
  have := (h.2.2.2.2.1 i k hi hk).2.1
  cases ho : ((s.tables.getD i default).entries.getD k default).own with
  | true => exact .inl rfl
  | false =>
    right
    rw [ho, if_neg (by decide)] at this
    intro q
    have := this.1
    omega

/-! ### Entries whose things are of a type -/
theorem thing_some {s : Shelf} (h : s.good) {who num : Int} {x : Entry} (hx : s.at_ who num = some x) : ∃ q, s.thing x.id = some q ∧ q < s.things.length := by
  obtain ⟨i, k, hi, hk, rfl⟩ := mem_all' (at_mem hx)
  have := (h.2.2.2.2.1 i k hi hk).1
  obtain ⟨q, hq⟩ := Option.isSome_iff_exists.1 this
  refine ⟨q, hq, ?_⟩
  unfold Shelf.thing at hq
  rw [List.findIdx?_eq_some_iff_getElem] at hq
  exact hq.1
def Shelf.thingOf (s : Shelf) (x : Entry) : Thing := s.things.getD ((s.thing x.id).getD 0) default
theorem thingOf_eq {s : Shelf} {x : Entry} {q : Nat} (h : s.thing x.id = some q) : s.thingOf x = s.things.getD q default := by unfold Shelf.thingOf; rw [h]; rfl
def Shelf.typ (s : Shelf) (who num res : Int) : Option Entry := match s.at_ who num with
  | none => none
  | some x => if (s.thingOf x).res = res then some x else none
theorem typ_none {s : Shelf} {who num res : Int} (h : s.at_ who num = none) : s.typ who num res = none := by unfold Shelf.typ; rw [h]
theorem typ_some {s : Shelf} {who num res : Int} {x : Entry} (h : s.at_ who num = some x) (hr : (s.thingOf x).res = res) : s.typ who num res = some x := by unfold Shelf.typ; rw [h]; dsimp only; rw [if_pos hr]
theorem typ_not {s : Shelf} {who num res : Int} {x : Entry} (h : s.at_ who num = some x) (hr : ¬ (s.thingOf x).res = res) : s.typ who num res = none := by unfold Shelf.typ; rw [h]; dsimp only; rw [if_neg hr]
theorem typ_at {s : Shelf} {who num res : Int} {x : Entry} (h : s.typ who num res = some x) : s.at_ who num = some x := by
  unfold Shelf.typ at h
  cases hE : s.at_ who num with
  | none => rw [hE] at h; cases h
  | some y =>
    rw [hE] at h
    dsimp only at h
    split at h
    · exact h
    · cases h
/-- The Rep of the thing of an entry. -/
def Shelf.repV (s : Shelf) (who num res : Int) : Int × Int := match s.typ who num res with
  | none => (0, 11)
  | some x => ((s.thingOf x).rep, 0)
theorem repV_none {s : Shelf} {who num res : Int} (h : s.typ who num res = none) : s.repV who num res = (0, 11) := by unfold Shelf.repV; rw [h]
theorem repV_some {s : Shelf} {who num res : Int} {x : Entry} (h : s.typ who num res = some x) : s.repV who num res = ((s.thingOf x).rep, 0) := by unfold Shelf.repV; rw [h]
def twoI (v : Int × Int) : AV := .tup [.i .i64 v.1, .i .i64 v.2]

/-- What a shelf is asked about. -/
def Shelf.args (s : Shelf) (who num : Int) : Prop := s.good ∧ (0 ≤ who ∧ who < (s.tables.length : Int)) ∧ 1 ≤ num ∧ num ≤ 1000000
/-- Entries of a valid shelf have numbers that are none of the others. -/
theorem at_num {s : Shelf} (h : s.good) {who num : Int} {x : Entry} (hx : s.at_ who num = some x) : (0 ≤ who ∧ who < (s.tables.length : Int)) ∧ 1 ≤ num ∧ num ≤ 1000000 := by
  by_cases hw : 0 ≤ who ∧ who < (s.tables.length : Int)
  · refine ⟨hw, ?_⟩
    rw [at_find hw] at hx
    obtain ⟨k, hk, rfl⟩ := Option.map_eq_some_iff.1 hx
    have hf := find_lt hk
    have ht := h.2.2.2.1 who.toNat (by omega)
    have h1 := ht.1 k hf.1
    have h2 := Table.up_pos (t := s.tables.getD who.toNat default) (n := k) ⟨fun j hj => ht.1 j (by omega)⟩
    have h3 := ht.2.1
    omega
  · rw [at_out hw] at hx
    cases hx
end Go.Proofs.Ytaiohiincgpomaa
