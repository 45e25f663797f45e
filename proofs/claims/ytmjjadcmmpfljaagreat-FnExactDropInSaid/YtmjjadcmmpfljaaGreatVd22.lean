/- Texts for VDropInP. -/
import Derived.Test.YtmjjadcmmpfljaaGreatVd21
namespace Go.Proofs.YtmjjadcmmpfljaaGreat
open Go Go.RowKit
set_option linter.unusedVariables false
set_option linter.unusedSimpArgs false
def numP (num : Int) (e : Entry) : Bool := decide (e.num = num)
def idP (id : Int) (x : Thing) : Bool := decide (x.id = id)
def Table.find (t : Table) (num : Int) : Option Nat := t.entries.findIdx? (numP num)
def Shelf.isT (s : Shelf) (who : Int) : Bool := decide (0 ≤ who ∧ who < (s.tables.length : Int))
def Shelf.tab (s : Shelf) (who : Int) : Table := s.tables.getD who.toNat default
def Shelf.at_ (s : Shelf) (who num : Int) : Option Entry := if s.isT who = true then ((s.tab who).find num).map (fun k => (s.tab who).entries.getD k default) else none
def Shelf.thing (s : Shelf) (id : Int) : Option Nat := s.things.findIdx? (idP id)
def Shelf.orig (s : Shelf) (e : Entry) : Option Entry := s.at_ e.from_ e.fromNum
def Shelf.ends (s : Shelf) : Nat → Entry → Bool
 | 0, _ => false
 | n + 1, e => match s.orig e with
  | none => false
  | some x => if x.id ≠ e.id then false else if x.own = true then true else s.ends n x
theorem Shelf.ends_none {s : Shelf} {n : Nat} {e : Entry} (h : s.orig e = none) : s.ends n e = false := by
 cases n with
 | zero => rfl
 | succ n => unfold Shelf.ends; rw [h]
theorem Shelf.ends_id {s : Shelf} {n : Nat} {e x : Entry} (h : s.orig e = some x) (hi : ¬ x.id = e.id) : s.ends n e = false := by
 cases n with
 | zero => rfl
 | succ n => unfold Shelf.ends; rw [h]; simp only [ne_eq, hi, not_false_eq_true, if_true]
theorem Shelf.ends_own {s : Shelf} {n : Nat} {e x : Entry} (h : s.orig e = some x) (hi : x.id = e.id) (ho : x.own = true) : s.ends (n + 1) e = true := by
 rw [Shelf.ends, h]; simp only [ne_eq, hi, not_true_eq_false, if_false, ho, if_true]
theorem Shelf.ends_on {s : Shelf} {n : Nat} {e x : Entry} (h : s.orig e = some x) (hi : x.id = e.id) (ho : x.own = false) : s.ends (n + 1) e = s.ends n x := by
 rw [Shelf.ends, h]; simp only [ne_eq, hi, not_true_eq_false, if_false, ho, Bool.false_eq_true]
def Shelf.chain (s : Shelf) (e : Entry) : Nat → Entry
 | 0 => e
 | n + 1 => (s.orig (s.chain e n)).getD default
theorem find_lt {t : Table} {num : Int} {k : Nat} (h : t.find num = some k) : k < t.entries.length ∧ (t.entries.getD k default).num = num := by
 unfold Table.find at h
 rw [List.findIdx?_eq_some_iff_getElem] at h
 obtain ⟨hk, hp, _⟩ := h
 refine ⟨hk, ?_⟩
 rw [List.getD_eq_getElem?_getD, List.getElem?_eq_getElem hk]
 simpa [numP] using hp
theorem find_some {t : Table} {num : Int} {k : Nat} (hk : k < t.entries.length) (hp : (t.entries.getD k default).num = num) (h : ∀ j, j < k → ¬ (t.entries.getD j default).num = num) : t.find num = some k := by
 have := idx_some (p := numP num) hk (by simpa [numP] using hp) (fun j hj => by simpa [numP] using h j hj)
 unfold Table.find
 cases hq : t.entries.findIdx? (numP num) with
 | none => rw [hq] at this; simp only [idxI] at this; omega
 | some q => rw [hq] at this; simp only [idxI] at this; congr 1; omega
theorem find_none {t : Table} {num : Int} (h : ∀ j, j < t.entries.length → ¬ (t.entries.getD j default).num = num) : t.find num = none := by
 have := idx_none (p := numP num) (l := t.entries) (fun j hj => by simpa [numP] using h j hj)
 unfold Table.find
 cases hq : t.entries.findIdx? (numP num) with
 | none => rfl
 | some q => rw [hq] at this; simp only [idxI] at this; omega
theorem at_some {s : Shelf} {who num : Int} {k : Nat} (hw : 0 ≤ who ∧ who < (s.tables.length : Int)) (hk : k < (s.tables.getD who.toNat default).entries.length) (hp : ((s.tables.getD who.toNat default).entries.getD k default).num = num)
  (h : ∀ j, j < k → ¬ ((s.tables.getD who.toNat default).entries.getD j default).num = num) : s.at_ who num = some ((s.tables.getD who.toNat default).entries.getD k default) := by
 unfold Shelf.at_ Shelf.isT
 rw [if_pos (by simpa using hw), show (s.tab who).find num = some k from find_some hk hp h]
 rfl
theorem at_none {s : Shelf} {who num : Int} (hw : 0 ≤ who ∧ who < (s.tables.length : Int)) (h : ∀ j, j < (s.tables.getD who.toNat default).entries.length → ¬ ((s.tables.getD who.toNat default).entries.getD j default).num = num) : s.at_ who num = none := by
 unfold Shelf.at_ Shelf.isT
 rw [if_pos (by simpa using hw), show (s.tab who).find num = none from find_none h]
 rfl
theorem at_out {s : Shelf} {who num : Int} (hw : ¬ (0 ≤ who ∧ who < (s.tables.length : Int))) : s.at_ who num = none := by
 unfold Shelf.at_ Shelf.isT
 rw [if_neg (by simpa using hw)]
theorem find_cases (t : Table) (num : Int) : (∃ q, t.find num = some q ∧ q < t.entries.length) ∨ t.find num = none := by
 cases h : t.find num with
 | none => exact .inr rfl
 | some q => exact .inl ⟨q, rfl, (find_lt h).1⟩
theorem at_find {s : Shelf} {who num : Int} (hw : 0 ≤ who ∧ who < (s.tables.length : Int)) : s.at_ who num = ((s.tables.getD who.toNat default).find num).map (fun k => (s.tables.getD who.toNat default).entries.getD k default) := by
 unfold Shelf.at_ Shelf.isT
 rw [if_pos (by simpa using hw)]
 rfl
def entR (o : Option Entry) : AV := match o with
 | some e => .tup [.agg e.cs, .b true]
 | none => .tup [.agg (Entry.cs ⟨0, 0, false, 0, 0, 0, 0⟩), .b false]
def entP (o : Option Entry) : AV := match o with
 | some e => rfL e.cs
 | none => .nilp
def prevNum (l : List Entry) (k : Nat) : Int := if k = 0 then 0 else (l.getD (k - 1) default).num
def prevId (l : List Thing) (k : Nat) : Int := if k = 0 then 0 else (l.getD (k - 1) default).id
def Table.good (t : Table) : Prop := (∀ k, k < t.entries.length → prevNum t.entries k < (t.entries.getD k default).num ∧ (t.entries.getD k default).num < t.next ∧ 0 ≤ (t.entries.getD k default).lends) ∧ (1 ≤ t.next ∧ t.next ≤ 1000000) ∧ t.entries.length ≤ 12
structure Table.Up (t : Table) (n : Nat) : Prop where
 h : ∀ j, j < n → prevNum t.entries j < (t.entries.getD j default).num ∧ (t.entries.getD j default).num < t.next ∧ 0 ≤ (t.entries.getD j default).lends
theorem Table.up_zero (t : Table) : t.Up 0 := ⟨fun _ h => by omega⟩
theorem Table.up_succ {t : Table} {n : Nat} (h : t.Up n) (h1 : prevNum t.entries n < (t.entries.getD n default).num) (h2 : (t.entries.getD n default).num < t.next) (h3 : 0 ≤ (t.entries.getD n default).lends) : t.Up (n + 1) :=
 ⟨fun j hj => by
  rcases Nat.lt_or_eq_of_le (Nat.le_of_lt_succ hj) with q | rfl
  ·exact h.h j q
  ·exact ⟨h1, h2, h3⟩⟩
def Shelf.goodT (s : Shelf) : Prop := (∀ k, k < s.things.length → prevId s.things k < (s.things.getD k default).id ∧ (s.things.getD k default).id < s.next ∧ (1 ≤ (s.things.getD k default).res ∧ (s.things.getD k default).res ≤ 8) ∧ (0 ≤ (s.things.getD k default).rep ∧ (s.things.getD k default).rep ≤ 2147483647)) ∧ s.things.length ≤ 24
structure Shelf.UpT (s : Shelf) (n : Nat) : Prop where
 h : ∀ k, k < n → prevId s.things k < (s.things.getD k default).id ∧ (s.things.getD k default).id < s.next ∧ (1 ≤ (s.things.getD k default).res ∧ (s.things.getD k default).res ≤ 8) ∧ (0 ≤ (s.things.getD k default).rep ∧ (s.things.getD k default).rep ≤ 2147483647)
theorem Shelf.upT_zero (s : Shelf) : s.UpT 0 := ⟨fun _ h => by omega⟩
theorem Shelf.upT_succ {s : Shelf} {n : Nat} (h : s.UpT n) (h1 : prevId s.things n < (s.things.getD n default).id) (h2 : (s.things.getD n default).id < s.next) (h3 : 1 ≤ (s.things.getD n default).res ∧ (s.things.getD n default).res ≤ 8) (h4 : 0 ≤ (s.things.getD n default).rep ∧ (s.things.getD n default).rep ≤ 2147483647) : s.UpT (n + 1) :=
 ⟨fun j hj => by
  rcases Nat.lt_or_eq_of_le (Nat.le_of_lt_succ hj) with q | rfl
  ·exact h.h j q
  ·exact ⟨h1, h2, h3, h4⟩⟩
def Shelf.lent (s : Shelf) (e : Entry) : Prop := (1 ≤ e.scope ∧ e.scope ≤ 1000000) ∧ s.ends 85 e = true
def owStep (f : List Int → Int) (e : Entry) : List Int → Int := if e.own = true then putF f [e.id] (IntKind.i64.wrap (f [e.id] + 1)) else f
def leStep (f : List Int → Int) (e : Entry) : List Int → Int := if e.own = true then f else putF f [e.from_, e.fromNum] (IntKind.i64.wrap (f [e.from_, e.fromNum] + 1))
def Shelf.upTo (s : Shelf) (i k : Nat) : List Entry := (s.tables.take i).flatMap Table.entries ++ (s.tables.getD i default).entries.take k
def Shelf.all (s : Shelf) : List Entry := s.tables.flatMap Table.entries
def owF (l : List Entry) : List Int → Int := l.foldl owStep fun _ => 0
def leF (l : List Entry) : List Int → Int := l.foldl leStep fun _ => 0
theorem upTo_succ {s : Shelf} {i k : Nat} (h : k < (s.tables.getD i default).entries.length) : s.upTo i (k + 1) = s.upTo i k ++ [(s.tables.getD i default).entries.getD k default] := by
 unfold Shelf.upTo
 rw [List.take_add_one, List.append_assoc, List.getElem?_eq_getElem h, List.getD_eq_getElem?_getD (l := (s.tables.getD i default).entries), List.getElem?_eq_getElem h]
 rfl
theorem upTo_next {s : Shelf} {i : Nat} (h : i < s.tables.length) : s.upTo (i + 1) 0 = s.upTo i (s.tables.getD i default).entries.length := by
 unfold Shelf.upTo
 have e : s.tables.getD i default = s.tables[i] := by rw [List.getD_eq_getElem?_getD, List.getElem?_eq_getElem h]; rfl
 rw [e, List.take_add_one, List.getElem?_eq_getElem h, List.flatMap_append]
 simp only [Option.toList_some, List.flatMap_cons, List.flatMap_nil, List.append_nil, List.take_zero, List.take_length]
theorem upTo_end (s : Shelf) : s.upTo s.tables.length 0 = s.all := by
 unfold Shelf.upTo Shelf.all
 simp
theorem owF_snoc (l : List Entry) (e : Entry) : owF (l ++ [e]) = owStep (owF l) e := by simp [owF]
theorem leF_snoc (l : List Entry) (e : Entry) : leF (l ++ [e]) = leStep (leF l) e := by simp [leF]
theorem le_own {s : Shelf} {i k : Nat} (h : k < (s.tables.getD i default).entries.length) (ho : ((s.tables.getD i default).entries.getD k default).own = true) : leF (s.upTo i k) = leF (s.upTo i (k + 1)) := by
 rw [upTo_succ h, leF_snoc, leStep, if_pos ho]
theorem le_lent {s : Shelf} {i k : Nat} (h : k < (s.tables.getD i default).entries.length) (ho : ((s.tables.getD i default).entries.getD k default).own = false) :
  putF (leF (s.upTo i k)) [((s.tables.getD i default).entries.getD k default).from_, ((s.tables.getD i default).entries.getD k default).fromNum] (IntKind.i64.wrap (leF (s.upTo i k) [((s.tables.getD i default).entries.getD k default).from_, ((s.tables.getD i default).entries.getD k default).fromNum] + 1)) = leF (s.upTo i (k + 1)) := by
 rw [upTo_succ h, leF_snoc, leStep, if_neg (by rw [ho]; decide)]
theorem ow_lent {s : Shelf} {i k : Nat} (h : k < (s.tables.getD i default).entries.length) (ho : ((s.tables.getD i default).entries.getD k default).own = false) : owF (s.upTo i k) = owF (s.upTo i (k + 1)) := by
 rw [upTo_succ h, owF_snoc, owStep, if_neg (by rw [ho]; decide)]
theorem ow_own {s : Shelf} {i k : Nat} (h : k < (s.tables.getD i default).entries.length) (ho : ((s.tables.getD i default).entries.getD k default).own = true) :
  putF (owF (s.upTo i k)) [((s.tables.getD i default).entries.getD k default).id] (IntKind.i64.wrap (owF (s.upTo i k) [((s.tables.getD i default).entries.getD k default).id] + 1)) = owF (s.upTo i (k + 1)) := by
 rw [upTo_succ h, owF_snoc, owStep, if_pos ho]
theorem upTo_ends {s : Shelf} {i k : Nat} (h : i < s.tables.length) (hk : k ≤ (s.tables.getD i default).entries.length) (hn : ¬ k < (s.tables.getD i default).entries.length) : s.upTo i k = s.upTo (i + 1) 0 := by
 rw [upTo_next h, show k = (s.tables.getD i default).entries.length by omega]
theorem upTo_all {s : Shelf} {i : Nat} (h : i ≤ s.tables.length) (hn : ¬ i < s.tables.length) : s.upTo i 0 = s.all := by
 rw [show i = s.tables.length by omega, upTo_end]
theorem le_at_own {s : Shelf} {i k : Nat} {ks : List Int} (h : k < (s.tables.getD i default).entries.length) (ho : ((s.tables.getD i default).entries.getD k default).own = true) : leF (s.upTo i k) ks = leF (s.upTo i (k + 1)) ks := congrFun (le_own h ho) ks
theorem le_at_hit {s : Shelf} {i k : Nat} {a b : Int} (h : k < (s.tables.getD i default).entries.length) (ho : ((s.tables.getD i default).entries.getD k default).own = false) (h1 : ((s.tables.getD i default).entries.getD k default).from_ = a) (h2 : ((s.tables.getD i default).entries.getD k default).fromNum = b) : IntKind.i64.wrap (leF (s.upTo i k) [a, b] + 1) = leF (s.upTo i (k + 1)) [a, b] := by
 rw [← le_lent h ho, h1, h2, putF, if_pos rfl]
theorem le_at_miss {s : Shelf} {i k : Nat} {a b : Int} (h : k < (s.tables.getD i default).entries.length) (ho : ((s.tables.getD i default).entries.getD k default).own = false) (h1 : ¬ (((s.tables.getD i default).entries.getD k default).from_ = a ∧ ((s.tables.getD i default).entries.getD k default).fromNum = b)) : leF (s.upTo i k) [a, b] = leF (s.upTo i (k + 1)) [a, b] := by
 rw [← le_lent h ho, putF, if_neg (fun e => h1 (by injection e with e1 e2; injection e2 with e2 _; exact ⟨e1.symm, e2.symm⟩))]
theorem ow_at_lent {s : Shelf} {i k : Nat} {ks : List Int} (h : k < (s.tables.getD i default).entries.length) (ho : ((s.tables.getD i default).entries.getD k default).own = false) : owF (s.upTo i k) ks = owF (s.upTo i (k + 1)) ks := congrFun (ow_lent h ho) ks
theorem ow_at_hit {s : Shelf} {i k : Nat} {a : Int} (h : k < (s.tables.getD i default).entries.length) (ho : ((s.tables.getD i default).entries.getD k default).own = true) (h1 : ((s.tables.getD i default).entries.getD k default).id = a) : IntKind.i64.wrap (owF (s.upTo i k) [a] + 1) = owF (s.upTo i (k + 1)) [a] := by
 rw [← ow_own h ho, h1, putF, if_pos rfl]
theorem ow_at_miss {s : Shelf} {i k : Nat} {a : Int} (h : k < (s.tables.getD i default).entries.length) (ho : ((s.tables.getD i default).entries.getD k default).own = true) (h1 : ¬ ((s.tables.getD i default).entries.getD k default).id = a) : owF (s.upTo i k) [a] = owF (s.upTo i (k + 1)) [a] := by
 rw [← ow_own h ho, putF, if_neg (fun e => h1 (by injection e with e1 e2; exact e1.symm))]
def Shelf.goodE (s : Shelf) (who : Int) (e : Entry) : Prop :=
 (s.thing e.id).isSome = true ∧ (if e.own = true then e.scope = 0 ∧ e.from_ = 0 ∧ e.fromNum = 0 else s.lent e) ∧ e.lends = leF s.all [who, e.num]
def Shelf.goodAll (s : Shelf) : Prop := (∀ i k, i < s.tables.length → k < (s.tables.getD i default).entries.length → s.goodE i ((s.tables.getD i default).entries.getD k default)) ∧ ∀ k, k < s.things.length → owF s.all [(s.things.getD k default).id] = 1
structure Shelf.UpE (s : Shelf) (i k : Nat) : Prop where
 h : ∀ i' k', i' < s.tables.length → k' < (s.tables.getD i' default).entries.length → (i' < i ∨ i' = i ∧ k' < k) → s.goodE i' ((s.tables.getD i' default).entries.getD k' default)
theorem Shelf.upE_zero (s : Shelf) : s.UpE 0 0 := ⟨fun _ _ _ _ h => by omega⟩
theorem Shelf.upE_succ {s : Shelf} {i k : Nat} (h : s.UpE i k) (hg : s.goodE i ((s.tables.getD i default).entries.getD k default)) : s.UpE i (k + 1) := ⟨fun i' k' h1 h2 h3 => by
 by_cases e : i' = i ∧ k' = k
 ·obtain ⟨rfl, rfl⟩ := e; exact hg
 ·exact h.h i' k' h1 h2 (by omega)⟩
theorem Shelf.upE_next {s : Shelf} {i k : Nat} (h : s.UpE i k) (hn : ¬ k < (s.tables.getD i default).entries.length) : s.UpE (i + 1) 0 := ⟨fun i' k' h1 h2 h3 => by
 by_cases e : i' = i
 ·subst e; exact h.h i' k' h1 h2 (by omega)
 ·exact h.h i' k' h1 h2 (by omega)⟩
theorem Shelf.upE_end {s : Shelf} {i : Nat} (h : s.UpE i 0) (hn : ¬ i < s.tables.length) : ∀ i k, i < s.tables.length → k < (s.tables.getD i default).entries.length → s.goodE i ((s.tables.getD i default).entries.getD k default) := fun i' k' h1 h2 => h.h i' k' h1 h2 (by omega)
theorem Shelf.notE {s : Shelf} {i k : Nat} (hi : i < s.tables.length) (hk : k < (s.tables.getD i default).entries.length) (h : ¬ s.goodE i ((s.tables.getD i default).entries.getD k default)) : ¬ s.goodAll := fun q => h (q.1 i k hi hk)
theorem any_getD {α : Type} [Inhabited α] {l : List α} {p : α → Bool} : l.any p = true ↔ ∃ k, k < l.length ∧ p (l.getD k default) = true := by
 rw [List.any_eq_true]
 constructor
 ·rintro ⟨x, hx, hp⟩
  obtain ⟨k, hk⟩ := List.getElem?_of_mem hx
  exact ⟨k, (List.getElem?_eq_some_iff.1 hk).1, by rw [List.getD_eq_getElem?_getD, hk]; exact hp⟩
 ·rintro ⟨k, hk, hp⟩
  rw [List.getD_eq_getElem?_getD, List.getElem?_eq_getElem hk] at hp
  exact ⟨_, List.getElem_mem hk, hp⟩
theorem allGood_iff {s : Shelf} : (s.tables.any fun t => !pb t.good) = false ↔ ∀ k, k < s.tables.length → (s.tables.getD k default).good := by
 rw [← Bool.not_eq_true, any_getD]
 constructor
 ·intro q k hk
  refine Classical.byContradiction fun hc => q ⟨k, hk, ?_⟩
  rw [Bool.not_eq_true', pb_f]
  exact hc
 ·rintro q ⟨k, hk, hp⟩
  rw [Bool.not_eq_true', pb_f] at hp
  exact hp (q k hk)
theorem goodAll_iff {s : Shelf} {i : Nat} (h : s.UpE i 0) (hn : ¬ i < s.tables.length) : (!s.things.any fun x => !decide (owF s.all [x.id] = 1)) = true ↔ s.goodAll := by
 rw [Bool.not_eq_true', ← Bool.not_eq_true, any_getD]
 constructor
 ·intro q
  refine ⟨Shelf.upE_end h hn, fun k hk => Decidable.byContradiction fun hc => q ⟨k, hk, by rw [Bool.not_eq_true', decide_eq_false_iff_not]; exact hc⟩⟩
 ·rintro q ⟨k, hk, hp⟩
  rw [q.2 k hk] at hp
  cases hp
theorem idx_neg {o : Option Nat} : idxI o < 0 ↔ o.isSome = false := by
 cases o with
 | none => simp [idxI]
 | some k => simp only [idxI, Option.isSome_some]; constructor <;> intro h <;> first | omega | cases h
def Shelf.sEnds (s : Shelf) : Nat → Entry → Bool
 | 0, _ => false
 | n + 1, e => if e.own = true then true else match s.orig e with
  | none => false
  | some x => if x.id ≠ e.id then false else s.sEnds n x
theorem Shelf.sEnds_own {s : Shelf} {n : Nat} {e : Entry} (ho : e.own = true) : s.sEnds (n + 1) e = true := by
 rw [Shelf.sEnds, if_pos ho]
theorem Shelf.sEnds_none {s : Shelf} {n : Nat} {e : Entry} (ho : e.own = false) (h : s.orig e = none) : s.sEnds n e = false := by
 cases n with
 | zero => rfl
 | succ n => rw [Shelf.sEnds, if_neg (by rw [ho]; decide), h]
theorem Shelf.sEnds_id {s : Shelf} {n : Nat} {e x : Entry} (ho : e.own = false) (h : s.orig e = some x) (hi : ¬ x.id = e.id) : s.sEnds n e = false := by
 cases n with
 | zero => rfl
 | succ n => rw [Shelf.sEnds, if_neg (by rw [ho]; decide), h]; simp only [ne_eq, hi, not_false_eq_true, if_true]
theorem Shelf.sEnds_on {s : Shelf} {n : Nat} {e x : Entry} (ho : e.own = false) (h : s.orig e = some x) (hi : x.id = e.id) : s.sEnds (n + 1) e = s.sEnds n x := by
 rw [Shelf.sEnds, if_neg (by rw [ho]; decide), h]; simp only [ne_eq, hi, not_true_eq_false, if_false]
def Shelf.soundE (s : Shelf) (e : Entry) : Prop := (s.thing e.id).isSome = true ∧ (if e.own = true then e.scope = 0 ∧ e.from_ = 0 ∧ e.fromNum = 0 else 1 ≤ e.scope ∧ e.scope ≤ 1000000)
def Shelf.shape (s : Shelf) (t : Table) : Prop := t.good ∧ ∀ k, k < t.entries.length → s.soundE (t.entries.getD k default)
structure Shelf.UpS (s : Shelf) (t : Table) (n : Nat) : Prop where
 up : t.Up n
 h : ∀ k, k < n → s.soundE (t.entries.getD k default)
theorem Shelf.upS_zero (s : Shelf) (t : Table) : s.UpS t 0 := ⟨t.up_zero, fun _ h => by omega⟩
theorem Table.up_pos {t : Table} {n : Nat} (h : t.Up n) : 0 ≤ prevNum t.entries n := by
 induction n with
 | zero => exact Int.le_refl _
 | succ n ih =>
  have h1 := ih ⟨fun j hj => h.h j (by omega)⟩
  have h2 := (h.h n (by omega)).1
  show 0 ≤ (if n + 1 = 0 then 0 else (t.entries.getD (n + 1 - 1) default).num)
  rw [if_neg (by omega), Nat.add_sub_cancel]
  omega
theorem Shelf.upT_pos {s : Shelf} {n : Nat} (h : s.UpT n) : 0 ≤ prevId s.things n := by
 induction n with
 | zero => exact Int.le_refl _
 | succ n ih =>
  have h1 := ih ⟨fun j hj => h.h j (by omega)⟩
  have h2 := (h.h n (by omega)).1
  show 0 ≤ (if n + 1 = 0 then 0 else (s.things.getD (n + 1 - 1) default).id)
  rw [if_neg (by omega), Nat.add_sub_cancel]
  omega
theorem prevId_pos {l : List Thing} {k : Nat} (h : (0 : Int) < k) : prevId l k = (l.getD ((k : Int) - 1).toNat default).id := by
 unfold prevId
 rw [if_neg (by omega), show ((k : Int) - 1).toNat = k - 1 by omega]
theorem prevId_zero {l : List Thing} {k : Nat} (h : ¬ (0 : Int) < k) : prevId l k = 0 := by
 unfold prevId
 rw [if_pos (by omega)]
theorem prevNum_pos {l : List Entry} {k : Nat} (h : (0 : Int) < k) : prevNum l k = (l.getD ((k : Int) - 1).toNat default).num := by
 unfold prevNum
 rw [if_neg (by omega), show ((k : Int) - 1).toNat = k - 1 by omega]
theorem prevNum_zero {l : List Entry} {k : Nat} (h : ¬ (0 : Int) < k) : prevNum l k = 0 := by
 unfold prevNum
 rw [if_pos (by omega)]
theorem notT {s : Shelf} {A B : Prop} {k : Nat} (hk : (k : Int) < s.things.length) (h : ¬ (prevId s.things k < (s.things.getD k default).id ∧ (s.things.getD k default).id < s.next ∧ (1 ≤ (s.things.getD k default).res ∧ (s.things.getD k default).res ≤ 8) ∧ (0 ≤ (s.things.getD k default).rep ∧ (s.things.getD k default).rep ≤ 2147483647))) : ¬ (A ∧ B ∧ s.goodT) := fun q => h (q.2.2.1 k (by omega))
theorem notS {s : Shelf} {t : Table} {k : Nat} (hk : (k : Int) < t.entries.length) (h : ¬ ((prevNum t.entries k < (t.entries.getD k default).num ∧ (t.entries.getD k default).num < t.next ∧ 0 ≤ (t.entries.getD k default).lends) ∧ s.soundE (t.entries.getD k default))) : ¬ s.shape t := fun q => h ⟨q.1.1 k (by omega), q.2 k (by omega)⟩
theorem Shelf.upS_succ {s : Shelf} {t : Table} {n : Nat} (h : s.UpS t n) (h1 : prevNum t.entries n < (t.entries.getD n default).num) (h2 : (t.entries.getD n default).num < t.next) (h3 : 0 ≤ (t.entries.getD n default).lends) (h4 : s.soundE (t.entries.getD n default)) : s.UpS t (n + 1) :=
 ⟨Table.up_succ h.up h1 h2 h3, fun k hk => by
  rcases Nat.lt_or_eq_of_le (Nat.le_of_lt_succ hk) with q | rfl
  ·exact h.h k q
  ·exact h4⟩
def Shelf.sGood (s : Shelf) : Prop := ((1 ≤ s.next ∧ s.next ≤ 1000000) ∧ (1 ≤ s.tables.length ∧ s.tables.length ≤ 7) ∧ s.goodT) ∧ (∀ k, k < s.tables.length → s.shape (s.tables.getD k default)) ∧
 (∀ i k, i < s.tables.length → k < (s.tables.getD i default).entries.length → s.sEnds 85 ((s.tables.getD i default).entries.getD k default) = true ∧ ((s.tables.getD i default).entries.getD k default).lends = leF s.all [(i : Int), ((s.tables.getD i default).entries.getD k default).num]) ∧
 ∀ k, k < s.things.length → owF s.all [(s.things.getD k default).id] = 1
def Shelf.good (s : Shelf) : Prop := (1 ≤ s.next ∧ s.next ≤ 1000000) ∧ (1 ≤ s.tables.length ∧ s.tables.length ≤ 7) ∧ s.goodT ∧ (∀ k, k < s.tables.length → (s.tables.getD k default).good) ∧ s.goodAll
structure Shelf.UpG (s : Shelf) (n : Nat) : Prop where
 h : ∀ k, k < n → s.shape (s.tables.getD k default)
theorem Shelf.upG_zero (s : Shelf) : s.UpG 0 := ⟨fun _ h => by omega⟩
theorem Shelf.upG_succ {s : Shelf} {n : Nat} (h : s.UpG n) (h1 : s.shape (s.tables.getD n default)) : s.UpG (n + 1) := ⟨fun k hk => by
 rcases Nat.lt_or_eq_of_le (Nat.le_of_lt_succ hk) with q | rfl
 ·exact h.h k q
 ·exact h1⟩
def Shelf.okE (s : Shelf) (i : Nat) (e : Entry) : Prop := s.sEnds 85 e = true ∧ e.lends = leF s.all [(i : Int), e.num]
structure Shelf.UpR (s : Shelf) (i k : Nat) : Prop where
 h : ∀ i' k', i' < s.tables.length → k' < (s.tables.getD i' default).entries.length → (i' < i ∨ i' = i ∧ k' < k) → s.okE i' ((s.tables.getD i' default).entries.getD k' default)
theorem Shelf.upR_zero (s : Shelf) : s.UpR 0 0 := ⟨fun _ _ _ _ h => by omega⟩
theorem Shelf.upR_succ {s : Shelf} {i k : Nat} (h : s.UpR i k) (h1 : s.sEnds 85 ((s.tables.getD i default).entries.getD k default) = true) (h2 : ((s.tables.getD i default).entries.getD k default).lends = leF s.all [(i : Int), ((s.tables.getD i default).entries.getD k default).num]) : s.UpR i (k + 1) := ⟨fun i' k' g1 g2 g3 => by
 by_cases e : i' = i ∧ k' = k
 ·obtain ⟨rfl, rfl⟩ := e; exact ⟨h1, h2⟩
 ·exact h.h i' k' g1 g2 (by omega)⟩
theorem Shelf.upR_next {s : Shelf} {i k : Nat} (h : s.UpR i k) (hn : ¬ k < (s.tables.getD i default).entries.length) : s.UpR (i + 1) 0 := ⟨fun i' k' h1 h2 h3 => by
 by_cases e : i' = i
 ·subst e; exact h.h i' k' h1 h2 (by omega)
 ·exact h.h i' k' h1 h2 (by omega)⟩
structure Shelf.UpO (s : Shelf) (n : Nat) : Prop where
 h : ∀ k, k < n → owF s.all [(s.things.getD k default).id] = 1
theorem Shelf.upO_zero (s : Shelf) : s.UpO 0 := ⟨fun _ h => by omega⟩
theorem Shelf.upO_succ {s : Shelf} {n : Nat} (h : s.UpO n) (h1 : owF s.all [(s.things.getD n default).id] = 1) : s.UpO (n + 1) := ⟨fun k hk => by
 rcases Nat.lt_or_eq_of_le (Nat.le_of_lt_succ hk) with q | rfl
 ·exact h.h k q
 ·exact h1⟩
theorem Shelf.sGood_of {s : Shelf} {a b c : Nat} (h1 : (1 ≤ s.next ∧ s.next ≤ 1000000) ∧ (1 ≤ s.tables.length ∧ s.tables.length ≤ 7) ∧ s.goodT) (h2 : s.UpG a) (ha : ¬ (a : Int) < s.tables.length) (h3 : s.UpR b 0) (hb : ¬ (b : Int) < s.tables.length) (h4 : s.UpO c) (hc : ¬ (c : Int) < s.things.length) : s.sGood :=
 ⟨h1, fun k hk => h2.h k (by omega), fun i k hi hk => h3.h i k hi hk (by omega), fun k hk => h4.h k (by omega)⟩
theorem Shelf.notG {s : Shelf} {k : Nat} (hk : (k : Int) < s.tables.length) (h : ¬ s.shape (s.tables.getD k default)) : ¬ s.sGood := fun q => h (q.2.1 k (by omega))
theorem Shelf.notR {s : Shelf} {i k : Nat} (hi : (i : Int) < s.tables.length) (hk : (k : Int) < (s.tables.getD i default).entries.length) (h : ¬ s.okE i ((s.tables.getD i default).entries.getD k default)) : ¬ s.sGood := fun q => h (q.2.2.1 i k (by omega) (by omega))
theorem Shelf.notO {s : Shelf} {k : Nat} (hk : (k : Int) < s.things.length) (h : ¬ owF s.all [(s.things.getD k default).id] = 1) : ¬ s.sGood := fun q => h (q.2.2.2 k (by omega))
set_option maxRecDepth 8000
theorem sizeTable_ok (l : List Table) (hl : l.length ≤ 1048576) : Ret env.P 78 [slL 2 Table.cs l] (fun r => r = .i .i64 l.length) := by
 refine ret_of (nt := 5) (rvs := [.tmp 2]) Tryz.func78 rfl rfl rfl rfl (fun X => ?_)
 repeat' (first | exact aa | ((conv => whnf) <;> (first | refine And.intro ?_ ?_ | (intro _h; first | contradiction | (try simp only [dd] at _h)) | (refine dt_go ?_) | exact rfl | exact True.intro | exact dkk | exact dks | (refine wrap_succ ?_; omega))))
 all_goals exact rfl
theorem isTable_ok (s : Shelf) (h : s.ok) (who : Int) : Ret env.P 124 [rfL s.cs, .i .i64 who] (fun r => r = .b (decide (0 ≤ who ∧ who < (s.tables.length : Int)))) := by
 have hl : s.tables.length ≤ 1048576 := h.1.1
 refine ret_of (nt := 14) (rvs := [.tmp 4]) Tryz.func124 rfl rfl rfl rfl (fun X => ?_)
 repeat' (first | exact aa | ((conv => whnf) <;> (first | refine And.intro ?_ ?_ | (intro _h; first | contradiction | (try simp only [dd] at _h)) | (refine dt_go ?_) | exact rfl | exact True.intro | exact dkk | exact dks | ((first | refine .inl ⟨_, sizeTable_ok _ hl, ?_⟩ | refine ⟨_, sizeTable_ok _ hl, ?_⟩); (try rintro _ rfl)) | ((first | refine .inl ⟨_, within_ok _ _ _, ?_⟩ | refine ⟨_, within_ok _ _ _, ?_⟩); (try rintro _ rfl)) | (refine wrap_succ ?_; omega))))
 all_goals (refine leaf_b ?_; rw [wrap_in (by omega) (by omega)]; rw [decide_eq_decide]; omega)
theorem thing1_ok (x : Thing) (id : Int) : Ret env.P 128 [.agg x.cs, rfL [.i .i64 id]] (fun r => r = .b (idP id x)) := by
 refine ret_of (nt := 8) (rvs := [.tmp 3]) Tryz.func128 rfl rfl rfl rfl (fun X => ?_)
 repeat' (first | exact aa | ((conv => whnf) <;> (first | refine And.intro ?_ ?_ | (intro _h; first | contradiction | (try simp only [dd] at _h)) | (refine dt_go ?_) | exact rfl | exact True.intro | exact dkk | exact dks | (refine wrap_succ ?_; omega))))
 all_goals exact rfl
theorem thing_ok (s : Shelf) (h : s.ok) (id : Int) : Ret env.P 87 [rfL s.cs, .i .i64 id] (fun r => r = .i .i64 (idxI (s.thing id))) := by
 have hl : s.things.length ≤ 1048576 := h.2.1
 refine ret_of (nt := 12) (rvs := [.tmp 4]) Tryz.func87 rfl rfl rfl rfl (fun X => ?_)
 repeat' (first | exact aa | ((conv => whnf) <;> (first | refine And.intro ?_ ?_ | (intro _h; first | contradiction | (try simp only [dd] at _h)) | (refine dt_go ?_) | exact rfl | exact True.intro | exact dkk | exact dks | ((first | refine .inl ⟨_, Ret.wke (indexFuncThing1_ok s.things _ rfl [.i .i64 id] (idP id) hl (fun k hk => thing1_ok _ _)), ?_⟩ | refine ⟨_, Ret.wke (indexFuncThing1_ok s.things _ rfl [.i .i64 id] (idP id) hl (fun k hk => thing1_ok _ _)), ?_⟩); (try rintro _ rfl)) | (refine wrap_succ ?_; omega))))
 all_goals exact rfl
theorem entry_ok (s : Shelf) (h : s.ok) (who num : Int) : Ret env.P 84 [rfL s.cs, .i .i64 who, .i .i64 num] (fun r => r = entP (s.at_ who num)) := by
 have hl : s.tables.length ≤ 1048576 := h.1.1
 refine ret_of (nt := 45) (rvs := [.tmp 6]) Tryz.func84 rfl rfl rfl rfl (fun X => ?_)
 repeat' (first | exact aa | ((conv => whnf) <;> (first | (have he : (s.tables.getD who.toNat default).entries.length ≤ 1048576 := (h.1.2 who.toNat (by omega)).1; refine loopN (s.tables.getD who.toNat default).entries.length (fun k => [(23, .i .i64 k)]) (fun k => []) (fun k => ∀ j, j < k → ¬ ((s.tables.getD who.toNat default).entries.getD j default).num = num) ⟨fun _ h => by omega, ?_⟩) | exact upto_succ (by assumption) (by assumption) | refine And.intro ?_ ?_ | (intro _h; first | contradiction | (try simp only [dd] at _h)) | (refine dt_go ?_) | exact rfl | exact True.intro | exact dkk | exact dks | ((first | refine .inl ⟨_, isTable_ok s h _, ?_⟩ | refine ⟨_, isTable_ok s h _, ?_⟩); (try rintro _ rfl)) | (refine wrap_succ ?_; omega))))
 ·rw [at_out (by assumption)]; rfl
 ·rename_i k _ hI _
  rw [at_some (k := k) (by assumption) (by omega) _h hI]; rfl
 ·rw [at_none (by assumption) (fun j hj => by have := ‹∀ j, j < _ → ¬ (Entry.num _) = num›; exact this j (by omega))]; rfl
theorem origin_ok (s : Shelf) (h : s.ok) (e : Entry) : Ret env.P 86 [rfL s.cs, .agg e.cs] (fun r => r = entP (s.orig e)) := by
 refine ret_of (nt := 11) (rvs := [.tmp 4]) Tryz.func86 rfl rfl rfl rfl (fun X => ?_)
 repeat' (first | exact aa | ((conv => whnf) <;> (first | (refine .inl ⟨_, entry_ok s h _ _, ?_⟩; rintro _ rfl; cases hE : s.at_ e.from_ e.fromNum) | refine And.intro ?_ ?_ | (intro _h; first | contradiction | (try simp only [dd] at _h)) | (refine dt_go ?_) | exact rfl | exact True.intro | exact dkk | exact dks | (refine wrap_succ ?_; omega))))
 all_goals (simp only [Shelf.orig, hE]; rfl)
theorem lentOk_ok (s : Shelf) (h : s.ok) (e : Entry) : Ret env.P 156 [rfL s.cs, .agg e.cs] (fun r => r = .b (pb (s.lent e))) := by
 refine ret_of (nt := 36) (rvs := [.tmp 4]) Tryz.func156 rfl rfl rfl rfl (fun X => ?_)
 repeat' (first | exact aa | ((conv => whnf) <;> (first | refine loopN 85 (fun k => [(5, .i .i64 k)]) (fun k => [some (.box (s.chain e k).cs)]) (fun k => s.ends 85 e = s.ends (85 - k) (s.chain e k)) ⟨rfl, ?_⟩ | (rename_i k _ _; refine .inl ⟨_, origin_ok s h (s.chain e k), ?_⟩; rintro _ rfl; cases hE : s.orig (s.chain e k)) | (simp only [Shelf.chain, hE, Option.getD_some]) | refine And.intro ?_ ?_ | (intro _h; first | contradiction | (try simp only [dd] at _h)) | (refine dt_go ?_) | exact rfl | exact True.intro | exact dkk | exact dks | ((first | refine .inl ⟨_, within_ok _ _ _, ?_⟩ | refine ⟨_, within_ok _ _ _, ?_⟩); (try rintro _ rfl)) | (refine wrap_succ ?_; omega))))
 all_goals (first | refine leaf_f ?_ | refine leaf_t ?_ | (conv => whnf))
 ·exact fun q => by have := q.1; omega
 ·rename_i hI _
  exact fun q => by rw [Shelf.lent, ‹s.ends 85 e = s.ends (85 - k) (s.chain e k)›, Shelf.ends_none hE] at q; cases q.2
 ·rename_i hI _ _ _
  exact fun q => by rw [Shelf.lent, ‹s.ends 85 e = s.ends (85 - k) (s.chain e k)›, Shelf.ends_id hE (by assumption)] at q; cases q.2
 ·rename_i hI _ _ _ _
  exact ⟨by omega, by rw [‹s.ends 85 e = s.ends (85 - k) (s.chain e k)›, show 85 - k = (84 - k) + 1 by omega]; exact Shelf.ends_own hE (by omega) (by assumption)⟩
 ·rename_i hI _ _ _ _
  rw [‹s.ends 85 e = s.ends (85 - k) (s.chain e k)›, show 85 - k = (85 - (k + 1)) + 1 by omega]
  exact Shelf.ends_on hE (by omega) (by assumption)
 ·rename_i k _ hI
  exact fun q => by rw [Shelf.lent, hI, show 85 - k = 0 by omega] at q; cases q.2
theorem tableOk_ok (t : Table) (h : t.ok) : Ret env.P 116 [.agg t.cs] (fun r => r = .b (pb t.good)) := by
 have hl : t.entries.length ≤ 1048576 := h.1
 refine ret_of (nt := 41) (rvs := [.tmp 2]) Tryz.func116 rfl rfl rfl rfl (fun X => ?_)
 repeat' (first | exact aa | ((conv => whnf) <;> (first | refine loopN t.entries.length (fun k => [(9, .i .i64 k), (3, .i .i64 (prevNum t.entries k))]) (fun k => []) (fun k => t.Up k) ⟨t.up_zero, ?_⟩ | exact Table.up_succ (by assumption) (by simp only [Int.toNat_natCast] at *; omega) (by simp only [Int.toNat_natCast] at *; omega) (by simp only [Int.toNat_natCast] at *; omega) | refine And.intro ?_ ?_ | (intro _h; first | contradiction | (try simp only [dd] at _h)) | (refine dt_go ?_) | exact rfl | exact True.intro | exact dkk | exact dks | ((first | refine .inl ⟨_, within_ok _ _ _, ?_⟩ | refine ⟨_, within_ok _ _ _, ?_⟩); (try rintro _ rfl)) | (refine wrap_succ ?_; omega))))
 all_goals (first | refine leaf_f ?_ | refine leaf_t ?_ | refine leaf_p ?_ | (conv => whnf))
 all_goals (try simp only [Int.toNat_natCast] at *)
 ·rename_i k _ _ _ _ _
  exact fun q => by have := (q.1 k (by omega)).2.2; omega
 ·rename_i k _ _ _ _
  exact fun q => by have := (q.1 k (by omega)).2.1; omega
 ·rename_i k _ _ _
  exact fun q => by have := (q.1 k (by omega)).1; omega
 ·rename_i k _ hI _
  rw [decide_eq_true_eq]
  exact ⟨fun q => ⟨by rw [show t.entries.length = k by omega]; exact hI.h, by assumption, by omega⟩, fun q => by have := q.2.2; omega⟩
 ·exact fun q => by have := q.2.1; omega
theorem thingsOk_ok (s : Shelf) (h : s.ok) : Ret env.P 113 [.agg s.cs] (fun r => r = .b (pb s.goodT)) := by
 have hl : s.things.length ≤ 1048576 := h.2.1
 refine ret_of (nt := 43) (rvs := [.tmp 2]) Tryz.func113 rfl rfl rfl rfl (fun X => ?_)
 repeat' (first | exact aa | ((conv => whnf) <;> (first | refine loopN s.things.length (fun k => [(9, .i .i64 k), (3, .i .i64 (prevId s.things k))]) (fun k => []) (fun k => s.UpT k) ⟨s.upT_zero, ?_⟩ | exact Shelf.upT_succ (by assumption) (by simp only [Int.toNat_natCast] at *; omega) (by simp only [Int.toNat_natCast] at *; omega) (by simp only [Int.toNat_natCast] at *; omega) (by simp only [Int.toNat_natCast] at *; omega) | refine And.intro ?_ ?_ | (intro _h; first | contradiction | (try simp only [dd] at _h)) | (refine dt_go ?_) | exact rfl | exact True.intro | exact dkk | exact dks | ((first | refine .inl ⟨_, within_ok _ _ _, ?_⟩ | refine ⟨_, within_ok _ _ _, ?_⟩); (try rintro _ rfl)) | (refine wrap_succ ?_; omega))))
 all_goals (first | refine leaf_f ?_ | refine leaf_t ?_ | refine leaf_p ?_ | (conv => whnf))
 all_goals (try simp only [Int.toNat_natCast] at *)
 ·rename_i k _ _ _ _ _ _
  exact fun q => by have := (q.1 k (by omega)).2.2.2; omega
 ·rename_i k _ _ _ _ _
  exact fun q => by have := (q.1 k (by omega)).2.2.1; omega
 ·rename_i k _ _ _ _
  exact fun q => by have := (q.1 k (by omega)).2.1; omega
 ·rename_i k _ _ _
  exact fun q => by have := (q.1 k (by omega)).1; omega
 ·rename_i k _ hI
  rw [decide_eq_true_eq]
  exact ⟨fun q => ⟨by rw [show s.things.length = k by omega]; exact hI.h, by omega⟩, fun q => by have := q.2; omega⟩
theorem shelfOk1_ok (t : Table) (h : t.ok) : Ret env.P 115 [.agg t.cs] (fun r => r = .b (!pb t.good)) := by
 refine ret_of (nt := 6) (rvs := [.tmp 2]) Tryz.func115 rfl rfl rfl rfl (fun X => ?_)
 repeat' (first | exact aa | ((conv => whnf) <;> (first | refine And.intro ?_ ?_ | (intro _h; first | contradiction | (try simp only [dd] at _h)) | (refine dt_go ?_) | exact rfl | exact True.intro | exact dkk | exact dks | ((first | refine .inl ⟨_, tableOk_ok t h, ?_⟩ | refine ⟨_, tableOk_ok t h, ?_⟩); (try rintro _ rfl)) | (refine wrap_succ ?_; omega))))
 all_goals exact rfl
end Go.Proofs.YtmjjadcmmpfljaaGreat
