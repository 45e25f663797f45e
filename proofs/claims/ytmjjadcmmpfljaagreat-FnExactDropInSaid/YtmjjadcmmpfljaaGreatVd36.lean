/- Texts for VDropInP. -/
import Derived.Test.YtmjjadcmmpfljaaGreatVd35
namespace Go.Proofs.YtmjjadcmmpfljaaGreat
open Go Go.RowKit
set_option linter.unusedVariables false
set_option linter.unusedSimpArgs false
theorem list_ext {α : Type} [Inhabited α] {l m : List α} (h : l.length = m.length) (he : ∀ i, i < l.length → l.getD i default = m.getD i default) : l = m := by
 refine List.ext_getElem h fun i hi hj => ?_
 have := he i hi
 rw [List.getD_eq_getElem?_getD, List.getElem?_eq_getElem hi, List.getD_eq_getElem?_getD, List.getElem?_eq_getElem hj] at this
 exact this
theorem shelf_ext {a b : Shelf} (h1 : a.next = b.next) (h2 : a.things = b.things) (h3 : a.tables.length = b.tables.length) (h4 : ∀ i, i < a.tables.length → a.tables.getD i default = b.tables.getD i default) : a = b := by
 obtain ⟨n, t, x⟩ := a
 obtain ⟨n', t', x'⟩ := b
 dsimp only at h1 h2 h3 h4
 subst h1 h2
 rw [list_ext h3 h4]
def Shelf.keep (s : Shelf) (K : Nat → Entry → Bool) : Shelf := ⟨s.next, s.tables.mapIdx fun i t => ⟨t.next, t.entries.filter (K i)⟩, s.things⟩
theorem keep_len {s : Shelf} {K : Nat → Entry → Bool} : (s.keep K).tables.length = s.tables.length := List.length_mapIdx
theorem keep_tab {s : Shelf} {K : Nat → Entry → Bool} {i : Nat} : (s.keep K).tables.getD i default = ⟨(s.tables.getD i default).next, (s.tables.getD i default).entries.filter (K i)⟩ := by
 unfold Shelf.keep
 dsimp only
 rw [List.getD_eq_getElem?_getD, List.getElem?_mapIdx, List.getD_eq_getElem?_getD]
 cases s.tables[i]? with
 | none => rfl
 | some t => rfl
theorem find_idx {p : Entry → Bool} : ∀ l : List Entry, (l.findIdx? p).map (fun k => l.getD k default) = l.find? p
 | [] => rfl
 | a :: l => by
  rw [List.findIdx?_cons, List.find?_cons, ← find_idx l]
  cases p a with
  | true => rfl
  | false =>
   simp only [Bool.false_eq_true, if_false, Option.map_map]
   rfl
theorem at_eq {s : Shelf} {who num : Int} : s.at_ who num = if s.isT who = true then (s.tables.getD who.toNat default).entries.find? (numP num) else none := by
 unfold Shelf.at_ Shelf.tab Table.find
 rw [find_idx]
def uniq (l : List Entry) : Prop := ∀ i j, i < l.length → j < l.length → (l.getD i default).num = (l.getD j default).num → i = j
theorem uniq_tail {a : Entry} {l : List Entry} (h : uniq (a :: l)) : uniq l ∧ ∀ b ∈ l, ¬ b.num = a.num := by
 refine ⟨fun i j hi hj e => ?_, fun b hb e => ?_⟩
 ·have := h (i + 1) (j + 1) (by simpa using hi) (by simpa using hj) (by simpa using e)
  omega
 ·obtain ⟨k, hk⟩ := List.getElem?_of_mem hb
  have := h (k + 1) 0 (by simpa using (List.getElem?_eq_some_iff.1 hk).1) (by simp) (by
   rw [List.getD_eq_getElem?_getD]
   simp only [List.getElem?_cons_succ, hk, Option.getD_some]
   exact e)
  omega
theorem find_none_of {num : Int} {l : List Entry} (h : ∀ b ∈ l, ¬ b.num = num) : l.find? (numP num) = none :=
 List.find?_eq_none.2 fun b hb => by simpa [numP] using h b hb
theorem find_filter {K : Entry → Bool} {num : Int} : ∀ {l : List Entry}, uniq l → (l.filter K).find? (numP num) = (l.find? (numP num)).filter K
 | [], _ => rfl
 | a :: l, h => by
  have h2 := uniq_tail h
  rw [List.filter_cons, List.find?_cons]
  by_cases e : a.num = num
  ·have ea : numP num a = true := by simpa [numP] using e
   rw [ea]
   cases hK : K a with
   | true => simp only [if_true, List.find?_cons, ea, Option.filter, hK]
   | false =>
    simp only [Bool.false_eq_true, if_false, Option.filter, hK]
    exact find_none_of fun b hb => by
     have := h2.2 b ((List.mem_filter.1 hb).1)
     rwa [e] at this
  ·have ea : numP num a = false := by simpa [numP] using e
   rw [ea]
   dsimp only
   rw [← find_filter h2.1]
   split
   ·rw [List.find?_cons, ea]
   ·rfl
theorem keep_at {s : Shelf} {K : Nat → Entry → Bool} (hu : ∀ i, uniq (s.tables.getD i default).entries) {who num : Int} : (s.keep K).at_ who num = (s.at_ who num).filter (K who.toNat) := by
 rw [at_eq, at_eq, keep_tab]
 have : (s.keep K).isT who = s.isT who := by unfold Shelf.isT; rw [keep_len]
 rw [this]
 split
 ·exact find_filter (hu _)
 ·rfl
theorem at_in {s : Shelf} {who num : Int} {x : Entry} (h : s.at_ who num = some x) : who.toNat < s.tables.length ∧ x.num = num ∧ ∃ k, k < (s.tables.getD who.toNat default).entries.length ∧ (s.tables.getD who.toNat default).entries.getD k default = x := by
 rw [at_eq] at h
 split at h
 ·rename_i ht
  have ht' : 0 ≤ who ∧ who < (s.tables.length : Int) := by simpa [Shelf.isT] using ht
  refine ⟨by omega, by simpa [numP] using List.find?_some h, ?_⟩
  obtain ⟨k, hk⟩ := List.getElem?_of_mem (List.mem_of_find?_eq_some h)
  exact ⟨k, (List.getElem?_eq_some_iff.1 hk).1, by rw [List.getD_eq_getElem?_getD, hk]; rfl⟩
 ·cases h
inductive Shelf.Live (s : Shelf) (K : Nat → Entry → Bool) : Entry → Prop
 | own {e : Entry} (h : e.own = true) : Shelf.Live s K e
 | lent {e x : Entry} (h : s.at_ e.from_ e.fromNum = some x) (hk : K e.from_.toNat x = true) (hx : Shelf.Live s K x) : Shelf.Live s K e
structure Shelf.Cut (s : Shelf) (K0 K : Nat → Entry → Bool) : Prop where
 sub : ∀ i e, K i e = true → K0 i e = true
 live : ∀ i k, i < s.tables.length → k < (s.tables.getD i default).entries.length → K0 i ((s.tables.getD i default).entries.getD k default) = true → s.Live K0 ((s.tables.getD i default).entries.getD k default) → K i ((s.tables.getD i default).entries.getD k default) = true
structure Shelf.Fix (s : Shelf) (K0 K : Nat → Entry → Bool) : Prop where
 cut : s.Cut K0 K
 fix : ∀ i k, i < s.tables.length → k < (s.tables.getD i default).entries.length → K i ((s.tables.getD i default).entries.getD k default) = true → s.Live K0 ((s.tables.getD i default).entries.getD k default)
theorem Shelf.Cut.start (s : Shelf) (K0 : Nat → Entry → Bool) : s.Cut K0 K0 := ⟨fun _ _ h => h, fun _ _ _ _ h _ => h⟩
theorem keep_congr {s : Shelf} {K K' : Nat → Entry → Bool} (h : ∀ i k, i < s.tables.length → k < (s.tables.getD i default).entries.length → K i ((s.tables.getD i default).entries.getD k default) = K' i ((s.tables.getD i default).entries.getD k default)) : s.keep K = s.keep K' := by
 refine shelf_ext rfl rfl (keep_len.trans keep_len.symm) fun i hi => ?_
 rw [keep_len] at hi
 rw [keep_tab, keep_tab]
 congr 1
 refine List.filter_congr fun e he => ?_
 obtain ⟨k, hk⟩ := List.getElem?_of_mem he
 have := h i k hi (List.getElem?_eq_some_iff.1 hk).1
 rw [List.getD_eq_getElem?_getD, hk] at this
 exact this
theorem Shelf.Fix.one {s : Shelf} {K0 K K' : Nat → Entry → Bool} (h : s.Fix K0 K) (h' : s.Fix K0 K') : s.keep K = s.keep K' := keep_congr fun i k hi hk => by
 rw [Bool.eq_iff_iff]
 exact ⟨fun q => h'.cut.live i k hi hk (h.cut.sub _ _ q) (h.fix i k hi hk q), fun q => h.cut.live i k hi hk (h'.cut.sub _ _ q) (h'.fix i k hi hk q)⟩
def delE (K : Nat → Entry → Bool) (w : Nat) (num : Int) : Nat → Entry → Bool := fun i e => K i e && !(Nat.beq i w && numP num e)
theorem Shelf.Cut.dead {s : Shelf} {K0 K : Nat → Entry → Bool} (h : s.Cut K0 K) (hu : ∀ i, uniq (s.tables.getD i default).entries) {e : Entry} (ho : e.own = false) (hn : (s.keep K).orig e = none) : ¬ s.Live K0 e := by
 intro hl
 cases hl with
 | own q => rw [ho] at q; cases q
 | @lent e x ha hk hx =>
  unfold Shelf.orig at hn
  rw [keep_at hu, ha] at hn
  obtain ⟨h1, h2, k, h3, h4⟩ := at_in ha
  have := h.live _ k h1 h3 (by rw [h4]; exact hk) (by rw [h4]; exact hx)
  rw [h4] at this
  simp [Option.filter, this] at hn
theorem Shelf.Cut.del {s : Shelf} {K0 K : Nat → Entry → Bool} (h : s.Cut K0 K) (hu : ∀ i, uniq (s.tables.getD i default).entries) {w : Nat} {e : Entry} (he : e ∈ (s.tables.getD w default).entries) (hd : ¬ s.Live K0 e) : s.Cut K0 (delE K w e.num) := by
 refine ⟨fun i x q => h.sub i x (by unfold delE at q; rw [Bool.and_eq_true] at q; exact q.1), fun i k hi hk h0 hl => ?_⟩
 unfold delE
 rw [h.live i k hi hk h0 hl, Bool.true_and, Bool.not_eq_true']
 cases hb : (Nat.beq i w && numP e.num ((s.tables.getD i default).entries.getD k default)) with
 | false => rfl
 | true =>
  rw [Bool.and_eq_true] at hb
  have e1 := Nat.eq_of_beq_eq_true hb.1
  subst e1
  have e2 : ((s.tables.getD i default).entries.getD k default).num = e.num := by simpa [numP] using hb.2
  obtain ⟨q, hq⟩ := List.getElem?_of_mem he
  have hql := (List.getElem?_eq_some_iff.1 hq).1
  have hqe : (s.tables.getD i default).entries.getD q default = e := by rw [List.getD_eq_getElem?_getD, hq]; rfl
  have := hu i k q hk hql (by rw [e2, hqe])
  subst this
  rw [hqe] at hl
  exact absurd hl hd
theorem Shelf.Cut.done {s : Shelf} {K0 K : Nat → Entry → Bool} (h : s.Cut K0 K) (hu : ∀ i, uniq (s.tables.getD i default).entries) (hs : ∀ i k, i < s.tables.length → k < (s.tables.getD i default).entries.length → ∃ n, s.sEnds n ((s.tables.getD i default).entries.getD k default) = true)
  (he : ∀ i k, i < s.tables.length → k < (s.tables.getD i default).entries.length → K i ((s.tables.getD i default).entries.getD k default) = true → ((s.tables.getD i default).entries.getD k default).own = true ∨ ¬ (s.keep K).orig ((s.tables.getD i default).entries.getD k default) = none) : s.Fix K0 K := by
 have key : ∀ (n : Nat) (i k : Nat), i < s.tables.length → k < (s.tables.getD i default).entries.length → K i ((s.tables.getD i default).entries.getD k default) = true → s.sEnds n ((s.tables.getD i default).entries.getD k default) = true → s.Live K0 ((s.tables.getD i default).entries.getD k default) := by
  intro n
  induction n with
  | zero => intro i k _ _ _ q; cases q
  | succ n ih =>
   intro i k hi hk hK q
   rcases he i k hi hk hK with q1 | q1
   ·exact .own q1
   ·by_cases ho : ((s.tables.getD i default).entries.getD k default).own = true
    ·exact .own ho
    ·generalize (s.tables.getD i default).entries.getD k default = e at *
     unfold Shelf.orig at q1
     rw [keep_at hu] at q1
     rw [Shelf.sEnds, if_neg ho] at q
     unfold Shelf.orig at q
     cases ha : s.at_ e.from_ e.fromNum with
     | none => rw [ha] at q; cases q
     | some x =>
      rw [ha] at q q1
      dsimp only at q
      have hKx : K e.from_.toNat x = true := by
       cases hc : K e.from_.toNat x with
       | true => rfl
       | false => simp [Option.filter, hc] at q1
      split at q
      ·cases q
      ·obtain ⟨h1, h2, j, h3, h4⟩ := at_in ha
       have := ih _ j h1 h3 (by rw [h4]; exact hKx) (by rw [h4]; exact q)
       rw [h4] at this
       exact .lent ha (h.sub _ _ hKx) this
 refine ⟨h, fun i k hi hk hK => ?_⟩
 obtain ⟨n, hn⟩ := hs i k hi hk
 exact key n i k hi hk hK hn
theorem good_lt {t : Table} (h : t.good) : ∀ {i j : Nat}, i < j → j < t.entries.length → (t.entries.getD i default).num < (t.entries.getD j default).num := by
 intro i j hij hj
 induction j with
 | zero => omega
 | succ j ih =>
  have h1 := (h.1 (j + 1) hj).1
  unfold prevNum at h1
  rw [if_neg (by omega), Nat.add_sub_cancel] at h1
  rcases Nat.lt_or_eq_of_le (Nat.le_of_lt_succ hij) with q | rfl
  ·have := ih q (by omega); omega
  ·exact h1
theorem good_uniq {t : Table} (h : t.good) : uniq t.entries := fun i j hi hj e => by
 rcases Nat.lt_trichotomy i j with q | q | q
 ·have := good_lt h q hj; omega
 ·exact q
 ·have := good_lt h q hi; omega
theorem good_uniqs {s : Shelf} (h : s.good) (i : Nat) : uniq (s.tables.getD i default).entries := by
 by_cases hi : i < s.tables.length
 ·exact good_uniq (h.2.2.2.1 i hi)
 ·rw [List.getD_eq_getElem?_getD, List.getElem?_eq_none (by omega)]
  intro i j hi; cases hi
structure Shelf.Tidy (s : Shelf) : Prop where
 seven : s.tables.length ≤ 7
 uniq : ∀ i, uniq (s.tables.getD i default).entries
 ends : ∀ i k, i < s.tables.length → k < (s.tables.getD i default).entries.length → ∃ n, s.sEnds n ((s.tables.getD i default).entries.getD k default) = true
theorem Shelf.good.tidy {s : Shelf} (h : s.good) : s.Tidy := ⟨h.2.1.2, good_uniqs h, fun i k hi hk => ⟨85, (((good_iff s).1 h).2.2.1 i k hi hk).1⟩⟩
theorem shelf_ends {s : Shelf} (h : s.Tidy) (i k : Nat) (hi : i < s.tables.length) (hk : k < (s.tables.getD i default).entries.length) : ∃ n, s.sEnds n ((s.tables.getD i default).entries.getD k default) = true := h.ends i k hi hk
theorem sEnds_things {s : Shelf} {T : List Thing} : ∀ (n : Nat) (e : Entry), (⟨s.next, s.tables, T⟩ : Shelf).sEnds n e = s.sEnds n e
 | 0, _ => rfl
 | n + 1, e => by
  cases ho : e.own with
  | true => rw [Shelf.sEnds_own ho, Shelf.sEnds_own ho]
  | false =>
   cases hx : s.orig e with
   | none => rw [Shelf.sEnds_none ho hx, Shelf.sEnds_none ho (show (⟨s.next, s.tables, T⟩ : Shelf).orig e = none from hx)]
   | some x =>
    have hx' : (⟨s.next, s.tables, T⟩ : Shelf).orig e = some x := hx
    by_cases hi : x.id = e.id
    ·rw [Shelf.sEnds_on ho hx hi, Shelf.sEnds_on ho hx' hi, sEnds_things n x]
    ·rw [Shelf.sEnds_id ho hx hi, Shelf.sEnds_id ho hx' hi]
theorem Shelf.Tidy.things {s : Shelf} (h : s.Tidy) (T : List Thing) : (⟨s.next, s.tables, T⟩ : Shelf).Tidy :=
 ⟨h.seven, h.uniq, fun i k hi hk => by
  obtain ⟨n, hn⟩ := h.ends i k hi hk
  exact ⟨n, (sEnds_things n _).trans hn⟩⟩
theorem self_not {s : Shelf} {e : Entry} (ho : e.own = false) (h : s.orig e = some e) : ∀ n, s.sEnds n e = false
 | 0 => rfl
 | n + 1 => by
  rw [Shelf.sEnds_on ho h rfl]
  exact self_not ho h n
theorem orig_some {s : Shelf} (h : s.good) {who num : Int} {e : Entry} (he : s.at_ who num = some e) (ho : e.own = false) : (∃ x, s.orig e = some x) ∧ ¬ (e.from_.toNat = who.toNat ∧ e.fromNum = num) := by
 obtain ⟨h1, h2, k, h3, h4⟩ := at_in he
 obtain ⟨n, hn⟩ := shelf_ends h.tidy _ k h1 h3
 rw [h4] at hn
 have hx : ∃ x, s.orig e = some x := by
  cases n with
  | zero => cases hn
  | succ n =>
   cases hx : s.orig e with
   | none => rw [Shelf.sEnds_none ho hx] at hn; cases hn
   | some x => exact ⟨x, rfl⟩
 refine ⟨hx, fun ⟨q1, q2⟩ => ?_⟩
 obtain ⟨x, hx⟩ := hx
 have : x = e := by
  have hx' := hx
  unfold Shelf.orig at hx'
  rw [at_eq] at hx' he
  split at hx'
  ·split at he
   ·rw [q1, q2, he] at hx'
    exact (Option.some.inj hx').symm
   ·cases he
  ·cases hx'
 subst this
 rw [self_not ho hx] at hn
 cases hn
theorem find_ne {num m : Int} (hne : ¬ m = num) : ∀ l : List Entry, (cutL num l).find? (numP m) = l.find? (numP m)
 | [] => rfl
 | a :: l => by
  unfold cutL
  rw [List.filter_cons, List.find?_cons]
  have ih := find_ne hne l
  unfold cutL at ih
  by_cases e : a.num = num
  ·have e1 : (!numP num a) = false := by simp [numP, e]
   have e2 : numP m a = false := by simp only [numP, e, decide_eq_false_iff_not]; exact fun q => hne q.symm
   rw [e1, e2]
   exact ih
  ·have e1 : (!numP num a) = true := by simp [numP, e]
   rw [e1, if_pos rfl, List.find?_cons, ih]
theorem cut_at_other {s : Shelf} {w : Nat} {num who m : Int} (hw : w < s.tables.length) (hne : ¬ (who.toNat = w ∧ m = num)) : (s.cut w num).at_ who m = s.at_ who m := by
 have hT : (s.cut w num).isT who = s.isT who := by unfold Shelf.isT Shelf.cut; rw [setE_len]
 rw [at_eq, at_eq, hT]
 unfold Shelf.cut
 rw [setE_at hw]
 split
 ·split
  ·rename_i e
   rw [e, find_ne fun q => hne ⟨e, q⟩]
  ·rfl
 ·rfl
theorem at_posD {s : Shelf} {who m : Int} {x : Entry} (h : s.at_ who m = some x) : (0 ≤ who ∧ who < (s.tables.length : Int)) ∧ ∃ p, (s.tables.getD who.toNat default).find m = some p ∧ (s.tables.getD who.toNat default).entries.getD p default = x := by
 by_cases hw : 0 ≤ who ∧ who < (s.tables.length : Int)
 ·refine ⟨hw, ?_⟩
  rw [at_find hw] at h
  obtain ⟨p, h1, h2⟩ := Option.map_eq_some_iff.1 h
  exact ⟨p, h1, h2⟩
 ·rw [at_out hw] at h
  cases h
theorem last_none {id : Int} : ∀ {l : List Thing} {o : Thing}, (∀ x ∈ l, ¬ x.id = id) → l.foldl (fun o x => if x.id = id then x else o) o = o
 | [], _, _ => rfl
 | a :: l, o, h => by
  rw [List.foldl_cons, if_neg (h a (by simp))]
  exact last_none fun x hx => h x (by simp [hx])
def uniqX (l : List Thing) : Prop := ∀ i j, i < l.length → j < l.length → (l.getD i default).id = (l.getD j default).id → i = j
theorem cutX_none {id : Int} {l : List Thing} (h : ∀ x ∈ l, ¬ x.id = id) : cutX id l = l := List.filter_eq_self.2 fun x hx => by simp [idP, h x hx]
theorem cutX_erase {id : Int} : ∀ {l : List Thing} {q : Nat}, uniqX l → l.findIdx? (idP id) = some q → cutX id l = l.eraseIdx q ∧ lastX id l = l.getD q default ∧ q < l.length
 | [], q, _, h => by cases h
 | a :: l, q, hu, h => by
  have hu2 : uniqX l := fun i j hi hj e => by
   have := hu (i + 1) (j + 1) (by simpa using hi) (by simpa using hj) (by simpa using e)
   omega
  rw [List.findIdx?_cons] at h
  by_cases e : a.id = id
  ·have ea : idP id a = true := by simp [idP, e]
   rw [ea, if_pos rfl] at h
   cases h
   have hn : ∀ x ∈ l, ¬ x.id = id := fun x hx e2 => by
    obtain ⟨k, hk⟩ := List.getElem?_of_mem hx
    have := hu (k + 1) 0 (by simpa using (List.getElem?_eq_some_iff.1 hk).1) (by simp) (by
     rw [List.getD_eq_getElem?_getD]
     simp only [List.getElem?_cons_succ, hk, Option.getD_some]
     exact e2.trans e.symm)
    omega
   refine ⟨?_, ?_, by simp⟩
   ·have : cutX id (a :: l) = cutX id l := by
     unfold cutX
     rw [List.filter_cons, ea]
     rfl
    rw [this, cutX_none hn]
    rfl
   ·unfold lastX
    rw [List.foldl_cons, if_pos e, last_none hn]
    rfl
  ·have ea : idP id a = false := by simp [idP, e]
   rw [ea] at h
   simp only [Bool.false_eq_true, if_false] at h
   obtain ⟨q', hq', rfl⟩ := Option.map_eq_some_iff.1 h
   obtain ⟨h1, h2, h3⟩ := cutX_erase hu2 hq'
   refine ⟨?_, ?_, by simpa using h3⟩
   ·have : cutX id (a :: l) = a :: cutX id l := by
     unfold cutX
     rw [List.filter_cons, ea]
     rfl
    rw [this, h1]
    rfl
   ·unfold lastX at h2 ⊢
    rw [List.foldl_cons, if_neg e, h2]
    simp
theorem good_ltX {s : Shelf} (h : s.goodT) : ∀ {i j : Nat}, i < j → j < s.things.length → (s.things.getD i default).id < (s.things.getD j default).id := by
 intro i j hij hj
 induction j with
 | zero => omega
 | succ j ih =>
  have h1 := (h.1 (j + 1) hj).1
  unfold prevId at h1
  rw [if_neg (by omega), Nat.add_sub_cancel] at h1
  rcases Nat.lt_or_eq_of_le (Nat.le_of_lt_succ hij) with q | rfl
  ·have := ih q (by omega); omega
  ·exact h1
theorem good_uniqX {s : Shelf} (h : s.goodT) : uniqX s.things := fun i j hi hj e => by
 rcases Nat.lt_trichotomy i j with q | q | q
 ·have := good_ltX h q hj; omega
 ·exact q
 ·have := good_ltX h q hi; omega
set_option maxRecDepth 8000
def Yard.dropS (y : Yard) (num : Int) : Prop := y.sGood ∧ (1 ≤ num ∧ num ≤ 1000000)
def Yard.dropI (y : Yard) (num : Int) : Prop := y.good ∧ (1 ≤ num ∧ num ≤ 1000000)
theorem dropIn_iff {y : Yard} {num : Int} : y.dropS num ↔ y.dropI num := by
 unfold Yard.dropS Yard.dropI
 rw [yard_iff]
theorem top_tab {y : Yard} (h : y.good) : 0 ≤ topV y.stack ∧ topV y.stack < (y.shelf.tables.length : Int) := by
 by_cases hs : y.stack.length = 0
 ·have := h.2.1.1
  rw [topV_zero (by omega)]
  omega
 ·exact top_who h hs
set_option maxHeartbeats 4000000 in
theorem dropIn_spec1 (y : Yard) (h : y.ok) (num : Int) (hn : ¬ y.dropS num) : RetM env.P 7 [] [.agg y.cs, .i .i64 num] (fun r H => r = .tup [.agg yaZ, .agg [.i .i64 0, .i .i64 0, .i .i64 0], .i .i64 1] ∧ H = []) := by
 refine ret_ofM (nt := 34) (rvs := [.cell 4 37, .cell 5 39, .tmp 6]) Tryz.func7 rfl rfl rfl rfl (fun X hX => ?_)
 repeat' (first | exact aa | ((conv => whnf) <;> (first | exact absurd ⟨Classical.not_not.1 ‹_›, ‹_›⟩ hn | refine And.intro ?_ ?_ | (intro _h; first | contradiction | (try simp only [dd] at _h)) | (refine dt_go ?_) | exact rfl | exact True.intro | exact dkk | exact dks | ((first | refine .inl ⟨_, Ret.wka (l20Ok_ok y h), ?_⟩ | refine ⟨_, Ret.wka (l20Ok_ok y h), ?_⟩); (try rintro _ rfl)) | ((first | refine .inl ⟨_, l00In_ok _ _ _, ?_⟩ | refine ⟨_, l00In_ok _ _ _, ?_⟩); (try rintro _ rfl)) | (refine wrap_succ ?_; omega))))
 all_goals first
  | (exfalso; exact hn ⟨Classical.not_not.1 ‹_›, ‹_›⟩)
  | (exfalso; exact hn ⟨‹_›, ‹_›⟩)
  | skip
 all_goals (conv => whnf)
 all_goals first
  | exact endM_pick [] [] (.tup [.agg yaZ, .agg [.i .i64 0, .i .i64 0, .i .i64 0], .i .i64 1]) (view_of rfl .nil) rfl rfl (fun k hk => by rw [hX] at hk; exact absurd hk (Nat.not_lt_zero _)) ⟨rfl, rfl⟩
  | trace_state
set_option maxHeartbeats 4000000 in
theorem dropIn_specE (y : Yard) (h : y.ok) (num c : Int) (hc : ¬ c = 0) (hm : y.dropS num) (hL : RetM env.P 32 [some (boxRow (y.shelf.yO y))] [.ptr 0 0 0, .i .i64 (topV y.stack), .i .i64 num] (fun r H => r = .tup [.agg [.i .i64 0, .i .i64 0, .i .i64 0], .i .i64 c] ∧ H = [some (boxRow (y.shelf.yO y))])) : RetM env.P 7 [] [.agg y.cs, .i .i64 num] (fun r H => r = .tup [.agg yaZ, .agg [.i .i64 0, .i .i64 0, .i .i64 0], .i .i64 c] ∧ H = []) := by
 have hg := (dropIn_iff.1 hm).1
 have h1 : 1 ≤ y.shelf.tables.length := by have := hg.2.1.1; omega
 obtain ⟨m1, m2⟩ := hm
 refine ret_ofM (nt := 34) (rvs := [.cell 4 37, .cell 5 39, .tmp 6]) Tryz.func7 rfl rfl rfl rfl (fun X hX => ?_)
 repeat' (first | exact aa | ((conv => whnf) <;> (first | (refine .inr (.inr ⟨[some (boxRow y.cs), some (boxRow yaZ), some (boxRow [.i .i64 0, .i .i64 0, .i .i64 0]), none, none, none, none, some (boxRow (y.shelf.yO y))], (by intro X; refine Turn.trans (turn_close (id := 7) (i := 0) (j := 1) (id' := 3) rfl (show 0 < 1 by decide) (show 1 < 6 by decide) rfl rfl (show 7 ≠ 3 by decide) rfl (rowO_le (Nat.le_refl _))) ?_; refine Turn.trans (turn_close (id := 7) (i := 0) (j := 2) (id' := 4) rfl (show 0 < 1 by decide) (show 2 < 6 by decide) rfl rfl (show 7 ≠ 4 by decide) rfl (rowO_le (Nat.le_refl _))) ?_; refine Turn.trans (turn_close (id := 7) (i := 0) (j := 3) (id' := 5) rfl (show 0 < 1 by decide) (show 3 < 6 by decide) rfl rfl (show 7 ≠ 5 by decide) rfl (rowO_le (Nat.le_refl _))) ?_; refine Turn.trans (turn_close (id := 7) (i := 0) (j := 5) (id' := 6) rfl (show 0 < 1 by decide) (show 5 < 6 by decide) rfl rfl (show 7 ≠ 6 by decide) rfl (rowO_le (Nat.le_refl _))) ?_; exact turn_box (id := 7) (ds := y.shelf.yO y) rfl rfl rfl (.cons (.refl _) (.cons (.refl _) (.cons (.refl _) (.cons (.refl _) (.cons (.refl _) (.cons (.refl _) .nil))))))), (fun i _ q => (by cases q)), .inl ⟨[7], _, _, _, hL, (view_of rfl (.cons rfl (.self (rowPl_box rfl)) .nil)), ⟨rfl, rfl⟩, ?_⟩⟩); rintro _ _ ⟨rfl, rfl⟩; refine ⟨rfl, _, (lok_pl (.cons (rowPl_box rfl) .nil)), ?_⟩) | refine And.intro ?_ ?_ | (intro _h; first | contradiction | (try simp only [dd] at _h)) | (refine dt_go ?_) | exact rfl | exact True.intro | exact dkk | exact dks | ((first | refine .inl ⟨_, Ret.wka (l20Ok_ok y h), ?_⟩ | refine ⟨_, Ret.wka (l20Ok_ok y h), ?_⟩); (try rintro _ rfl)) | ((first | refine .inl ⟨_, l00In_ok _ _ _, ?_⟩ | refine ⟨_, l00In_ok _ _ _, ?_⟩); (try rintro _ rfl)) | (refine .inr (.inl (.inr (.inl ⟨_, RetM.wka (l20Own_ok y h h1), ?_⟩))); rintro _ _ ⟨rfl, rfl⟩; refine ⟨⟨rfl, nssA⟩, _, lokA, ?_⟩) | ((first | refine .inl ⟨_, Ret.wka (l20Runs_ok y h), ?_⟩ | refine ⟨_, Ret.wka (l20Runs_ok y h), ?_⟩); (try rintro _ rfl)) | (refine wrap_succ ?_; omega))))
 all_goals (first | contradiction | skip)
 all_goals (try (conv => whnf))
 all_goals first
  | exact endM_pick [] [] (.tup [.agg yaZ, .agg [.i .i64 0, .i .i64 0, .i .i64 0], .i .i64 c]) (view_of rfl .nil) rfl rfl (fun k hk => by rw [hX] at hk; exact absurd hk (Nat.not_lt_zero _)) ⟨rfl, rfl⟩
  | trace_state
set_option maxHeartbeats 4000000 in
theorem dropIn_specF (y : Yard) (s' : Shelf) (h : y.ok) (num : Int) (x : Thing) (hm : y.dropS num) (hL : RetM env.P 32 [some (boxRow (y.shelf.yO y))] [.ptr 0 0 0, .i .i64 (topV y.stack), .i .i64 num] (fun r H => r = .tup [.agg x.cs, .i .i64 0] ∧ H = [some (boxRow (s'.yO y))])) : RetM env.P 7 [] [.agg y.cs, .i .i64 num] (fun r H => r = .tup [.agg (s'.yd y).resO, .agg x.cs, .i .i64 0] ∧ H = (s'.yd y).rowsO) := by
 have hg := (dropIn_iff.1 hm).1
 have h1 : 1 ≤ y.shelf.tables.length := by have := hg.2.1.1; omega
 obtain ⟨m1, m2⟩ := hm
 refine ret_ofM (nt := 34) (rvs := [.cell 4 37, .cell 5 39, .tmp 6]) Tryz.func7 rfl rfl rfl rfl (fun X hX => ?_)
 repeat' (first | exact aa | ((conv => whnf) <;> (first | (refine .inr (.inr ⟨[some (boxRow y.cs), some (boxRow yaZ), some (boxRow [.i .i64 0, .i .i64 0, .i .i64 0]), none, none, none, none, some (boxRow (y.shelf.yO y))], (by intro X; refine Turn.trans (turn_close (id := 7) (i := 0) (j := 1) (id' := 3) rfl (show 0 < 1 by decide) (show 1 < 6 by decide) rfl rfl (show 7 ≠ 3 by decide) rfl (rowO_le (Nat.le_refl _))) ?_; refine Turn.trans (turn_close (id := 7) (i := 0) (j := 2) (id' := 4) rfl (show 0 < 1 by decide) (show 2 < 6 by decide) rfl rfl (show 7 ≠ 4 by decide) rfl (rowO_le (Nat.le_refl _))) ?_; refine Turn.trans (turn_close (id := 7) (i := 0) (j := 3) (id' := 5) rfl (show 0 < 1 by decide) (show 3 < 6 by decide) rfl rfl (show 7 ≠ 5 by decide) rfl (rowO_le (Nat.le_refl _))) ?_; refine Turn.trans (turn_close (id := 7) (i := 0) (j := 5) (id' := 6) rfl (show 0 < 1 by decide) (show 5 < 6 by decide) rfl rfl (show 7 ≠ 6 by decide) rfl (rowO_le (Nat.le_refl _))) ?_; exact turn_box (id := 7) (ds := y.shelf.yO y) rfl rfl rfl (.cons (.refl _) (.cons (.refl _) (.cons (.refl _) (.cons (.refl _) (.cons (.refl _) (.cons (.refl _) .nil))))))), (fun i _ q => (by cases q)), .inl ⟨[7], _, _, _, hL, (view_of rfl (.cons rfl (.self (rowPl_box rfl)) .nil)), ⟨rfl, rfl⟩, ?_⟩⟩); rintro _ _ ⟨rfl, rfl⟩; refine ⟨rfl, _, (lok_pl (.cons (rowPl_box rfl) .nil)), ?_⟩) | (refine dt_turn (turn_open (id := 7) (i := 0) (j := 1) rfl (show 0 < 1 by decide) (show 1 < 6 by decide) rfl) ?_; refine dt_turn (turn_open (id := 7) (i := 0) (j := 2) rfl (show 0 < 1 by decide) (show 2 < 6 by decide) rfl) ?_; refine dt_turn (turn_open (id := 7) (i := 0) (j := 3) rfl (show 0 < 1 by decide) (show 3 < 6 by decide) rfl) ?_; refine dt_turn (turn_open (id := 7) (i := 0) (j := 5) rfl (show 0 < 1 by decide) (show 5 < 6 by decide) rfl) ?_; refine dt_go ?_) | refine And.intro ?_ ?_ | (intro _h; first | contradiction | (try simp only [dd] at _h)) | (refine dt_go ?_) | exact rfl | exact True.intro | exact dkk | exact dks | ((first | refine .inl ⟨_, Ret.wka (l20Ok_ok y h), ?_⟩ | refine ⟨_, Ret.wka (l20Ok_ok y h), ?_⟩); (try rintro _ rfl)) | ((first | refine .inl ⟨_, l00In_ok _ _ _, ?_⟩ | refine ⟨_, l00In_ok _ _ _, ?_⟩); (try rintro _ rfl)) | (refine .inr (.inl (.inr (.inl ⟨_, RetM.wka (l20Own_ok y h h1), ?_⟩))); rintro _ _ ⟨rfl, rfl⟩; refine ⟨⟨rfl, nssA⟩, _, lokA, ?_⟩) | ((first | refine .inl ⟨_, Ret.wka (l20Runs_ok y h), ?_⟩ | refine ⟨_, Ret.wka (l20Runs_ok y h), ?_⟩); (try rintro _ rfl)) | (refine wrap_succ ?_; omega))))
 all_goals (first | contradiction | skip)
 all_goals (try (conv => whnf))
 all_goals first
  | exact endM_pick [9, 10, 11, 12] (s'.yd y).rowsO (.tup [.agg (s'.yd y).resO, .agg x.cs, .i .i64 0]) (view_of rfl (.cons rfl (.self (rowPl_L fun _ => rfl)) (.cons rfl (.self (rowPl_L fun _ => rfl)) (.cons rfl (.self (rowPl_L fun _ => rfl)) (.cons rfl (.self (rowPl_L fun _ => rfl)) .nil))))) rfl rfl (fun k hk => by rw [hX] at hk; exact absurd hk (Nat.not_lt_zero _)) ⟨rfl, rfl⟩
  | trace_state
end Go.Proofs.YtmjjadcmmpfljaaGreat
