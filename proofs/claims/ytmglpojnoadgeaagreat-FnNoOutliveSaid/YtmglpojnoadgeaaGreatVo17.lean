/- Texts for VHandlesOneP. -/
import Derived.Test.YtmglpojnoadgeaaGreatVo16
namespace Go.Proofs.YtmglpojnoadgeaaGreat
open Go Go.RowKit
set_option linter.unusedVariables false
set_option linter.unusedSimpArgs false
theorem pigeon {α : Type} [DecidableEq α] : ∀ (n : Nat) (l : List α) (f : Nat → α), (∀ i, i < n → f i ∈ l) → (∀ i j, i < j → j < n → f i ≠ f j) → n ≤ l.length
 | 0, _, _, _, _ => Nat.zero_le _
 | n + 1, l, f, h1, h2 => by
  have hm := h1 n (by omega)
  have := pigeon n (l.erase (f n)) f (fun i hi => (List.mem_erase_of_ne (h2 i n hi (by omega))).2 (h1 i (by omega))) (fun i j hi hj => h2 i j hi (by omega))
  rw [List.length_erase_of_mem hm] at this
  have := List.length_pos_of_mem hm
  omega
theorem getD_mem {α : Type} [Inhabited α] {l : List α} {k : Nat} (h : k < l.length) : l.getD k default ∈ l := by
 rw [List.getD_eq_getElem?_getD, List.getElem?_eq_getElem h]
 exact List.getElem_mem h
theorem mem_all {s : Shelf} {i k : Nat} (hi : i < s.tables.length) (hk : k < (s.tables.getD i default).entries.length) : (s.tables.getD i default).entries.getD k default ∈ s.all :=
 List.mem_flatMap.2 ⟨_, getD_mem hi, getD_mem hk⟩
theorem at_mem {s : Shelf} {who num : Int} {x : Entry} (h : s.at_ who num = some x) : x ∈ s.all := by
 by_cases hw : 0 ≤ who ∧ who < (s.tables.length : Int)
 ·rw [at_find hw] at h
  obtain ⟨k, hk, rfl⟩ := Option.map_eq_some_iff.1 h
  exact mem_all (by omega) (find_lt hk).1
 ·rw [at_out hw] at h
  cases h
theorem all_length (l : List Table) (h : ∀ t ∈ l, t.entries.length ≤ 12) : (l.flatMap Table.entries).length ≤ 12 * l.length := by
 induction l with
 | nil => exact Nat.le_refl _
 | cons t l ih =>
  have h1 := h t (by simp)
  have h2 := ih fun t ht => h t (by simp [ht])
  simp only [List.flatMap_cons, List.length_append, List.length_cons]
  omega
theorem chain_on {s : Shelf} {e x : Entry} (h : s.orig e = some x) : ∀ j, s.chain e (j + 1) = s.chain x j
 | 0 => by simp [Shelf.chain, h]
 | j + 1 => by
  have := chain_on h j
  show (s.orig (s.chain e (j + 1))).getD default = (s.orig (s.chain x j)).getD default
  rw [this]
theorem chain_same {s : Shelf} {e : Entry} {i j : Nat} (h : s.chain e i = s.chain e j) : ∀ t, s.chain e (i + t) = s.chain e (j + t)
 | 0 => h
 | t + 1 => by
  have := chain_same h t
  show (s.orig (s.chain e (i + t))).getD default = (s.orig (s.chain e (j + t))).getD default
  rw [this]
theorem step_cases {s : Shelf} : ∀ (n : Nat) (e : Entry), s.sEnds (n + 1) e = true → s.sEnds n e = true ∨ ((∀ j, j < n → (s.chain e j).own = false ∧ s.orig (s.chain e j) = some (s.chain e (j + 1))) ∧ (s.chain e n).own = true)
 | 0, e, h => by
  right
  refine ⟨fun j hj => by omega, ?_⟩
  cases ho : e.own with
  | true => exact ho
  | false =>
   cases hE : s.orig e with
   | none => rw [Shelf.sEnds_none ho hE] at h; cases h
   | some x =>
    by_cases hi : x.id = e.id
    ·rw [Shelf.sEnds_on ho hE hi] at h; cases h
    ·rw [Shelf.sEnds_id ho hE hi] at h; cases h
 | n + 1, e, h => by
  cases ho : e.own with
  | true => exact .inl (Shelf.sEnds_own ho)
  | false =>
   cases hE : s.orig e with
   | none => rw [Shelf.sEnds_none ho hE] at h; cases h
   | some x =>
    by_cases hi : x.id = e.id
    ·rw [Shelf.sEnds_on ho hE hi] at h
     rcases step_cases n x h with q | ⟨q1, q2⟩
     ·left
      rw [Shelf.sEnds_on ho hE hi]
      exact q
     ·right
      refine ⟨fun j hj => ?_, by rw [chain_on hE]; exact q2⟩
      cases j with
      | zero => exact ⟨ho, by rw [chain_on hE]; exact hE⟩
      | succ j =>
       rw [chain_on hE, chain_on hE]
       exact q1 j (by omega)
    ·rw [Shelf.sEnds_id ho hE hi] at h; cases h
theorem sEnds_mono {s : Shelf} : ∀ (n : Nat) (e : Entry), s.sEnds n e = true → s.sEnds (n + 1) e = true
 | 0, e, h => by cases h
 | n + 1, e, h => by
  cases ho : e.own with
  | true => exact Shelf.sEnds_own ho
  | false =>
   cases hE : s.orig e with
   | none => rw [Shelf.sEnds_none ho hE] at h; cases h
   | some x =>
    by_cases hi : x.id = e.id
    ·rw [Shelf.sEnds_on ho hE hi] at h ⊢
     exact sEnds_mono n x h
    ·rw [Shelf.sEnds_id ho hE hi] at h; cases h
theorem ends_short {s : Shelf} {e : Entry} {n : Nat} (hl : s.all.length < n) (he : e ∈ s.all) (h : s.sEnds (n + 1) e = true) : s.sEnds n e = true := by
 rcases step_cases n e h with q | ⟨q1, q2⟩
 ·exact q
 exfalso
 have := pigeon n s.all (s.chain e) (fun i hi => by
  cases i with
  | zero => exact he
  | succ i => exact at_mem (q1 i (by omega)).2) (fun i j hij hj heq => by
  have h1 := chain_same heq (n - j)
  rw [show j + (n - j) = n by omega] at h1
  have h2 := (q1 (i + (n - j)) (by omega)).1
  rw [h1, q2] at h2
  cases h2)
 omega
theorem ends_eq {s : Shelf} : ∀ (n : Nat) (e : Entry), e.own = false → s.ends n e = s.sEnds (n + 1) e
 | 0, e, ho => by
  cases hE : s.orig e with
  | none => rw [Shelf.sEnds_none ho hE]; rfl
  | some x =>
   by_cases hi : x.id = e.id
   ·rw [Shelf.sEnds_on ho hE hi]; rfl
   ·rw [Shelf.sEnds_id ho hE hi]; rfl
 | n + 1, e, ho => by
  cases hE : s.orig e with
  | none => rw [Shelf.sEnds_none ho hE, Shelf.ends_none hE]
  | some x =>
   by_cases hi : x.id = e.id
   ·rw [Shelf.sEnds_on ho hE hi]
    cases hx : x.own with
    | true => rw [Shelf.ends_own hE hi hx, Shelf.sEnds_own hx]
    | false => rw [Shelf.ends_on hE hi hx]; exact ends_eq n x hx
   ·rw [Shelf.sEnds_id ho hE hi, Shelf.ends_id hE hi]
theorem good_iff (s : Shelf) : s.good ↔ s.sGood := by
 constructor
 ·rintro ⟨h1, h2, h3, h4, h5, h6⟩
  have hall : s.all.length < 85 := by
   have := all_length s.tables fun t ht => by
    obtain ⟨k, hk⟩ := List.getElem?_of_mem ht
    have := (h4 k (List.getElem?_eq_some_iff.1 hk).1).2.2
    rw [List.getD_eq_getElem?_getD, hk] at this
    exact this
   unfold Shelf.all
   omega
  refine ⟨⟨h1, h2, h3⟩, fun k hk => ⟨h4 k hk, fun j hj => ?_⟩, fun i k hi hk => ?_, h6⟩
  ·obtain ⟨q1, q2, q3⟩ := h5 k j hk hj
   refine ⟨q1, ?_⟩
   cases ho : ((s.tables.getD k default).entries.getD j default).own with
   | true => rw [ho] at q2; exact q2
   | false => rw [ho] at q2; exact q2.1
  ·obtain ⟨q1, q2, q3⟩ := h5 i k hi hk
   refine ⟨?_, q3⟩
   cases ho : ((s.tables.getD i default).entries.getD k default).own with
   | true => exact Shelf.sEnds_own ho
   | false =>
    rw [ho, if_neg (by decide)] at q2
    have := q2.2
    rw [ends_eq _ _ ho] at this
    exact ends_short hall (mem_all hi hk) this
 ·rintro ⟨⟨h1, h2, h3⟩, h4, h5, h6⟩
  refine ⟨h1, h2, h3, fun k hk => (h4 k hk).1, fun i k hi hk => ?_, h6⟩
  obtain ⟨q1, q2⟩ := (h4 i hi).2 k hk
  obtain ⟨g1, g2⟩ := h5 i k hi hk
  refine ⟨q1, ?_, g2⟩
  cases ho : ((s.tables.getD i default).entries.getD k default).own with
  | true => rw [ho] at q2; exact q2
  | false =>
   rw [ho, if_neg (by decide)] at q2
   rw [if_neg (by decide)]
   exact ⟨q2, by rw [ends_eq _ _ ho]; exact sEnds_mono _ _ g1⟩
def Shelf.isOwn (s : Shelf) (id : Int) (i k : Nat) : Prop := i < s.tables.length ∧ k < (s.tables.getD i default).entries.length ∧ ((s.tables.getD i default).entries.getD k default).own = true ∧ ((s.tables.getD i default).entries.getD k default).id = id
def Shelf.fstOwn (s : Shelf) (id : Int) (i k : Nat) : Prop := s.isOwn id i k ∧ ∀ i' k', s.isOwn id i' k' → i < i' ∨ i = i' ∧ k ≤ k'
structure Shelf.UpW (s : Shelf) (id : Int) (i k : Nat) : Prop where
 h : ∀ i' k', s.isOwn id i' k' → i < i' ∨ i = i' ∧ k ≤ k'
theorem Shelf.upW_zero (s : Shelf) (id : Int) : s.UpW id 0 0 := ⟨fun _ _ _ => by omega⟩
theorem Shelf.upW_succ {s : Shelf} {id : Int} {i k : Nat} (h : s.UpW id i k) (hn : ¬ (((s.tables.getD i default).entries.getD k default).own = true ∧ ((s.tables.getD i default).entries.getD k default).id = id)) : s.UpW id i (k + 1) := ⟨fun i' k' q => by
 rcases h.h i' k' q with q1 | ⟨rfl, q2⟩
 ·exact .inl q1
 ·rcases Nat.lt_or_eq_of_le q2 with q3 | rfl
  ·exact .inr ⟨rfl, q3⟩
  ·exact absurd q.2.2 hn⟩
theorem Shelf.upW_next {s : Shelf} {id : Int} {i k : Nat} (h : s.UpW id i k) (hn : ¬ k < (s.tables.getD i default).entries.length) : s.UpW id (i + 1) 0 := ⟨fun i' k' q => by
 rcases h.h i' k' q with q1 | ⟨rfl, q2⟩
 ·rcases Nat.lt_or_eq_of_le (Nat.succ_le_of_lt q1) with q3 | q3
  ·exact .inl q3
  ·exact .inr ⟨q3, Nat.zero_le _⟩
 ·exact absurd q.2.1 (by omega)⟩
noncomputable def Shelf.ownV (s : Shelf) (id : Int) : Int × Int × Bool :=
 haveI := Classical.propDecidable (∃ p : Nat × Nat, s.fstOwn id p.1 p.2)
 if h : ∃ p : Nat × Nat, s.fstOwn id p.1 p.2 then ((Classical.choose h).1, ((s.tables.getD (Classical.choose h).1 default).entries.getD (Classical.choose h).2 default).num, true) else (0, 0, false)
theorem ownV_some {s : Shelf} {id : Int} {i k : Nat} (h : s.UpW id i k) (hi : (i : Int) < s.tables.length) (hk : (k : Int) < (s.tables.getD i default).entries.length) (h1 : ((s.tables.getD i default).entries.getD k default).own = true) (h2 : ((s.tables.getD i default).entries.getD k default).id = id) :
  s.ownV id = ((i : Int), ((s.tables.getD i default).entries.getD k default).num, true) := by
 have hi' : i < s.tables.length := by omega
 have hk' : k < (s.tables.getD i default).entries.length := by omega
 have hex : ∃ p : Nat × Nat, s.fstOwn id p.1 p.2 := ⟨(i, k), ⟨hi', hk', h1, h2⟩, h.h⟩
 unfold Shelf.ownV
 rw [dif_pos hex]
 have hc := Classical.choose_spec hex
 generalize Classical.choose hex = p at hc ⊢
 obtain ⟨a, b⟩ := p
 obtain ⟨q1, q2⟩ := hc
 have e1 := q2 i k ⟨by omega, by omega, h1, h2⟩
 have e2 := h.h a b q1
 obtain rfl : a = i := by omega
 obtain rfl : b = k := by omega
 rfl
theorem ownV_none {s : Shelf} {id : Int} {i : Nat} (h : s.UpW id i 0) (hi : ¬ (i : Int) < s.tables.length) : s.ownV id = (0, 0, false) := by
 unfold Shelf.ownV
 rw [dif_neg]
 rintro ⟨⟨a, b⟩, q1, _⟩
 have := h.h a b q1
 have := q1.1
 omega
def ownR (v : Int × Int × Bool) : AV := .tup [.i .i64 v.1, .i .i64 v.2.1, .b v.2.2]
theorem mem_all' {s : Shelf} {e : Entry} (h : e ∈ s.all) : ∃ i k, i < s.tables.length ∧ k < (s.tables.getD i default).entries.length ∧ (s.tables.getD i default).entries.getD k default = e := by
 obtain ⟨t, ht, he⟩ := List.mem_flatMap.1 h
 obtain ⟨i, hi⟩ := List.getElem?_of_mem ht
 obtain ⟨k, hk⟩ := List.getElem?_of_mem he
 have e1 : s.tables.getD i default = t := by rw [List.getD_eq_getElem?_getD, hi]; rfl
 exact ⟨i, k, (List.getElem?_eq_some_iff.1 hi).1, by rw [e1]; exact (List.getElem?_eq_some_iff.1 hk).1, by rw [e1, List.getD_eq_getElem?_getD, hk]; rfl⟩
theorem thing_some {s : Shelf} (h : s.good) {who num : Int} {x : Entry} (hx : s.at_ who num = some x) : ∃ q, s.thing x.id = some q ∧ q < s.things.length := by
 obtain ⟨i, k, hi, hk, rfl⟩ := mem_all' (at_mem hx)
 have := (h.2.2.2.2.1 i k hi hk).1
 obtain ⟨q, hq⟩ := Option.isSome_iff_exists.1 this
 refine ⟨q, hq, ?_⟩
 unfold Shelf.thing at hq
 rw [List.findIdx?_eq_some_iff_getElem] at hq
 exact hq.1
def Shelf.thingOf (s : Shelf) (x : Entry) : Thing := s.things.getD ((s.thing x.id).getD 0) default
theorem thingOf_eq {s : Shelf} {x : Entry} {q : Nat} (h : s.thing x.id = some q) : s.thingOf x = s.things.getD q default := by unfold Shelf.thingOf; rw [h]; rfl
def Shelf.typ (s : Shelf) (who num res : Int) : Option Entry := match s.at_ who num with
 | none => none
 | some x => if (s.thingOf x).res = res then some x else none
theorem typ_none {s : Shelf} {who num res : Int} (h : s.at_ who num = none) : s.typ who num res = none := by unfold Shelf.typ; rw [h]
theorem typ_some {s : Shelf} {who num res : Int} {x : Entry} (h : s.at_ who num = some x) (hr : (s.thingOf x).res = res) : s.typ who num res = some x := by unfold Shelf.typ; rw [h]; dsimp only; rw [if_pos hr]
theorem typ_not {s : Shelf} {who num res : Int} {x : Entry} (h : s.at_ who num = some x) (hr : ¬ (s.thingOf x).res = res) : s.typ who num res = none := by unfold Shelf.typ; rw [h]; dsimp only; rw [if_neg hr]
def Shelf.args (s : Shelf) (who num : Int) : Prop := s.good ∧ (0 ≤ who ∧ who < (s.tables.length : Int)) ∧ 1 ≤ num ∧ num ≤ 1000000
theorem at_num {s : Shelf} (h : s.good) {who num : Int} {x : Entry} (hx : s.at_ who num = some x) : (0 ≤ who ∧ who < (s.tables.length : Int)) ∧ 1 ≤ num ∧ num ≤ 1000000 := by
 by_cases hw : 0 ≤ who ∧ who < (s.tables.length : Int)
 ·refine ⟨hw, ?_⟩
  rw [at_find hw] at hx
  obtain ⟨k, hk, rfl⟩ := Option.map_eq_some_iff.1 hx
  have hf := find_lt hk
  have ht := h.2.2.2.1 who.toNat (by omega)
  have h1 := ht.1 k hf.1
  have h2 := Table.up_pos (t := s.tables.getD who.toNat default) (n := k) ⟨fun j hj => ht.1 j (by omega)⟩
  have h3 := ht.2.1
  omega
 ·rw [at_out hw] at hx
  cases hx
set_option maxRecDepth 8000
theorem bif_st {p : Prop} {α : Type} {a b : α} (h : p) : (bif pb p then a else b) = a := by rw [pb_t.mpr h]; rfl
theorem bif_sf {p : Prop} {α : Type} {a b : α} (h : ¬ p) : (bif pb p then a else b) = b := by rw [pb_f.mpr h]; rfl
theorem l19Owner_ok (s : Shelf) (h : s.ok) (id : Int) : Ret env.P 49 [rfL s.cs, .i .i64 id] (fun r => r = ownR (s.ownV id)) := by
 have hl : s.tables.length ≤ 1048576 := h.1.1
 refine ret_of (nt := 54) (rvs := [.tmp 4, .tmp 5, .tmp 6]) Tryz.func49 rfl rfl rfl rfl (fun X => ?_)
 repeat' (first | exact aa | ((conv => whnf) <;> (first | refine loopAt 7 s.tables.length (fun i => [(7, .i .i64 i)]) (fun i => []) (fun i => s.UpW id i 0) rfl ⟨s.upW_zero id, ?_⟩ | (rename_i i _ _; have he : (s.tables.getD (i : Int).toNat default).entries.length ≤ 1048576 := (h.1.2 i (by omega)).1; refine loopAt 8 (s.tables.getD (i : Int).toNat default).entries.length (fun k => [(8, .i .i64 k)]) (fun k => []) (fun k => s.UpW id i k) rfl ⟨by assumption, ?_⟩) | refine And.intro ?_ ?_ | (intro _h; first | contradiction | (try simp only [dd] at _h)) | (refine dt_go ?_) | exact rfl | exact True.intro | exact dkk | exact dks | (refine wrap_succ ?_; omega))))
 all_goals (try simp only [Int.toNat_natCast] at *)
 all_goals first
  | exact Shelf.upW_next ‹s.UpW id _ _› (by omega)
  | (refine Shelf.upW_succ ‹s.UpW id _ _› ?_; simp_all; done)
  | (rw [ownV_none ‹_› ‹_›]; rfl)
  | (rw [ownV_some ‹s.UpW id _ _› ‹_› ‹_› ‹_› ‹_›]; rfl)
  | trace_state
theorem ownerOf_spec (s : Shelf) (h : s.ok) (id : Int) : Ret env.P 17 [.agg s.cs, .i .i64 id] (fun r => r = ownR (bif pb s.sGood then s.ownV id else (0, 0, false))) := by
 refine ret_of (nt := 14) (rvs := [.tmp 4, .tmp 5, .tmp 6]) Tryz.func17 rfl rfl rfl rfl (fun X => ?_)
 repeat' (first | exact aa | ((conv => whnf) <;> (first | refine And.intro ?_ ?_ | (intro _h; first | contradiction | (try simp only [dd] at _h)) | (refine dt_go ?_) | exact rfl | exact True.intro | exact dkk | exact dks | ((first | refine .inl ⟨_, Ret.wke (l19Ok_ok s h), ?_⟩ | refine ⟨_, Ret.wke (l19Ok_ok s h), ?_⟩); (try rintro _ rfl)) | ((first | refine .inl ⟨_, Ret.wke (l19Owner_ok s h _), ?_⟩ | refine ⟨_, Ret.wke (l19Owner_ok s h _), ?_⟩); (try rintro _ rfl)) | (refine wrap_succ ?_; omega))))
 all_goals first
  | (rw [bif_sf ‹_›]; rfl)
  | (rw [bif_st (Classical.not_not.1 ‹_›)]; rfl)
theorem l19Who_ok (s : Shelf) (h : s.ok) (who : Int) : Ret env.P 46 [rfL s.cs, .i .i64 who] (fun r => r = .b (decide (0 ≤ who ∧ who < (s.tables.length : Int)))) := by
 have hl : s.tables.length ≤ 1048576 := h.1.1
 refine ret_of (nt := 13) (rvs := [.tmp 4]) Tryz.func46 rfl rfl rfl rfl (fun X => ?_)
 repeat' (first | exact aa | ((conv => whnf) <;> (first | refine And.intro ?_ ?_ | (intro _h; first | contradiction | (try simp only [dd] at _h)) | (refine dt_go ?_) | exact rfl | exact True.intro | exact dkk | exact dks | ((first | refine .inl ⟨_, l00In_ok _ _ _, ?_⟩ | refine ⟨_, l00In_ok _ _ _, ?_⟩); try rintro _ rfl; try rw [wrap_in (by omega) (by omega)]) | (refine wrap_succ ?_; omega))))
 all_goals (refine leaf_b ?_; rw [decide_eq_decide]; omega)
def findR (o : Option Entry) : AV := match o with
 | some e => .tup [.agg e.cs, .i .i64 0]
 | none => .tup [.agg (Entry.cs ⟨0, 0, false, 0, 0, 0, 0⟩), .i .i64 11]
theorem l19Find_ok (s : Shelf) (h : s.ok) (hg : s.good) (who num res : Int) : Ret env.P 107 [rfL s.cs, .i .i64 who, .i .i64 num, .i .i64 res] (fun r => r = findR (s.typ who num res)) := by
 refine ret_of (nt := 38) (rvs := [.cell 8 39, .tmp 9]) Tryz.func107 rfl rfl rfl rfl (fun X => ?_)
 repeat' (first | exact aa | ((conv => whnf) <;> (first | (refine .inl ⟨_, l19At_ok s h who num, ?_⟩; rintro _ rfl; cases hE : s.at_ who num) | ((first | refine .inl ⟨_, l19Thing_ok s h _, ?_⟩ | refine ⟨_, l19Thing_ok s h _, ?_⟩); (try rintro _ rfl); obtain ⟨q, hq, hlt⟩ := thing_some hg hE; rw [hq]; simp only [idxI]) | refine And.intro ?_ ?_ | (intro _h; first | contradiction | (try simp only [dd] at _h)) | (refine dt_go ?_) | exact rfl | exact True.intro | exact dkk | exact dks | (refine wrap_succ ?_; omega))))
 all_goals (try simp only [Int.toNat_natCast] at *)
 all_goals first
  | (rw [typ_none hE]; rfl)
  | (rw [typ_some hE (by rw [thingOf_eq hq]; assumption)]; rfl)
  | (rw [typ_not hE (by rw [thingOf_eq hq]; assumption)]; rfl)
section
variable {E : Env} {P : Program} {nt : Nat} {X : Ctx} {f : Fr} {H : Hp} {ty : TypeId}
def dimsK (n0 : Nat) (H H' : Hp) : List Nat → Prop
 | [] => True
 | id :: r => (bif Nat.ble n0 id then True else match H[id]?, H'[id]? with
  | some (some x), some (some y) => y.sz = x.sz ∧ y.cap = x.cap ∧ blankK y.k = blankK x.k
  | some none, some none => True
  | _, _ => False) ∧ dimsK n0 H H' r
theorem dimsK_at {n0 : Nat} {H H' : Hp} : ∀ {M : List Nat}, dimsK n0 H H' M → ∀ i, i < n0 → i ∈ M → (H'[i]?).map (fun r => r.map Go.Proofs.YtmglpojnoadgeaaGreat.blank) = (H[i]?).map (fun r => r.map Go.Proofs.YtmglpojnoadgeaaGreat.blank)
 | [], _, i, _, hi => by cases hi
 | id :: r, h, i, hlt, hi => by
  rcases List.mem_cons.1 hi with rfl | hi
  ·have h1 := h.1
   have hb : Nat.ble n0 i = false := by
    cases hb : Nat.ble n0 i with
    | false => rfl
    | true => have := Nat.le_of_ble_eq_true hb; omega
   rw [hb, cond_false] at h1
   split at h1
   ·rename_i x y e1 e2
    rw [e1, e2]
    simp only [Option.map_some, Go.Proofs.YtmglpojnoadgeaaGreat.blank, h1.1, h1.2.1, h1.2.2]
   ·rename_i e1 e2
    rw [e1, e2]
   ·cases h1
  ·exact dimsK_at h.2 i hlt hi
def efC (E : Env) (nt : Nat) (M : List Nat) (n0 : Nat) (o : Oper) (f : Fr) (H : Hp) (K : AV → Hp → Prop) : Prop :=
 match o.op with
 | .call ⟨.value fx, args, _⟩ => (match o.guard with
  | some _ => False
  | none => (match o.dst with
   | some d => bif Nat.blt d nt then clM E f H (fun i => M.contains i || Nat.ble n0 i) fx args.toList (fun v H' => dimsK n0 H H' M ∧ K v H') else False
   | none => clM E f H (fun i => M.contains i || Nat.ble n0 i) fx args.toList (fun _ H' => dimsK n0 H H' M ∧ K .any H')))
 | _ => efK E nt M n0 o f H K
theorem hid_call {M : List Nat} {n0 : Nat} {H2 : Hp} (hn : n0 ≤ H.length) (h1 : dimsK n0 H H2 M) (h2 : ∀ i, i < H.length → (M.contains i || Nat.ble n0 i) = false → H2[i]? = H[i]?) : hidM M 0 (H2.take n0) = hidM M 0 (H.take n0) := by
 apply List.ext_getElem?
 intro i
 rw [hidM_at, hidM_at, List.getElem?_take, List.getElem?_take]
 by_cases hi : i < n0
 ·rw [if_pos hi, if_pos hi]
  simp only [Nat.zero_add]
  cases hM : M.contains i with
  | true =>
   simp only [cond_true]
   exact dimsK_at h1 i hi (List.contains_iff_mem.1 hM)
  | false =>
   rw [h2 i (by omega) (by
    rw [hM, Bool.false_or]
    cases hb : Nat.ble n0 i with
    | false => rfl
    | true => have := Nat.le_of_ble_eq_true hb; omega)]
 ·rw [if_neg hi, if_neg hi]
theorem efC_po {M : List Nat} {n0 : Nat} {o : Oper} {K : AV → Hp → Prop} (hn : n0 ≤ H.length) (h : efC E nt M n0 o f H K) : o.guard = none ∧ PO E.P nt X o f H fun f' H' => ∃ v, f' = pushD o.dst v f ∧ hidM M 0 (H'.take n0) = hidM M 0 (H.take n0) ∧ K v H' := by
 unfold efC at h
 split at h
 ·rename_i fx args tys hop
  split at h
  ·cases h
  rename_i hg
  refine ⟨hg, ?_⟩
  obtain ⟨d?, op, ty, pos, after, gd⟩ := o
  dsimp only at h hop hg
  subst hop
  split at h
  ·rename_i d
   cases hb : Nat.blt d nt with
   | false => rw [hb] at h; cases h
   | true =>
    rw [hb, cond_true] at h
    rintro a w ⟨blk, FP, s⟩ K' Q' hK
    refine clM_run h s _ tys (by simp) K' Q' fun r u w' H2 blk2 FP2 hk hsame s2 hc => ?_
    exact hK _ _ _ _ ⟨r, rfl, hid_call hn hk.1 hsame, hk.2⟩ ⟨blk2, FP2, s2.put (Nat.le_of_ble_eq_true hb) hc⟩
  ·rintro a w ⟨blk, FP, s⟩ K' Q' hK
   refine clM_run h s _ tys (by simp) K' Q' fun r u w' H2 blk2 FP2 hk hsame s2 hc => ?_
   exact hK _ _ _ _ ⟨.any, rfl, hid_call hn hk.1 hsame, hk.2⟩ ⟨blk2, FP2, s2⟩
 ·exact ef_po hn h
def dsC (E : Env) (nt : Nat) (ops : Array Oper) (M : List Nat) (H0 : Hp) (Q : Fr → Hp → Prop) (n : Nat) : List Nat → Fr → Hp → Prop :=
 Nat.rec (motive := fun _ => List Nat → Fr → Hp → Prop) (fun _ f H => Q f H) (fun _ ih D f H => match firstRd E ops M H0.length f D 0 ops.toList with
  | some (i, o) => (match o.dst with
   | some d => bif Nat.blt d nt then
     rdK E (hidM M 0 H0) (restr (looksL ops o) f) o.op fun v => frc v fun v => bif low H0.length v then ih (i :: D) ((d, v) :: f) H else False else False
   | none => False)
  | none => brsK D (fun i o => efC E nt M H0.length o f H fun v H' => pushK o.dst v f fun f => ih (i :: D) f H') ops.toList 0 none) n
theorem dsC_succ {ops : Array Oper} {M : List Nat} {H0 : Hp} {Q : Fr → Hp → Prop} {n : Nat} {D : List Nat} {f : Fr} {H : Hp} : dsC E nt ops M H0 Q (n + 1) D f H = match firstRd E ops M H0.length f D 0 ops.toList with
  | some (i, o) => (match o.dst with
   | some d => bif Nat.blt d nt then
     rdK E (hidM M 0 H0) (restr (looksL ops o) f) o.op fun v => frc v fun v => bif low H0.length v then dsC E nt ops M H0 Q n (i :: D) ((d, v) :: f) H else False else False
   | none => False)
  | none => brsK D (fun i o => efC E nt M H0.length o f H fun v H' => pushK o.dst v f fun f => dsC E nt ops M H0 Q n (i :: D) f H') ops.toList 0 none := rfl
theorem dsC_ok {ops : Array Oper} {M : List Nat} {H0 : Hp} {Q : Exit → Fr → Hp → Prop} : ∀ (n : Nat) (D : List Nat) (f : Fr) (H : Hp), hidM M 0 (H.take H0.length) = hidM M 0 H0 → dsC E nt ops M H0 (Q .normal) n D f H → DR E.P nt X ops M H0 Q n D f H
 | 0, D, f, H, _, h => h
 | n + 1, D, f, H, hold, h => by
  have hlen : H0.length ≤ H.length := by
   have := congrArg List.length hold
   rw [hidM_len, hidM_len, List.length_take] at this
   omega
  rw [dsC_succ] at h
  split at h
  ·rename_i i o hfi
   obtain ⟨_, h1, h2, h3, h6, h4, h5⟩ := firstRd_ok hfi
   split at h
   ·rename_i d hd
    rw [looksL_eq] at h
    cases hb : Nat.blt d nt with
    | false => rw [hb] at h; cases h
    | true =>
     rw [hb, cond_true] at h
     obtain ⟨v, hpj, hk⟩ := pj_of (nt := nt) (X := X) (ops := ops) (ty := o.type) h
     rw [frc_eq] at hk
     cases hl : low H0.length v with
     | false => rw [hl] at hk; cases hk
     | true =>
      rw [hl, cond_true] at hk
      exact .inl ⟨i, o, d, v, by simpa using h1, h2, hd, Nat.le_of_ble_eq_true hb, h3, h6, hl, h5 d hd, .inl ⟨h4, hpj⟩, dsC_ok n _ _ _ hold hk⟩
   ·cases h
  ·refine .inr fun i o ho hD hw => ?_
   have hm := brsK_mem h (Nat.zero_le i) (by simpa using ho) hD hw
   obtain ⟨hg, hpo⟩ := efC_po (X := X) hlen hm
   refine pl_op hg (hpo.mono ?_)
   rintro f' H' ⟨v, rfl, ho1, hk⟩
   rw [pushK_eq] at hk
   refine pl_nil ⟨rfl, ?_, ho1.trans hold, dsC_ok n _ _ _ (ho1.trans hold) hk⟩
   cases hd : o.dst with
   | none => exact ext_rfl
   | some d => exact ext_cons
theorem dt_goC {id : Nat} {ops : Array Oper} {Q : Exit → Fr → Hp → Prop} (M : List Nat) (h : drawOkS ops = true ∧ dsC E nt ops M H (Q .normal) ops.toList.length [] f H) : DT E nt X id ops f H Q := ⟨by
 obtain ⟨hok, h⟩ := h
 have := pw_drawS (id := id) (l := ops.toList) (Q := Q) (X := X) M E.mixed (by simpa using hok) (by simpa using dsC_ok (Q := Q) (X := X) _ _ _ _ (by rw [List.take_length]) h)
 simpa using this⟩
end
structure Shelf.Soft (s : Shelf) : Prop where
 t1 : 1 ≤ s.tables.length
 t7 : s.tables.length ≤ 7
 e12 : ∀ i, (s.tables.getD i default).entries.length ≤ 12
 n25 : s.things.length ≤ 25
 th : ∀ i k, i < s.tables.length → k < (s.tables.getD i default).entries.length → (s.thing ((s.tables.getD i default).entries.getD k default).id).isSome = true
 nm : ∀ i k, i < s.tables.length → k < (s.tables.getD i default).entries.length → 1 ≤ ((s.tables.getD i default).entries.getD k default).num ∧ ((s.tables.getD i default).entries.getD k default).num ≤ 1000000
 rs : ∀ k, k < s.things.length → 1 ≤ (s.things.getD k default).res ∧ (s.things.getD k default).res ≤ 8
theorem Shelf.Soft.ok {s : Shelf} (h : s.Soft) : s.ok :=
 ⟨⟨by have := h.t7; omega, fun k hk => ⟨by have := h.e12 k; omega, fun _ _ => trivial⟩⟩, ⟨by have := h.n25; omega, fun _ _ => trivial⟩⟩
theorem ent12 {x : Shelf} (hg : x.good) (i : Nat) : (x.tables.getD i default).entries.length ≤ 12 := by
 by_cases hi : i < x.tables.length
 ·exact (hg.2.2.2.1 i hi).2.2
 ·rw [List.getD_eq_getElem?_getD, List.getElem?_eq_none (by omega)]
  exact Nat.zero_le _
theorem num_pos {t : Table} (h : t.good) : ∀ k, k < t.entries.length → 1 ≤ (t.entries.getD k default).num
 | 0, hk => by have := (h.1 0 hk).1; unfold prevNum at this; rw [if_pos rfl] at this; omega
 | k + 1, hk => by
  have h1 := (h.1 (k + 1) hk).1
  have h2 := num_pos h k (by omega)
  unfold prevNum at h1
  rw [if_neg (Nat.succ_ne_zero k), Nat.add_sub_cancel] at h1
  omega
theorem soft_good {s : Shelf} (hg : s.good) : s.Soft := ⟨hg.2.1.1, hg.2.1.2, ent12 hg, by have := hg.2.2.1.2; omega, fun i k hi hk => (hg.2.2.2.2.1 i k hi hk).1,
 fun i k hi hk => ⟨num_pos (hg.2.2.2.1 i hi) k hk, by have h1 := ((hg.2.2.2.1 i hi).1 k hk).2.1; have h2 := (hg.2.2.2.1 i hi).2.1.2; omega⟩, fun k hk => (hg.2.2.1.1 k hk).2.2.1⟩
theorem soft_thing {s : Shelf} (h : s.Soft) {who num : Int} {x : Entry} (hx : s.at_ who num = some x) : ∃ q, s.thing x.id = some q ∧ q < s.things.length := by
 obtain ⟨i, k, hi, hk, rfl⟩ := mem_all' (at_mem hx)
 obtain ⟨q, hq⟩ := Option.isSome_iff_exists.1 (h.th i k hi hk)
 refine ⟨q, hq, ?_⟩
 unfold Shelf.thing at hq
 rw [List.findIdx?_eq_some_iff_getElem] at hq
 exact hq.1
theorem soft_like {s s' : Shelf} (h : s.Soft) (ht : s'.tables.length = s.tables.length) (he : ∀ i, (s'.tables.getD i default).entries.length = (s.tables.getD i default).entries.length)
  (hi : ∀ i k, i < s.tables.length → k < (s.tables.getD i default).entries.length → ((s'.tables.getD i default).entries.getD k default).id = ((s.tables.getD i default).entries.getD k default).id ∧ ((s'.tables.getD i default).entries.getD k default).num = ((s.tables.getD i default).entries.getD k default).num)
  (hn : s'.things.length ≤ 25) (hr : ∀ k, k < s'.things.length → 1 ≤ (s'.things.getD k default).res ∧ (s'.things.getD k default).res ≤ 8) (hq : ∀ id, (s.thing id).isSome = true → (s'.thing id).isSome = true) : s'.Soft :=
 ⟨by rw [ht]; exact h.t1, by rw [ht]; exact h.t7, fun i => by rw [he]; exact h.e12 i, hn, fun i k h1 h2 => by
  rw [ht] at h1
  rw [he] at h2
  rw [(hi i k h1 h2).1]
  exact hq _ (h.th i k h1 h2), fun i k h1 h2 => by
  rw [ht] at h1
  rw [he] at h2
  rw [(hi i k h1 h2).2]
  exact h.nm i k h1 h2, hr⟩
def Shelf.setX (s : Shelf) (v : Int) : Shelf := ⟨v, s.tables, s.things⟩
theorem soft_next {s : Shelf} (h : s.Soft) (v : Int) : (s.setX v).Soft := soft_like h rfl (fun _ => rfl) (fun _ _ _ _ => ⟨rfl, rfl⟩) h.n25 h.rs fun _ h => h
def Shelf.addT (s : Shelf) (t : Thing) : Shelf := ⟨s.next, s.tables, s.things ++ [t]⟩
theorem soft_addT {s : Shelf} (h : s.Soft) (hn : s.things.length ≤ 24) (t : Thing) (ht : 1 ≤ t.res ∧ t.res ≤ 8) : (s.addT t).Soft := soft_like h rfl (fun _ => rfl) (fun _ _ _ _ => ⟨rfl, rfl⟩) (by
  show (s.things ++ [t]).length ≤ 25
  rw [List.length_append]; exact Nat.succ_le_succ hn) (fun k hk => by
  show 1 ≤ ((s.things ++ [t]).getD k default).res ∧ ((s.things ++ [t]).getD k default).res ≤ 8
  have hk' : k < (s.things ++ [t]).length := hk
  rw [List.length_append, List.length_singleton] at hk'
  by_cases q : k < s.things.length
  ·have := h.rs k q
   rw [List.getD_eq_getElem?_getD, List.getElem?_append_left q, ← List.getD_eq_getElem?_getD]; exact this
  ·obtain rfl : k = s.things.length := by omega
   rw [List.getD_eq_getElem?_getD, List.getElem?_append_right (Nat.le_refl _), Nat.sub_self]; exact ht) fun id hs => by
 show ((s.things ++ [t]).findIdx? (idP id)).isSome = true
 rw [List.findIdx?_append]
 have : (s.things.findIdx? (idP id)).isSome = true := hs
 obtain ⟨q, hq⟩ := Option.isSome_iff_exists.1 this
 rw [hq]; rfl
structure ShelfAct where
 kind : Int
 who : Int
 num : Int
 res : Int
 to : Int
 scope : Int
 deriving DecidableEq, Inhabited
def ShelfAct.cs (a : ShelfAct) : List AV := [.i .i64 a.kind, .i .i64 a.who, .i .i64 a.num, .i .i64 a.res, .i .i64 a.to, .i .i64 a.scope]
theorem ShelfAct.low (a : ShelfAct) : a.cs.all (low1 0) = true := rfl
theorem ShelfAct.eta {a b : ShelfAct} (h0 : a.kind = b.kind) (h1 : a.who = b.who) (h2 : a.num = b.num) (h3 : a.res = b.res) (h4 : a.to = b.to) (h5 : a.scope = b.scope) : a = b := by cases a; cases b; simp_all
theorem ShelfAct.etaC {a b : ShelfAct} (h : a.kind = b.kind ∧ a.who = b.who ∧ a.num = b.num ∧ a.res = b.res ∧ a.to = b.to ∧ a.scope = b.scope) : a = b := by cases a; cases b; simp_all
def ShelfAct.ok (a : ShelfAct) : Prop := True
set_option maxRecDepth 8000
theorem sizeTable_ok (l : List Table) (hl : l.length ≤ 1048576) : Ret env.P 38 [slL 2 Table.cs l] (fun r => r = .i .i64 l.length) := by
 refine ret_of (nt := 5) (rvs := [.tmp 2]) Tryz.func38 rfl rfl rfl rfl (fun X => ?_)
 repeat' (first | exact aa | ((conv => whnf) <;> (first | refine And.intro ?_ ?_ | (intro _h; first | contradiction | (try simp only [dd] at _h)) | (refine dt_go ?_) | exact rfl | exact True.intro | exact dkk | exact dks | (refine wrap_succ ?_; omega))))
 all_goals exact rfl
theorem isTable_ok (s : Shelf) (h : s.ok) (who : Int) : Ret env.P 60 [rfL s.cs, .i .i64 who] (fun r => r = .b (decide (0 ≤ who ∧ who < (s.tables.length : Int)))) := by
 have hl : s.tables.length ≤ 1048576 := h.1.1
 refine ret_of (nt := 14) (rvs := [.tmp 4]) Tryz.func60 rfl rfl rfl rfl (fun X => ?_)
 repeat' (first | exact aa | ((conv => whnf) <;> (first | refine And.intro ?_ ?_ | (intro _h; first | contradiction | (try simp only [dd] at _h)) | (refine dt_go ?_) | exact rfl | exact True.intro | exact dkk | exact dks | ((first | refine .inl ⟨_, sizeTable_ok _ hl, ?_⟩ | refine ⟨_, sizeTable_ok _ hl, ?_⟩); (try rintro _ rfl)) | ((first | refine .inl ⟨_, within_ok _ _ _, ?_⟩ | refine ⟨_, within_ok _ _ _, ?_⟩); (try rintro _ rfl)) | (refine wrap_succ ?_; omega))))
 all_goals (refine leaf_b ?_; rw [wrap_in (by omega) (by omega)]; rw [decide_eq_decide]; omega)
theorem thing1_ok (x : Thing) (id : Int) : Ret env.P 109 [.agg x.cs, rfL [.i .i64 id]] (fun r => r = .b (idP id x)) := by
 refine ret_of (nt := 8) (rvs := [.tmp 3]) Tryz.func109 rfl rfl rfl rfl (fun X => ?_)
 repeat' (first | exact aa | ((conv => whnf) <;> (first | refine And.intro ?_ ?_ | (intro _h; first | contradiction | (try simp only [dd] at _h)) | (refine dt_go ?_) | exact rfl | exact True.intro | exact dkk | exact dks | (refine wrap_succ ?_; omega))))
 all_goals exact rfl
theorem thing_ok (s : Shelf) (h : s.ok) (id : Int) : Ret env.P 77 [rfL s.cs, .i .i64 id] (fun r => r = .i .i64 (idxI (s.thing id))) := by
 have hl : s.things.length ≤ 1048576 := h.2.1
 refine ret_of (nt := 12) (rvs := [.tmp 4]) Tryz.func77 rfl rfl rfl rfl (fun X => ?_)
 repeat' (first | exact aa | ((conv => whnf) <;> (first | refine And.intro ?_ ?_ | (intro _h; first | contradiction | (try simp only [dd] at _h)) | (refine dt_go ?_) | exact rfl | exact True.intro | exact dkk | exact dks | ((first | refine .inl ⟨_, Ret.wke (indexFuncThing1_ok s.things _ rfl [.i .i64 id] (idP id) hl (fun k hk => thing1_ok _ _)), ?_⟩ | refine ⟨_, Ret.wke (indexFuncThing1_ok s.things _ rfl [.i .i64 id] (idP id) hl (fun k hk => thing1_ok _ _)), ?_⟩); (try rintro _ rfl)) | (refine wrap_succ ?_; omega))))
 all_goals exact rfl
theorem entry_ok (s : Shelf) (h : s.ok) (who num : Int) : Ret env.P 36 [rfL s.cs, .i .i64 who, .i .i64 num] (fun r => r = entP (s.at_ who num)) := by
 have hl : s.tables.length ≤ 1048576 := h.1.1
 refine ret_of (nt := 45) (rvs := [.tmp 6]) Tryz.func36 rfl rfl rfl rfl (fun X => ?_)
 repeat' (first | exact aa | ((conv => whnf) <;> (first | (have he : (s.tables.getD who.toNat default).entries.length ≤ 1048576 := (h.1.2 who.toNat (by omega)).1; refine loopN (s.tables.getD who.toNat default).entries.length (fun k => [(23, .i .i64 k)]) (fun k => []) (fun k => ∀ j, j < k → ¬ ((s.tables.getD who.toNat default).entries.getD j default).num = num) ⟨fun _ h => by omega, ?_⟩) | exact upto_succ (by assumption) (by assumption) | refine And.intro ?_ ?_ | (intro _h; first | contradiction | (try simp only [dd] at _h)) | (refine dt_go ?_) | exact rfl | exact True.intro | exact dkk | exact dks | ((first | refine .inl ⟨_, isTable_ok s h _, ?_⟩ | refine ⟨_, isTable_ok s h _, ?_⟩); (try rintro _ rfl)) | (refine wrap_succ ?_; omega))))
 ·rw [at_out (by assumption)]; rfl
 ·rename_i k _ hI _
  rw [at_some (k := k) (by assumption) (by omega) _h hI]; rfl
 ·rw [at_none (by assumption) (fun j hj => by have := ‹∀ j, j < _ → ¬ (Entry.num _) = num›; exact this j (by omega))]; rfl
theorem origin_ok (s : Shelf) (h : s.ok) (e : Entry) : Ret env.P 83 [rfL s.cs, .agg e.cs] (fun r => r = entP (s.orig e)) := by
 refine ret_of (nt := 11) (rvs := [.tmp 4]) Tryz.func83 rfl rfl rfl rfl (fun X => ?_)
 repeat' (first | exact aa | ((conv => whnf) <;> (first | (refine .inl ⟨_, entry_ok s h _ _, ?_⟩; rintro _ rfl; cases hE : s.at_ e.from_ e.fromNum) | refine And.intro ?_ ?_ | (intro _h; first | contradiction | (try simp only [dd] at _h)) | (refine dt_go ?_) | exact rfl | exact True.intro | exact dkk | exact dks | (refine wrap_succ ?_; omega))))
 all_goals (simp only [Shelf.orig, hE]; rfl)
theorem lentOk_ok (s : Shelf) (h : s.ok) (e : Entry) : Ret env.P 78 [rfL s.cs, .agg e.cs] (fun r => r = .b (pb (s.lent e))) := by
 refine ret_of (nt := 36) (rvs := [.tmp 4]) Tryz.func78 rfl rfl rfl rfl (fun X => ?_)
 repeat' (first | exact aa | ((conv => whnf) <;> (first | refine loopN 85 (fun k => [(5, .i .i64 k)]) (fun k => [some (.box (s.chain e k).cs)]) (fun k => s.ends 85 e = s.ends (85 - k) (s.chain e k)) ⟨rfl, ?_⟩ | (rename_i k _ _; refine .inl ⟨_, origin_ok s h (s.chain e k), ?_⟩; rintro _ rfl; cases hE : s.orig (s.chain e k)) | (simp only [Shelf.chain, hE, Option.getD_some]) | refine And.intro ?_ ?_ | (intro _h; first | contradiction | (try simp only [dd] at _h)) | (refine dt_go ?_) | exact rfl | exact True.intro | exact dkk | exact dks | ((first | refine .inl ⟨_, within_ok _ _ _, ?_⟩ | refine ⟨_, within_ok _ _ _, ?_⟩); (try rintro _ rfl)) | (refine wrap_succ ?_; omega))))
 all_goals (first | refine leaf_f ?_ | refine leaf_t ?_ | (conv => whnf))
 ·exact fun q => by have := q.1; omega
 ·rename_i hI _
  exact fun q => by rw [Shelf.lent, ‹s.ends 85 e = s.ends (85 - k) (s.chain e k)›, Shelf.ends_none hE] at q; cases q.2
 ·rename_i hI _ _ _
  exact fun q => by rw [Shelf.lent, ‹s.ends 85 e = s.ends (85 - k) (s.chain e k)›, Shelf.ends_id hE (by assumption)] at q; cases q.2
 ·rename_i hI _ _ _ _
  exact ⟨by omega, by rw [‹s.ends 85 e = s.ends (85 - k) (s.chain e k)›, show 85 - k = (84 - k) + 1 by omega]; exact Shelf.ends_own hE (by omega) (by assumption)⟩
 ·rename_i hI _ _ _ _
  rw [‹s.ends 85 e = s.ends (85 - k) (s.chain e k)›, show 85 - k = (85 - (k + 1)) + 1 by omega]
  exact Shelf.ends_on hE (by omega) (by assumption)
 ·rename_i k _ hI
  exact fun q => by rw [Shelf.lent, hI, show 85 - k = 0 by omega] at q; cases q.2
theorem tableOk_ok (t : Table) (h : t.ok) : Ret env.P 42 [.agg t.cs] (fun r => r = .b (pb t.good)) := by
 have hl : t.entries.length ≤ 1048576 := h.1
 refine ret_of (nt := 41) (rvs := [.tmp 2]) Tryz.func42 rfl rfl rfl rfl (fun X => ?_)
 repeat' (first | exact aa | ((conv => whnf) <;> (first | refine loopN t.entries.length (fun k => [(9, .i .i64 k), (3, .i .i64 (prevNum t.entries k))]) (fun k => []) (fun k => t.Up k) ⟨t.up_zero, ?_⟩ | exact Table.up_succ (by assumption) (by simp only [Int.toNat_natCast] at *; omega) (by simp only [Int.toNat_natCast] at *; omega) (by simp only [Int.toNat_natCast] at *; omega) | refine And.intro ?_ ?_ | (intro _h; first | contradiction | (try simp only [dd] at _h)) | (refine dt_go ?_) | exact rfl | exact True.intro | exact dkk | exact dks | ((first | refine .inl ⟨_, within_ok _ _ _, ?_⟩ | refine ⟨_, within_ok _ _ _, ?_⟩); (try rintro _ rfl)) | (refine wrap_succ ?_; omega))))
 all_goals (first | refine leaf_f ?_ | refine leaf_t ?_ | refine leaf_p ?_ | (conv => whnf))
 all_goals (try simp only [Int.toNat_natCast] at *)
 ·rename_i k _ _ _ _ _
  exact fun q => by have := (q.1 k (by omega)).2.2; omega
 ·rename_i k _ _ _ _
  exact fun q => by have := (q.1 k (by omega)).2.1; omega
 ·rename_i k _ _ _
  exact fun q => by have := (q.1 k (by omega)).1; omega
 ·rename_i k _ hI _
  rw [decide_eq_true_eq]
  exact ⟨fun q => ⟨by rw [show t.entries.length = k by omega]; exact hI.h, by assumption, by omega⟩, fun q => by have := q.2.2; omega⟩
 ·exact fun q => by have := q.2.1; omega
theorem thingsOk_ok (s : Shelf) (h : s.ok) : Ret env.P 39 [.agg s.cs] (fun r => r = .b (pb s.goodT)) := by
 have hl : s.things.length ≤ 1048576 := h.2.1
 refine ret_of (nt := 43) (rvs := [.tmp 2]) Tryz.func39 rfl rfl rfl rfl (fun X => ?_)
 repeat' (first | exact aa | ((conv => whnf) <;> (first | refine loopN s.things.length (fun k => [(9, .i .i64 k), (3, .i .i64 (prevId s.things k))]) (fun k => []) (fun k => s.UpT k) ⟨s.upT_zero, ?_⟩ | exact Shelf.upT_succ (by assumption) (by simp only [Int.toNat_natCast] at *; omega) (by simp only [Int.toNat_natCast] at *; omega) (by simp only [Int.toNat_natCast] at *; omega) (by simp only [Int.toNat_natCast] at *; omega) | refine And.intro ?_ ?_ | (intro _h; first | contradiction | (try simp only [dd] at _h)) | (refine dt_go ?_) | exact rfl | exact True.intro | exact dkk | exact dks | ((first | refine .inl ⟨_, within_ok _ _ _, ?_⟩ | refine ⟨_, within_ok _ _ _, ?_⟩); (try rintro _ rfl)) | (refine wrap_succ ?_; omega))))
 all_goals (first | refine leaf_f ?_ | refine leaf_t ?_ | refine leaf_p ?_ | (conv => whnf))
 all_goals (try simp only [Int.toNat_natCast] at *)
 ·rename_i k _ _ _ _ _ _
  exact fun q => by have := (q.1 k (by omega)).2.2.2; omega
 ·rename_i k _ _ _ _ _
  exact fun q => by have := (q.1 k (by omega)).2.2.1; omega
 ·rename_i k _ _ _ _
  exact fun q => by have := (q.1 k (by omega)).2.1; omega
 ·rename_i k _ _ _
  exact fun q => by have := (q.1 k (by omega)).1; omega
 ·rename_i k _ hI
  rw [decide_eq_true_eq]
  exact ⟨fun q => ⟨by rw [show s.things.length = k by omega]; exact hI.h, by omega⟩, fun q => by have := q.2; omega⟩
theorem shelfOk1_ok (t : Table) (h : t.ok) : Ret env.P 41 [.agg t.cs] (fun r => r = .b (!pb t.good)) := by
 refine ret_of (nt := 6) (rvs := [.tmp 2]) Tryz.func41 rfl rfl rfl rfl (fun X => ?_)
 repeat' (first | exact aa | ((conv => whnf) <;> (first | refine And.intro ?_ ?_ | (intro _h; first | contradiction | (try simp only [dd] at _h)) | (refine dt_go ?_) | exact rfl | exact True.intro | exact dkk | exact dks | ((first | refine .inl ⟨_, tableOk_ok t h, ?_⟩ | refine ⟨_, tableOk_ok t h, ?_⟩); (try rintro _ rfl)) | (refine wrap_succ ?_; omega))))
 all_goals exact rfl
theorem cnt_end {s : Shelf} {i : Nat} (h : i ≤ s.tables.length) (hn : ¬ i < s.tables.length) : [some (mpRow true (leF (s.upTo i 0)) []), some (mpRow false (owF (s.upTo i 0)) [])] = [some (mpRow true (leF s.all) []), some (mpRow false (owF s.all) [])] := by
 rw [show i = s.tables.length by omega, upTo_end]
set_option maxRecDepth 8000 in
theorem counts_ok (s : Shelf) (h : s.ok) : RetM env.P 76 [] [rfL s.cs] (fun r H => r = .tup [.mp 0, .mp 1] ∧ H = [some (mpRow true (leF s.all) []), some (mpRow false (owF s.all) [])]) := by
 have hl : s.tables.length ≤ 1048576 := h.1.1
 refine ret_ofM (nt := 50) (rvs := [.tmp 2, .tmp 3]) Tryz.func76 rfl rfl rfl rfl (fun X hX => ?_)
 repeat' (first | exact aa | ((conv => whnf) <;> (first | (refine endM_self ⟨rfl, ?_⟩; simp only [mkH, RowI.row]; exact cnt_end (by omega) (by omega)) | refine loopAt 18 s.tables.length (fun i => [(18, .i .i64 i)]) (fun i => [some (.mp true (leF (s.upTo i 0))), some (.mp false (owF (s.upTo i 0)))]) (fun _ => True) rfl ⟨trivial, ?_⟩ | (rename_i i _ _; have he : (s.tables.getD (i : Int).toNat default).entries.length ≤ 1048576 := (h.1.2 i (by omega)).1; refine loopAt 25 (s.tables.getD (i : Int).toNat default).entries.length (fun k => [(25, .i .i64 k)]) (fun k => [some (.mp true (leF (s.upTo i k))), some (.mp false (owF (s.upTo i k)))]) (fun _ => True) rfl ⟨trivial, ?_⟩) | refine And.intro ?_ ?_ | (intro _h; first | contradiction | (try simp only [dd] at _h)) | (refine dt_go ?_) | exact rfl | exact True.intro | exact dkk | exact dks | (refine wrap_succ ?_; omega))))
 all_goals (first | (conv => whnf) | skip)
 all_goals (simp only [Int.toNat_natCast] at *)
 all_goals first | exact le_own (by omega) (by assumption) | exact le_lent (by omega) (by assumption) | exact ow_own (by omega) (by assumption) | exact ow_lent (by omega) (by assumption) | exact congrArg _ (upTo_ends (by omega) (by omega) (by omega)) | trace_state
end Go.Proofs.YtmglpojnoadgeaaGreat
