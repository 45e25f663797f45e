/- Texts for VHandlesOneP. -/
import Derived.Test.YtmglpojnoadgeaaGreatVo26
namespace Go.Proofs.YtmglpojnoadgeaaGreat
open Go Go.RowKit
set_option linter.unusedVariables false
set_option linter.unusedSimpArgs false
theorem list_ext {α : Type} [Inhabited α] {l m : List α} (h : l.length = m.length) (he : ∀ i, i < l.length → l.getD i default = m.getD i default) : l = m := by
 refine List.ext_getElem h fun i hi hj => ?_
 have := he i hi
 rw [List.getD_eq_getElem?_getD, List.getElem?_eq_getElem hi, List.getD_eq_getElem?_getD, List.getElem?_eq_getElem hj] at this
 exact this
theorem shelf_ext {a b : Shelf} (h1 : a.next = b.next) (h2 : a.things = b.things) (h3 : a.tables.length = b.tables.length) (h4 : ∀ i, i < a.tables.length → a.tables.getD i default = b.tables.getD i default) : a = b := by
 obtain ⟨n, t, x⟩ := a
 obtain ⟨n', t', x'⟩ := b
 dsimp only at h1 h2 h3 h4
 subst h1 h2
 rw [list_ext h3 h4]
def Shelf.keep (s : Shelf) (K : Nat → Entry → Bool) : Shelf := ⟨s.next, s.tables.mapIdx fun i t => ⟨t.next, t.entries.filter (K i)⟩, s.things⟩
theorem keep_len {s : Shelf} {K : Nat → Entry → Bool} : (s.keep K).tables.length = s.tables.length := List.length_mapIdx
theorem keep_tab {s : Shelf} {K : Nat → Entry → Bool} {i : Nat} : (s.keep K).tables.getD i default = ⟨(s.tables.getD i default).next, (s.tables.getD i default).entries.filter (K i)⟩ := by
 unfold Shelf.keep
 dsimp only
 rw [List.getD_eq_getElem?_getD, List.getElem?_mapIdx, List.getD_eq_getElem?_getD]
 cases s.tables[i]? with
 | none => rfl
 | some t => rfl
theorem find_idx {p : Entry → Bool} : ∀ l : List Entry, (l.findIdx? p).map (fun k => l.getD k default) = l.find? p
 | [] => rfl
 | a :: l => by
  rw [List.findIdx?_cons, List.find?_cons, ← find_idx l]
  cases p a with
  | true => rfl
  | false =>
   simp only [Bool.false_eq_true, if_false, Option.map_map]
   rfl
theorem at_eq {s : Shelf} {who num : Int} : s.at_ who num = if s.isT who = true then (s.tables.getD who.toNat default).entries.find? (numP num) else none := by
 unfold Shelf.at_ Shelf.tab Table.find
 rw [find_idx]
def uniq (l : List Entry) : Prop := ∀ i j, i < l.length → j < l.length → (l.getD i default).num = (l.getD j default).num → i = j
theorem uniq_tail {a : Entry} {l : List Entry} (h : uniq (a :: l)) : uniq l ∧ ∀ b ∈ l, ¬ b.num = a.num := by
 refine ⟨fun i j hi hj e => ?_, fun b hb e => ?_⟩
 ·have := h (i + 1) (j + 1) (by simpa using hi) (by simpa using hj) (by simpa using e)
  omega
 ·obtain ⟨k, hk⟩ := List.getElem?_of_mem hb
  have := h (k + 1) 0 (by simpa using (List.getElem?_eq_some_iff.1 hk).1) (by simp) (by
   rw [List.getD_eq_getElem?_getD]
   simp only [List.getElem?_cons_succ, hk, Option.getD_some]
   exact e)
  omega
theorem find_none_of {num : Int} {l : List Entry} (h : ∀ b ∈ l, ¬ b.num = num) : l.find? (numP num) = none :=
 List.find?_eq_none.2 fun b hb => by simpa [numP] using h b hb
theorem find_filter {K : Entry → Bool} {num : Int} : ∀ {l : List Entry}, uniq l → (l.filter K).find? (numP num) = (l.find? (numP num)).filter K
 | [], _ => rfl
 | a :: l, h => by
  have h2 := uniq_tail h
  rw [List.filter_cons, List.find?_cons]
  by_cases e : a.num = num
  ·have ea : numP num a = true := by simpa [numP] using e
   rw [ea]
   cases hK : K a with
   | true => simp only [if_true, List.find?_cons, ea, Option.filter, hK]
   | false =>
    simp only [Bool.false_eq_true, if_false, Option.filter, hK]
    exact find_none_of fun b hb => by
     have := h2.2 b ((List.mem_filter.1 hb).1)
     rwa [e] at this
  ·have ea : numP num a = false := by simpa [numP] using e
   rw [ea]
   dsimp only
   rw [← find_filter h2.1]
   split
   ·rw [List.find?_cons, ea]
   ·rfl
theorem keep_at {s : Shelf} {K : Nat → Entry → Bool} (hu : ∀ i, uniq (s.tables.getD i default).entries) {who num : Int} : (s.keep K).at_ who num = (s.at_ who num).filter (K who.toNat) := by
 rw [at_eq, at_eq, keep_tab]
 have : (s.keep K).isT who = s.isT who := by unfold Shelf.isT; rw [keep_len]
 rw [this]
 split
 ·exact find_filter (hu _)
 ·rfl
theorem at_in {s : Shelf} {who num : Int} {x : Entry} (h : s.at_ who num = some x) : who.toNat < s.tables.length ∧ x.num = num ∧ ∃ k, k < (s.tables.getD who.toNat default).entries.length ∧ (s.tables.getD who.toNat default).entries.getD k default = x := by
 rw [at_eq] at h
 split at h
 ·rename_i ht
  have ht' : 0 ≤ who ∧ who < (s.tables.length : Int) := by simpa [Shelf.isT] using ht
  refine ⟨by omega, by simpa [numP] using List.find?_some h, ?_⟩
  obtain ⟨k, hk⟩ := List.getElem?_of_mem (List.mem_of_find?_eq_some h)
  exact ⟨k, (List.getElem?_eq_some_iff.1 hk).1, by rw [List.getD_eq_getElem?_getD, hk]; rfl⟩
 ·cases h
inductive Shelf.Live (s : Shelf) (K : Nat → Entry → Bool) : Entry → Prop
 | own {e : Entry} (h : e.own = true) : Shelf.Live s K e
 | lent {e x : Entry} (h : s.at_ e.from_ e.fromNum = some x) (hk : K e.from_.toNat x = true) (hx : Shelf.Live s K x) : Shelf.Live s K e
structure Shelf.Cut (s : Shelf) (K0 K : Nat → Entry → Bool) : Prop where
 sub : ∀ i e, K i e = true → K0 i e = true
 live : ∀ i k, i < s.tables.length → k < (s.tables.getD i default).entries.length → K0 i ((s.tables.getD i default).entries.getD k default) = true → s.Live K0 ((s.tables.getD i default).entries.getD k default) → K i ((s.tables.getD i default).entries.getD k default) = true
structure Shelf.Fix (s : Shelf) (K0 K : Nat → Entry → Bool) : Prop where
 cut : s.Cut K0 K
 fix : ∀ i k, i < s.tables.length → k < (s.tables.getD i default).entries.length → K i ((s.tables.getD i default).entries.getD k default) = true → s.Live K0 ((s.tables.getD i default).entries.getD k default)
theorem Shelf.Cut.start (s : Shelf) (K0 : Nat → Entry → Bool) : s.Cut K0 K0 := ⟨fun _ _ h => h, fun _ _ _ _ h _ => h⟩
theorem keep_congr {s : Shelf} {K K' : Nat → Entry → Bool} (h : ∀ i k, i < s.tables.length → k < (s.tables.getD i default).entries.length → K i ((s.tables.getD i default).entries.getD k default) = K' i ((s.tables.getD i default).entries.getD k default)) : s.keep K = s.keep K' := by
 refine shelf_ext rfl rfl (keep_len.trans keep_len.symm) fun i hi => ?_
 rw [keep_len] at hi
 rw [keep_tab, keep_tab]
 congr 1
 refine List.filter_congr fun e he => ?_
 obtain ⟨k, hk⟩ := List.getElem?_of_mem he
 have := h i k hi (List.getElem?_eq_some_iff.1 hk).1
 rw [List.getD_eq_getElem?_getD, hk] at this
 exact this
theorem Shelf.Fix.one {s : Shelf} {K0 K K' : Nat → Entry → Bool} (h : s.Fix K0 K) (h' : s.Fix K0 K') : s.keep K = s.keep K' := keep_congr fun i k hi hk => by
 rw [Bool.eq_iff_iff]
 exact ⟨fun q => h'.cut.live i k hi hk (h.cut.sub _ _ q) (h.fix i k hi hk q), fun q => h.cut.live i k hi hk (h'.cut.sub _ _ q) (h'.fix i k hi hk q)⟩
def delE (K : Nat → Entry → Bool) (w : Nat) (num : Int) : Nat → Entry → Bool := fun i e => K i e && !(Nat.beq i w && numP num e)
theorem keep_cut {s : Shelf} {K : Nat → Entry → Bool} {w : Nat} {num : Int} (hw : w < s.tables.length) : (s.keep K).cut w num = s.keep (delE K w num) := by
 refine shelf_ext rfl rfl (by unfold Shelf.cut; rw [setE_len, keep_len, keep_len]) fun i hi => ?_
 unfold Shelf.cut
 rw [setE_at (by rw [keep_len]; exact hw), keep_tab, keep_tab]
 split
 ·rename_i e
  subst e
  rw [keep_tab]
  dsimp only
  congr 1
  unfold cutL
  rw [List.filter_filter]
  refine List.filter_congr fun e _ => ?_
  unfold delE
  rw [Nat.beq_refl, Bool.true_and, Bool.and_comm]
 ·rename_i e
  rw [keep_tab]
  congr 1
  refine List.filter_congr fun x _ => ?_
  unfold delE
  rw [beq_ff e, Bool.false_and, Bool.not_false, Bool.and_true]
theorem Shelf.Cut.dead {s : Shelf} {K0 K : Nat → Entry → Bool} (h : s.Cut K0 K) (hu : ∀ i, uniq (s.tables.getD i default).entries) {e : Entry} (ho : e.own = false) (hn : (s.keep K).orig e = none) : ¬ s.Live K0 e := by
 intro hl
 cases hl with
 | own q => rw [ho] at q; cases q
 | @lent e x ha hk hx =>
  unfold Shelf.orig at hn
  rw [keep_at hu, ha] at hn
  obtain ⟨h1, h2, k, h3, h4⟩ := at_in ha
  have := h.live _ k h1 h3 (by rw [h4]; exact hk) (by rw [h4]; exact hx)
  rw [h4] at this
  simp [Option.filter, this] at hn
theorem Shelf.Cut.del {s : Shelf} {K0 K : Nat → Entry → Bool} (h : s.Cut K0 K) (hu : ∀ i, uniq (s.tables.getD i default).entries) {w : Nat} {e : Entry} (he : e ∈ (s.tables.getD w default).entries) (hd : ¬ s.Live K0 e) : s.Cut K0 (delE K w e.num) := by
 refine ⟨fun i x q => h.sub i x (by unfold delE at q; rw [Bool.and_eq_true] at q; exact q.1), fun i k hi hk h0 hl => ?_⟩
 unfold delE
 rw [h.live i k hi hk h0 hl, Bool.true_and, Bool.not_eq_true']
 cases hb : (Nat.beq i w && numP e.num ((s.tables.getD i default).entries.getD k default)) with
 | false => rfl
 | true =>
  rw [Bool.and_eq_true] at hb
  have e1 := Nat.eq_of_beq_eq_true hb.1
  subst e1
  have e2 : ((s.tables.getD i default).entries.getD k default).num = e.num := by simpa [numP] using hb.2
  obtain ⟨q, hq⟩ := List.getElem?_of_mem he
  have hql := (List.getElem?_eq_some_iff.1 hq).1
  have hqe : (s.tables.getD i default).entries.getD q default = e := by rw [List.getD_eq_getElem?_getD, hq]; rfl
  have := hu i k q hk hql (by rw [e2, hqe])
  subst this
  rw [hqe] at hl
  exact absurd hl hd
theorem Shelf.Cut.done {s : Shelf} {K0 K : Nat → Entry → Bool} (h : s.Cut K0 K) (hu : ∀ i, uniq (s.tables.getD i default).entries) (hs : ∀ i k, i < s.tables.length → k < (s.tables.getD i default).entries.length → ∃ n, s.sEnds n ((s.tables.getD i default).entries.getD k default) = true)
  (he : ∀ i k, i < s.tables.length → k < (s.tables.getD i default).entries.length → K i ((s.tables.getD i default).entries.getD k default) = true → ((s.tables.getD i default).entries.getD k default).own = true ∨ ¬ (s.keep K).orig ((s.tables.getD i default).entries.getD k default) = none) : s.Fix K0 K := by
 have key : ∀ (n : Nat) (i k : Nat), i < s.tables.length → k < (s.tables.getD i default).entries.length → K i ((s.tables.getD i default).entries.getD k default) = true → s.sEnds n ((s.tables.getD i default).entries.getD k default) = true → s.Live K0 ((s.tables.getD i default).entries.getD k default) := by
  intro n
  induction n with
  | zero => intro i k _ _ _ q; cases q
  | succ n ih =>
   intro i k hi hk hK q
   rcases he i k hi hk hK with q1 | q1
   ·exact .own q1
   ·by_cases ho : ((s.tables.getD i default).entries.getD k default).own = true
    ·exact .own ho
    ·generalize (s.tables.getD i default).entries.getD k default = e at *
     unfold Shelf.orig at q1
     rw [keep_at hu] at q1
     rw [Shelf.sEnds, if_neg ho] at q
     unfold Shelf.orig at q
     cases ha : s.at_ e.from_ e.fromNum with
     | none => rw [ha] at q; cases q
     | some x =>
      rw [ha] at q q1
      dsimp only at q
      have hKx : K e.from_.toNat x = true := by
       cases hc : K e.from_.toNat x with
       | true => rfl
       | false => simp [Option.filter, hc] at q1
      split at q
      ·cases q
      ·obtain ⟨h1, h2, j, h3, h4⟩ := at_in ha
       have := ih _ j h1 h3 (by rw [h4]; exact hKx) (by rw [h4]; exact q)
       rw [h4] at this
       exact .lent ha (h.sub _ _ hKx) this
 refine ⟨h, fun i k hi hk hK => ?_⟩
 obtain ⟨n, hn⟩ := hs i k hi hk
 exact key n i k hi hk hK hn
theorem good_lt {t : Table} (h : t.good) : ∀ {i j : Nat}, i < j → j < t.entries.length → (t.entries.getD i default).num < (t.entries.getD j default).num := by
 intro i j hij hj
 induction j with
 | zero => omega
 | succ j ih =>
  have h1 := (h.1 (j + 1) hj).1
  unfold prevNum at h1
  rw [if_neg (by omega), Nat.add_sub_cancel] at h1
  rcases Nat.lt_or_eq_of_le (Nat.le_of_lt_succ hij) with q | rfl
  ·have := ih q (by omega); omega
  ·exact h1
theorem good_uniq {t : Table} (h : t.good) : uniq t.entries := fun i j hi hj e => by
 rcases Nat.lt_trichotomy i j with q | q | q
 ·have := good_lt h q hj; omega
 ·exact q
 ·have := good_lt h q hi; omega
theorem good_uniqs {s : Shelf} (h : s.good) (i : Nat) : uniq (s.tables.getD i default).entries := by
 by_cases hi : i < s.tables.length
 ·exact good_uniq (h.2.2.2.1 i hi)
 ·rw [List.getD_eq_getElem?_getD, List.getElem?_eq_none (by omega)]
  intro i j hi; cases hi
structure Shelf.Tidy (s : Shelf) : Prop where
 seven : s.tables.length ≤ 7
 uniq : ∀ i, uniq (s.tables.getD i default).entries
 ends : ∀ i k, i < s.tables.length → k < (s.tables.getD i default).entries.length → ∃ n, s.sEnds n ((s.tables.getD i default).entries.getD k default) = true
theorem Shelf.good.tidy {s : Shelf} (h : s.good) : s.Tidy := ⟨h.2.1.2, good_uniqs h, fun i k hi hk => ⟨85, (((good_iff s).1 h).2.2.1 i k hi hk).1⟩⟩
theorem shelf_uniq {s : Shelf} (h : s.Tidy) (i : Nat) : uniq (s.tables.getD i default).entries := h.uniq i
theorem shelf_ends {s : Shelf} (h : s.Tidy) (i k : Nat) (hi : i < s.tables.length) (hk : k < (s.tables.getD i default).entries.length) : ∃ n, s.sEnds n ((s.tables.getD i default).entries.getD k default) = true := h.ends i k hi hk
theorem sEnds_things {s : Shelf} {T : List Thing} : ∀ (n : Nat) (e : Entry), (⟨s.next, s.tables, T⟩ : Shelf).sEnds n e = s.sEnds n e
 | 0, _ => rfl
 | n + 1, e => by
  cases ho : e.own with
  | true => rw [Shelf.sEnds_own ho, Shelf.sEnds_own ho]
  | false =>
   cases hx : s.orig e with
   | none => rw [Shelf.sEnds_none ho hx, Shelf.sEnds_none ho (show (⟨s.next, s.tables, T⟩ : Shelf).orig e = none from hx)]
   | some x =>
    have hx' : (⟨s.next, s.tables, T⟩ : Shelf).orig e = some x := hx
    by_cases hi : x.id = e.id
    ·rw [Shelf.sEnds_on ho hx hi, Shelf.sEnds_on ho hx' hi, sEnds_things n x]
    ·rw [Shelf.sEnds_id ho hx hi, Shelf.sEnds_id ho hx' hi]
theorem Shelf.Tidy.things {s : Shelf} (h : s.Tidy) (T : List Thing) : (⟨s.next, s.tables, T⟩ : Shelf).Tidy :=
 ⟨h.seven, h.uniq, fun i k hi hk => by
  obtain ⟨n, hn⟩ := h.ends i k hi hk
  exact ⟨n, (sEnds_things n _).trans hn⟩⟩
set_option maxRecDepth 8000
def Shelf.noMake (s : Shelf) (who : Nat) : Prop := 24 ≤ s.things.length ∨ 1000000 ≤ s.next ∨ s.fullB who
def Shelf.made (s : Shelf) (who : Nat) (res rep : Int) : Shelf := (s.plus res rep).put who ⟨0, s.next, true, 0, 0, 0, 0⟩
theorem plus_ok {s : Shelf} (h : s.ok) (hn : s.things.length < 24) (res rep : Int) : (s.plus res rep).ok := ⟨h.1, by simp only [Shelf.plus, List.length_append, List.length_singleton]; omega, fun _ _ => trivial⟩
theorem rowNs_box {α : Type} {c : α → List AV} {a : α} [h : FreeC c] : RowNs (boxRow (c a)) := ⟨fun i j _ _ => h.h a j⟩
theorem Ret.toM {P : Program} {g : FuncId} {av : List AV} {post : AV → Prop} (h : Ret P g av post) : RetM P g [] av (fun r H => post r ∧ H = []) := .mk fun w S blk FP us hR hc => by
 refine (h.h w S us (fun b hb => (hR.free b hb).1) ⟨hc.1, fun j c u hj hu => (hc.2 j c u hj hu).nil⟩).mono fun e w' ⟨r, u, he, hq, hcu, hb⟩ => ⟨r, u, [], blk, FP, he, ⟨hq, rfl⟩, ⟨fun id r hr => by simp at hr, fun i j r r' hr => by simp at hr, fun b hb => ⟨hb.2.1, fun id r hr => by simp at hr⟩⟩, ?_, HExt.refl _ _, ?_, ⟨hb.os, hb.tape, hb.output, hb.size, fun k hk _ => hb.block k hk⟩⟩
 ·have hcu' : Conc w' (fun b => S b ∨ (w.heap.size ≤ b ∧ b < w'.heap.size)) blk [] r u := hcu.nil
  refine hcu'.mono (fun b hb' => ⟨⟨?_, ?_, fun id r hr => by simp at hr⟩, rfl⟩) (HExt.refl _ _)
  ·rcases hb' with h | h
   ·exact .inl h
   ·exact .inr h.1
  ·rcases hb' with h | h
   ·have := (hR.free b h).1
    have := hb.size
    omega
   ·exact h.2
 ·rintro b ⟨id, r, hr, _⟩
  simp at hr
theorem plus_len (s : Shelf) (res rep : Int) : s.things.length + 1 = (s.plus res rep).things.length := by simp [Shelf.plus]
set_option maxHeartbeats 2000000 in
theorem l19Make_err (s : Shelf) (h : s.ok) (who res rep : Int) (hw : 0 ≤ who ∧ who < (s.tables.length : Int)) (hf : s.noMake who.toNat) : RetM env.P 71 [some (boxRow s.csO)] [.ptr 0 0 0, .i .i64 who, .i .i64 res, .i .i64 rep] (fun r H => r = .tup [.i .i64 0, .i .i64 4] ∧ H = [some (boxRow s.csO)]) := by
 have hl2 : s.things.length ≤ 1048576 := h.2.1
 have hfF : ¬ s.fullB who.toNat → 24 ≤ s.things.length ∨ 1000000 ≤ s.next := fun q => hf.elim .inl fun r => r.elim .inr fun r => absurd r q
 refine ret_ofM (nt := 60) (rvs := [.tmp 8, .tmp 9]) Tryz.func71 rfl rfl rfl rfl (fun X hX => ?_)
 repeat' (first | exact aa | ((conv => whnf) <;> (first | (exfalso; have hq := hfF ‹_›; omega) | refine And.intro ?_ ?_ | (intro _h; first | contradiction | (try simp only [dd] at _h)) | (refine dt_go ?_) | exact rfl | exact True.intro | exact dkk | exact dks | ((first | refine .inl ⟨_, Ret.wka (l19Full_ok s h who hw), ?_⟩ | refine ⟨_, Ret.wka (l19Full_ok s h who hw), ?_⟩); (try rintro _ rfl)) | (refine wrap_succ ?_; omega))))
 all_goals (conv => whnf)
 all_goals refine endM_turn (turn_close (id := 0) (i := 0) (j := 2) (id' := 1) rfl (show 0 < 1 by decide) (show 2 < 3 by decide) rfl rfl (show 0 ≠ 1 by decide) rfl (rowO_le (Nat.le_refl _))) ?_
 all_goals refine endM_turn (turn_box (id := 0) (ds := s.csO) rfl rfl rfl (.cons (.refl _) (.cons (.refl _) (.cons (.refl _) .nil)))) ?_
 all_goals exact endM_pick [0] [some (boxRow s.csO)] (.tup [.i .i64 0, .i .i64 4]) (view_of rfl (.cons rfl (.self (rowPl_box rfl)) .nil)) rfl rfl (by rw [hX]; exact keepK (n := 1) rfl rfl) ⟨rfl, rfl⟩
set_option maxHeartbeats 2000000 in
theorem l19Make_fine (s : Shelf) (h : s.ok) (who res rep : Int) (hw : 0 ≤ who ∧ who < (s.tables.length : Int)) (hn : 0 ≤ s.next) (ht : 1 ≤ (s.tables.getD who.toNat default).next) (hf : ¬ s.noMake who.toNat) : RetM env.P 71 [some (boxRow s.csO)] [.ptr 0 0 0, .i .i64 who, .i .i64 res, .i .i64 rep] (fun r H => r = .tup [.i .i64 (s.tables.getD who.toNat default).next, .i .i64 0] ∧ H = [some (boxRow (s.made who.toNat res rep).csO)]) := by
 have hl2 : s.things.length ≤ 1048576 := h.2.1
 have hf1 : s.things.length < 24 := Nat.lt_of_not_le fun q => hf (.inl q)
 have hf2 : s.next < 1000000 := Int.lt_of_not_ge fun q => hf (.inr (.inl q))
 have hf3 : ¬ s.fullB who.toNat := fun q => hf (.inr (.inr q))
 have hf4 : (s.tables.getD who.toNat default).entries.length < 12 := Nat.lt_of_not_le fun q => hf3 (.inl q)
 have hf5 : (s.tables.getD who.toNat default).next < 1000000 := Int.lt_of_not_ge fun q => hf3 (.inr q)
 have hi1 : IntKind.i64.wrap (s.next + 1) = s.next + 1 := wrap_in (by omega) (by omega)
 have hid : IntKind.i64.wrap (IntKind.i64.wrap (s.next + 1) - 1) = s.next := by rw [hi1, wrap_in (by omega) (by omega)]; omega
 refine ret_ofM (nt := 60) (rvs := [.tmp 8, .tmp 9]) Tryz.func71 rfl rfl rfl rfl (fun X hX => ?_)
 repeat' (first | exact aa | ((conv => whnf) <;> (first | (refine .inr (.inr ⟨[some (boxRow s.csO), none], (by intro X; refine Turn.trans (turn_close (id := 0) (i := 0) (j := 2) (id' := 1) rfl (show 0 < 1 by decide) (show 2 < 3 by decide) rfl rfl (show 0 ≠ 1 by decide) rfl (rowO_le (Nat.le_refl _))) ?_; exact turn_box (id := 0) (ds := s.csO) rfl rfl rfl (.cons (.refl _) (.cons (.refl _) (.cons (.refl _) .nil)))), (fun i _ q => (by cases q)), .inr (.inl ⟨_, RetM.wk (by repeat (first | exact WkL.nil | refine WkL.cons ?_ ?_ | exact Wk.refl _ | exact Wk.rfc rfl | refine Wk.fn ?_ | exact Wk.nilS0 | exact shr_L (d := 0) (k := 4) rfl | exact shr_L (d := 1) (k := 3) rfl | exact shr_L (d := 2) (k := 2) rfl | exact shr_L (d := 0) (k := 4) (by simp only [markL_len]) | exact shr_L (d := 1) (k := 3) (by simp only [markL_len]) | refine Wk.agg ?_ | exact shr_L (d := 0) (k := 3) rfl | exact shr_L (d := 1) (k := 2) rfl | exact shr_ow (d := 1) (k := 2) | exact shr_ow (d := 0) (k := 3) | refine Wk.rfLo ?_)) (Ret.toM (l19Full_ok s h who hw)), ?_⟩)⟩); rintro _ _ ⟨rfl, rfl⟩; refine ⟨⟨rfl, nssA⟩, _, lokA, ?_⟩) | exact capB2 hl2 (by decide) | exact capN2 hl2 | (refine .inr (.inr ⟨[some (boxRow (s.plus res rep).csO), none, none, none, none], (by intro X; refine Turn.trans (turn_kill 1) ?_; refine Turn.trans (turn_kill 2) ?_; refine Turn.trans (turn_kill 3) ?_; refine Turn.trans (turn_close (id := 0) (i := 0) (j := 2) (id' := 4) rfl (show 0 < 1 by decide) (show 2 < 3 by decide) rfl rfl (show 0 ≠ 4 by decide) rfl ⟨Nat.le_refl _, snoc_idf (l := s.things) rfl (fun j hj => HoldC.h (c := Thing.cs) ⟨s.next, res, rep⟩ j)⟩) ?_; exact turn_box (id := 0) (ds := (s.plus res rep).csO) rfl rfl rfl (.cons (show OwEq (.i .i64 (IntKind.i64.wrap (s.next + 1))) (.i .i64 (s.next + 1)) from (by rw [wrap_in (by omega) (by omega)]; exact .refl _)) (.cons (.refl _) (.cons (OwEq.len (plus_len s res rep) (fun i j _ _ => HoldC.h _ j) (snoc_eq (l := s.things) (sz := 3) (a := ⟨s.next, res, rep⟩) (c := Thing.cs) rfl (fun j hj => .refl _))) .nil)))), (fun i _ q => (by cases q)), .inl ⟨[0], _, _, _, l19Put_ok (s.plus res rep) (plus_ok h hf1 res rep) who hw ⟨0, _, true, 0, 0, 0, 0⟩ hf4 ⟨ht, hf5⟩, (view_of rfl (.cons rfl (.self (rowPl_box rfl)) .nil)), ⟨rfl, rfl⟩, ?_⟩⟩); rintro _ _ ⟨rfl, rfl⟩; refine ⟨rfl, _, (lok_pl (.cons (rowPl_box rfl) .nil)), ?_⟩) | refine And.intro ?_ ?_ | (intro _h; first | contradiction | (try simp only [dd] at _h)) | (refine dt_go ?_) | exact rfl | exact True.intro | exact dkk | exact dks | (refine wrap_succ ?_; omega))))
 all_goals (first | contradiction | skip)
 all_goals (conv => whnf)
 all_goals refine endM_pick [0] [some (boxRow (s.made who.toNat res rep).csO)] (.tup [.i .i64 (s.tables.getD who.toNat default).next, .i .i64 0]) (view_of rfl (.cons ?_ (.self (rowPl_box rfl)) .nil)) rfl rfl (by rw [hX]; exact keepK (n := 1) rfl rfl) ⟨rfl, rfl⟩
 all_goals first
  | exact rfl
  | (refine congrArg (fun z => some (some (boxRow ((s.plus res rep).put who.toNat ⟨0, z, true, 0, 0, 0, 0⟩).csO))) ?_; exact hid)
set_option maxHeartbeats 2000000 in
theorem make_err (s : Shelf) (h : s.ok) (who res rep : Int) (hw : 0 ≤ who ∧ who < (s.tables.length : Int)) (hg1 : (s.tables.getD who.toNat default).entries.length ≤ 12) (hg2 : (s.tables.getD who.toNat default).next ≤ 1000000) (hg3 : s.things.length ≤ 24) (hg4 : s.next ≤ 1000000) (hf : s.noMake who.toNat) : RetM env.P 61 [some (boxRow s.csO)] [.ptr 0 0 0, .i .i64 who, .i .i64 res, .i .i64 rep] (fun r H => r = .tup [.i .i64 0, .i .i64 4] ∧ H = [some (boxRow s.csO)]) := by
 have hl2 : s.things.length ≤ 1048576 := h.2.1
 have hfF : ¬ s.fullB who.toNat → 24 ≤ s.things.length ∨ 1000000 ≤ s.next := fun q => hf.elim .inl fun r => r.elim .inr fun r => absurd r q
 refine ret_ofM (nt := 65) (rvs := [.tmp 8, .tmp 9]) Tryz.func61 rfl rfl rfl rfl (fun X hX => ?_)
 repeat' (first | exact aa | ((conv => whnf) <;> (first | (exfalso; have hq := hfF ‹_›; omega) | refine And.intro ?_ ?_ | (intro _h; first | contradiction | (try simp only [dd] at _h)) | (refine dt_go ?_) | exact rfl | exact True.intro | exact dkk | exact dks | ((first | refine .inl ⟨_, Ret.wka (full_ok s h who hw hg1 hg2), ?_⟩ | refine ⟨_, Ret.wka (full_ok s h who hw hg1 hg2), ?_⟩); (try rintro _ rfl)) | (refine wrap_succ ?_; omega))))
 all_goals (conv => whnf)
 all_goals refine endM_turn (turn_close (id := 0) (i := 0) (j := 2) (id' := 1) rfl (show 0 < 1 by decide) (show 2 < 3 by decide) rfl rfl (show 0 ≠ 1 by decide) rfl (rowO_le (Nat.le_refl _))) ?_
 all_goals refine endM_turn (turn_box (id := 0) (ds := s.csO) rfl rfl rfl (.cons (.refl _) (.cons (.refl _) (.cons (.refl _) .nil)))) ?_
 all_goals exact endM_pick [0] [some (boxRow s.csO)] (.tup [.i .i64 0, .i .i64 4]) (view_of rfl (.cons rfl (.self (rowPl_box rfl)) .nil)) rfl rfl (by rw [hX]; exact keepK (n := 1) rfl rfl) ⟨rfl, rfl⟩
set_option maxHeartbeats 2000000 in
theorem make_fine (s : Shelf) (h : s.ok) (who res rep : Int) (hw : 0 ≤ who ∧ who < (s.tables.length : Int)) (hg1 : (s.tables.getD who.toNat default).entries.length ≤ 12) (hg2 : (s.tables.getD who.toNat default).next ≤ 1000000) (hg3 : s.things.length ≤ 24) (hg4 : s.next ≤ 1000000) (hn : 0 ≤ s.next) (ht : 1 ≤ (s.tables.getD who.toNat default).next) (hf : ¬ s.noMake who.toNat) : RetM env.P 61 [some (boxRow s.csO)] [.ptr 0 0 0, .i .i64 who, .i .i64 res, .i .i64 rep] (fun r H => r = .tup [.i .i64 (s.tables.getD who.toNat default).next, .i .i64 0] ∧ H = [some (boxRow (s.made who.toNat res rep).csO)]) := by
 have hl2 : s.things.length ≤ 1048576 := h.2.1
 have hf1 : s.things.length < 24 := Nat.lt_of_not_le fun q => hf (.inl q)
 have hf2 : s.next < 1000000 := Int.lt_of_not_ge fun q => hf (.inr (.inl q))
 have hf3 : ¬ s.fullB who.toNat := fun q => hf (.inr (.inr q))
 have hf4 : (s.tables.getD who.toNat default).entries.length < 12 := Nat.lt_of_not_le fun q => hf3 (.inl q)
 have hf5 : (s.tables.getD who.toNat default).next < 1000000 := Int.lt_of_not_ge fun q => hf3 (.inr q)
 have hi1 : IntKind.i64.wrap (s.next + 1) = s.next + 1 := wrap_in (by omega) (by omega)
 have hid : IntKind.i64.wrap (IntKind.i64.wrap (s.next + 1) - 1) = s.next := by rw [hi1, wrap_in (by omega) (by omega)]; omega
 refine ret_ofM (nt := 65) (rvs := [.tmp 8, .tmp 9]) Tryz.func61 rfl rfl rfl rfl (fun X hX => ?_)
 repeat' (first | exact aa | ((conv => whnf) <;> (first | exact capB2 hl2 (by decide) | exact capN2 hl2 | (refine .inr (.inr ⟨[some (boxRow (s.plus res rep).csO), none, none, none], (by intro X; refine Turn.trans (turn_kill 1) ?_; refine Turn.trans (turn_kill 2) ?_; refine Turn.trans (turn_close (id := 0) (i := 0) (j := 2) (id' := 3) rfl (show 0 < 1 by decide) (show 2 < 3 by decide) rfl rfl (show 0 ≠ 3 by decide) rfl ⟨Nat.le_refl _, snoc_idf (l := s.things) rfl (fun j hj => HoldC.h (c := Thing.cs) ⟨s.next, res, rep⟩ j)⟩) ?_; exact turn_box (id := 0) (ds := (s.plus res rep).csO) rfl rfl rfl (.cons (show OwEq (.i .i64 (IntKind.i64.wrap (s.next + 1))) (.i .i64 (s.next + 1)) from (by rw [wrap_in (by omega) (by omega)]; exact .refl _)) (.cons (.refl _) (.cons (OwEq.len (plus_len s res rep) (fun i j _ _ => HoldC.h _ j) (snoc_eq (l := s.things) (sz := 3) (a := ⟨s.next, res, rep⟩) (c := Thing.cs) rfl (fun j hj => .refl _))) .nil)))), (fun i _ q => (by cases q)), .inl ⟨[0], _, _, _, add_ok (s.plus res rep) (plus_ok h hf1 res rep) who hw ⟨0, _, true, 0, 0, 0, 0⟩ hf4 ⟨ht, hf5⟩, (view_of rfl (.cons rfl (.self (rowPl_box rfl)) .nil)), ⟨rfl, rfl⟩, ?_⟩⟩); rintro _ _ ⟨rfl, rfl⟩; refine ⟨rfl, _, (lok_pl (.cons (rowPl_box rfl) .nil)), ?_⟩) | refine And.intro ?_ ?_ | (intro _h; first | contradiction | (try simp only [dd] at _h)) | (refine dt_go ?_) | exact rfl | exact True.intro | exact dkk | exact dks | ((first | refine .inl ⟨_, Ret.wka (full_ok s h who hw hg1 hg2), ?_⟩ | refine ⟨_, Ret.wka (full_ok s h who hw hg1 hg2), ?_⟩); (try rintro _ rfl)) | (refine wrap_succ ?_; omega))))
 all_goals (first | contradiction | skip)
 all_goals (conv => whnf)
 all_goals refine endM_pick [0] [some (boxRow (s.made who.toNat res rep).csO)] (.tup [.i .i64 (s.tables.getD who.toNat default).next, .i .i64 0]) (view_of rfl (.cons ?_ (.self (rowPl_box rfl)) .nil)) rfl rfl (by rw [hX]; exact keepK (n := 1) rfl rfl) ⟨rfl, rfl⟩
 all_goals first
  | exact rfl
  | (refine congrArg (fun z => some (some (boxRow ((s.plus res rep).put who.toNat ⟨0, z, true, 0, 0, 0, 0⟩).csO))) ?_; exact hid)
theorem tab_good {s : Shelf} (h : s.good) {who : Int} (hw : 0 ≤ who ∧ who < (s.tables.length : Int)) : (s.tables.getD who.toNat default).entries.length ≤ 12 ∧ 1 ≤ (s.tables.getD who.toNat default).next ∧ (s.tables.getD who.toNat default).next ≤ 1000000 := by
 have := h.2.2.2.1 who.toNat (by omega)
 exact ⟨this.2.2, this.2.1.1, this.2.1.2⟩
theorem set_ok {s : Shelf} (h : okL Table.ok s.tables) {w : Nat} {t : Table} (ht : t.ok) : okL Table.ok (s.tables.set w t) := by
 refine ⟨by rw [List.length_set]; exact h.1, fun k hk => ?_⟩
 rw [List.length_set] at hk
 by_cases e : k = w
 ·subst e
  rw [getD_set hk, if_pos rfl]; exact ht
 ·have : (s.tables.set w t).getD k default = s.tables.getD k default := by
   rw [List.getD_eq_getElem?_getD, List.getD_eq_getElem?_getD, List.getElem?_set_ne (fun h => e h.symm)]
  rw [this]; exact h.2 k hk
theorem put_ok {s : Shelf} (h : s.ok) {w : Nat} (e : Entry) (hl : (s.tables.getD w default).entries.length ≤ 12) : (s.put w e).ok :=
 ⟨set_ok h.1 ⟨by simp only [Table.put, List.length_append, List.length_singleton]; omega, fun _ _ => trivial⟩, h.2⟩
theorem made_ok {s : Shelf} (h : s.ok) {w : Nat} {res rep : Int} (hn : s.things.length < 24) (hl : (s.tables.getD w default).entries.length ≤ 12) : (s.made w res rep).ok := put_ok (plus_ok h hn res rep) _ hl
set_option maxRecDepth 8000
def setLd (l : List Entry) (k : Nat) (v : Int) : List Entry := l.set k { l.getD k default with lends := v }
def Shelf.setL (s : Shelf) (w k : Nat) (v : Int) : Shelf := s.setE w (setLd (s.tables.getD w default).entries k v)
theorem setLd_len {l : List Entry} {k : Nat} {v : Int} : (setLd l k v).length = l.length := List.length_set
theorem setLd_rows {l : List Entry} {k n : Nat} {v : Int} (hk : k < l.length) : ∀ i j, i < n → j < 7 → OwEq (upd (elE Entry.cs l) k 3 [.i .i64 v] i j) (elE Entry.cs (setLd l k v) i j) := fun i j hi hj => by
 have hr : elE Entry.cs (setLd l k v) i j = (Entry.cs (if i = k then { l.getD k default with lends := v } else l.getD i default)).getD j .any := by
  unfold elE setLd
  rw [getD_set hk]
 rw [hr, upd_one]
 by_cases e1 : i = k
 ·subst e1
  rw [if_pos rfl]
  rcases (show j = 0 ∨ j = 1 ∨ j = 2 ∨ j = 3 ∨ j = 4 ∨ j = 5 ∨ j = 6 by omega) with rfl | rfl | rfl | rfl | rfl | rfl | rfl <;> first | exact .refl _ | (rw [if_neg (by omega)]; exact .refl _) | (rw [if_pos ⟨rfl, rfl⟩]; exact .refl _)
 ·rw [if_neg (fun q => e1 q.1), if_neg e1]
  exact .refl _
theorem setLd_rowO {l : List Entry} {k n : Nat} {v : Int} (hn : n ≤ l.length) : RowO n ⟨7, l.length, upd (elE Entry.cs l) k 3 [.i .i64 v], .arr⟩ := ⟨hn, fun i j hi hj => by
 show (upd _ k 3 [.i .i64 v] i j).idfO
 rw [upd_one]
 split
 ·exact trivial
 ·exact HoldC.h _ j⟩
theorem setL_ok {s : Shelf} (h : s.ok) {w k : Nat} {v : Int} : (s.setL w k v).ok := setE_ok h (by rw [setLd_len]; exact entLe h w)
theorem setL_at {s : Shelf} {w k j : Nat} {v : Int} : ((s.setL w k v).tables.getD j default).entries.length = (s.tables.getD j default).entries.length ∧ ((s.setL w k v).tables.getD j default).next = (s.tables.getD j default).next := by
 unfold Shelf.setL
 by_cases hw : w < s.tables.length
 ·rw [setE_at hw]
  split
  ·rename_i e
   subst e
   exact ⟨setLd_len, rfl⟩
  ·exact ⟨rfl, rfl⟩
 ·have : (s.setE w (setLd (s.tables.getD w default).entries k v)).tables = s.tables := by
   unfold Shelf.setE
   rw [List.set_eq_of_length_le (by omega)]
  rw [this]
  exact ⟨rfl, rfl⟩
def Shelf.lentTo (s : Shelf) (who num : Int) (q : Nat) (to : Nat) (scope : Int) : Shelf :=
 (s.setL who.toNat q (IntKind.i64.wrap (((s.tables.getD who.toNat default).entries.getD q default).lends + 1))).put to ⟨0, ((s.tables.getD who.toNat default).entries.getD q default).id, false, 0, scope, who, num⟩
set_option maxHeartbeats 2000000 in
theorem lend_none (s : Shelf) (h : s.ok) (who num res to scope : Int) (hg : s.good) (hw : 0 ≤ who ∧ who < (s.tables.length : Int)) (hto : 0 ≤ to ∧ to < (s.tables.length : Int)) (hE : s.typ who num res = none) : RetM env.P 63 [some (boxRow s.csO)] [.ptr 0 0 0, .i .i64 who, .i .i64 num, .i .i64 res, .i .i64 to, .i .i64 scope] (fun r H => r = .tup [.i .i64 0, .i .i64 11] ∧ H = [some (boxRow s.csO)]) := by
 have hl : s.tables.length ≤ 1048576 := h.1.1
 have hw2 : who.toNat < s.tables.length := by omega
 refine ret_ofM (nt := 45) (rvs := [.tmp 12, .tmp 13]) Tryz.func63 rfl rfl rfl rfl (fun X hX => ?_)
 repeat' (first | exact aa | ((conv => whnf) <;> (first | refine And.intro ?_ ?_ | (intro _h; first | contradiction | (try simp only [dd] at _h)) | (refine dt_go ?_) | exact rfl | exact True.intro | exact dkk | exact dks | (refine .inr (.inl (.inl ⟨[0], _, _, _, typedO_none s h hg who num res hw hE, viewA, ⟨rfl, rfl⟩, ?_⟩)); rintro _ _ ⟨rfl, rfl⟩; refine ⟨rfl, _, lokA, ?_⟩) | (refine wrap_succ ?_; omega))))
 all_goals (first | contradiction | skip)
 all_goals (conv => whnf)
 all_goals exact endM_pick [0] [some (boxRow (s).csO)] (.tup [.i .i64 0, .i .i64 11]) (view_of rfl (.cons rfl (.self (rowPl_box rfl)) .nil)) rfl rfl (by rw [hX]; exact keepK (n := 1) rfl rfl) ⟨rfl, rfl⟩
set_option maxHeartbeats 2000000 in
theorem lend_full (s : Shelf) (h : s.ok) (who num res to scope : Int) (hg : s.good) (hw : 0 ≤ who ∧ who < (s.tables.length : Int)) (hto : 0 ≤ to ∧ to < (s.tables.length : Int)) (q : Nat) (hq : (s.tables.getD who.toNat default).find num = some q) (hr : (s.thingOf ((s.tables.getD who.toNat default).entries.getD q default)).res = res) (hf : s.fullB to.toNat) : RetM env.P 63 [some (boxRow s.csO)] [.ptr 0 0 0, .i .i64 who, .i .i64 num, .i .i64 res, .i .i64 to, .i .i64 scope] (fun r H => r = .tup [.i .i64 0, .i .i64 4] ∧ H = [some (boxRow s.csO)]) := by
 have hl : s.tables.length ≤ 1048576 := h.1.1
 have hw2 : who.toNat < s.tables.length := by omega
 refine ret_ofM (nt := 45) (rvs := [.tmp 12, .tmp 13]) Tryz.func63 rfl rfl rfl rfl (fun X hX => ?_)
 repeat' (first | exact aa | ((conv => whnf) <;> (first | (refine .inr (.inl (.inl ⟨[0], _, _, _, typedO_some s h hg who num res hw q hq hr, (view_of rfl (.cons rfl (.self (rowPl_box rfl)) .nil)), ⟨rfl, rfl⟩, ?_⟩)); rintro _ _ ⟨rfl, rfl⟩; refine ⟨rfl, _, lok_open, ?_⟩) | ((first | refine .inl ⟨_, Ret.wku (full_ok s h to hto (tab_good hg hto).1 (tab_good hg hto).2.2), ?_⟩ | refine ⟨_, Ret.wku (full_ok s h to hto (tab_good hg hto).1 (tab_good hg hto).2.2), ?_⟩); (try rintro _ rfl)) | refine And.intro ?_ ?_ | (intro _h; first | contradiction | (try simp only [dd] at _h)) | (refine dt_go ?_) | exact rfl | exact True.intro | exact dkk | exact dks | (refine wrap_succ ?_; omega))))
 all_goals (first | contradiction | skip)
 all_goals (conv => whnf)
 all_goals refine endM_turn (turn_close (id := 1) (i := who.toNat) (j := 1) (id' := 2) rfl hw2 (show 1 < 2 by decide) (by first | exact upd_self | (simp only [upd, Nat.beq_refl]; rfl) | (simp only [Shelf.rowT, upd, Nat.beq_refl]; rfl) | exact rowT_at) rfl (show 1 ≠ 2 by decide) rfl (rowO_le (Nat.le_refl _))) ?_
 all_goals refine endM_turn (turn_eq (id := 1) (x := rowL 2 Table.csO (s.setE who.toNat (s.tables.getD who.toNat default).entries).tables) rfl rfl setE_len rfl rfl (setE_rows (l := (s.tables.getD who.toNat default).entries) hw2 rfl (fun i j _ _ => .refl _))) ?_
 all_goals refine endM_turn (turn_close (id := 0) (i := 0) (j := 1) (id' := 1) rfl (show 0 < 1 by decide) (show 1 < 3 by decide) rfl rfl (show 0 ≠ 1 by decide) rfl (rowO_le (Nat.le_of_eq setE_len.symm))) ?_
 all_goals refine endM_turn (turn_close (id := 0) (i := 0) (j := 2) (id' := 3) rfl (show 0 < 1 by decide) (show 2 < 3 by decide) rfl rfl (show 0 ≠ 3 by decide) rfl (rowO_le (Nat.le_refl _))) ?_
 all_goals refine endM_turn (turn_box (id := 0) (ds := (s).csO) rfl rfl rfl (.cons (.refl _) (.cons (OwEq.len rfl (fun i j _ _ => HoldC.h _ j) (fun i j _ _ => by rw [setE_self]; exact .refl _)) (.cons (.refl _) .nil)))) ?_
 all_goals exact endM_pick [0] [some (boxRow (s).csO)] (.tup [.i .i64 0, .i .i64 4]) (view_of rfl (.cons rfl (.self (rowPl_box rfl)) .nil)) rfl rfl (by rw [hX]; exact keepK (n := 1) rfl rfl) ⟨rfl, rfl⟩
set_option maxHeartbeats 2000000 in
theorem lend_fine (s : Shelf) (h : s.ok) (who num res to scope : Int) (hg : s.good) (hw : 0 ≤ who ∧ who < (s.tables.length : Int)) (hto : 0 ≤ to ∧ to < (s.tables.length : Int)) (q : Nat) (hq : (s.tables.getD who.toNat default).find num = some q) (hr : (s.thingOf ((s.tables.getD who.toNat default).entries.getD q default)).res = res) (hf : ¬ s.fullB to.toNat) : RetM env.P 63 [some (boxRow s.csO)] [.ptr 0 0 0, .i .i64 who, .i .i64 num, .i .i64 res, .i .i64 to, .i .i64 scope] (fun r H => r = .tup [.i .i64 ((s.setL who.toNat q (IntKind.i64.wrap (((s.tables.getD who.toNat default).entries.getD q default).lends + 1))).tables.getD to.toNat default).next, .i .i64 0] ∧ H = [some (boxRow (s.lentTo who num q to.toNat scope).csO)]) := by
 have hl : s.tables.length ≤ 1048576 := h.1.1
 have hw2 : who.toNat < s.tables.length := by omega
 have hf4 : (s.tables.getD to.toNat default).entries.length < 12 := Nat.lt_of_not_le fun q => hf (.inl q)
 have hf5 : (s.tables.getD to.toNat default).next < 1000000 := Int.lt_of_not_ge fun q => hf (.inr q)
 have hlt : q < (s.tables.getD who.toNat default).entries.length := (find_lt hq).1
 have he : (s.tables.getD who.toNat default).entries.length ≤ 1048576 := entLe h _
 refine ret_ofM (nt := 45) (rvs := [.tmp 12, .tmp 13]) Tryz.func63 rfl rfl rfl rfl (fun X hX => ?_)
 repeat' (first | exact aa | ((conv => whnf) <;> (first | (refine .inr (.inl (.inl ⟨[0], _, _, _, typedO_some s h hg who num res hw q hq hr, (view_of rfl (.cons rfl (.self (rowPl_box rfl)) .nil)), ⟨rfl, rfl⟩, ?_⟩)); rintro _ _ ⟨rfl, rfl⟩; refine ⟨rfl, _, lok_open, ?_⟩) | ((first | refine .inl ⟨_, Ret.wku (full_ok s h to hto (tab_good hg hto).1 (tab_good hg hto).2.2), ?_⟩ | refine ⟨_, Ret.wku (full_ok s h to hto (tab_good hg hto).1 (tab_good hg hto).2.2), ?_⟩); (try rintro _ rfl)) | (refine .inr (.inr ⟨[some (boxRow (s.setL who.toNat q (IntKind.i64.wrap (((s.tables.getD who.toNat default).entries.getD q default).lends + 1))).csO), none, none, none], (by intro X; refine Turn.trans (turn_close (id := 1) (i := who.toNat) (j := 1) (id' := 2) rfl hw2 (show 1 < 2 by decide) (by first | exact upd_self | (simp only [upd, Nat.beq_refl]; rfl) | (simp only [Shelf.rowT, upd, Nat.beq_refl]; rfl) | exact rowT_at) rfl (show 1 ≠ 2 by decide) rfl (setLd_rowO (Nat.le_refl _))) ?_; refine Turn.trans (turn_eq (id := 1) (x := rowL 2 Table.csO (s.setE who.toNat (setLd (s.tables.getD who.toNat default).entries q (IntKind.i64.wrap (((s.tables.getD who.toNat default).entries.getD q default).lends + 1)))).tables) rfl rfl setE_len rfl rfl (setE_rows (l := (setLd (s.tables.getD who.toNat default).entries q (IntKind.i64.wrap (((s.tables.getD who.toNat default).entries.getD q default).lends + 1)))) hw2 setLd_len.symm (setLd_rows hlt))) ?_; refine Turn.trans (turn_close (id := 0) (i := 0) (j := 1) (id' := 1) rfl (show 0 < 1 by decide) (show 1 < 3 by decide) rfl rfl (show 0 ≠ 1 by decide) rfl (rowO_le (Nat.le_of_eq setE_len.symm))) ?_; refine Turn.trans (turn_close (id := 0) (i := 0) (j := 2) (id' := 3) rfl (show 0 < 1 by decide) (show 2 < 3 by decide) rfl rfl (show 0 ≠ 3 by decide) rfl (rowO_le (Nat.le_refl _))) ?_; exact turn_box (id := 0) (ds := (s.setE who.toNat (setLd (s.tables.getD who.toNat default).entries q (IntKind.i64.wrap (((s.tables.getD who.toNat default).entries.getD q default).lends + 1)))).csO) rfl rfl rfl (.cons (.refl _) (.cons (OwEq.len setE_len.symm (fun i j _ _ => HoldC.h _ j) (fun i j _ _ => .refl _)) (.cons (.refl _) .nil)))), (fun i _ q => (by cases q)), .inl ⟨[0], _, _, _, add_ok (s.setL who.toNat q (IntKind.i64.wrap (((s.tables.getD who.toNat default).entries.getD q default).lends + 1))) (setL_ok h) to ⟨hto.1, by rw [show (s.setL who.toNat q (IntKind.i64.wrap (((s.tables.getD who.toNat default).entries.getD q default).lends + 1))).tables.length = s.tables.length from setE_len]; exact hto.2⟩ ⟨0, _, false, 0, scope, who, num⟩ (by rw [setL_at.1]; exact hf4) (by rw [setL_at.2]; exact ⟨(tab_good hg hto).2.1, hf5⟩), (view_of rfl (.cons rfl (.self (rowPl_box rfl)) .nil)), ⟨rfl, rfl⟩, ?_⟩⟩); rintro _ _ ⟨rfl, rfl⟩; refine ⟨rfl, _, (lok_pl (.cons (rowPl_box rfl) .nil)), ?_⟩) | refine And.intro ?_ ?_ | (intro _h; first | contradiction | (try simp only [dd] at _h)) | (refine dt_go ?_) | exact rfl | exact True.intro | exact dkk | exact dks | (refine wrap_succ ?_; omega))))
 all_goals (first | contradiction | skip)
 all_goals (conv => whnf)
 all_goals exact endM_pick [0] [some (boxRow (s.lentTo who num q to.toNat scope).csO)] (.tup [.i .i64 ((s.setL who.toNat q (IntKind.i64.wrap (((s.tables.getD who.toNat default).entries.getD q default).lends + 1))).tables.getD to.toNat default).next, .i .i64 0]) (view_of rfl (.cons rfl (.self (rowPl_box rfl)) .nil)) rfl rfl (by rw [hX]; exact keepK (n := 1) rfl rfl) ⟨rfl, rfl⟩
set_option maxHeartbeats 2000000 in
theorem l19Lend_none (s : Shelf) (h : s.ok) (who num res to scope : Int) (hg : s.good) (hw : 0 ≤ who ∧ who < (s.tables.length : Int)) (hto : 0 ≤ to ∧ to < (s.tables.length : Int)) (hE : s.typ who num res = none) : RetM env.P 73 [some (boxRow s.csO)] [.ptr 0 0 0, .i .i64 who, .i .i64 num, .i .i64 res, .i .i64 to, .i .i64 scope] (fun r H => r = .tup [.i .i64 0, .i .i64 11] ∧ H = [some (boxRow s.csO)]) := by
 have hl : s.tables.length ≤ 1048576 := h.1.1
 have hw2 : who.toNat < s.tables.length := by omega
 refine ret_ofM (nt := 64) (rvs := [.tmp 12, .tmp 13]) Tryz.func73 rfl rfl rfl rfl (fun X hX => ?_)
 repeat' (first | exact aa | ((conv => whnf) <;> (first | ((first | refine .inl ⟨_, Ret.wka (l19Find_ok s h hg who num res), ?_⟩ | refine ⟨_, Ret.wka (l19Find_ok s h hg who num res), ?_⟩); (try rintro _ rfl); rw [hE]; simp only [findR]) | refine And.intro ?_ ?_ | (intro _h; first | contradiction | (try simp only [dd] at _h)) | (refine dt_go ?_) | exact rfl | exact True.intro | exact dkk | exact dks | (refine wrap_succ ?_; omega))))
 all_goals (first | contradiction | skip)
 all_goals (conv => whnf)
 all_goals exact endM_pick [0] [some (boxRow (s).csO)] (.tup [.i .i64 0, .i .i64 11]) (view_of rfl (.cons rfl (.self (rowPl_box rfl)) .nil)) rfl rfl (by rw [hX]; exact keepK (n := 1) rfl rfl) ⟨rfl, rfl⟩
set_option maxHeartbeats 2000000 in
theorem l19Lend_full (s : Shelf) (h : s.ok) (who num res to scope : Int) (hg : s.good) (hw : 0 ≤ who ∧ who < (s.tables.length : Int)) (hto : 0 ≤ to ∧ to < (s.tables.length : Int)) (q : Nat) (hq : (s.tables.getD who.toNat default).find num = some q) (hr : (s.thingOf ((s.tables.getD who.toNat default).entries.getD q default)).res = res) (hf : s.fullB to.toNat) : RetM env.P 73 [some (boxRow s.csO)] [.ptr 0 0 0, .i .i64 who, .i .i64 num, .i .i64 res, .i .i64 to, .i .i64 scope] (fun r H => r = .tup [.i .i64 0, .i .i64 4] ∧ H = [some (boxRow s.csO)]) := by
 have hl : s.tables.length ≤ 1048576 := h.1.1
 have hw2 : who.toNat < s.tables.length := by omega
 have hE : s.typ who num res = some ((s.tables.getD who.toNat default).entries.getD q default) := typ_some (find_at hw hq) hr
 refine ret_ofM (nt := 64) (rvs := [.tmp 12, .tmp 13]) Tryz.func73 rfl rfl rfl rfl (fun X hX => ?_)
 repeat' (first | exact aa | ((conv => whnf) <;> (first | ((first | refine .inl ⟨_, Ret.wka (l19Find_ok s h hg who num res), ?_⟩ | refine ⟨_, Ret.wka (l19Find_ok s h hg who num res), ?_⟩); (try rintro _ rfl); rw [hE]; simp only [findR]) | refine And.intro ?_ ?_ | (intro _h; first | contradiction | (try simp only [dd] at _h)) | (refine dt_go ?_) | exact rfl | exact True.intro | exact dkk | exact dks | ((first | refine .inl ⟨_, Ret.wka (l19Full_ok s h to hto), ?_⟩ | refine ⟨_, Ret.wka (l19Full_ok s h to hto), ?_⟩); (try rintro _ rfl)) | (refine wrap_succ ?_; omega))))
 all_goals (first | contradiction | skip)
 all_goals (conv => whnf)
 all_goals exact endM_pick [0] [some (boxRow (s).csO)] (.tup [.i .i64 0, .i .i64 4]) (view_of rfl (.cons rfl (.self (rowPl_box rfl)) .nil)) rfl rfl (by rw [hX]; exact keepK (n := 1) rfl rfl) ⟨rfl, rfl⟩
set_option maxHeartbeats 2000000 in
theorem l19Lend_fine (s : Shelf) (h : s.ok) (who num res to scope : Int) (hg : s.good) (hw : 0 ≤ who ∧ who < (s.tables.length : Int)) (hto : 0 ≤ to ∧ to < (s.tables.length : Int)) (q : Nat) (hq : (s.tables.getD who.toNat default).find num = some q) (hr : (s.thingOf ((s.tables.getD who.toNat default).entries.getD q default)).res = res) (hf : ¬ s.fullB to.toNat) : RetM env.P 73 [some (boxRow s.csO)] [.ptr 0 0 0, .i .i64 who, .i .i64 num, .i .i64 res, .i .i64 to, .i .i64 scope] (fun r H => r = .tup [.i .i64 ((s.setL who.toNat q (IntKind.i64.wrap (((s.tables.getD who.toNat default).entries.getD q default).lends + 1))).tables.getD to.toNat default).next, .i .i64 0] ∧ H = [some (boxRow (s.lentTo who num q to.toNat scope).csO)]) := by
 have hl : s.tables.length ≤ 1048576 := h.1.1
 have hw2 : who.toNat < s.tables.length := by omega
 have hf4 : (s.tables.getD to.toNat default).entries.length < 12 := Nat.lt_of_not_le fun q => hf (.inl q)
 have hf5 : (s.tables.getD to.toNat default).next < 1000000 := Int.lt_of_not_ge fun q => hf (.inr q)
 have hlt : q < (s.tables.getD who.toNat default).entries.length := (find_lt hq).1
 have he : (s.tables.getD who.toNat default).entries.length ≤ 1048576 := entLe h _
 have hE : s.typ who num res = some ((s.tables.getD who.toNat default).entries.getD q default) := typ_some (find_at hw hq) hr
 refine ret_ofM (nt := 64) (rvs := [.tmp 12, .tmp 13]) Tryz.func73 rfl rfl rfl rfl (fun X hX => ?_)
 repeat' (first | exact aa | ((conv => whnf) <;> (first | ((first | refine .inl ⟨_, Ret.wka (l19Find_ok s h hg who num res), ?_⟩ | refine ⟨_, Ret.wka (l19Find_ok s h hg who num res), ?_⟩); (try rintro _ rfl); rw [hE]; simp only [findR]) | ((first | refine .inl ⟨_, Ret.wka (l19Entry_ok _ (h.1.2 who.toNat hw2) num), ?_⟩ | refine ⟨_, Ret.wka (l19Entry_ok _ (h.1.2 who.toNat hw2) num), ?_⟩); (try rintro _ rfl); rw [hq]; simp only [idxI]) | (refine ld_skip rfl rfl rfl rfl upd_self ?_) | (refine bool_skip any_self ?_) | (first | rw [ld_self rfl] | rw [ld_selfA rfl]) | (refine .inr (.inr ⟨[some (boxRow (s.setL who.toNat q (IntKind.i64.wrap (((s.tables.getD who.toNat default).entries.getD q default).lends + 1))).csO), none, none, none], (by intro X; refine Turn.trans (turn_kill 1) ?_; refine Turn.trans (turn_close (id := 2) (i := who.toNat) (j := 1) (id' := 3) rfl hw2 (show 1 < 2 by decide) (by first | exact upd_self | (simp only [upd, Nat.beq_refl]; rfl) | (simp only [Shelf.rowT, upd, Nat.beq_refl]; rfl) | exact rowT_at) rfl (show 2 ≠ 3 by decide) rfl (setLd_rowO (Nat.le_refl _))) ?_; refine Turn.trans (turn_eq (id := 2) (x := rowL 2 Table.csO (s.setE who.toNat (setLd (s.tables.getD who.toNat default).entries q (IntKind.i64.wrap (((s.tables.getD who.toNat default).entries.getD q default).lends + 1)))).tables) rfl rfl setE_len rfl rfl (setE_rows (l := (setLd (s.tables.getD who.toNat default).entries q (IntKind.i64.wrap (((s.tables.getD who.toNat default).entries.getD q default).lends + 1)))) hw2 setLd_len.symm (setLd_rows hlt))) ?_; refine Turn.trans (turn_close (id := 0) (i := 0) (j := 1) (id' := 2) rfl (show 0 < 1 by decide) (show 1 < 3 by decide) rfl rfl (show 0 ≠ 2 by decide) rfl (rowO_le (Nat.le_of_eq setE_len.symm))) ?_; exact turn_box (id := 0) (ds := (s.setE who.toNat (setLd (s.tables.getD who.toNat default).entries q (IntKind.i64.wrap (((s.tables.getD who.toNat default).entries.getD q default).lends + 1)))).csO) rfl rfl rfl (.cons (.refl _) (.cons (OwEq.len setE_len.symm (fun i j _ _ => HoldC.h _ j) (fun i j _ _ => .refl _)) (.cons (.refl _) .nil)))), (fun i _ q => (by cases q)), .inl ⟨[0], _, _, _, l19Put_ok (s.setL who.toNat q (IntKind.i64.wrap (((s.tables.getD who.toNat default).entries.getD q default).lends + 1))) (setL_ok h) to ⟨hto.1, by rw [show (s.setL who.toNat q (IntKind.i64.wrap (((s.tables.getD who.toNat default).entries.getD q default).lends + 1))).tables.length = s.tables.length from setE_len]; exact hto.2⟩ ⟨0, _, false, 0, scope, who, num⟩ (by rw [setL_at.1]; exact hf4) (by rw [setL_at.2]; exact ⟨(tab_good hg hto).2.1, hf5⟩), (view_of rfl (.cons rfl (.self (rowPl_box rfl)) .nil)), ⟨rfl, rfl⟩, ?_⟩⟩); rintro _ _ ⟨rfl, rfl⟩; refine ⟨rfl, _, (lok_pl (.cons (rowPl_box rfl) .nil)), ?_⟩) | refine And.intro ?_ ?_ | (intro _h; first | contradiction | (try simp only [dd] at _h)) | (refine dt_go ?_) | exact rfl | exact True.intro | exact dkk | exact dks | ((first | refine .inl ⟨_, Ret.wka (l19Full_ok s h to hto), ?_⟩ | refine ⟨_, Ret.wka (l19Full_ok s h to hto), ?_⟩); (try rintro _ rfl)) | (refine wrap_succ ?_; omega))))
 all_goals (first | contradiction | skip)
 all_goals (conv => whnf)
 all_goals exact endM_pick [0] [some (boxRow (s.lentTo who num q to.toNat scope).csO)] (.tup [.i .i64 ((s.setL who.toNat q (IntKind.i64.wrap (((s.tables.getD who.toNat default).entries.getD q default).lends + 1))).tables.getD to.toNat default).next, .i .i64 0]) (view_of rfl (.cons rfl (.self (rowPl_box rfl)) .nil)) rfl rfl (by rw [hX]; exact keepK (n := 1) rfl rfl) ⟨rfl, rfl⟩
end Go.Proofs.YtmglpojnoadgeaaGreat
