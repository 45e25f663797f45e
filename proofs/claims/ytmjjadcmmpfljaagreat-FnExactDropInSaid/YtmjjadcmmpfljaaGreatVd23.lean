/- Texts for VDropInP. -/
import Derived.Test.YtmjjadcmmpfljaaGreatVd22
namespace Go.Proofs.YtmjjadcmmpfljaaGreat
open Go Go.RowKit
set_option linter.unusedVariables false
set_option linter.unusedSimpArgs false
theorem cnt_end {s : Shelf} {i : Nat} (h : i ≤ s.tables.length) (hn : ¬ i < s.tables.length) : [some (mpRow true (leF (s.upTo i 0)) []), some (mpRow false (owF (s.upTo i 0)) [])] = [some (mpRow true (leF s.all) []), some (mpRow false (owF s.all) [])] := by
 rw [show i = s.tables.length by omega, upTo_end]
set_option maxRecDepth 8000 in
theorem counts_ok (s : Shelf) (h : s.ok) : RetM env.P 155 [] [rfL s.cs] (fun r H => r = .tup [.mp 0, .mp 1] ∧ H = [some (mpRow true (leF s.all) []), some (mpRow false (owF s.all) [])]) := by
 have hl : s.tables.length ≤ 1048576 := h.1.1
 refine ret_ofM (nt := 50) (rvs := [.tmp 2, .tmp 3]) Tryz.func155 rfl rfl rfl rfl (fun X hX => ?_)
 repeat' (first | exact aa | ((conv => whnf) <;> (first | (refine endM_self ⟨rfl, ?_⟩; simp only [mkH, RowI.row]; exact cnt_end (by omega) (by omega)) | refine loopAt 18 s.tables.length (fun i => [(18, .i .i64 i)]) (fun i => [some (.mp true (leF (s.upTo i 0))), some (.mp false (owF (s.upTo i 0)))]) (fun _ => True) rfl ⟨trivial, ?_⟩ | (rename_i i _ _; have he : (s.tables.getD (i : Int).toNat default).entries.length ≤ 1048576 := (h.1.2 i (by omega)).1; refine loopAt 25 (s.tables.getD (i : Int).toNat default).entries.length (fun k => [(25, .i .i64 k)]) (fun k => [some (.mp true (leF (s.upTo i k))), some (.mp false (owF (s.upTo i k)))]) (fun _ => True) rfl ⟨trivial, ?_⟩) | refine And.intro ?_ ?_ | (intro _h; first | contradiction | (try simp only [dd] at _h)) | (refine dt_go ?_) | exact rfl | exact True.intro | exact dkk | exact dks | (refine wrap_succ ?_; omega))))
 all_goals (first | (conv => whnf) | skip)
 all_goals (simp only [Int.toNat_natCast] at *)
 all_goals first | exact le_own (by omega) (by assumption) | exact le_lent (by omega) (by assumption) | exact ow_own (by omega) (by assumption) | exact ow_lent (by omega) (by assumption) | exact congrArg _ (upTo_ends (by omega) (by omega) (by omega)) | trace_state
set_option maxRecDepth 8000
theorem rowPl_mp (ak : Bool) (f : List Int → Int) (sts : List (Int × List Int)) : RowPl (mpRow ak f sts) := ⟨fun i j hi => absurd hi (Nat.not_lt_zero _)⟩
theorem entriesOk1_ok (x : Thing) (f : List Int → Int) : Ret env.P 158 [.agg x.cs, rfL [.fm false f]] (fun r => r = .b (!decide (f [x.id] = 1))) := by
 refine ret_of (nt := 9) (rvs := [.tmp 3]) Tryz.func158 rfl rfl rfl rfl (fun X => ?_)
 repeat' (first | exact aa | ((conv => whnf) <;> (first | refine And.intro ?_ ?_ | (intro _h; first | contradiction | (try simp only [dd] at _h)) | (refine dt_go ?_) | exact rfl | exact True.intro | exact dkk | exact dks | (refine wrap_succ ?_; omega))))
 all_goals exact rfl
set_option maxHeartbeats 4000000 in
theorem entriesOk_ok (s : Shelf) (h : s.ok) : Ret env.P 117 [rfL s.cs] (fun r => r = .b (pb s.goodAll)) := by
 have hl : s.tables.length ≤ 1048576 := h.1.1
 have ht : s.things.length ≤ 1048576 := h.2.1
 refine ret_of (nt := 91) (rvs := [.tmp 2]) Tryz.func117 rfl rfl rfl rfl (fun X => ?_)
 repeat' (first | exact aa | ((conv => whnf) <;> (first | (refine .inr (.inl (.inl ⟨[], [], [rfL s.cs], _, counts_ok s h, view0, ⟨rfl, rfl⟩, ?_⟩)); rintro _ _ ⟨rfl, rfl⟩; refine ⟨rfl, _, lok_2 (rowPl_mp _ _ _) (rowPl_mp _ _ _), ?_⟩) | refine loopAt 21 s.tables.length (fun i => [(21, .i .i64 i)]) (fun i => []) (fun i => s.UpE i 0) rfl ⟨s.upE_zero, ?_⟩ | (rename_i i _ _; have he : (s.tables.getD (i : Int).toNat default).entries.length ≤ 1048576 := (h.1.2 i (by omega)).1; refine loopAt 29 (s.tables.getD (i : Int).toNat default).entries.length (fun k => [(29, .i .i64 k)]) (fun k => []) (fun k => s.UpE i k) rfl ⟨by assumption, ?_⟩) | refine And.intro ?_ ?_ | (intro _h; first | contradiction | (try simp only [dd] at _h)) | (refine dt_go ?_) | exact rfl | exact True.intro | exact dkk | exact dks | ((first | refine .inl ⟨_, thing_ok s h _, ?_⟩ | refine ⟨_, thing_ok s h _, ?_⟩); (try rintro _ rfl)) | ((first | refine .inl ⟨_, lentOk_ok s h _, ?_⟩ | refine ⟨_, lentOk_ok s h _, ?_⟩); (try rintro _ rfl)) | ((first | refine .inl ⟨_, Ret.wke (containsFuncThing1_ok s.things _ rfl [.fm false (owF s.all)] (fun x => !decide (owF s.all [x.id] = 1)) ht (fun k hk => entriesOk1_ok _ _)), ?_⟩ | refine ⟨_, Ret.wke (containsFuncThing1_ok s.things _ rfl [.fm false (owF s.all)] (fun x => !decide (owF s.all [x.id] = 1)) ht (fun k hk => entriesOk1_ok _ _)), ?_⟩); (try rintro _ rfl)) | (refine wrap_succ ?_; omega))))
 all_goals (first | refine leaf_f ?_ | refine leaf_t ?_ | refine leaf_p ?_ | (conv => whnf) | skip)
 all_goals (try simp only [Int.toNat_natCast] at *)
 all_goals (try simp only [idx_neg, Bool.not_eq_false, Bool.not_eq_true, Decidable.not_not] at *)
 all_goals first
  | (refine Shelf.notE (Int.ofNat_lt.1 ‹_›) (Int.ofNat_lt.1 ‹_›) ?_; rintro ⟨q1, q2, q3⟩; simp_all; done)
  | (refine Shelf.upE_succ (by assumption) ⟨?_, ?_, ?_⟩ <;> simp_all; done)
  | exact Shelf.upE_next ‹s.UpE i _› (by omega)
  | exact goodAll_iff (by assumption) (by omega)
theorem shelfOk_ok (s : Shelf) (h : s.ok) : Ret env.P 76 [.agg s.cs] (fun r => r = .b (pb s.good)) := by
 have hl : s.tables.length ≤ 1048576 := h.1.1
 refine ret_of (nt := 29) (rvs := [.tmp 2]) Tryz.func76 rfl rfl rfl rfl (fun X => ?_)
 repeat' (first | exact aa | ((conv => whnf) <;> (first | refine And.intro ?_ ?_ | (intro _h; first | contradiction | (try simp only [dd] at _h)) | (refine dt_go ?_) | exact rfl | exact True.intro | exact dkk | exact dks | ((first | refine .inl ⟨_, within_ok _ _ _, ?_⟩ | refine ⟨_, within_ok _ _ _, ?_⟩); (try rintro _ rfl)) | ((first | refine .inl ⟨_, sizeTable_ok s.tables hl, ?_⟩ | refine ⟨_, sizeTable_ok s.tables hl, ?_⟩); (try rintro _ rfl)) | ((first | refine .inl ⟨_, thingsOk_ok s h, ?_⟩ | refine ⟨_, thingsOk_ok s h, ?_⟩); (try rintro _ rfl)) | ((first | refine .inl ⟨_, Ret.wke (entriesOk_ok s h), ?_⟩ | refine ⟨_, Ret.wke (entriesOk_ok s h), ?_⟩); (try rintro _ rfl)) | ((first | refine .inl ⟨_, containsFuncTable_ok s.tables _ rfl (fun t => !pb t.good) hl (fun k hk => shelfOk1_ok _ (h.1.2 k hk)), ?_⟩ | refine ⟨_, containsFuncTable_ok s.tables _ rfl (fun t => !pb t.good) hl (fun k hk => shelfOk1_ok _ (h.1.2 k hk)), ?_⟩); (try rintro _ rfl)) | (refine wrap_succ ?_; omega))))
 all_goals (first | refine leaf_f ?_ | refine leaf_t ?_ | refine leaf_p ?_ | (conv => whnf) | skip)
 ·exact fun q => ‹¬ s.goodT› q.2.2.1
 ·rw [pb_t]
  exact ⟨fun q => ⟨by assumption, ⟨by omega, by omega⟩, Classical.not_not.1 (by assumption), allGood_iff.1 (by assumption), q⟩, fun q => q.2.2.2.2⟩
 ·exact fun q => ‹¬ (s.tables.any fun t => !pb t.good) = false› (allGood_iff.2 q.2.2.2.1)
 ·exact fun q => by have := q.2.1; omega
 ·exact fun q => ‹¬ (1 ≤ s.next ∧ s.next ≤ 1000000)› q.1
theorem pigeon {α : Type} [DecidableEq α] : ∀ (n : Nat) (l : List α) (f : Nat → α), (∀ i, i < n → f i ∈ l) → (∀ i j, i < j → j < n → f i ≠ f j) → n ≤ l.length
 | 0, _, _, _, _ => Nat.zero_le _
 | n + 1, l, f, h1, h2 => by
  have hm := h1 n (by omega)
  have := pigeon n (l.erase (f n)) f (fun i hi => (List.mem_erase_of_ne (h2 i n hi (by omega))).2 (h1 i (by omega))) (fun i j hi hj => h2 i j hi (by omega))
  rw [List.length_erase_of_mem hm] at this
  have := List.length_pos_of_mem hm
  omega
theorem getD_mem {α : Type} [Inhabited α] {l : List α} {k : Nat} (h : k < l.length) : l.getD k default ∈ l := by
 rw [List.getD_eq_getElem?_getD, List.getElem?_eq_getElem h]
 exact List.getElem_mem h
theorem mem_all {s : Shelf} {i k : Nat} (hi : i < s.tables.length) (hk : k < (s.tables.getD i default).entries.length) : (s.tables.getD i default).entries.getD k default ∈ s.all :=
 List.mem_flatMap.2 ⟨_, getD_mem hi, getD_mem hk⟩
theorem at_mem {s : Shelf} {who num : Int} {x : Entry} (h : s.at_ who num = some x) : x ∈ s.all := by
 by_cases hw : 0 ≤ who ∧ who < (s.tables.length : Int)
 ·rw [at_find hw] at h
  obtain ⟨k, hk, rfl⟩ := Option.map_eq_some_iff.1 h
  exact mem_all (by omega) (find_lt hk).1
 ·rw [at_out hw] at h
  cases h
theorem all_length (l : List Table) (h : ∀ t ∈ l, t.entries.length ≤ 12) : (l.flatMap Table.entries).length ≤ 12 * l.length := by
 induction l with
 | nil => exact Nat.le_refl _
 | cons t l ih =>
  have h1 := h t (by simp)
  have h2 := ih fun t ht => h t (by simp [ht])
  simp only [List.flatMap_cons, List.length_append, List.length_cons]
  omega
theorem chain_on {s : Shelf} {e x : Entry} (h : s.orig e = some x) : ∀ j, s.chain e (j + 1) = s.chain x j
 | 0 => by simp [Shelf.chain, h]
 | j + 1 => by
  have := chain_on h j
  show (s.orig (s.chain e (j + 1))).getD default = (s.orig (s.chain x j)).getD default
  rw [this]
theorem chain_same {s : Shelf} {e : Entry} {i j : Nat} (h : s.chain e i = s.chain e j) : ∀ t, s.chain e (i + t) = s.chain e (j + t)
 | 0 => h
 | t + 1 => by
  have := chain_same h t
  show (s.orig (s.chain e (i + t))).getD default = (s.orig (s.chain e (j + t))).getD default
  rw [this]
theorem step_cases {s : Shelf} : ∀ (n : Nat) (e : Entry), s.sEnds (n + 1) e = true → s.sEnds n e = true ∨ ((∀ j, j < n → (s.chain e j).own = false ∧ s.orig (s.chain e j) = some (s.chain e (j + 1))) ∧ (s.chain e n).own = true)
 | 0, e, h => by
  right
  refine ⟨fun j hj => by omega, ?_⟩
  cases ho : e.own with
  | true => exact ho
  | false =>
   cases hE : s.orig e with
   | none => rw [Shelf.sEnds_none ho hE] at h; cases h
   | some x =>
    by_cases hi : x.id = e.id
    ·rw [Shelf.sEnds_on ho hE hi] at h; cases h
    ·rw [Shelf.sEnds_id ho hE hi] at h; cases h
 | n + 1, e, h => by
  cases ho : e.own with
  | true => exact .inl (Shelf.sEnds_own ho)
  | false =>
   cases hE : s.orig e with
   | none => rw [Shelf.sEnds_none ho hE] at h; cases h
   | some x =>
    by_cases hi : x.id = e.id
    ·rw [Shelf.sEnds_on ho hE hi] at h
     rcases step_cases n x h with q | ⟨q1, q2⟩
     ·left
      rw [Shelf.sEnds_on ho hE hi]
      exact q
     ·right
      refine ⟨fun j hj => ?_, by rw [chain_on hE]; exact q2⟩
      cases j with
      | zero => exact ⟨ho, by rw [chain_on hE]; exact hE⟩
      | succ j =>
       rw [chain_on hE, chain_on hE]
       exact q1 j (by omega)
    ·rw [Shelf.sEnds_id ho hE hi] at h; cases h
theorem sEnds_mono {s : Shelf} : ∀ (n : Nat) (e : Entry), s.sEnds n e = true → s.sEnds (n + 1) e = true
 | 0, e, h => by cases h
 | n + 1, e, h => by
  cases ho : e.own with
  | true => exact Shelf.sEnds_own ho
  | false =>
   cases hE : s.orig e with
   | none => rw [Shelf.sEnds_none ho hE] at h; cases h
   | some x =>
    by_cases hi : x.id = e.id
    ·rw [Shelf.sEnds_on ho hE hi] at h ⊢
     exact sEnds_mono n x h
    ·rw [Shelf.sEnds_id ho hE hi] at h; cases h
theorem ends_short {s : Shelf} {e : Entry} {n : Nat} (hl : s.all.length < n) (he : e ∈ s.all) (h : s.sEnds (n + 1) e = true) : s.sEnds n e = true := by
 rcases step_cases n e h with q | ⟨q1, q2⟩
 ·exact q
 exfalso
 have := pigeon n s.all (s.chain e) (fun i hi => by
  cases i with
  | zero => exact he
  | succ i => exact at_mem (q1 i (by omega)).2) (fun i j hij hj heq => by
  have h1 := chain_same heq (n - j)
  rw [show j + (n - j) = n by omega] at h1
  have h2 := (q1 (i + (n - j)) (by omega)).1
  rw [h1, q2] at h2
  cases h2)
 omega
theorem ends_eq {s : Shelf} : ∀ (n : Nat) (e : Entry), e.own = false → s.ends n e = s.sEnds (n + 1) e
 | 0, e, ho => by
  cases hE : s.orig e with
  | none => rw [Shelf.sEnds_none ho hE]; rfl
  | some x =>
   by_cases hi : x.id = e.id
   ·rw [Shelf.sEnds_on ho hE hi]; rfl
   ·rw [Shelf.sEnds_id ho hE hi]; rfl
 | n + 1, e, ho => by
  cases hE : s.orig e with
  | none => rw [Shelf.sEnds_none ho hE, Shelf.ends_none hE]
  | some x =>
   by_cases hi : x.id = e.id
   ·rw [Shelf.sEnds_on ho hE hi]
    cases hx : x.own with
    | true => rw [Shelf.ends_own hE hi hx, Shelf.sEnds_own hx]
    | false => rw [Shelf.ends_on hE hi hx]; exact ends_eq n x hx
   ·rw [Shelf.sEnds_id ho hE hi, Shelf.ends_id hE hi]
theorem good_iff (s : Shelf) : s.good ↔ s.sGood := by
 constructor
 ·rintro ⟨h1, h2, h3, h4, h5, h6⟩
  have hall : s.all.length < 85 := by
   have := all_length s.tables fun t ht => by
    obtain ⟨k, hk⟩ := List.getElem?_of_mem ht
    have := (h4 k (List.getElem?_eq_some_iff.1 hk).1).2.2
    rw [List.getD_eq_getElem?_getD, hk] at this
    exact this
   unfold Shelf.all
   omega
  refine ⟨⟨h1, h2, h3⟩, fun k hk => ⟨h4 k hk, fun j hj => ?_⟩, fun i k hi hk => ?_, h6⟩
  ·obtain ⟨q1, q2, q3⟩ := h5 k j hk hj
   refine ⟨q1, ?_⟩
   cases ho : ((s.tables.getD k default).entries.getD j default).own with
   | true => rw [ho] at q2; exact q2
   | false => rw [ho] at q2; exact q2.1
  ·obtain ⟨q1, q2, q3⟩ := h5 i k hi hk
   refine ⟨?_, q3⟩
   cases ho : ((s.tables.getD i default).entries.getD k default).own with
   | true => exact Shelf.sEnds_own ho
   | false =>
    rw [ho, if_neg (by decide)] at q2
    have := q2.2
    rw [ends_eq _ _ ho] at this
    exact ends_short hall (mem_all hi hk) this
 ·rintro ⟨⟨h1, h2, h3⟩, h4, h5, h6⟩
  refine ⟨h1, h2, h3, fun k hk => (h4 k hk).1, fun i k hi hk => ?_, h6⟩
  obtain ⟨q1, q2⟩ := (h4 i hi).2 k hk
  obtain ⟨g1, g2⟩ := h5 i k hi hk
  refine ⟨q1, ?_, g2⟩
  cases ho : ((s.tables.getD i default).entries.getD k default).own with
  | true => rw [ho] at q2; exact q2
  | false =>
   rw [ho, if_neg (by decide)] at q2
   rw [if_neg (by decide)]
   exact ⟨q2, by rw [ends_eq _ _ ho]; exact sEnds_mono _ _ g1⟩
theorem mem_all' {s : Shelf} {e : Entry} (h : e ∈ s.all) : ∃ i k, i < s.tables.length ∧ k < (s.tables.getD i default).entries.length ∧ (s.tables.getD i default).entries.getD k default = e := by
 obtain ⟨t, ht, he⟩ := List.mem_flatMap.1 h
 obtain ⟨i, hi⟩ := List.getElem?_of_mem ht
 obtain ⟨k, hk⟩ := List.getElem?_of_mem he
 have e1 : s.tables.getD i default = t := by rw [List.getD_eq_getElem?_getD, hi]; rfl
 exact ⟨i, k, (List.getElem?_eq_some_iff.1 hi).1, by rw [e1]; exact (List.getElem?_eq_some_iff.1 hk).1, by rw [e1, List.getD_eq_getElem?_getD, hk]; rfl⟩
theorem thing_some {s : Shelf} (h : s.good) {who num : Int} {x : Entry} (hx : s.at_ who num = some x) : ∃ q, s.thing x.id = some q ∧ q < s.things.length := by
 obtain ⟨i, k, hi, hk, rfl⟩ := mem_all' (at_mem hx)
 have := (h.2.2.2.2.1 i k hi hk).1
 obtain ⟨q, hq⟩ := Option.isSome_iff_exists.1 this
 refine ⟨q, hq, ?_⟩
 unfold Shelf.thing at hq
 rw [List.findIdx?_eq_some_iff_getElem] at hq
 exact hq.1
def Shelf.args (s : Shelf) (who num : Int) : Prop := s.good ∧ (0 ≤ who ∧ who < (s.tables.length : Int)) ∧ 1 ≤ num ∧ num ≤ 1000000
set_option maxRecDepth 8000 in
theorem isId_ok (n : Int) : Ret env.P 38 [.i .i64 n] (fun r => r = .b (decide (1 ≤ n ∧ n ≤ 1000000))) := by
 refine ret_of (nt := 5) (rvs := [.tmp 2]) Tryz.func38 rfl rfl rfl rfl (fun X => ?_)
 repeat' (first | exact aa | ((conv => whnf) <;> (first | refine And.intro ?_ ?_ | (intro _h; first | contradiction | (try simp only [dd] at _h)) | (refine dt_go ?_) | exact rfl | exact True.intro | exact dkk | exact dks | ((first | refine .inl ⟨_, within_ok _ _ _, ?_⟩ | refine ⟨_, within_ok _ _ _, ?_⟩); (try rintro _ rfl)) | (refine wrap_succ ?_; omega))))
 all_goals exact rfl
set_option maxRecDepth 8000
theorem l19Entry_ok (t : Table) (h : t.ok) (num : Int) : Ret env.P 72 [.agg t.cs, .i .i64 num] (fun r => r = .i .i64 (idxI (t.find num))) := by
 have hl : t.entries.length ≤ 1048576 := h.1
 refine ret_of (nt := 22) (rvs := [.tmp 4]) Tryz.func72 rfl rfl rfl rfl (fun X => ?_)
 repeat' (first | exact aa | ((conv => whnf) <;> (first | refine loopN t.entries.length (fun k => [(5, .i .i64 k)]) (fun k => []) (fun k => ∀ j, j < k → ¬ (t.entries.getD j default).num = num) ⟨fun _ h => by omega, ?_⟩ | exact upto_succ (by assumption) (by assumption) | refine And.intro ?_ ?_ | (intro _h; first | contradiction | (try simp only [dd] at _h)) | (refine dt_go ?_) | exact rfl | exact True.intro | exact dkk | exact dks | (refine wrap_succ ?_; omega))))
 ·exact leaf_i (idx_some (by omega) (by simpa [numP] using _h) (fun j hj => by have := ‹∀ j, j < _ → ¬ (t.entries.getD j default).num = num› j hj; simpa [numP] using this))
 ·exact leaf_i (idx_none fun j hj => by have := ‹∀ j, j < _ → ¬ (t.entries.getD j default).num = num› j (by omega); simpa [numP] using this)
theorem l19Thing_ok (s : Shelf) (h : s.ok) (id : Int) : Ret env.P 151 [rfL s.cs, .i .i64 id] (fun r => r = .i .i64 (idxI (s.thing id))) := by
 have hl : s.things.length ≤ 1048576 := h.2.1
 refine ret_of (nt := 26) (rvs := [.tmp 4]) Tryz.func151 rfl rfl rfl rfl (fun X => ?_)
 repeat' (first | exact aa | ((conv => whnf) <;> (first | refine loopN s.things.length (fun k => [(5, .i .i64 k)]) (fun k => []) (fun k => ∀ j, j < k → ¬ (s.things.getD j default).id = id) ⟨fun _ h => by omega, ?_⟩ | exact upto_succ (by assumption) (by assumption) | refine And.intro ?_ ?_ | (intro _h; first | contradiction | (try simp only [dd] at _h)) | (refine dt_go ?_) | exact rfl | exact True.intro | exact dkk | exact dks | (refine wrap_succ ?_; omega))))
 ·exact leaf_i (idx_some (by omega) (by simpa [idP] using _h) (fun j hj => by have := ‹∀ j, j < _ → ¬ (s.things.getD j default).id = id› j hj; simpa [idP] using this))
 ·exact leaf_i (idx_none fun j hj => by have := ‹∀ j, j < _ → ¬ (s.things.getD j default).id = id› j (by omega); simpa [idP] using this)
theorem l19At_ok (s : Shelf) (h : s.ok) (who num : Int) : Ret env.P 69 [rfL s.cs, .i .i64 who, .i .i64 num] (fun r => r = entR (s.at_ who num)) := by
 have hl : s.tables.length ≤ 1048576 := h.1.1
 refine ret_of (nt := 42) (rvs := [.cell 6 109, .tmp 7]) Tryz.func69 rfl rfl rfl rfl (fun X => ?_)
 repeat' (first | exact aa | ((conv => whnf) <;> (first | (refine .inl ⟨_, l19Entry_ok _ (h.1.2 who.toNat (by omega)) _, ?_⟩; rintro _ rfl; obtain ⟨q, hF, hk⟩ | hF := find_cases (s.tables.getD who.toNat default) num <;> (rw [hF]; simp only [idxI])) | refine And.intro ?_ ?_ | (intro _h; first | contradiction | (try simp only [dd] at _h)) | (refine dt_go ?_) | exact rfl | exact True.intro | exact dkk | exact dks | ((first | refine .inl ⟨_, l00In_ok _ _ _, ?_⟩ | refine ⟨_, l00In_ok _ _ _, ?_⟩); try rintro _ rfl; try rw [wrap_in (by omega) (by omega)]) | (refine wrap_succ ?_; omega))))
 ·rw [at_out (by omega)]; rfl
 ·rw [at_find (by omega), hF]; rfl
 ·rw [at_find (by omega), hF]; rfl
theorem l19Lent_ok (s : Shelf) (h : s.ok) (who num : Int) : Ret env.P 108 [rfL s.cs, .i .i64 who, .i .i64 num] (fun r => r = .i .i64 (leF s.all [who, num])) := by
 have hl : s.tables.length ≤ 1048576 := h.1.1
 refine ret_of (nt := 62) (rvs := [.tmp 6]) Tryz.func108 rfl rfl rfl rfl (fun X => ?_)
 repeat' (first | exact aa | ((conv => whnf) <;> (first | refine loopAt 8 s.tables.length (fun i => [(8, .i .i64 i), (7, .i .i64 (leF (s.upTo i 0) [who, num]))]) (fun i => []) (fun _ => True) rfl ⟨trivial, ?_⟩ | (rename_i i _ _; have he : (s.tables.getD (i : Int).toNat default).entries.length ≤ 1048576 := (h.1.2 i (by omega)).1; refine loopAt 9 (s.tables.getD (i : Int).toNat default).entries.length (fun k => [(9, .i .i64 k), (7, .i .i64 (leF (s.upTo i k) [who, num]))]) (fun k => []) (fun _ => True) rfl ⟨trivial, ?_⟩) | refine And.intro ?_ ?_ | (intro _h; first | contradiction | (try simp only [dd] at _h)) | (refine dt_go ?_) | exact rfl | exact True.intro | exact dkk | exact dks | (refine wrap_succ ?_; omega))))
 all_goals (first | (conv => whnf) | skip)
 all_goals (simp only [Int.toNat_natCast] at *)
 all_goals first
  | exact le_at_hit (by omega) (by assumption) (by assumption) (by assumption)
  | exact le_at_miss (by omega) (by assumption) (fun q => by simp_all)
  | exact le_at_own (by omega) (by simpa using _h)
  | exact congrFun (congrArg _ (upTo_ends (by omega) (by omega) (by omega))) _
  | exact leaf_i (congrFun (congrArg _ (upTo_all (by omega) (by omega))) _)
theorem l19Owners_ok (s : Shelf) (h : s.ok) (id : Int) : Ret env.P 109 [rfL s.cs, .i .i64 id] (fun r => r = .i .i64 (owF s.all [id])) := by
 have hl : s.tables.length ≤ 1048576 := h.1.1
 refine ret_of (nt := 53) (rvs := [.tmp 4]) Tryz.func109 rfl rfl rfl rfl (fun X => ?_)
 repeat' (first | exact aa | ((conv => whnf) <;> (first | refine loopAt 6 s.tables.length (fun i => [(6, .i .i64 i), (5, .i .i64 (owF (s.upTo i 0) [id]))]) (fun i => []) (fun _ => True) rfl ⟨trivial, ?_⟩ | (rename_i i _ _; have he : (s.tables.getD (i : Int).toNat default).entries.length ≤ 1048576 := (h.1.2 i (by omega)).1; refine loopAt 7 (s.tables.getD (i : Int).toNat default).entries.length (fun k => [(7, .i .i64 k), (5, .i .i64 (owF (s.upTo i k) [id]))]) (fun k => []) (fun _ => True) rfl ⟨trivial, ?_⟩) | refine And.intro ?_ ?_ | (intro _h; first | contradiction | (try simp only [dd] at _h)) | (refine dt_go ?_) | exact rfl | exact True.intro | exact dkk | exact dks | (refine wrap_succ ?_; omega))))
 all_goals (first | (conv => whnf) | skip)
 all_goals (simp only [Int.toNat_natCast] at *)
 all_goals first
  | exact ow_at_hit (by omega) (by assumption) (by assumption)
  | exact ow_at_miss (by omega) (by assumption) (by assumption)
  | exact ow_at_lent (by omega) (by simpa using _h)
  | exact congrFun (congrArg _ (upTo_ends (by omega) (by omega) (by omega))) _
  | exact leaf_i (congrFun (congrArg _ (upTo_all (by omega) (by omega))) _)
theorem l19Ends_ok (s : Shelf) (h : s.ok) (e : Entry) : Ret env.P 107 [rfL s.cs, .agg e.cs] (fun r => r = .b (s.sEnds 85 e)) := by
 refine ret_of (nt := 33) (rvs := [.tmp 4]) Tryz.func107 rfl rfl rfl rfl (fun X => ?_)
 repeat' (first | exact aa | ((conv => whnf) <;> (first | refine loopN 85 (fun k => [(5, .i .i64 k)]) (fun k => [some (.box (s.chain e k).cs)]) (fun k => s.sEnds 85 e = s.sEnds (85 - k) (s.chain e k)) ⟨rfl, ?_⟩ | (rename_i k _ _ _; refine .inl ⟨_, l19At_ok s h (s.chain e k).from_ (s.chain e k).fromNum, ?_⟩; rintro _ rfl; cases hE : s.at_ (s.chain e k).from_ (s.chain e k).fromNum) | (simp only [Shelf.chain, Shelf.orig, hE, Option.getD_some]) | refine And.intro ?_ ?_ | (intro _h; first | contradiction | (try simp only [dd] at _h)) | (refine dt_go ?_) | exact rfl | exact True.intro | exact dkk | exact dks | (refine wrap_succ ?_; omega))))
 all_goals (first | refine leaf_b ?_ | (conv => whnf) | skip)
 ·rename_i k _ hI _
  rw [hI, show 85 - k = (84 - k) + 1 by omega, Shelf.sEnds_own _h]
 ·rw [‹s.sEnds 85 e = s.sEnds (85 - k) (s.chain e k)›, Shelf.sEnds_none (by assumption) (show s.orig (s.chain e k) = none from hE)]
 ·rw [‹s.sEnds 85 e = s.sEnds (85 - k) (s.chain e k)›, Shelf.sEnds_id (by assumption) (show s.orig (s.chain e k) = some _ from hE) (by assumption)]
 ·rw [‹s.sEnds 85 e = s.sEnds (85 - k) (s.chain e k)›, show 85 - k = (85 - (k + 1)) + 1 by omega, Shelf.sEnds_on (by assumption) (show s.orig (s.chain e k) = some _ from hE) (by assumption)]
 ·rename_i k _ hI
  rw [hI, show 85 - k = 0 by omega]; rfl
set_option maxHeartbeats 2000000 in
theorem l19Things_ok (s : Shelf) (h : s.ok) : Ret env.P 105 [rfL s.cs] (fun r => r = .b (pb ((1 ≤ s.next ∧ s.next ≤ 1000000) ∧ (1 ≤ s.tables.length ∧ s.tables.length ≤ 7) ∧ s.goodT))) := by
 have hl : s.tables.length ≤ 1048576 := h.1.1
 have ht : s.things.length ≤ 1048576 := h.2.1
 refine ret_of (nt := 90) (rvs := [.tmp 2]) Tryz.func105 rfl rfl rfl rfl (fun X => ?_)
 repeat' (first | exact aa | ((conv => whnf) <;> (first | refine loopN s.things.length (fun k => [(3, .i .i64 k)]) (fun k => []) (fun k => s.UpT k) ⟨s.upT_zero, ?_⟩ | refine And.intro ?_ ?_ | (intro _h; first | contradiction | (try simp only [dd] at _h)) | (refine dt_go ?_) | exact rfl | exact True.intro | exact dkk | exact dks | ((first | refine .inl ⟨_, l00In_ok _ _ _, ?_⟩ | refine ⟨_, l00In_ok _ _ _, ?_⟩); try rintro _ rfl; try rw [wrap_in (by omega) (by omega)]) | (refine wrap_succ ?_; omega))))
 all_goals (first | refine leaf_f ?_ | refine leaf_t ?_ | refine leaf_p ?_ | (conv => whnf) | skip)
 all_goals (try simp only [Int.toNat_natCast] at *)
 all_goals (try simp (disch := omega) only [wrap_in] at *)
 all_goals first
  | (show (0 : Int) ≤ _; omega)
  | (show (_ : Int) < _; omega)
  | exact fun q => by have := q.2.2.2; omega
  | (refine notT ‹_› ?_; intro g; have := Shelf.upT_pos ‹s.UpT _›; first | omega | (rw [prevId_pos ‹_›] at g; omega))
  | exact Shelf.upT_succ ‹_› (by first | (rw [prevId_pos ‹_›]; omega) | (rw [prevId_zero ‹_›]; omega)) (by omega) ⟨by omega, by omega⟩ ⟨by omega, by omega⟩
  | exact ⟨‹_›, ⟨by omega, by omega⟩, fun k hk => (‹s.UpT _› : s.UpT _).h k (by omega), by omega⟩
set_option maxHeartbeats 4000000 in
theorem l19Shape_ok (s : Shelf) (h : s.ok) (t : Table) (ht : t.ok) : Ret env.P 106 [rfL s.cs, .agg t.cs] (fun r => r = .b (pb (s.shape t))) := by
 have hl : t.entries.length ≤ 1048576 := ht.1
 refine ret_of (nt := 92) (rvs := [.tmp 4]) Tryz.func106 rfl rfl rfl rfl (fun X => ?_)
 repeat' (first | exact aa | ((conv => whnf) <;> (first | refine loopN t.entries.length (fun k => [(5, .i .i64 k)]) (fun k => []) (fun k => s.UpS t k) ⟨s.upS_zero t, ?_⟩ | refine And.intro ?_ ?_ | (intro _h; first | contradiction | (try simp only [dd] at _h)) | (refine dt_go ?_) | exact rfl | exact True.intro | exact dkk | exact dks | ((first | refine .inl ⟨_, l00In_ok _ _ _, ?_⟩ | refine ⟨_, l00In_ok _ _ _, ?_⟩); try rintro _ rfl; try rw [wrap_in (by omega) (by omega)]) | ((first | refine .inl ⟨_, l19Thing_ok s h _, ?_⟩ | refine ⟨_, l19Thing_ok s h _, ?_⟩); (try rintro _ rfl)) | (refine wrap_succ ?_; omega))))
 all_goals (first | refine leaf_f ?_ | refine leaf_t ?_ | refine leaf_p ?_ | (conv => whnf) | skip)
 all_goals (try simp only [Int.toNat_natCast, idx_neg, Bool.not_eq_false, Bool.not_eq_true, Decidable.not_not] at *)
 all_goals (try simp (disch := omega) only [wrap_in] at *)
 all_goals first
  | (show (0 : Int) ≤ _; omega)
  | (show (_ : Int) < _; omega)
  | exact fun q => by have := q.1.2.1; omega
  | exact fun q => by have := q.1.2.2; omega
  | (refine notS ‹_› ?_; rintro ⟨g, g1, g2⟩; have := Table.up_pos (‹s.UpS t _› : s.UpS t _).up; first | omega | (rw [prevNum_pos ‹_›] at g; omega) | (clear g; rw [if_neg (by rw [‹(Entry.own _) = false›]; decide)] at g2; omega) | (clear g; simp_all; done))
  | exact Shelf.upS_succ ‹_› (by first | (rw [prevNum_pos ‹_›]; omega) | (rw [prevNum_zero ‹_›]; omega)) (by omega) (by omega) ⟨by simp_all, by simp_all⟩
  | exact ⟨⟨fun k hk => (‹s.UpS t _› : s.UpS t _).up.h k (by omega), ‹_›, by omega⟩, fun k hk => (‹s.UpS t _› : s.UpS t _).h k (by omega)⟩
set_option maxHeartbeats 4000000 in
theorem l19Ok_ok (s : Shelf) (h : s.ok) : Ret env.P 58 [rfL s.cs] (fun r => r = .b (pb s.sGood)) := by
 have hl : s.tables.length ≤ 1048576 := h.1.1
 have ht : s.things.length ≤ 1048576 := h.2.1
 refine ret_of (nt := 97) (rvs := [.tmp 2]) Tryz.func58 rfl rfl rfl rfl (fun X => ?_)
 repeat' (first | exact aa | ((conv => whnf) <;> (first | ((first | refine .inl ⟨_, l19Shape_ok s h _ (h.1.2 _ (by omega)), ?_⟩ | refine ⟨_, l19Shape_ok s h _ (h.1.2 _ (by omega)), ?_⟩); try rintro _ rfl) | refine loopAt 3 s.tables.length (fun k => [(3, .i .i64 k)]) (fun k => []) (fun k => s.UpG k) rfl ⟨s.upG_zero, ?_⟩ | refine loopAt 4 s.tables.length (fun k => [(4, .i .i64 k)]) (fun k => []) (fun k => s.UpR k 0) rfl ⟨s.upR_zero, ?_⟩ | refine loopAt 7 s.things.length (fun k => [(7, .i .i64 k)]) (fun k => []) (fun k => s.UpO k) rfl ⟨s.upO_zero, ?_⟩ | (rename_i i _ _; have he : (s.tables.getD (i : Int).toNat default).entries.length ≤ 1048576 := (h.1.2 i (by omega)).1; refine loopAt 5 (s.tables.getD (i : Int).toNat default).entries.length (fun k => [(5, .i .i64 k)]) (fun k => []) (fun k => s.UpR i k) rfl ⟨by assumption, ?_⟩) | refine And.intro ?_ ?_ | (intro _h; first | contradiction | (try simp only [dd] at _h)) | (refine dt_go ?_) | exact rfl | exact True.intro | exact dkk | exact dks | ((first | refine .inl ⟨_, l19Things_ok s h, ?_⟩ | refine ⟨_, l19Things_ok s h, ?_⟩); (try rintro _ rfl)) | ((first | refine .inl ⟨_, l19Ends_ok s h _, ?_⟩ | refine ⟨_, l19Ends_ok s h _, ?_⟩); (try rintro _ rfl)) | ((first | refine .inl ⟨_, l19Lent_ok s h _ _, ?_⟩ | refine ⟨_, l19Lent_ok s h _ _, ?_⟩); (try rintro _ rfl)) | ((first | refine .inl ⟨_, l19Owners_ok s h _, ?_⟩ | refine ⟨_, l19Owners_ok s h _, ?_⟩); (try rintro _ rfl)) | (refine wrap_succ ?_; omega))))
 all_goals (first | refine leaf_f ?_ | refine leaf_t ?_ | refine leaf_p ?_ | (conv => whnf) | skip)
 all_goals (try simp only [Int.toNat_natCast, Bool.not_eq_false, Bool.not_eq_true, Decidable.not_not] at *)
 all_goals first
  | exact fun q => ‹¬ (_ ∧ _ ∧ s.goodT)› q.1
  | exact Shelf.notG ‹_› ‹_›
  | exact Shelf.notO ‹_› ‹_›
  | (refine Shelf.notR ‹_› ‹_› ?_; rintro ⟨g1, g2⟩; simp_all; done)
  | exact Shelf.upG_succ ‹_› (Classical.not_not.1 ‹_›)
  | exact Shelf.upO_succ ‹_› ‹_›
  | exact Shelf.upR_succ ‹_› ‹_› ‹_›
  | exact Shelf.upR_next ‹_› (by omega)
  | exact Shelf.sGood_of (Classical.not_not.1 ‹_›) ‹s.UpG _› ‹_› ‹s.UpR _ 0› ‹_› ‹s.UpO _› ‹_›
set_option maxRecDepth 8000
end Go.Proofs.YtmjjadcmmpfljaaGreat
