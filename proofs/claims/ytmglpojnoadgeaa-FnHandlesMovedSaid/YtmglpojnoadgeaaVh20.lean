/- Texts for VHandlesMovedP. -/
import Derived.Test.YtmglpojnoadgeaaVh19
namespace Go.Proofs.Ytmglpojnoadgeaa
open Go Go.RowKit
set_option linter.unusedVariables false
set_option linter.unusedSimpArgs false
set_option maxRecDepth 8000
theorem l19Entry_ok (t : Table) (h : t.ok) (num : Int) : Ret env.P 72 [.agg t.cs, .i .i64 num] (fun r => r = .i .i64 (idxI (t.find num))) := by
  have hl : t.entries.length ≤ 1048576 := h.1
  refine ret_of (nt := 22) (rvs := [.tmp 4]) Try.func72 rfl rfl rfl rfl (fun X => ?_)
  repeat' (first | exact aa | ((conv => whnf) <;> (first | refine loopN t.entries.length (fun k => [(5, .i .i64 k)]) (fun k => []) (fun k => ∀ j, j < k → ¬ (t.entries.getD j default).num = num) ⟨fun _ h => by omega, ?_⟩ | exact upto_succ (by assumption) (by assumption) | refine And.intro ?_ ?_ | (intro _h; first | contradiction | (try simp only [dd] at _h)) | (refine dt_go ?_) | exact rfl | exact True.intro | exact dkk | exact dks | (refine wrap_succ ?_; omega))))
  · exact leaf_i (idx_some (by omega) (by simpa [numP] using _h) (fun j hj => by have := ‹∀ j, j < _ → ¬ (t.entries.getD j default).num = num› j hj; simpa [numP] using this))
  · exact leaf_i (idx_none fun j hj => by have := ‹∀ j, j < _ → ¬ (t.entries.getD j default).num = num› j (by omega); simpa [numP] using this)
theorem l19Thing_ok (s : Shelf) (h : s.ok) (id : Int) : Ret env.P 87 [rfL s.cs, .i .i64 id] (fun r => r = .i .i64 (idxI (s.thing id))) := by
  have hl : s.things.length ≤ 1048576 := h.2.1
  refine ret_of (nt := 26) (rvs := [.tmp 4]) Try.func87 rfl rfl rfl rfl (fun X => ?_)
  repeat' (first | exact aa | ((conv => whnf) <;> (first | refine loopN s.things.length (fun k => [(5, .i .i64 k)]) (fun k => []) (fun k => ∀ j, j < k → ¬ (s.things.getD j default).id = id) ⟨fun _ h => by omega, ?_⟩ | exact upto_succ (by assumption) (by assumption) | refine And.intro ?_ ?_ | (intro _h; first | contradiction | (try simp only [dd] at _h)) | (refine dt_go ?_) | exact rfl | exact True.intro | exact dkk | exact dks | (refine wrap_succ ?_; omega))))
  · exact leaf_i (idx_some (by omega) (by simpa [idP] using _h) (fun j hj => by have := ‹∀ j, j < _ → ¬ (s.things.getD j default).id = id› j hj; simpa [idP] using this))
  · exact leaf_i (idx_none fun j hj => by have := ‹∀ j, j < _ → ¬ (s.things.getD j default).id = id› j (by omega); simpa [idP] using this)
theorem l19At_ok (s : Shelf) (h : s.ok) (who num : Int) : Ret env.P 41 [rfL s.cs, .i .i64 who, .i .i64 num] (fun r => r = entR (s.at_ who num)) := by
  have hl : s.tables.length ≤ 1048576 := h.1.1
  refine ret_of (nt := 42) (rvs := [.cell 6 44, .tmp 7]) Try.func41 rfl rfl rfl rfl (fun X => ?_)
  repeat' (first | exact aa | ((conv => whnf) <;> (first | (refine .inl ⟨_, l19Entry_ok _ (h.1.2 who.toNat (by omega)) _, ?_⟩; rintro _ rfl; obtain ⟨q, hF, hk⟩ | hF := find_cases (s.tables.getD who.toNat default) num <;> (rw [hF]; simp only [idxI])) | refine And.intro ?_ ?_ | (intro _h; first | contradiction | (try simp only [dd] at _h)) | (refine dt_go ?_) | exact rfl | exact True.intro | exact dkk | exact dks | ((first | refine .inl ⟨_, l00In_ok _ _ _, ?_⟩ | refine ⟨_, l00In_ok _ _ _, ?_⟩); try rintro _ rfl; try rw [wrap_in (by omega) (by omega)]) | (refine wrap_succ ?_; omega))))
  · rw [at_out (by omega)]; rfl
  · rw [at_find (by omega), hF]; rfl
  · rw [at_find (by omega), hF]; rfl
theorem l19Lent_ok (s : Shelf) (h : s.ok) (who num : Int) : Ret env.P 57 [rfL s.cs, .i .i64 who, .i .i64 num] (fun r => r = .i .i64 (leF s.all [who, num])) := by
  have hl : s.tables.length ≤ 1048576 := h.1.1
  refine ret_of (nt := 62) (rvs := [.tmp 6]) Try.func57 rfl rfl rfl rfl (fun X => ?_)
  repeat' (first | exact aa | ((conv => whnf) <;> (first | refine loopAt 8 s.tables.length (fun i => [(8, .i .i64 i), (7, .i .i64 (leF (s.upTo i 0) [who, num]))]) (fun i => []) (fun _ => True) rfl ⟨trivial, ?_⟩ | (rename_i i _ _; have he : (s.tables.getD (i : Int).toNat default).entries.length ≤ 1048576 := (h.1.2 i (by omega)).1; refine loopAt 9 (s.tables.getD (i : Int).toNat default).entries.length (fun k => [(9, .i .i64 k), (7, .i .i64 (leF (s.upTo i k) [who, num]))]) (fun k => []) (fun _ => True) rfl ⟨trivial, ?_⟩) | refine And.intro ?_ ?_ | (intro _h; first | contradiction | (try simp only [dd] at _h)) | (refine dt_go ?_) | exact rfl | exact True.intro | exact dkk | exact dks | (refine wrap_succ ?_; omega))))
  all_goals (first | (conv => whnf) | skip)
  all_goals (simp only [Int.toNat_natCast] at *)
  all_goals first
    | exact le_at_hit (by omega) (by assumption) (by assumption) (by assumption)
    | exact le_at_miss (by omega) (by assumption) (fun q => by simp_all)
    | exact le_at_own (by omega) (by simpa using _h)
    | exact congrFun (congrArg _ (upTo_ends (by omega) (by omega) (by omega))) _
    | exact leaf_i (congrFun (congrArg _ (upTo_all (by omega) (by omega))) _)
theorem l19Owners_ok (s : Shelf) (h : s.ok) (id : Int) : Ret env.P 58 [rfL s.cs, .i .i64 id] (fun r => r = .i .i64 (owF s.all [id])) := by
  have hl : s.tables.length ≤ 1048576 := h.1.1
  refine ret_of (nt := 53) (rvs := [.tmp 4]) Try.func58 rfl rfl rfl rfl (fun X => ?_)
  repeat' (first | exact aa | ((conv => whnf) <;> (first | refine loopAt 6 s.tables.length (fun i => [(6, .i .i64 i), (5, .i .i64 (owF (s.upTo i 0) [id]))]) (fun i => []) (fun _ => True) rfl ⟨trivial, ?_⟩ | (rename_i i _ _; have he : (s.tables.getD (i : Int).toNat default).entries.length ≤ 1048576 := (h.1.2 i (by omega)).1; refine loopAt 7 (s.tables.getD (i : Int).toNat default).entries.length (fun k => [(7, .i .i64 k), (5, .i .i64 (owF (s.upTo i k) [id]))]) (fun k => []) (fun _ => True) rfl ⟨trivial, ?_⟩) | refine And.intro ?_ ?_ | (intro _h; first | contradiction | (try simp only [dd] at _h)) | (refine dt_go ?_) | exact rfl | exact True.intro | exact dkk | exact dks | (refine wrap_succ ?_; omega))))
  all_goals (first | (conv => whnf) | skip)
  all_goals (simp only [Int.toNat_natCast] at *)
  all_goals first
    | exact ow_at_hit (by omega) (by assumption) (by assumption)
    | exact ow_at_miss (by omega) (by assumption) (by assumption)
    | exact ow_at_lent (by omega) (by simpa using _h)
    | exact congrFun (congrArg _ (upTo_ends (by omega) (by omega) (by omega))) _
    | exact leaf_i (congrFun (congrArg _ (upTo_all (by omega) (by omega))) _)
theorem l19Ends_ok (s : Shelf) (h : s.ok) (e : Entry) : Ret env.P 56 [rfL s.cs, .agg e.cs] (fun r => r = .b (s.sEnds 85 e)) := by
  refine ret_of (nt := 33) (rvs := [.tmp 4]) Try.func56 rfl rfl rfl rfl (fun X => ?_)
  repeat' (first | exact aa | ((conv => whnf) <;> (first | refine loopN 85 (fun k => [(5, .i .i64 k)]) (fun k => [some (.box (s.chain e k).cs)]) (fun k => s.sEnds 85 e = s.sEnds (85 - k) (s.chain e k)) ⟨rfl, ?_⟩ | (rename_i k _ _ _; refine .inl ⟨_, l19At_ok s h (s.chain e k).from_ (s.chain e k).fromNum, ?_⟩; rintro _ rfl; cases hE : s.at_ (s.chain e k).from_ (s.chain e k).fromNum) | (simp only [Shelf.chain, Shelf.orig, hE, Option.getD_some]) | refine And.intro ?_ ?_ | (intro _h; first | contradiction | (try simp only [dd] at _h)) | (refine dt_go ?_) | exact rfl | exact True.intro | exact dkk | exact dks | (refine wrap_succ ?_; omega))))
  all_goals (first | refine leaf_b ?_ | (conv => whnf) | skip)
  · rename_i k _ hI _
    rw [hI, show 85 - k = (84 - k) + 1 by omega, Shelf.sEnds_own _h]
  · rw [‹s.sEnds 85 e = s.sEnds (85 - k) (s.chain e k)›, Shelf.sEnds_none (by assumption) (show s.orig (s.chain e k) = none from hE)]
  · rw [‹s.sEnds 85 e = s.sEnds (85 - k) (s.chain e k)›, Shelf.sEnds_id (by assumption) (show s.orig (s.chain e k) = some _ from hE) (by assumption)]
  · rw [‹s.sEnds 85 e = s.sEnds (85 - k) (s.chain e k)›, show 85 - k = (85 - (k + 1)) + 1 by omega, Shelf.sEnds_on (by assumption) (show s.orig (s.chain e k) = some _ from hE) (by assumption)]
  · rename_i k _ hI
    rw [hI, show 85 - k = 0 by omega]; rfl
set_option maxHeartbeats 2000000 in
theorem l19Things_ok (s : Shelf) (h : s.ok) : Ret env.P 54 [rfL s.cs] (fun r => r = .b (pb ((1 ≤ s.next ∧ s.next ≤ 1000000) ∧ (1 ≤ s.tables.length ∧ s.tables.length ≤ 7) ∧ s.goodT))) := by
  have hl : s.tables.length ≤ 1048576 := h.1.1
  have ht : s.things.length ≤ 1048576 := h.2.1
  refine ret_of (nt := 90) (rvs := [.tmp 2]) Try.func54 rfl rfl rfl rfl (fun X => ?_)
  repeat' (first | exact aa | ((conv => whnf) <;> (first | refine loopN s.things.length (fun k => [(3, .i .i64 k)]) (fun k => []) (fun k => s.UpT k) ⟨s.upT_zero, ?_⟩ | refine And.intro ?_ ?_ | (intro _h; first | contradiction | (try simp only [dd] at _h)) | (refine dt_go ?_) | exact rfl | exact True.intro | exact dkk | exact dks | ((first | refine .inl ⟨_, l00In_ok _ _ _, ?_⟩ | refine ⟨_, l00In_ok _ _ _, ?_⟩); try rintro _ rfl; try rw [wrap_in (by omega) (by omega)]) | (refine wrap_succ ?_; omega))))
  all_goals (first | refine leaf_f ?_ | refine leaf_t ?_ | refine leaf_p ?_ | (conv => whnf) | skip)
  all_goals (try simp only [Int.toNat_natCast] at *)
  all_goals (try simp (disch := omega) only [wrap_in] at *)
  all_goals first
    | (show (0 : Int) ≤ _; omega)
    | (show (_ : Int) < _; omega)
    | exact fun q => by have := q.2.2.2; omega
    | (refine notT ‹_› ?_; intro g; have := Shelf.upT_pos ‹s.UpT _›; first | omega | (rw [prevId_pos ‹_›] at g; omega))
    | exact Shelf.upT_succ ‹_› (by first | (rw [prevId_pos ‹_›]; omega) | (rw [prevId_zero ‹_›]; omega)) (by omega) ⟨by omega, by omega⟩ ⟨by omega, by omega⟩
    | exact ⟨‹_›, ⟨by omega, by omega⟩, fun k hk => (‹s.UpT _› : s.UpT _).h k (by omega), by omega⟩
set_option maxHeartbeats 4000000 in
theorem l19Shape_ok (s : Shelf) (h : s.ok) (t : Table) (ht : t.ok) : Ret env.P 55 [rfL s.cs, .agg t.cs] (fun r => r = .b (pb (s.shape t))) := by
  have hl : t.entries.length ≤ 1048576 := ht.1
  refine ret_of (nt := 92) (rvs := [.tmp 4]) Try.func55 rfl rfl rfl rfl (fun X => ?_)
  repeat' (first | exact aa | ((conv => whnf) <;> (first | refine loopN t.entries.length (fun k => [(5, .i .i64 k)]) (fun k => []) (fun k => s.UpS t k) ⟨s.upS_zero t, ?_⟩ | refine And.intro ?_ ?_ | (intro _h; first | contradiction | (try simp only [dd] at _h)) | (refine dt_go ?_) | exact rfl | exact True.intro | exact dkk | exact dks | ((first | refine .inl ⟨_, l00In_ok _ _ _, ?_⟩ | refine ⟨_, l00In_ok _ _ _, ?_⟩); try rintro _ rfl; try rw [wrap_in (by omega) (by omega)]) | ((first | refine .inl ⟨_, l19Thing_ok s h _, ?_⟩ | refine ⟨_, l19Thing_ok s h _, ?_⟩); (try rintro _ rfl)) | (refine wrap_succ ?_; omega))))
  all_goals (first | refine leaf_f ?_ | refine leaf_t ?_ | refine leaf_p ?_ | (conv => whnf) | skip)
  all_goals (try simp only [Int.toNat_natCast, idx_neg, Bool.not_eq_false, Bool.not_eq_true, Decidable.not_not] at *)
  all_goals (try simp (disch := omega) only [wrap_in] at *)
  all_goals first
    | (show (0 : Int) ≤ _; omega)
    | (show (_ : Int) < _; omega)
    | exact fun q => by have := q.1.2.1; omega
    | exact fun q => by have := q.1.2.2; omega
    | (refine notS ‹_› ?_; rintro ⟨g, g1, g2⟩; have := Table.up_pos (‹s.UpS t _› : s.UpS t _).up; first | omega | (rw [prevNum_pos ‹_›] at g; omega) | (clear g; rw [if_neg (by rw [‹(Entry.own _) = false›]; decide)] at g2; omega) | (clear g; simp_all; done))
    | exact Shelf.upS_succ ‹_› (by first | (rw [prevNum_pos ‹_›]; omega) | (rw [prevNum_zero ‹_›]; omega)) (by omega) (by omega) ⟨by simp_all, by simp_all⟩
    | exact ⟨⟨fun k hk => (‹s.UpS t _› : s.UpS t _).up.h k (by omega), ‹_›, by omega⟩, fun k hk => (‹s.UpS t _› : s.UpS t _).h k (by omega)⟩
set_option maxHeartbeats 4000000 in
theorem l19Ok_ok (s : Shelf) (h : s.ok) : Ret env.P 25 [rfL s.cs] (fun r => r = .b (pb s.sGood)) := by
  have hl : s.tables.length ≤ 1048576 := h.1.1
  have ht : s.things.length ≤ 1048576 := h.2.1
  refine ret_of (nt := 97) (rvs := [.tmp 2]) Try.func25 rfl rfl rfl rfl (fun X => ?_)
  repeat' (first | exact aa | ((conv => whnf) <;> (first | ((first | refine .inl ⟨_, l19Shape_ok s h _ (h.1.2 _ (by omega)), ?_⟩ | refine ⟨_, l19Shape_ok s h _ (h.1.2 _ (by omega)), ?_⟩); try rintro _ rfl) | refine loopAt 3 s.tables.length (fun k => [(3, .i .i64 k)]) (fun k => []) (fun k => s.UpG k) rfl ⟨s.upG_zero, ?_⟩ | refine loopAt 4 s.tables.length (fun k => [(4, .i .i64 k)]) (fun k => []) (fun k => s.UpR k 0) rfl ⟨s.upR_zero, ?_⟩ | refine loopAt 7 s.things.length (fun k => [(7, .i .i64 k)]) (fun k => []) (fun k => s.UpO k) rfl ⟨s.upO_zero, ?_⟩ | (rename_i i _ _; have he : (s.tables.getD (i : Int).toNat default).entries.length ≤ 1048576 := (h.1.2 i (by omega)).1; refine loopAt 5 (s.tables.getD (i : Int).toNat default).entries.length (fun k => [(5, .i .i64 k)]) (fun k => []) (fun k => s.UpR i k) rfl ⟨by assumption, ?_⟩) | refine And.intro ?_ ?_ | (intro _h; first | contradiction | (try simp only [dd] at _h)) | (refine dt_go ?_) | exact rfl | exact True.intro | exact dkk | exact dks | ((first | refine .inl ⟨_, l19Things_ok s h, ?_⟩ | refine ⟨_, l19Things_ok s h, ?_⟩); (try rintro _ rfl)) | ((first | refine .inl ⟨_, l19Ends_ok s h _, ?_⟩ | refine ⟨_, l19Ends_ok s h _, ?_⟩); (try rintro _ rfl)) | ((first | refine .inl ⟨_, l19Lent_ok s h _ _, ?_⟩ | refine ⟨_, l19Lent_ok s h _ _, ?_⟩); (try rintro _ rfl)) | ((first | refine .inl ⟨_, l19Owners_ok s h _, ?_⟩ | refine ⟨_, l19Owners_ok s h _, ?_⟩); (try rintro _ rfl)) | (refine wrap_succ ?_; omega))))
  all_goals (first | refine leaf_f ?_ | refine leaf_t ?_ | refine leaf_p ?_ | (conv => whnf) | skip)
  all_goals (try simp only [Int.toNat_natCast, Bool.not_eq_false, Bool.not_eq_true, Decidable.not_not] at *)
  all_goals first
    | exact fun q => ‹¬ (_ ∧ _ ∧ s.goodT)› q.1
    | exact Shelf.notG ‹_› ‹_›
    | exact Shelf.notO ‹_› ‹_›
    | (refine Shelf.notR ‹_› ‹_› ?_; rintro ⟨g1, g2⟩; simp_all; done)
    | exact Shelf.upG_succ ‹_› (Classical.not_not.1 ‹_›)
    | exact Shelf.upO_succ ‹_› ‹_›
    | exact Shelf.upR_succ ‹_› ‹_› ‹_›
    | exact Shelf.upR_next ‹_› (by omega)
    | exact Shelf.sGood_of (Classical.not_not.1 ‹_›) ‹s.UpG _› ‹_› ‹s.UpR _ 0› ‹_› ‹s.UpO _› ‹_›
theorem pigeon {α : Type} [DecidableEq α] : ∀ (n : Nat) (l : List α) (f : Nat → α), (∀ i, i < n → f i ∈ l) → (∀ i j, i < j → j < n → f i ≠ f j) → n ≤ l.length
  | 0, _, _, _, _ => Nat.zero_le _
  | n + 1, l, f, h1, h2 => by
    have hm := h1 n (by omega)
    have := pigeon n (l.erase (f n)) f (fun i hi => (List.mem_erase_of_ne (h2 i n hi (by omega))).2 (h1 i (by omega))) (fun i j hi hj => h2 i j hi (by omega))
    rw [List.length_erase_of_mem hm] at this
    have := List.length_pos_of_mem hm
    omega
theorem getD_mem {α : Type} [Inhabited α] {l : List α} {k : Nat} (h : k < l.length) : l.getD k default ∈ l := by
  rw [List.getD_eq_getElem?_getD, List.getElem?_eq_getElem h]
  exact List.getElem_mem h
theorem mem_all {s : Shelf} {i k : Nat} (hi : i < s.tables.length) (hk : k < (s.tables.getD i default).entries.length) : (s.tables.getD i default).entries.getD k default ∈ s.all :=
  List.mem_flatMap.2 ⟨_, getD_mem hi, getD_mem hk⟩
theorem at_mem {s : Shelf} {who num : Int} {x : Entry} (h : s.at_ who num = some x) : x ∈ s.all := by
  by_cases hw : 0 ≤ who ∧ who < (s.tables.length : Int)
  · rw [at_find hw] at h
    obtain ⟨k, hk, rfl⟩ := Option.map_eq_some_iff.1 h
    exact mem_all (by omega) (find_lt hk).1
  · rw [at_out hw] at h
    cases h
theorem all_length (l : List Table) (h : ∀ t ∈ l, t.entries.length ≤ 12) : (l.flatMap Table.entries).length ≤ 12 * l.length := by
  induction l with
  | nil => exact Nat.le_refl _
  | cons t l ih =>
    have h1 := h t (by simp)
    have h2 := ih fun t ht => h t (by simp [ht])
    simp only [List.flatMap_cons, List.length_append, List.length_cons]
    omega
theorem chain_on {s : Shelf} {e x : Entry} (h : s.orig e = some x) : ∀ j, s.chain e (j + 1) = s.chain x j
  | 0 => by simp [Shelf.chain, h]
  | j + 1 => by
    have := chain_on h j
    show (s.orig (s.chain e (j + 1))).getD default = (s.orig (s.chain x j)).getD default
    rw [this]
theorem chain_same {s : Shelf} {e : Entry} {i j : Nat} (h : s.chain e i = s.chain e j) : ∀ t, s.chain e (i + t) = s.chain e (j + t)
  | 0 => h
  | t + 1 => by
    have := chain_same h t
    show (s.orig (s.chain e (i + t))).getD default = (s.orig (s.chain e (j + t))).getD default
    rw [this]
theorem step_cases {s : Shelf} : ∀ (n : Nat) (e : Entry), s.sEnds (n + 1) e = true → s.sEnds n e = true ∨ ((∀ j, j < n → (s.chain e j).own = false ∧ s.orig (s.chain e j) = some (s.chain e (j + 1))) ∧ (s.chain e n).own = true)
  | 0, e, h => by
    right
    refine ⟨fun j hj => by omega, ?_⟩
    cases ho : e.own with
    | true => exact ho
    | false =>
      cases hE : s.orig e with
      | none => rw [Shelf.sEnds_none ho hE] at h; cases h
      | some x =>
        by_cases hi : x.id = e.id
        · rw [Shelf.sEnds_on ho hE hi] at h; cases h
        · rw [Shelf.sEnds_id ho hE hi] at h; cases h
  | n + 1, e, h => by
    cases ho : e.own with
    | true => exact .inl (Shelf.sEnds_own ho)
    | false =>
      cases hE : s.orig e with
      | none => rw [Shelf.sEnds_none ho hE] at h; cases h
      | some x =>
        by_cases hi : x.id = e.id
        · rw [Shelf.sEnds_on ho hE hi] at h
          rcases step_cases n x h with q | ⟨q1, q2⟩
          · left
            rw [Shelf.sEnds_on ho hE hi]
            exact q
          · right
            refine ⟨fun j hj => ?_, by rw [chain_on hE]; exact q2⟩
            cases j with
            | zero => exact ⟨ho, by rw [chain_on hE]; exact hE⟩
            | succ j =>
              rw [chain_on hE, chain_on hE]
              exact q1 j (by omega)
        · rw [Shelf.sEnds_id ho hE hi] at h; cases h
theorem sEnds_mono {s : Shelf} : ∀ (n : Nat) (e : Entry), s.sEnds n e = true → s.sEnds (n + 1) e = true
  | 0, e, h => by cases h
  | n + 1, e, h => by
    cases ho : e.own with
    | true => exact Shelf.sEnds_own ho
    | false =>
      cases hE : s.orig e with
      | none => rw [Shelf.sEnds_none ho hE] at h; cases h
      | some x =>
        by_cases hi : x.id = e.id
        · rw [Shelf.sEnds_on ho hE hi] at h ⊢
          exact sEnds_mono n x h
        · rw [Shelf.sEnds_id ho hE hi] at h; cases h
theorem ends_short {s : Shelf} {e : Entry} {n : Nat} (hl : s.all.length < n) (he : e ∈ s.all) (h : s.sEnds (n + 1) e = true) : s.sEnds n e = true := by
  rcases step_cases n e h with q | ⟨q1, q2⟩
  · exact q
  exfalso
  have := pigeon n s.all (s.chain e) (fun i hi => by
    cases i with
    | zero => exact he
    | succ i => exact at_mem (q1 i (by omega)).2) (fun i j hij hj heq => by
    have h1 := chain_same heq (n - j)
    rw [show j + (n - j) = n by omega] at h1
    have h2 := (q1 (i + (n - j)) (by omega)).1
    rw [h1, q2] at h2
    cases h2)
  omega
theorem ends_eq {s : Shelf} : ∀ (n : Nat) (e : Entry), e.own = false → s.ends n e = s.sEnds (n + 1) e
  | 0, e, ho => by
    cases hE : s.orig e with
    | none => rw [Shelf.sEnds_none ho hE]; rfl
    | some x =>
      by_cases hi : x.id = e.id
      · rw [Shelf.sEnds_on ho hE hi]; rfl
      · rw [Shelf.sEnds_id ho hE hi]; rfl
  | n + 1, e, ho => by
    cases hE : s.orig e with
    | none => rw [Shelf.sEnds_none ho hE, Shelf.ends_none hE]
    | some x =>
      by_cases hi : x.id = e.id
      · rw [Shelf.sEnds_on ho hE hi]
        cases hx : x.own with
        | true => rw [Shelf.ends_own hE hi hx, Shelf.sEnds_own hx]
        | false => rw [Shelf.ends_on hE hi hx]; exact ends_eq n x hx
      · rw [Shelf.sEnds_id ho hE hi, Shelf.ends_id hE hi]
theorem good_iff (s : Shelf) : s.good ↔ s.sGood := by
  constructor
  · rintro ⟨h1, h2, h3, h4, h5, h6⟩
    have hall : s.all.length < 85 := by
      have := all_length s.tables fun t ht => by
        obtain ⟨k, hk⟩ := List.getElem?_of_mem ht
        have := (h4 k (List.getElem?_eq_some_iff.1 hk).1).2.2
        rw [List.getD_eq_getElem?_getD, hk] at this
        exact this
      unfold Shelf.all
      omega
    refine ⟨⟨h1, h2, h3⟩, fun k hk => ⟨h4 k hk, fun j hj => ?_⟩, fun i k hi hk => ?_, h6⟩
    · obtain ⟨q1, q2, q3⟩ := h5 k j hk hj
      refine ⟨q1, ?_⟩
      cases ho : ((s.tables.getD k default).entries.getD j default).own with
      | true => rw [ho] at q2; exact q2
      | false => rw [ho] at q2; exact q2.1
    · obtain ⟨q1, q2, q3⟩ := h5 i k hi hk
      refine ⟨?_, q3⟩
      cases ho : ((s.tables.getD i default).entries.getD k default).own with
      | true => exact Shelf.sEnds_own ho
      | false =>
        rw [ho, if_neg (by decide)] at q2
        have := q2.2
        rw [ends_eq _ _ ho] at this
        exact ends_short hall (mem_all hi hk) this
  · rintro ⟨⟨h1, h2, h3⟩, h4, h5, h6⟩
    refine ⟨h1, h2, h3, fun k hk => (h4 k hk).1, fun i k hi hk => ?_, h6⟩
    obtain ⟨q1, q2⟩ := (h4 i hi).2 k hk
    obtain ⟨g1, g2⟩ := h5 i k hi hk
    refine ⟨q1, ?_, g2⟩
    cases ho : ((s.tables.getD i default).entries.getD k default).own with
    | true => rw [ho] at q2; exact q2
    | false =>
      rw [ho, if_neg (by decide)] at q2
      rw [if_neg (by decide)]
      exact ⟨q2, by rw [ends_eq _ _ ho]; exact sEnds_mono _ _ g1⟩
theorem mem_all' {s : Shelf} {e : Entry} (h : e ∈ s.all) : ∃ i k, i < s.tables.length ∧ k < (s.tables.getD i default).entries.length ∧ (s.tables.getD i default).entries.getD k default = e := by
  obtain ⟨t, ht, he⟩ := List.mem_flatMap.1 h
  obtain ⟨i, hi⟩ := List.getElem?_of_mem ht
  obtain ⟨k, hk⟩ := List.getElem?_of_mem he
  have e1 : s.tables.getD i default = t := by rw [List.getD_eq_getElem?_getD, hi]; rfl
  exact ⟨i, k, (List.getElem?_eq_some_iff.1 hi).1, by rw [e1]; exact (List.getElem?_eq_some_iff.1 hk).1, by rw [e1, List.getD_eq_getElem?_getD, hk]; rfl⟩
theorem thing_some {s : Shelf} (h : s.good) {who num : Int} {x : Entry} (hx : s.at_ who num = some x) : ∃ q, s.thing x.id = some q ∧ q < s.things.length := by
  obtain ⟨i, k, hi, hk, rfl⟩ := mem_all' (at_mem hx)
  have := (h.2.2.2.2.1 i k hi hk).1
  obtain ⟨q, hq⟩ := Option.isSome_iff_exists.1 this
  refine ⟨q, hq, ?_⟩
  unfold Shelf.thing at hq
  rw [List.findIdx?_eq_some_iff_getElem] at hq
  exact hq.1
def Shelf.thingOf (s : Shelf) (x : Entry) : Thing := s.things.getD ((s.thing x.id).getD 0) default
theorem thingOf_eq {s : Shelf} {x : Entry} {q : Nat} (h : s.thing x.id = some q) : s.thingOf x = s.things.getD q default := by unfold Shelf.thingOf; rw [h]; rfl
def Shelf.typ (s : Shelf) (who num res : Int) : Option Entry := match s.at_ who num with
  | none => none
  | some x => if (s.thingOf x).res = res then some x else none
theorem typ_none {s : Shelf} {who num res : Int} (h : s.at_ who num = none) : s.typ who num res = none := by unfold Shelf.typ; rw [h]
theorem typ_some {s : Shelf} {who num res : Int} {x : Entry} (h : s.at_ who num = some x) (hr : (s.thingOf x).res = res) : s.typ who num res = some x := by unfold Shelf.typ; rw [h]; dsimp only; rw [if_pos hr]
theorem typ_not {s : Shelf} {who num res : Int} {x : Entry} (h : s.at_ who num = some x) (hr : ¬ (s.thingOf x).res = res) : s.typ who num res = none := by unfold Shelf.typ; rw [h]; dsimp only; rw [if_neg hr]
theorem typ_at {s : Shelf} {who num res : Int} {x : Entry} (h : s.typ who num res = some x) : s.at_ who num = some x := by
  unfold Shelf.typ at h
  cases hE : s.at_ who num with
  | none => rw [hE] at h; cases h
  | some y =>
    rw [hE] at h
    dsimp only at h
    split at h
    · exact h
    · cases h
def Shelf.repV (s : Shelf) (who num res : Int) : Int × Int := match s.typ who num res with
  | none => (0, 11)
  | some x => ((s.thingOf x).rep, 0)
theorem repV_none {s : Shelf} {who num res : Int} (h : s.typ who num res = none) : s.repV who num res = (0, 11) := by unfold Shelf.repV; rw [h]
theorem repV_some {s : Shelf} {who num res : Int} {x : Entry} (h : s.typ who num res = some x) : s.repV who num res = ((s.thingOf x).rep, 0) := by unfold Shelf.repV; rw [h]
def twoI (v : Int × Int) : AV := .tup [.i .i64 v.1, .i .i64 v.2]
def Shelf.args (s : Shelf) (who num : Int) : Prop := s.good ∧ (0 ≤ who ∧ who < (s.tables.length : Int)) ∧ 1 ≤ num ∧ num ≤ 1000000
set_option maxRecDepth 8000
theorem bif_st {p : Prop} {α : Type} {a b : α} (h : p) : (bif pb p then a else b) = a := by rw [pb_t.mpr h]; rfl
theorem bif_sf {p : Prop} {α : Type} {a b : α} (h : ¬ p) : (bif pb p then a else b) = b := by rw [pb_f.mpr h]; rfl
theorem entryAt_spec (s : Shelf) (h : s.ok) (who num : Int) : Ret env.P 16 [.agg s.cs, .i .i64 who, .i .i64 num] (fun r => r = entR (bif pb s.sGood then s.at_ who num else none)) := by
  refine ret_of (nt := 16) (rvs := [.cell 6 44, .tmp 7]) Try.func16 rfl rfl rfl rfl (fun X => ?_)
  repeat' (first | exact aa | ((conv => whnf) <;> (first | (refine .inl ⟨_, Ret.wk (by repeat (first | exact WkL.nil | refine WkL.cons ?_ ?_ | exact Wk.refl _ | exact Wk.rfc rfl | refine Wk.fn ?_)) (l19At_ok s h who num), ?_⟩; rintro _ rfl; cases hE : s.at_ who num) | refine And.intro ?_ ?_ | (intro _h; first | contradiction | (try simp only [dd] at _h)) | (refine dt_go ?_) | exact rfl | exact True.intro | exact dkk | exact dks | ((first | refine .inl ⟨_, Ret.wke (l19Ok_ok s h), ?_⟩ | refine ⟨_, Ret.wke (l19Ok_ok s h), ?_⟩); (try rintro _ rfl)) | (refine wrap_succ ?_; omega))))
  all_goals first
    | (rw [bif_sf ‹_›]; rfl)
    | (rw [bif_st (Classical.not_not.1 ‹_›)]; rfl)
theorem l19Who_ok (s : Shelf) (h : s.ok) (who : Int) : Ret env.P 39 [rfL s.cs, .i .i64 who] (fun r => r = .b (decide (0 ≤ who ∧ who < (s.tables.length : Int)))) := by
  have hl : s.tables.length ≤ 1048576 := h.1.1
  refine ret_of (nt := 13) (rvs := [.tmp 4]) Try.func39 rfl rfl rfl rfl (fun X => ?_)
  repeat' (first | exact aa | ((conv => whnf) <;> (first | refine And.intro ?_ ?_ | (intro _h; first | contradiction | (try simp only [dd] at _h)) | (refine dt_go ?_) | exact rfl | exact True.intro | exact dkk | exact dks | ((first | refine .inl ⟨_, l00In_ok _ _ _, ?_⟩ | refine ⟨_, l00In_ok _ _ _, ?_⟩); try rintro _ rfl; try rw [wrap_in (by omega) (by omega)]) | (refine wrap_succ ?_; omega))))
  all_goals (refine leaf_b ?_; rw [decide_eq_decide]; omega)
theorem l19Asks_ok (s : Shelf) (h : s.ok) (who num res : Int) : Ret env.P 38 [rfL s.cs, .i .i64 who, .i .i64 num, .i .i64 res] (fun r => r = .b (pb (s.sGood ∧ (0 ≤ who ∧ who < (s.tables.length : Int)) ∧ (1 ≤ num ∧ num ≤ 1000000) ∧ (1 ≤ res ∧ res ≤ 8)))) := by
  refine ret_of (nt := 24) (rvs := [.tmp 8]) Try.func38 rfl rfl rfl rfl (fun X => ?_)
  repeat' (first | exact aa | ((conv => whnf) <;> (first | refine And.intro ?_ ?_ | (intro _h; first | contradiction | (try simp only [dd] at _h)) | (refine dt_go ?_) | exact rfl | exact True.intro | exact dkk | exact dks | ((first | refine .inl ⟨_, l19Ok_ok s h, ?_⟩ | refine ⟨_, l19Ok_ok s h, ?_⟩); (try rintro _ rfl)) | ((first | refine .inl ⟨_, l19Who_ok s h _, ?_⟩ | refine ⟨_, l19Who_ok s h _, ?_⟩); (try rintro _ rfl)) | ((first | refine .inl ⟨_, l00In_ok _ _ _, ?_⟩ | refine ⟨_, l00In_ok _ _ _, ?_⟩); (try rintro _ rfl)) | (refine wrap_succ ?_; omega))))
  all_goals (first | refine leaf_f ?_ | refine leaf_t ?_ | refine leaf_p ?_ | (conv => whnf) | skip)
  all_goals first
    | (rw [decide_eq_true_eq]; exact ⟨fun q => ⟨‹_›, ‹_›, ‹_›, q⟩, fun q => q.2.2.2⟩)
    | exact fun q => ‹¬ s.sGood› q.1
    | exact fun q => ‹¬ (0 ≤ who ∧ who < (s.tables.length : Int))› q.2.1
    | exact fun q => ‹¬ (1 ≤ num ∧ num ≤ 1000000)› q.2.2.1
    | trace_state
def findR (o : Option Entry) : AV := match o with
  | some e => .tup [.agg e.cs, .i .i64 0]
  | none => .tup [.agg (Entry.cs ⟨0, 0, false, 0, 0, 0, 0⟩), .i .i64 11]
theorem l19Find_ok (s : Shelf) (h : s.ok) (hg : s.good) (who num res : Int) : Ret env.P 68 [rfL s.cs, .i .i64 who, .i .i64 num, .i .i64 res] (fun r => r = findR (s.typ who num res)) := by
  refine ret_of (nt := 38) (rvs := [.cell 8 44, .tmp 9]) Try.func68 rfl rfl rfl rfl (fun X => ?_)
  repeat' (first | exact aa | ((conv => whnf) <;> (first | (refine .inl ⟨_, l19At_ok s h who num, ?_⟩; rintro _ rfl; cases hE : s.at_ who num) | ((first | refine .inl ⟨_, l19Thing_ok s h _, ?_⟩ | refine ⟨_, l19Thing_ok s h _, ?_⟩); (try rintro _ rfl); obtain ⟨q, hq, hlt⟩ := thing_some hg hE; rw [hq]; simp only [idxI]) | refine And.intro ?_ ?_ | (intro _h; first | contradiction | (try simp only [dd] at _h)) | (refine dt_go ?_) | exact rfl | exact True.intro | exact dkk | exact dks | (refine wrap_succ ?_; omega))))
  all_goals (try simp only [Int.toNat_natCast] at *)
  all_goals first
    | (rw [typ_none hE]; rfl)
    | (rw [typ_some hE (by rw [thingOf_eq hq]; assumption)]; rfl)
    | (rw [typ_not hE (by rw [thingOf_eq hq]; assumption)]; rfl)
section
variable {E : Env} {P : Program} {nt : Nat} {X : Ctx} {f : Fr} {H : Hp} {ty : TypeId}
def dimsK (n0 : Nat) (H H' : Hp) : List Nat → Prop
  | [] => True
  | id :: r => (bif Nat.ble n0 id then True else match H[id]?, H'[id]? with
    | some (some x), some (some y) => y.sz = x.sz ∧ y.cap = x.cap ∧ blankK y.k = blankK x.k
    | some none, some none => True
    | _, _ => False) ∧ dimsK n0 H H' r
theorem dimsK_at {n0 : Nat} {H H' : Hp} : ∀ {M : List Nat}, dimsK n0 H H' M → ∀ i, i < n0 → i ∈ M → (H'[i]?).map (fun r => r.map Go.Proofs.Ytmglpojnoadgeaa.blank) = (H[i]?).map (fun r => r.map Go.Proofs.Ytmglpojnoadgeaa.blank)
  | [], _, i, _, hi => by cases hi
  | id :: r, h, i, hlt, hi => by
    rcases List.mem_cons.1 hi with rfl | hi
    · have h1 := h.1
      have hb : Nat.ble n0 i = false := by
        cases hb : Nat.ble n0 i with
        | false => rfl
        | true => have := Nat.le_of_ble_eq_true hb; omega
      rw [hb, cond_false] at h1
      split at h1
      · rename_i x y e1 e2
        rw [e1, e2]
        simp only [Option.map_some, Go.Proofs.Ytmglpojnoadgeaa.blank, h1.1, h1.2.1, h1.2.2]
      · rename_i e1 e2
        rw [e1, e2]
      · cases h1
    · exact dimsK_at h.2 i hlt hi
def efC (E : Env) (nt : Nat) (M : List Nat) (n0 : Nat) (o : Oper) (f : Fr) (H : Hp) (K : AV → Hp → Prop) : Prop :=
  match o.op with
  | .call ⟨.value fx, args, _⟩ => (match o.guard with
    | some _ => False
    | none => (match o.dst with
      | some d => bif Nat.blt d nt then clM E f H (fun i => M.contains i || Nat.ble n0 i) fx args.toList (fun v H' => dimsK n0 H H' M ∧ K v H') else False
      | none => clM E f H (fun i => M.contains i || Nat.ble n0 i) fx args.toList (fun _ H' => dimsK n0 H H' M ∧ K .any H')))
  | _ => efK E nt M n0 o f H K
theorem hid_call {M : List Nat} {n0 : Nat} {H2 : Hp} (hn : n0 ≤ H.length) (h1 : dimsK n0 H H2 M) (h2 : ∀ i, i < H.length → (M.contains i || Nat.ble n0 i) = false → H2[i]? = H[i]?) : hidM M 0 (H2.take n0) = hidM M 0 (H.take n0) := by
  apply List.ext_getElem?
  intro i
  rw [hidM_at, hidM_at, List.getElem?_take, List.getElem?_take]
  by_cases hi : i < n0
  · rw [if_pos hi, if_pos hi]
    simp only [Nat.zero_add]
    cases hM : M.contains i with
    | true =>
      simp only [cond_true]
      exact dimsK_at h1 i hi (List.contains_iff_mem.1 hM)
    | false =>
      rw [h2 i (by omega) (by
        rw [hM, Bool.false_or]
        cases hb : Nat.ble n0 i with
        | false => rfl
        | true => have := Nat.le_of_ble_eq_true hb; omega)]
  · rw [if_neg hi, if_neg hi]
theorem efC_po {M : List Nat} {n0 : Nat} {o : Oper} {K : AV → Hp → Prop} (hn : n0 ≤ H.length) (h : efC E nt M n0 o f H K) : o.guard = none ∧ PO E.P nt X o f H fun f' H' => ∃ v, f' = pushD o.dst v f ∧ hidM M 0 (H'.take n0) = hidM M 0 (H.take n0) ∧ K v H' := by
  unfold efC at h
  split at h
  · rename_i fx args tys hop
    split at h
    · cases h
    rename_i hg
    refine ⟨hg, ?_⟩
    obtain ⟨d?, op, ty, pos, after, gd⟩ := o
    dsimp only at h hop hg
    subst hop
    split at h
    · rename_i d
      cases hb : Nat.blt d nt with
      | false => rw [hb] at h; cases h
      | true =>
        rw [hb, cond_true] at h
        rintro a w ⟨blk, FP, s⟩ K' Q' hK
        refine clM_run h s _ tys (by simp) K' Q' fun r u w' H2 blk2 FP2 hk hsame s2 hc => ?_
        exact hK _ _ _ _ ⟨r, rfl, hid_call hn hk.1 hsame, hk.2⟩ ⟨blk2, FP2, s2.put (Nat.le_of_ble_eq_true hb) hc⟩
    · rintro a w ⟨blk, FP, s⟩ K' Q' hK
      refine clM_run h s _ tys (by simp) K' Q' fun r u w' H2 blk2 FP2 hk hsame s2 hc => ?_
      exact hK _ _ _ _ ⟨.any, rfl, hid_call hn hk.1 hsame, hk.2⟩ ⟨blk2, FP2, s2⟩
  · exact ef_po hn h
def dsC (E : Env) (nt : Nat) (ops : Array Oper) (M : List Nat) (H0 : Hp) (Q : Fr → Hp → Prop) (n : Nat) : List Nat → Fr → Hp → Prop :=
  Nat.rec (motive := fun _ => List Nat → Fr → Hp → Prop) (fun _ f H => Q f H) (fun _ ih D f H => match firstRd E ops M H0.length f D 0 ops.toList with
    | some (i, o) => (match o.dst with
      | some d => bif Nat.blt d nt then
          rdK E (hidM M 0 H0) (restr (looksL ops o) f) o.op fun v => frc v fun v => bif low H0.length v then ih (i :: D) ((d, v) :: f) H else False else False
      | none => False)
    | none => brsK D (fun i o => efC E nt M H0.length o f H fun v H' => pushK o.dst v f fun f => ih (i :: D) f H') ops.toList 0 none) n
theorem dsC_succ {ops : Array Oper} {M : List Nat} {H0 : Hp} {Q : Fr → Hp → Prop} {n : Nat} {D : List Nat} {f : Fr} {H : Hp} : dsC E nt ops M H0 Q (n + 1) D f H = match firstRd E ops M H0.length f D 0 ops.toList with
    | some (i, o) => (match o.dst with
      | some d => bif Nat.blt d nt then
          rdK E (hidM M 0 H0) (restr (looksL ops o) f) o.op fun v => frc v fun v => bif low H0.length v then dsC E nt ops M H0 Q n (i :: D) ((d, v) :: f) H else False else False
      | none => False)
    | none => brsK D (fun i o => efC E nt M H0.length o f H fun v H' => pushK o.dst v f fun f => dsC E nt ops M H0 Q n (i :: D) f H') ops.toList 0 none := rfl
theorem dsC_ok {ops : Array Oper} {M : List Nat} {H0 : Hp} {Q : Exit → Fr → Hp → Prop} : ∀ (n : Nat) (D : List Nat) (f : Fr) (H : Hp), hidM M 0 (H.take H0.length) = hidM M 0 H0 → dsC E nt ops M H0 (Q .normal) n D f H → DR E.P nt X ops M H0 Q n D f H
  | 0, D, f, H, _, h => h
  | n + 1, D, f, H, hold, h => by
    have hlen : H0.length ≤ H.length := by
      have := congrArg List.length hold
      rw [hidM_len, hidM_len, List.length_take] at this
      omega
    rw [dsC_succ] at h
    split at h
    · rename_i i o hfi
      obtain ⟨_, h1, h2, h3, h6, h4, h5⟩ := firstRd_ok hfi
      split at h
      · rename_i d hd
        rw [looksL_eq] at h
        cases hb : Nat.blt d nt with
        | false => rw [hb] at h; cases h
        | true =>
          rw [hb, cond_true] at h
          obtain ⟨v, hpj, hk⟩ := pj_of (nt := nt) (X := X) (ops := ops) (ty := o.type) h
          rw [frc_eq] at hk
          cases hl : low H0.length v with
          | false => rw [hl] at hk; cases hk
          | true =>
            rw [hl, cond_true] at hk
            exact .inl ⟨i, o, d, v, by simpa using h1, h2, hd, Nat.le_of_ble_eq_true hb, h3, h6, hl, h5 d hd, .inl ⟨h4, hpj⟩, dsC_ok n _ _ _ hold hk⟩
      · cases h
    · refine .inr fun i o ho hD hw => ?_
      have hm := brsK_mem h (Nat.zero_le i) (by simpa using ho) hD hw
      obtain ⟨hg, hpo⟩ := efC_po (X := X) hlen hm
      refine pl_op hg (hpo.mono ?_)
      rintro f' H' ⟨v, rfl, ho1, hk⟩
      rw [pushK_eq] at hk
      refine pl_nil ⟨rfl, ?_, ho1.trans hold, dsC_ok n _ _ _ (ho1.trans hold) hk⟩
      cases hd : o.dst with
      | none => exact ext_rfl
      | some d => exact ext_cons
theorem dt_goC {id : Nat} {ops : Array Oper} {Q : Exit → Fr → Hp → Prop} (M : List Nat) (h : drawOkS ops = true ∧ dsC E nt ops M H (Q .normal) ops.toList.length [] f H) : DT E nt X id ops f H Q := ⟨by
  obtain ⟨hok, h⟩ := h
  have := pw_drawS (id := id) (l := ops.toList) (Q := Q) (X := X) M E.mixed (by simpa using hok) (by simpa using dsC_ok (Q := Q) (X := X) _ _ _ _ (by rw [List.take_length]) h)
  simpa using this⟩
end
end Go.Proofs.Ytmglpojnoadgeaa
