/- Texts for VBorrowEndsP. -/
import Derived.Test.YtmglpojnoadgeaaVb19
namespace Go.Proofs.Ytmglpojnoadgeaa
open Go Go.RowKit
set_option linter.unusedVariables false
set_option linter.unusedSimpArgs false
set_option maxRecDepth 8000
theorem l19Entry_ok (t : Table) (h : t.ok) (num : Int) : Ret env.P 72 [.agg t.cs, .i .i64 num] (fun r => r = .i .i64 (idxI (t.find num))) := by
  have hl : t.entries.length ≤ 1048576 := h.1
  refine ret_of (nt := 22) (rvs := [.tmp 4]) Try.func72 rfl rfl rfl rfl (fun X => ?_)
  repeat' (first | exact aa | ((conv => whnf) <;> (first | refine loopN t.entries.length (fun k => [(5, .i .i64 k)]) (fun k => []) (fun k => ∀ j, j < k → ¬ (t.entries.getD j default).num = num) ⟨fun _ h => by omega, ?_⟩ | exact upto_succ (by assumption) (by assumption) | refine And.intro ?_ ?_ | (intro _h; first | contradiction | (try simp only [dd] at _h)) | (refine dt_go ?_) | exact rfl | exact True.intro | exact dkk | exact dks | (refine wrap_succ ?_; omega))))
  · exact leaf_i (idx_some (by omega) (by simpa [numP] using _h) (fun j hj => by have := ‹∀ j, j < _ → ¬ (t.entries.getD j default).num = num› j hj; simpa [numP] using this))
  · exact leaf_i (idx_none fun j hj => by have := ‹∀ j, j < _ → ¬ (t.entries.getD j default).num = num› j (by omega); simpa [numP] using this)
theorem l19Thing_ok (s : Shelf) (h : s.ok) (id : Int) : Ret env.P 87 [rfL s.cs, .i .i64 id] (fun r => r = .i .i64 (idxI (s.thing id))) := by
  have hl : s.things.length ≤ 1048576 := h.2.1
  refine ret_of (nt := 26) (rvs := [.tmp 4]) Try.func87 rfl rfl rfl rfl (fun X => ?_)
  repeat' (first | exact aa | ((conv => whnf) <;> (first | refine loopN s.things.length (fun k => [(5, .i .i64 k)]) (fun k => []) (fun k => ∀ j, j < k → ¬ (s.things.getD j default).id = id) ⟨fun _ h => by omega, ?_⟩ | exact upto_succ (by assumption) (by assumption) | refine And.intro ?_ ?_ | (intro _h; first | contradiction | (try simp only [dd] at _h)) | (refine dt_go ?_) | exact rfl | exact True.intro | exact dkk | exact dks | (refine wrap_succ ?_; omega))))
  · exact leaf_i (idx_some (by omega) (by simpa [idP] using _h) (fun j hj => by have := ‹∀ j, j < _ → ¬ (s.things.getD j default).id = id› j hj; simpa [idP] using this))
  · exact leaf_i (idx_none fun j hj => by have := ‹∀ j, j < _ → ¬ (s.things.getD j default).id = id› j (by omega); simpa [idP] using this)
theorem l19At_ok (s : Shelf) (h : s.ok) (who num : Int) : Ret env.P 41 [rfL s.cs, .i .i64 who, .i .i64 num] (fun r => r = entR (s.at_ who num)) := by
  have hl : s.tables.length ≤ 1048576 := h.1.1
  refine ret_of (nt := 42) (rvs := [.cell 6 44, .tmp 7]) Try.func41 rfl rfl rfl rfl (fun X => ?_)
  repeat' (first | exact aa | ((conv => whnf) <;> (first | (refine .inl ⟨_, l19Entry_ok _ (h.1.2 who.toNat (by omega)) _, ?_⟩; rintro _ rfl; obtain ⟨q, hF, hk⟩ | hF := find_cases (s.tables.getD who.toNat default) num <;> (rw [hF]; simp only [idxI])) | refine And.intro ?_ ?_ | (intro _h; first | contradiction | (try simp only [dd] at _h)) | (refine dt_go ?_) | exact rfl | exact True.intro | exact dkk | exact dks | ((first | refine .inl ⟨_, l00In_ok _ _ _, ?_⟩ | refine ⟨_, l00In_ok _ _ _, ?_⟩); try rintro _ rfl; try rw [wrap_in (by omega) (by omega)]) | (refine wrap_succ ?_; omega))))
  · rw [at_out (by omega)]; rfl
  · rw [at_find (by omega), hF]; rfl
  · rw [at_find (by omega), hF]; rfl
theorem l19Lent_ok (s : Shelf) (h : s.ok) (who num : Int) : Ret env.P 57 [rfL s.cs, .i .i64 who, .i .i64 num] (fun r => r = .i .i64 (leF s.all [who, num])) := by
  have hl : s.tables.length ≤ 1048576 := h.1.1
  refine ret_of (nt := 62) (rvs := [.tmp 6]) Try.func57 rfl rfl rfl rfl (fun X => ?_)
  repeat' (first | exact aa | ((conv => whnf) <;> (first | refine loopAt 8 s.tables.length (fun i => [(8, .i .i64 i), (7, .i .i64 (leF (s.upTo i 0) [who, num]))]) (fun i => []) (fun _ => True) rfl ⟨trivial, ?_⟩ | (rename_i i _ _; have he : (s.tables.getD (i : Int).toNat default).entries.length ≤ 1048576 := (h.1.2 i (by omega)).1; refine loopAt 9 (s.tables.getD (i : Int).toNat default).entries.length (fun k => [(9, .i .i64 k), (7, .i .i64 (leF (s.upTo i k) [who, num]))]) (fun k => []) (fun _ => True) rfl ⟨trivial, ?_⟩) | refine And.intro ?_ ?_ | (intro _h; first | contradiction | (try simp only [dd] at _h)) | (refine dt_go ?_) | exact rfl | exact True.intro | exact dkk | exact dks | (refine wrap_succ ?_; omega))))
  all_goals (first | (conv => whnf) | skip)
  all_goals (simp only [Int.toNat_natCast] at *)
  all_goals first
    | exact le_at_hit (by omega) (by assumption) (by assumption) (by assumption)
    | exact le_at_miss (by omega) (by assumption) (fun q => by simp_all)
    | exact le_at_own (by omega) (by simpa using _h)
    | exact congrFun (congrArg _ (upTo_ends (by omega) (by omega) (by omega))) _
    | exact leaf_i (congrFun (congrArg _ (upTo_all (by omega) (by omega))) _)
theorem l19Owners_ok (s : Shelf) (h : s.ok) (id : Int) : Ret env.P 58 [rfL s.cs, .i .i64 id] (fun r => r = .i .i64 (owF s.all [id])) := by
  have hl : s.tables.length ≤ 1048576 := h.1.1
  refine ret_of (nt := 53) (rvs := [.tmp 4]) Try.func58 rfl rfl rfl rfl (fun X => ?_)
  repeat' (first | exact aa | ((conv => whnf) <;> (first | refine loopAt 6 s.tables.length (fun i => [(6, .i .i64 i), (5, .i .i64 (owF (s.upTo i 0) [id]))]) (fun i => []) (fun _ => True) rfl ⟨trivial, ?_⟩ | (rename_i i _ _; have he : (s.tables.getD (i : Int).toNat default).entries.length ≤ 1048576 := (h.1.2 i (by omega)).1; refine loopAt 7 (s.tables.getD (i : Int).toNat default).entries.length (fun k => [(7, .i .i64 k), (5, .i .i64 (owF (s.upTo i k) [id]))]) (fun k => []) (fun _ => True) rfl ⟨trivial, ?_⟩) | refine And.intro ?_ ?_ | (intro _h; first | contradiction | (try simp only [dd] at _h)) | (refine dt_go ?_) | exact rfl | exact True.intro | exact dkk | exact dks | (refine wrap_succ ?_; omega))))
  all_goals (first | (conv => whnf) | skip)
  all_goals (simp only [Int.toNat_natCast] at *)
  all_goals first
    | exact ow_at_hit (by omega) (by assumption) (by assumption)
    | exact ow_at_miss (by omega) (by assumption) (by assumption)
    | exact ow_at_lent (by omega) (by simpa using _h)
    | exact congrFun (congrArg _ (upTo_ends (by omega) (by omega) (by omega))) _
    | exact leaf_i (congrFun (congrArg _ (upTo_all (by omega) (by omega))) _)
theorem l19Ends_ok (s : Shelf) (h : s.ok) (e : Entry) : Ret env.P 56 [rfL s.cs, .agg e.cs] (fun r => r = .b (s.sEnds 85 e)) := by
  refine ret_of (nt := 33) (rvs := [.tmp 4]) Try.func56 rfl rfl rfl rfl (fun X => ?_)
  repeat' (first | exact aa | ((conv => whnf) <;> (first | refine loopN 85 (fun k => [(5, .i .i64 k)]) (fun k => [some (.box (s.chain e k).cs)]) (fun k => s.sEnds 85 e = s.sEnds (85 - k) (s.chain e k)) ⟨rfl, ?_⟩ | (rename_i k _ _ _; refine .inl ⟨_, l19At_ok s h (s.chain e k).from_ (s.chain e k).fromNum, ?_⟩; rintro _ rfl; cases hE : s.at_ (s.chain e k).from_ (s.chain e k).fromNum) | (simp only [Shelf.chain, Shelf.orig, hE, Option.getD_some]) | refine And.intro ?_ ?_ | (intro _h; first | contradiction | (try simp only [dd] at _h)) | (refine dt_go ?_) | exact rfl | exact True.intro | exact dkk | exact dks | (refine wrap_succ ?_; omega))))
  all_goals (first | refine leaf_b ?_ | (conv => whnf) | skip)
  · rename_i k _ hI _
    rw [hI, show 85 - k = (84 - k) + 1 by omega, Shelf.sEnds_own _h]
  · rw [‹s.sEnds 85 e = s.sEnds (85 - k) (s.chain e k)›, Shelf.sEnds_none (by assumption) (show s.orig (s.chain e k) = none from hE)]
  · rw [‹s.sEnds 85 e = s.sEnds (85 - k) (s.chain e k)›, Shelf.sEnds_id (by assumption) (show s.orig (s.chain e k) = some _ from hE) (by assumption)]
  · rw [‹s.sEnds 85 e = s.sEnds (85 - k) (s.chain e k)›, show 85 - k = (85 - (k + 1)) + 1 by omega, Shelf.sEnds_on (by assumption) (show s.orig (s.chain e k) = some _ from hE) (by assumption)]
  · rename_i k _ hI
    rw [hI, show 85 - k = 0 by omega]; rfl
set_option maxHeartbeats 2000000 in
theorem l19Things_ok (s : Shelf) (h : s.ok) : Ret env.P 54 [rfL s.cs] (fun r => r = .b (pb ((1 ≤ s.next ∧ s.next ≤ 1000000) ∧ (1 ≤ s.tables.length ∧ s.tables.length ≤ 7) ∧ s.goodT))) := by
  have hl : s.tables.length ≤ 1048576 := h.1.1
  have ht : s.things.length ≤ 1048576 := h.2.1
  refine ret_of (nt := 90) (rvs := [.tmp 2]) Try.func54 rfl rfl rfl rfl (fun X => ?_)
  repeat' (first | exact aa | ((conv => whnf) <;> (first | refine loopN s.things.length (fun k => [(3, .i .i64 k)]) (fun k => []) (fun k => s.UpT k) ⟨s.upT_zero, ?_⟩ | refine And.intro ?_ ?_ | (intro _h; first | contradiction | (try simp only [dd] at _h)) | (refine dt_go ?_) | exact rfl | exact True.intro | exact dkk | exact dks | ((first | refine .inl ⟨_, l00In_ok _ _ _, ?_⟩ | refine ⟨_, l00In_ok _ _ _, ?_⟩); try rintro _ rfl; try rw [wrap_in (by omega) (by omega)]) | (refine wrap_succ ?_; omega))))
  all_goals (first | refine leaf_f ?_ | refine leaf_t ?_ | refine leaf_p ?_ | (conv => whnf) | skip)
  all_goals (try simp only [Int.toNat_natCast] at *)
  all_goals (try simp (disch := omega) only [wrap_in] at *)
  all_goals first
    | (show (0 : Int) ≤ _; omega)
    | (show (_ : Int) < _; omega)
    | exact fun q => by have := q.2.2.2; omega
    | (refine notT ‹_› ?_; intro g; have := Shelf.upT_pos ‹s.UpT _›; first | omega | (rw [prevId_pos ‹_›] at g; omega))
    | exact Shelf.upT_succ ‹_› (by first | (rw [prevId_pos ‹_›]; omega) | (rw [prevId_zero ‹_›]; omega)) (by omega) ⟨by omega, by omega⟩ ⟨by omega, by omega⟩
    | exact ⟨‹_›, ⟨by omega, by omega⟩, fun k hk => (‹s.UpT _› : s.UpT _).h k (by omega), by omega⟩
set_option maxHeartbeats 4000000 in
theorem l19Shape_ok (s : Shelf) (h : s.ok) (t : Table) (ht : t.ok) : Ret env.P 55 [rfL s.cs, .agg t.cs] (fun r => r = .b (pb (s.shape t))) := by
  have hl : t.entries.length ≤ 1048576 := ht.1
  refine ret_of (nt := 92) (rvs := [.tmp 4]) Try.func55 rfl rfl rfl rfl (fun X => ?_)
  repeat' (first | exact aa | ((conv => whnf) <;> (first | refine loopN t.entries.length (fun k => [(5, .i .i64 k)]) (fun k => []) (fun k => s.UpS t k) ⟨s.upS_zero t, ?_⟩ | refine And.intro ?_ ?_ | (intro _h; first | contradiction | (try simp only [dd] at _h)) | (refine dt_go ?_) | exact rfl | exact True.intro | exact dkk | exact dks | ((first | refine .inl ⟨_, l00In_ok _ _ _, ?_⟩ | refine ⟨_, l00In_ok _ _ _, ?_⟩); try rintro _ rfl; try rw [wrap_in (by omega) (by omega)]) | ((first | refine .inl ⟨_, l19Thing_ok s h _, ?_⟩ | refine ⟨_, l19Thing_ok s h _, ?_⟩); (try rintro _ rfl)) | (refine wrap_succ ?_; omega))))
  all_goals (first | refine leaf_f ?_ | refine leaf_t ?_ | refine leaf_p ?_ | (conv => whnf) | skip)
  all_goals (try simp only [Int.toNat_natCast, idx_neg, Bool.not_eq_false, Bool.not_eq_true, Decidable.not_not] at *)
  all_goals (try simp (disch := omega) only [wrap_in] at *)
  all_goals first
    | (show (0 : Int) ≤ _; omega)
    | (show (_ : Int) < _; omega)
    | exact fun q => by have := q.1.2.1; omega
    | exact fun q => by have := q.1.2.2; omega
    | (refine notS ‹_› ?_; rintro ⟨g, g1, g2⟩; have := Table.up_pos (‹s.UpS t _› : s.UpS t _).up; first | omega | (rw [prevNum_pos ‹_›] at g; omega) | (clear g; rw [if_neg (by rw [‹(Entry.own _) = false›]; decide)] at g2; omega) | (clear g; simp_all; done))
    | exact Shelf.upS_succ ‹_› (by first | (rw [prevNum_pos ‹_›]; omega) | (rw [prevNum_zero ‹_›]; omega)) (by omega) (by omega) ⟨by simp_all, by simp_all⟩
    | exact ⟨⟨fun k hk => (‹s.UpS t _› : s.UpS t _).up.h k (by omega), ‹_›, by omega⟩, fun k hk => (‹s.UpS t _› : s.UpS t _).h k (by omega)⟩
set_option maxHeartbeats 4000000 in
theorem l19Ok_ok (s : Shelf) (h : s.ok) : Ret env.P 25 [rfL s.cs] (fun r => r = .b (pb s.sGood)) := by
  have hl : s.tables.length ≤ 1048576 := h.1.1
  have ht : s.things.length ≤ 1048576 := h.2.1
  refine ret_of (nt := 97) (rvs := [.tmp 2]) Try.func25 rfl rfl rfl rfl (fun X => ?_)
  repeat' (first | exact aa | ((conv => whnf) <;> (first | ((first | refine .inl ⟨_, l19Shape_ok s h _ (h.1.2 _ (by omega)), ?_⟩ | refine ⟨_, l19Shape_ok s h _ (h.1.2 _ (by omega)), ?_⟩); try rintro _ rfl) | refine loopAt 3 s.tables.length (fun k => [(3, .i .i64 k)]) (fun k => []) (fun k => s.UpG k) rfl ⟨s.upG_zero, ?_⟩ | refine loopAt 4 s.tables.length (fun k => [(4, .i .i64 k)]) (fun k => []) (fun k => s.UpR k 0) rfl ⟨s.upR_zero, ?_⟩ | refine loopAt 7 s.things.length (fun k => [(7, .i .i64 k)]) (fun k => []) (fun k => s.UpO k) rfl ⟨s.upO_zero, ?_⟩ | (rename_i i _ _; have he : (s.tables.getD (i : Int).toNat default).entries.length ≤ 1048576 := (h.1.2 i (by omega)).1; refine loopAt 5 (s.tables.getD (i : Int).toNat default).entries.length (fun k => [(5, .i .i64 k)]) (fun k => []) (fun k => s.UpR i k) rfl ⟨by assumption, ?_⟩) | refine And.intro ?_ ?_ | (intro _h; first | contradiction | (try simp only [dd] at _h)) | (refine dt_go ?_) | exact rfl | exact True.intro | exact dkk | exact dks | ((first | refine .inl ⟨_, l19Things_ok s h, ?_⟩ | refine ⟨_, l19Things_ok s h, ?_⟩); (try rintro _ rfl)) | ((first | refine .inl ⟨_, l19Ends_ok s h _, ?_⟩ | refine ⟨_, l19Ends_ok s h _, ?_⟩); (try rintro _ rfl)) | ((first | refine .inl ⟨_, l19Lent_ok s h _ _, ?_⟩ | refine ⟨_, l19Lent_ok s h _ _, ?_⟩); (try rintro _ rfl)) | ((first | refine .inl ⟨_, l19Owners_ok s h _, ?_⟩ | refine ⟨_, l19Owners_ok s h _, ?_⟩); (try rintro _ rfl)) | (refine wrap_succ ?_; omega))))
  all_goals (first | refine leaf_f ?_ | refine leaf_t ?_ | refine leaf_p ?_ | (conv => whnf) | skip)
  all_goals (try simp only [Int.toNat_natCast, Bool.not_eq_false, Bool.not_eq_true, Decidable.not_not] at *)
  all_goals first
    | exact fun q => ‹¬ (_ ∧ _ ∧ s.goodT)› q.1
    | exact Shelf.notG ‹_› ‹_›
    | exact Shelf.notO ‹_› ‹_›
    | (refine Shelf.notR ‹_› ‹_› ?_; rintro ⟨g1, g2⟩; simp_all; done)
    | exact Shelf.upG_succ ‹_› (Classical.not_not.1 ‹_›)
    | exact Shelf.upO_succ ‹_› ‹_›
    | exact Shelf.upR_succ ‹_› ‹_› ‹_›
    | exact Shelf.upR_next ‹_› (by omega)
    | exact Shelf.sGood_of (Classical.not_not.1 ‹_›) ‹s.UpG _› ‹_› ‹s.UpR _ 0› ‹_› ‹s.UpO _› ‹_›
theorem shelfOk_spec (s : Shelf) (h : s.ok) : Ret env.P 12 [.agg s.cs] (fun r => r = .b (pb s.sGood)) := by
  refine ret_of (nt := 4) (rvs := [.tmp 2]) Try.func12 rfl rfl rfl rfl (fun X => ?_)
  repeat' (first | exact aa | ((conv => whnf) <;> (first | refine And.intro ?_ ?_ | (intro _h; first | contradiction | (try simp only [dd] at _h)) | (refine dt_go ?_) | exact rfl | exact True.intro | exact dkk | exact dks | ((first | refine .inl ⟨_, Ret.wke (l19Ok_ok s h), ?_⟩ | refine ⟨_, Ret.wke (l19Ok_ok s h), ?_⟩); (try rintro _ rfl)) | (refine wrap_succ ?_; omega))))
  all_goals exact rfl
theorem pigeon {α : Type} [DecidableEq α] : ∀ (n : Nat) (l : List α) (f : Nat → α), (∀ i, i < n → f i ∈ l) → (∀ i j, i < j → j < n → f i ≠ f j) → n ≤ l.length
  | 0, _, _, _, _ => Nat.zero_le _
  | n + 1, l, f, h1, h2 => by
    have hm := h1 n (by omega)
    have := pigeon n (l.erase (f n)) f (fun i hi => (List.mem_erase_of_ne (h2 i n hi (by omega))).2 (h1 i (by omega))) (fun i j hi hj => h2 i j hi (by omega))
    rw [List.length_erase_of_mem hm] at this
    have := List.length_pos_of_mem hm
    omega
theorem getD_mem {α : Type} [Inhabited α] {l : List α} {k : Nat} (h : k < l.length) : l.getD k default ∈ l := by
  rw [List.getD_eq_getElem?_getD, List.getElem?_eq_getElem h]
  exact List.getElem_mem h
theorem mem_all {s : Shelf} {i k : Nat} (hi : i < s.tables.length) (hk : k < (s.tables.getD i default).entries.length) : (s.tables.getD i default).entries.getD k default ∈ s.all :=
  List.mem_flatMap.2 ⟨_, getD_mem hi, getD_mem hk⟩
theorem at_mem {s : Shelf} {who num : Int} {x : Entry} (h : s.at_ who num = some x) : x ∈ s.all := by
  by_cases hw : 0 ≤ who ∧ who < (s.tables.length : Int)
  · rw [at_find hw] at h
    obtain ⟨k, hk, rfl⟩ := Option.map_eq_some_iff.1 h
    exact mem_all (by omega) (find_lt hk).1
  · rw [at_out hw] at h
    cases h
theorem all_length (l : List Table) (h : ∀ t ∈ l, t.entries.length ≤ 12) : (l.flatMap Table.entries).length ≤ 12 * l.length := by
  induction l with
  | nil => exact Nat.le_refl _
  | cons t l ih =>
    have h1 := h t (by simp)
    have h2 := ih fun t ht => h t (by simp [ht])
    simp only [List.flatMap_cons, List.length_append, List.length_cons]
    omega
theorem chain_on {s : Shelf} {e x : Entry} (h : s.orig e = some x) : ∀ j, s.chain e (j + 1) = s.chain x j
  | 0 => by simp [Shelf.chain, h]
  | j + 1 => by
    have := chain_on h j
    show (s.orig (s.chain e (j + 1))).getD default = (s.orig (s.chain x j)).getD default
    rw [this]
theorem chain_same {s : Shelf} {e : Entry} {i j : Nat} (h : s.chain e i = s.chain e j) : ∀ t, s.chain e (i + t) = s.chain e (j + t)
  | 0 => h
  | t + 1 => by
    have := chain_same h t
    show (s.orig (s.chain e (i + t))).getD default = (s.orig (s.chain e (j + t))).getD default
    rw [this]
theorem step_cases {s : Shelf} : ∀ (n : Nat) (e : Entry), s.sEnds (n + 1) e = true → s.sEnds n e = true ∨ ((∀ j, j < n → (s.chain e j).own = false ∧ s.orig (s.chain e j) = some (s.chain e (j + 1))) ∧ (s.chain e n).own = true)
  | 0, e, h => by
    right
    refine ⟨fun j hj => by omega, ?_⟩
    cases ho : e.own with
    | true => exact ho
    | false =>
      cases hE : s.orig e with
      | none => rw [Shelf.sEnds_none ho hE] at h; cases h
      | some x =>
        by_cases hi : x.id = e.id
        · rw [Shelf.sEnds_on ho hE hi] at h; cases h
        · rw [Shelf.sEnds_id ho hE hi] at h; cases h
  | n + 1, e, h => by
    cases ho : e.own with
    | true => exact .inl (Shelf.sEnds_own ho)
    | false =>
      cases hE : s.orig e with
      | none => rw [Shelf.sEnds_none ho hE] at h; cases h
      | some x =>
        by_cases hi : x.id = e.id
        · rw [Shelf.sEnds_on ho hE hi] at h
          rcases step_cases n x h with q | ⟨q1, q2⟩
          · left
            rw [Shelf.sEnds_on ho hE hi]
            exact q
          · right
            refine ⟨fun j hj => ?_, by rw [chain_on hE]; exact q2⟩
            cases j with
            | zero => exact ⟨ho, by rw [chain_on hE]; exact hE⟩
            | succ j =>
              rw [chain_on hE, chain_on hE]
              exact q1 j (by omega)
        · rw [Shelf.sEnds_id ho hE hi] at h; cases h
theorem sEnds_mono {s : Shelf} : ∀ (n : Nat) (e : Entry), s.sEnds n e = true → s.sEnds (n + 1) e = true
  | 0, e, h => by cases h
  | n + 1, e, h => by
    cases ho : e.own with
    | true => exact Shelf.sEnds_own ho
    | false =>
      cases hE : s.orig e with
      | none => rw [Shelf.sEnds_none ho hE] at h; cases h
      | some x =>
        by_cases hi : x.id = e.id
        · rw [Shelf.sEnds_on ho hE hi] at h ⊢
          exact sEnds_mono n x h
        · rw [Shelf.sEnds_id ho hE hi] at h; cases h
theorem ends_short {s : Shelf} {e : Entry} {n : Nat} (hl : s.all.length < n) (he : e ∈ s.all) (h : s.sEnds (n + 1) e = true) : s.sEnds n e = true := by
  rcases step_cases n e h with q | ⟨q1, q2⟩
  · exact q
  exfalso
  have := pigeon n s.all (s.chain e) (fun i hi => by
    cases i with
    | zero => exact he
    | succ i => exact at_mem (q1 i (by omega)).2) (fun i j hij hj heq => by
    have h1 := chain_same heq (n - j)
    rw [show j + (n - j) = n by omega] at h1
    have h2 := (q1 (i + (n - j)) (by omega)).1
    rw [h1, q2] at h2
    cases h2)
  omega
theorem ends_eq {s : Shelf} : ∀ (n : Nat) (e : Entry), e.own = false → s.ends n e = s.sEnds (n + 1) e
  | 0, e, ho => by
    cases hE : s.orig e with
    | none => rw [Shelf.sEnds_none ho hE]; rfl
    | some x =>
      by_cases hi : x.id = e.id
      · rw [Shelf.sEnds_on ho hE hi]; rfl
      · rw [Shelf.sEnds_id ho hE hi]; rfl
  | n + 1, e, ho => by
    cases hE : s.orig e with
    | none => rw [Shelf.sEnds_none ho hE, Shelf.ends_none hE]
    | some x =>
      by_cases hi : x.id = e.id
      · rw [Shelf.sEnds_on ho hE hi]
        cases hx : x.own with
        | true => rw [Shelf.ends_own hE hi hx, Shelf.sEnds_own hx]
        | false => rw [Shelf.ends_on hE hi hx]; exact ends_eq n x hx
      · rw [Shelf.sEnds_id ho hE hi, Shelf.ends_id hE hi]
theorem good_iff (s : Shelf) : s.good ↔ s.sGood := by
  constructor
  · rintro ⟨h1, h2, h3, h4, h5, h6⟩
    have hall : s.all.length < 85 := by
      have := all_length s.tables fun t ht => by
        obtain ⟨k, hk⟩ := List.getElem?_of_mem ht
        have := (h4 k (List.getElem?_eq_some_iff.1 hk).1).2.2
        rw [List.getD_eq_getElem?_getD, hk] at this
        exact this
      unfold Shelf.all
      omega
    refine ⟨⟨h1, h2, h3⟩, fun k hk => ⟨h4 k hk, fun j hj => ?_⟩, fun i k hi hk => ?_, h6⟩
    · obtain ⟨q1, q2, q3⟩ := h5 k j hk hj
      refine ⟨q1, ?_⟩
      cases ho : ((s.tables.getD k default).entries.getD j default).own with
      | true => rw [ho] at q2; exact q2
      | false => rw [ho] at q2; exact q2.1
    · obtain ⟨q1, q2, q3⟩ := h5 i k hi hk
      refine ⟨?_, q3⟩
      cases ho : ((s.tables.getD i default).entries.getD k default).own with
      | true => exact Shelf.sEnds_own ho
      | false =>
        rw [ho, if_neg (by decide)] at q2
        have := q2.2
        rw [ends_eq _ _ ho] at this
        exact ends_short hall (mem_all hi hk) this
  · rintro ⟨⟨h1, h2, h3⟩, h4, h5, h6⟩
    refine ⟨h1, h2, h3, fun k hk => (h4 k hk).1, fun i k hi hk => ?_, h6⟩
    obtain ⟨q1, q2⟩ := (h4 i hi).2 k hk
    obtain ⟨g1, g2⟩ := h5 i k hi hk
    refine ⟨q1, ?_, g2⟩
    cases ho : ((s.tables.getD i default).entries.getD k default).own with
    | true => rw [ho] at q2; exact q2
    | false =>
      rw [ho, if_neg (by decide)] at q2
      rw [if_neg (by decide)]
      exact ⟨q2, by rw [ends_eq _ _ ho]; exact sEnds_mono _ _ g1⟩
def Shelf.isOwn (s : Shelf) (id : Int) (i k : Nat) : Prop := i < s.tables.length ∧ k < (s.tables.getD i default).entries.length ∧ ((s.tables.getD i default).entries.getD k default).own = true ∧ ((s.tables.getD i default).entries.getD k default).id = id
def Shelf.fstOwn (s : Shelf) (id : Int) (i k : Nat) : Prop := s.isOwn id i k ∧ ∀ i' k', s.isOwn id i' k' → i < i' ∨ i = i' ∧ k ≤ k'
structure Shelf.UpW (s : Shelf) (id : Int) (i k : Nat) : Prop where
  h : ∀ i' k', s.isOwn id i' k' → i < i' ∨ i = i' ∧ k ≤ k'
theorem Shelf.upW_zero (s : Shelf) (id : Int) : s.UpW id 0 0 := ⟨fun _ _ _ => by omega⟩
theorem Shelf.upW_succ {s : Shelf} {id : Int} {i k : Nat} (h : s.UpW id i k) (hn : ¬ (((s.tables.getD i default).entries.getD k default).own = true ∧ ((s.tables.getD i default).entries.getD k default).id = id)) : s.UpW id i (k + 1) := ⟨fun i' k' q => by
  rcases h.h i' k' q with q1 | ⟨rfl, q2⟩
  · exact .inl q1
  · rcases Nat.lt_or_eq_of_le q2 with q3 | rfl
    · exact .inr ⟨rfl, q3⟩
    · exact absurd q.2.2 hn⟩
theorem Shelf.upW_next {s : Shelf} {id : Int} {i k : Nat} (h : s.UpW id i k) (hn : ¬ k < (s.tables.getD i default).entries.length) : s.UpW id (i + 1) 0 := ⟨fun i' k' q => by
  rcases h.h i' k' q with q1 | ⟨rfl, q2⟩
  · rcases Nat.lt_or_eq_of_le (Nat.succ_le_of_lt q1) with q3 | q3
    · exact .inl q3
    · exact .inr ⟨q3, Nat.zero_le _⟩
  · exact absurd q.2.1 (by omega)⟩
noncomputable def Shelf.ownV (s : Shelf) (id : Int) : Int × Int × Bool :=
  haveI := Classical.propDecidable (∃ p : Nat × Nat, s.fstOwn id p.1 p.2)
  if h : ∃ p : Nat × Nat, s.fstOwn id p.1 p.2 then ((Classical.choose h).1, ((s.tables.getD (Classical.choose h).1 default).entries.getD (Classical.choose h).2 default).num, true) else (0, 0, false)
theorem ownV_some {s : Shelf} {id : Int} {i k : Nat} (h : s.UpW id i k) (hi : (i : Int) < s.tables.length) (hk : (k : Int) < (s.tables.getD i default).entries.length) (h1 : ((s.tables.getD i default).entries.getD k default).own = true) (h2 : ((s.tables.getD i default).entries.getD k default).id = id) :
    s.ownV id = ((i : Int), ((s.tables.getD i default).entries.getD k default).num, true) := by
  have hi' : i < s.tables.length := by omega
  have hk' : k < (s.tables.getD i default).entries.length := by omega
  have hex : ∃ p : Nat × Nat, s.fstOwn id p.1 p.2 := ⟨(i, k), ⟨hi', hk', h1, h2⟩, h.h⟩
  unfold Shelf.ownV
  rw [dif_pos hex]
  have hc := Classical.choose_spec hex
  generalize Classical.choose hex = p at hc ⊢
  obtain ⟨a, b⟩ := p
  obtain ⟨q1, q2⟩ := hc
  have e1 := q2 i k ⟨by omega, by omega, h1, h2⟩
  have e2 := h.h a b q1
  obtain rfl : a = i := by omega
  obtain rfl : b = k := by omega
  rfl
theorem ownV_none {s : Shelf} {id : Int} {i : Nat} (h : s.UpW id i 0) (hi : ¬ (i : Int) < s.tables.length) : s.ownV id = (0, 0, false) := by
  unfold Shelf.ownV
  rw [dif_neg]
  rintro ⟨⟨a, b⟩, q1, _⟩
  have := h.h a b q1
  have := q1.1
  omega
def ownR (v : Int × Int × Bool) : AV := .tup [.i .i64 v.1, .i .i64 v.2.1, .b v.2.2]
def boStep (sc : Int) (n : Int) (e : Entry) : Int := if e.own = true then n else if e.scope = sc then IntKind.i64.wrap (n + 1) else n
def boF (sc : Int) (l : List Entry) : Int := l.foldl (boStep sc) 0
theorem boF_snoc (sc : Int) (l : List Entry) (e : Entry) : boF sc (l ++ [e]) = boStep sc (boF sc l) e := by simp [boF]
theorem bo_hit {s : Shelf} {i k : Nat} {sc : Int} (h : k < (s.tables.getD i default).entries.length) (ho : ((s.tables.getD i default).entries.getD k default).own = false) (h1 : ((s.tables.getD i default).entries.getD k default).scope = sc) : IntKind.i64.wrap (boF sc (s.upTo i k) + 1) = boF sc (s.upTo i (k + 1)) := by
  rw [upTo_succ h, boF_snoc, boStep, if_neg (by rw [ho]; decide), if_pos h1]
theorem bo_miss {s : Shelf} {i k : Nat} {sc : Int} (h : k < (s.tables.getD i default).entries.length) (h1 : ¬ ((s.tables.getD i default).entries.getD k default).scope = sc) : boF sc (s.upTo i k) = boF sc (s.upTo i (k + 1)) := by
  rw [upTo_succ h, boF_snoc, boStep, if_neg h1]
  split <;> rfl
theorem bo_own {s : Shelf} {i k : Nat} {sc : Int} (h : k < (s.tables.getD i default).entries.length) (ho : ((s.tables.getD i default).entries.getD k default).own = true) : boF sc (s.upTo i k) = boF sc (s.upTo i (k + 1)) := by
  rw [upTo_succ h, boF_snoc, boStep, if_pos ho]
theorem wrap_wrap (n : Int) : IntKind.i64.wrap (IntKind.i64.wrap n) = IntKind.i64.wrap n := by
  simp only [IntKind.wrap_i64]; omega
theorem boF_wrap (sc : Int) (l : List Entry) : IntKind.i64.wrap (boF sc l) = boF sc l := by
  have h : ∀ (l : List Entry) (n : Int), IntKind.i64.wrap n = n → IntKind.i64.wrap (l.foldl (boStep sc) n) = l.foldl (boStep sc) n := by
    intro l
    induction l with
    | nil => intro n hn; exact hn
    | cons e l ih =>
      intro n hn
      refine ih _ ?_
      unfold boStep
      split
      · exact hn
      · split
        · exact wrap_wrap _
        · exact hn
  exact h l 0 (wrap_in (by omega) (by omega))
theorem bo_bit {s : Shelf} {i k : Nat} {sc : Int} (h : k < (s.tables.getD i default).entries.length) (ho : ((s.tables.getD i default).entries.getD k default).own = false) :
    IntKind.i64.wrap (boF sc (s.upTo i k) + if decide (((s.tables.getD i default).entries.getD k default).scope = sc) = true then 1 else 0) = boF sc (s.upTo i (k + 1)) := by
  by_cases hs : ((s.tables.getD i default).entries.getD k default).scope = sc
  · rw [if_pos (by rw [decide_eq_true_eq]; exact hs)]; exact bo_hit h ho hs
  · rw [if_neg (by rw [decide_eq_true_eq]; exact hs), Int.add_zero, boF_wrap]; exact bo_miss h hs
theorem bo_bit0 {s : Shelf} {i k : Nat} {sc : Int} (h : k < (s.tables.getD i default).entries.length) (ho : ¬ ((s.tables.getD i default).entries.getD k default).own = false) :
    IntKind.i64.wrap (boF sc (s.upTo i k) + if false = true then 1 else 0) = boF sc (s.upTo i (k + 1)) := by
  rw [if_neg (by decide), Int.add_zero, boF_wrap]; exact bo_own h (by simpa using ho)
theorem boF_zero {sc : Int} {l : List Entry} (h : ∀ e ∈ l, e.own = true ∨ ¬ e.scope = sc) : boF sc l = 0 := by
  unfold boF
  induction l with
  | nil => rfl
  | cons e l ih =>
    show l.foldl (boStep sc) (boStep sc 0 e) = 0
    have : boStep sc 0 e = 0 := by
      unfold boStep
      rcases h e (by simp) with q | q
      · rw [if_pos q]
      · rw [if_neg q]
        split <;> rfl
    rw [this]
    exact ih fun e he => h e (by simp [he])
theorem mem_all' {s : Shelf} {e : Entry} (h : e ∈ s.all) : ∃ i k, i < s.tables.length ∧ k < (s.tables.getD i default).entries.length ∧ (s.tables.getD i default).entries.getD k default = e := by
  obtain ⟨t, ht, he⟩ := List.mem_flatMap.1 h
  obtain ⟨i, hi⟩ := List.getElem?_of_mem ht
  obtain ⟨k, hk⟩ := List.getElem?_of_mem he
  have e1 : s.tables.getD i default = t := by rw [List.getD_eq_getElem?_getD, hi]; rfl
  exact ⟨i, k, (List.getElem?_eq_some_iff.1 hi).1, by rw [e1]; exact (List.getElem?_eq_some_iff.1 hk).1, by rw [e1, List.getD_eq_getElem?_getD, hk]; rfl⟩
theorem bo_none {s : Shelf} (h : s.good) {sc : Int} (hs : ¬ (1 ≤ sc ∧ sc ≤ 1000000)) : boF sc s.all = 0 := boF_zero fun e he => by
  obtain ⟨i, k, hi, hk, rfl⟩ := mem_all' he
  have := (h.2.2.2.2.1 i k hi hk).2.1
  cases ho : ((s.tables.getD i default).entries.getD k default).own with
  | true => exact .inl rfl
  | false =>
    right
    rw [ho, if_neg (by decide)] at this
    intro q
    have := this.1
    omega
theorem thing_some {s : Shelf} (h : s.good) {who num : Int} {x : Entry} (hx : s.at_ who num = some x) : ∃ q, s.thing x.id = some q ∧ q < s.things.length := by
  obtain ⟨i, k, hi, hk, rfl⟩ := mem_all' (at_mem hx)
  have := (h.2.2.2.2.1 i k hi hk).1
  obtain ⟨q, hq⟩ := Option.isSome_iff_exists.1 this
  refine ⟨q, hq, ?_⟩
  unfold Shelf.thing at hq
  rw [List.findIdx?_eq_some_iff_getElem] at hq
  exact hq.1
def Shelf.thingOf (s : Shelf) (x : Entry) : Thing := s.things.getD ((s.thing x.id).getD 0) default
theorem thingOf_eq {s : Shelf} {x : Entry} {q : Nat} (h : s.thing x.id = some q) : s.thingOf x = s.things.getD q default := by unfold Shelf.thingOf; rw [h]; rfl
def Shelf.typ (s : Shelf) (who num res : Int) : Option Entry := match s.at_ who num with
  | none => none
  | some x => if (s.thingOf x).res = res then some x else none
theorem typ_none {s : Shelf} {who num res : Int} (h : s.at_ who num = none) : s.typ who num res = none := by unfold Shelf.typ; rw [h]
theorem typ_some {s : Shelf} {who num res : Int} {x : Entry} (h : s.at_ who num = some x) (hr : (s.thingOf x).res = res) : s.typ who num res = some x := by unfold Shelf.typ; rw [h]; dsimp only; rw [if_pos hr]
theorem typ_not {s : Shelf} {who num res : Int} {x : Entry} (h : s.at_ who num = some x) (hr : ¬ (s.thingOf x).res = res) : s.typ who num res = none := by unfold Shelf.typ; rw [h]; dsimp only; rw [if_neg hr]
def Shelf.args (s : Shelf) (who num : Int) : Prop := s.good ∧ (0 ≤ who ∧ who < (s.tables.length : Int)) ∧ 1 ≤ num ∧ num ≤ 1000000
set_option maxRecDepth 8000
theorem bif_st {p : Prop} {α : Type} {a b : α} (h : p) : (bif pb p then a else b) = a := by rw [pb_t.mpr h]; rfl
theorem bif_sf {p : Prop} {α : Type} {a b : α} (h : ¬ p) : (bif pb p then a else b) = b := by rw [pb_f.mpr h]; rfl
theorem l19Owner_ok (s : Shelf) (h : s.ok) (id : Int) : Ret env.P 29 [rfL s.cs, .i .i64 id] (fun r => r = ownR (s.ownV id)) := by
  have hl : s.tables.length ≤ 1048576 := h.1.1
  refine ret_of (nt := 54) (rvs := [.tmp 4, .tmp 5, .tmp 6]) Try.func29 rfl rfl rfl rfl (fun X => ?_)
  repeat' (first | exact aa | ((conv => whnf) <;> (first | refine loopAt 7 s.tables.length (fun i => [(7, .i .i64 i)]) (fun i => []) (fun i => s.UpW id i 0) rfl ⟨s.upW_zero id, ?_⟩ | (rename_i i _ _; have he : (s.tables.getD (i : Int).toNat default).entries.length ≤ 1048576 := (h.1.2 i (by omega)).1; refine loopAt 8 (s.tables.getD (i : Int).toNat default).entries.length (fun k => [(8, .i .i64 k)]) (fun k => []) (fun k => s.UpW id i k) rfl ⟨by assumption, ?_⟩) | refine And.intro ?_ ?_ | (intro _h; first | contradiction | (try simp only [dd] at _h)) | (refine dt_go ?_) | exact rfl | exact True.intro | exact dkk | exact dks | (refine wrap_succ ?_; omega))))
  all_goals (try simp only [Int.toNat_natCast] at *)
  all_goals first
    | exact Shelf.upW_next ‹s.UpW id _ _› (by omega)
    | (refine Shelf.upW_succ ‹s.UpW id _ _› ?_; simp_all; done)
    | (rw [ownV_none ‹_› ‹_›]; rfl)
    | (rw [ownV_some ‹s.UpW id _ _› ‹_› ‹_› ‹_› ‹_›]; rfl)
    | trace_state
theorem ownerOf_spec (s : Shelf) (h : s.ok) (id : Int) : Ret env.P 10 [.agg s.cs, .i .i64 id] (fun r => r = ownR (bif pb s.sGood then s.ownV id else (0, 0, false))) := by
  refine ret_of (nt := 14) (rvs := [.tmp 4, .tmp 5, .tmp 6]) Try.func10 rfl rfl rfl rfl (fun X => ?_)
  repeat' (first | exact aa | ((conv => whnf) <;> (first | refine And.intro ?_ ?_ | (intro _h; first | contradiction | (try simp only [dd] at _h)) | (refine dt_go ?_) | exact rfl | exact True.intro | exact dkk | exact dks | ((first | refine .inl ⟨_, Ret.wke (l19Ok_ok s h), ?_⟩ | refine ⟨_, Ret.wke (l19Ok_ok s h), ?_⟩); (try rintro _ rfl)) | ((first | refine .inl ⟨_, Ret.wke (l19Owner_ok s h _), ?_⟩ | refine ⟨_, Ret.wke (l19Owner_ok s h _), ?_⟩); (try rintro _ rfl)) | (refine wrap_succ ?_; omega))))
  all_goals first
    | (rw [bif_sf ‹_›]; rfl)
    | (rw [bif_st (Classical.not_not.1 ‹_›)]; rfl)
theorem l19Who_ok (s : Shelf) (h : s.ok) (who : Int) : Ret env.P 39 [rfL s.cs, .i .i64 who] (fun r => r = .b (decide (0 ≤ who ∧ who < (s.tables.length : Int)))) := by
  have hl : s.tables.length ≤ 1048576 := h.1.1
  refine ret_of (nt := 13) (rvs := [.tmp 4]) Try.func39 rfl rfl rfl rfl (fun X => ?_)
  repeat' (first | exact aa | ((conv => whnf) <;> (first | refine And.intro ?_ ?_ | (intro _h; first | contradiction | (try simp only [dd] at _h)) | (refine dt_go ?_) | exact rfl | exact True.intro | exact dkk | exact dks | ((first | refine .inl ⟨_, l00In_ok _ _ _, ?_⟩ | refine ⟨_, l00In_ok _ _ _, ?_⟩); try rintro _ rfl; try rw [wrap_in (by omega) (by omega)]) | (refine wrap_succ ?_; omega))))
  all_goals (refine leaf_b ?_; rw [decide_eq_decide]; omega)
def findR (o : Option Entry) : AV := match o with
  | some e => .tup [.agg e.cs, .i .i64 0]
  | none => .tup [.agg (Entry.cs ⟨0, 0, false, 0, 0, 0, 0⟩), .i .i64 11]
theorem l19Find_ok (s : Shelf) (h : s.ok) (hg : s.good) (who num res : Int) : Ret env.P 68 [rfL s.cs, .i .i64 who, .i .i64 num, .i .i64 res] (fun r => r = findR (s.typ who num res)) := by
  refine ret_of (nt := 38) (rvs := [.cell 8 44, .tmp 9]) Try.func68 rfl rfl rfl rfl (fun X => ?_)
  repeat' (first | exact aa | ((conv => whnf) <;> (first | (refine .inl ⟨_, l19At_ok s h who num, ?_⟩; rintro _ rfl; cases hE : s.at_ who num) | ((first | refine .inl ⟨_, l19Thing_ok s h _, ?_⟩ | refine ⟨_, l19Thing_ok s h _, ?_⟩); (try rintro _ rfl); obtain ⟨q, hq, hlt⟩ := thing_some hg hE; rw [hq]; simp only [idxI]) | refine And.intro ?_ ?_ | (intro _h; first | contradiction | (try simp only [dd] at _h)) | (refine dt_go ?_) | exact rfl | exact True.intro | exact dkk | exact dks | (refine wrap_succ ?_; omega))))
  all_goals (try simp only [Int.toNat_natCast] at *)
  all_goals first
    | (rw [typ_none hE]; rfl)
    | (rw [typ_some hE (by rw [thingOf_eq hq]; assumption)]; rfl)
    | (rw [typ_not hE (by rw [thingOf_eq hq]; assumption)]; rfl)
end Go.Proofs.Ytmglpojnoadgeaa
