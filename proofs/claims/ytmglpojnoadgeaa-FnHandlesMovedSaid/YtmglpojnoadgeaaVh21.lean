/- Texts for VHandlesMovedP. -/
import Derived.Test.YtmglpojnoadgeaaVh20
namespace Go.Proofs.Ytmglpojnoadgeaa
open Go Go.RowKit
set_option linter.unusedVariables false
set_option linter.unusedSimpArgs false
structure Shelf.Soft (s : Shelf) : Prop where
  t1 : 1 ≤ s.tables.length
  t7 : s.tables.length ≤ 7
  e12 : ∀ i, (s.tables.getD i default).entries.length ≤ 12
  n25 : s.things.length ≤ 25
  th : ∀ i k, i < s.tables.length → k < (s.tables.getD i default).entries.length → (s.thing ((s.tables.getD i default).entries.getD k default).id).isSome = true
  nm : ∀ i k, i < s.tables.length → k < (s.tables.getD i default).entries.length → 1 ≤ ((s.tables.getD i default).entries.getD k default).num ∧ ((s.tables.getD i default).entries.getD k default).num ≤ 1000000
  rs : ∀ k, k < s.things.length → 1 ≤ (s.things.getD k default).res ∧ (s.things.getD k default).res ≤ 8
theorem Shelf.Soft.ok {s : Shelf} (h : s.Soft) : s.ok :=
  ⟨⟨by have := h.t7; omega, fun k hk => ⟨by have := h.e12 k; omega, fun _ _ => trivial⟩⟩, ⟨by have := h.n25; omega, fun _ _ => trivial⟩⟩
theorem ent12 {x : Shelf} (hg : x.good) (i : Nat) : (x.tables.getD i default).entries.length ≤ 12 := by
  by_cases hi : i < x.tables.length
  · exact (hg.2.2.2.1 i hi).2.2
  · rw [List.getD_eq_getElem?_getD, List.getElem?_eq_none (by omega)]
    exact Nat.zero_le _
theorem num_pos {t : Table} (h : t.good) : ∀ k, k < t.entries.length → 1 ≤ (t.entries.getD k default).num
  | 0, hk => by have := (h.1 0 hk).1; unfold prevNum at this; rw [if_pos rfl] at this; omega
  | k + 1, hk => by
    have h1 := (h.1 (k + 1) hk).1
    have h2 := num_pos h k (by omega)
    unfold prevNum at h1
    rw [if_neg (Nat.succ_ne_zero k), Nat.add_sub_cancel] at h1
    omega
theorem soft_good {s : Shelf} (hg : s.good) : s.Soft := ⟨hg.2.1.1, hg.2.1.2, ent12 hg, by have := hg.2.2.1.2; omega, fun i k hi hk => (hg.2.2.2.2.1 i k hi hk).1,
  fun i k hi hk => ⟨num_pos (hg.2.2.2.1 i hi) k hk, by have h1 := ((hg.2.2.2.1 i hi).1 k hk).2.1; have h2 := (hg.2.2.2.1 i hi).2.1.2; omega⟩, fun k hk => (hg.2.2.1.1 k hk).2.2.1⟩
theorem soft_thing {s : Shelf} (h : s.Soft) {who num : Int} {x : Entry} (hx : s.at_ who num = some x) : ∃ q, s.thing x.id = some q ∧ q < s.things.length := by
  obtain ⟨i, k, hi, hk, rfl⟩ := mem_all' (at_mem hx)
  obtain ⟨q, hq⟩ := Option.isSome_iff_exists.1 (h.th i k hi hk)
  refine ⟨q, hq, ?_⟩
  unfold Shelf.thing at hq
  rw [List.findIdx?_eq_some_iff_getElem] at hq
  exact hq.1
theorem soft_like {s s' : Shelf} (h : s.Soft) (ht : s'.tables.length = s.tables.length) (he : ∀ i, (s'.tables.getD i default).entries.length = (s.tables.getD i default).entries.length)
    (hi : ∀ i k, i < s.tables.length → k < (s.tables.getD i default).entries.length → ((s'.tables.getD i default).entries.getD k default).id = ((s.tables.getD i default).entries.getD k default).id ∧ ((s'.tables.getD i default).entries.getD k default).num = ((s.tables.getD i default).entries.getD k default).num)
    (hn : s'.things.length ≤ 25) (hr : ∀ k, k < s'.things.length → 1 ≤ (s'.things.getD k default).res ∧ (s'.things.getD k default).res ≤ 8) (hq : ∀ id, (s.thing id).isSome = true → (s'.thing id).isSome = true) : s'.Soft :=
  ⟨by rw [ht]; exact h.t1, by rw [ht]; exact h.t7, fun i => by rw [he]; exact h.e12 i, hn, fun i k h1 h2 => by
    rw [ht] at h1
    rw [he] at h2
    rw [(hi i k h1 h2).1]
    exact hq _ (h.th i k h1 h2), fun i k h1 h2 => by
    rw [ht] at h1
    rw [he] at h2
    rw [(hi i k h1 h2).2]
    exact h.nm i k h1 h2, hr⟩
def Shelf.setX (s : Shelf) (v : Int) : Shelf := ⟨v, s.tables, s.things⟩
theorem soft_next {s : Shelf} (h : s.Soft) (v : Int) : (s.setX v).Soft := soft_like h rfl (fun _ => rfl) (fun _ _ _ _ => ⟨rfl, rfl⟩) h.n25 h.rs fun _ h => h
def Shelf.addT (s : Shelf) (t : Thing) : Shelf := ⟨s.next, s.tables, s.things ++ [t]⟩
theorem soft_addT {s : Shelf} (h : s.Soft) (hn : s.things.length ≤ 24) (t : Thing) (ht : 1 ≤ t.res ∧ t.res ≤ 8) : (s.addT t).Soft := soft_like h rfl (fun _ => rfl) (fun _ _ _ _ => ⟨rfl, rfl⟩) (by
    show (s.things ++ [t]).length ≤ 25
    rw [List.length_append]; exact Nat.succ_le_succ hn) (fun k hk => by
    show 1 ≤ ((s.things ++ [t]).getD k default).res ∧ ((s.things ++ [t]).getD k default).res ≤ 8
    have hk' : k < (s.things ++ [t]).length := hk
    rw [List.length_append, List.length_singleton] at hk'
    by_cases q : k < s.things.length
    · have := h.rs k q
      rw [List.getD_eq_getElem?_getD, List.getElem?_append_left q, ← List.getD_eq_getElem?_getD]; exact this
    · obtain rfl : k = s.things.length := by omega
      rw [List.getD_eq_getElem?_getD, List.getElem?_append_right (Nat.le_refl _), Nat.sub_self]; exact ht) fun id hs => by
  show ((s.things ++ [t]).findIdx? (idP id)).isSome = true
  rw [List.findIdx?_append]
  have : (s.things.findIdx? (idP id)).isSome = true := hs
  obtain ⟨q, hq⟩ := Option.isSome_iff_exists.1 this
  rw [hq]; rfl
structure ShelfAct where
  kind : Int
  who : Int
  num : Int
  res : Int
  to : Int
  scope : Int
  deriving DecidableEq, Inhabited
def ShelfAct.cs (a : ShelfAct) : List AV := [.i .i64 a.kind, .i .i64 a.who, .i .i64 a.num, .i .i64 a.res, .i .i64 a.to, .i .i64 a.scope]
theorem ShelfAct.low (a : ShelfAct) : a.cs.all (low1 0) = true := rfl
theorem ShelfAct.eta {a b : ShelfAct} (h0 : a.kind = b.kind) (h1 : a.who = b.who) (h2 : a.num = b.num) (h3 : a.res = b.res) (h4 : a.to = b.to) (h5 : a.scope = b.scope) : a = b := by cases a; cases b; simp_all
theorem ShelfAct.etaC {a b : ShelfAct} (h : a.kind = b.kind ∧ a.who = b.who ∧ a.num = b.num ∧ a.res = b.res ∧ a.to = b.to ∧ a.scope = b.scope) : a = b := by cases a; cases b; simp_all
def ShelfAct.ok (a : ShelfAct) : Prop := True
set_option maxRecDepth 8000
theorem sizeTable_ok (l : List Table) (hl : l.length ≤ 1048576) : Ret env.P 35 [slL 2 Table.cs l] (fun r => r = .i .i64 l.length) := by
  refine ret_of (nt := 5) (rvs := [.tmp 2]) Try.func35 rfl rfl rfl rfl (fun X => ?_)
  repeat' (first | exact aa | ((conv => whnf) <;> (first | refine And.intro ?_ ?_ | (intro _h; first | contradiction | (try simp only [dd] at _h)) | (refine dt_go ?_) | exact rfl | exact True.intro | exact dkk | exact dks | (refine wrap_succ ?_; omega))))
  all_goals exact rfl
theorem isTable_ok (s : Shelf) (h : s.ok) (who : Int) : Ret env.P 63 [rfL s.cs, .i .i64 who] (fun r => r = .b (decide (0 ≤ who ∧ who < (s.tables.length : Int)))) := by
  have hl : s.tables.length ≤ 1048576 := h.1.1
  refine ret_of (nt := 14) (rvs := [.tmp 4]) Try.func63 rfl rfl rfl rfl (fun X => ?_)
  repeat' (first | exact aa | ((conv => whnf) <;> (first | refine And.intro ?_ ?_ | (intro _h; first | contradiction | (try simp only [dd] at _h)) | (refine dt_go ?_) | exact rfl | exact True.intro | exact dkk | exact dks | ((first | refine .inl ⟨_, sizeTable_ok _ hl, ?_⟩ | refine ⟨_, sizeTable_ok _ hl, ?_⟩); (try rintro _ rfl)) | ((first | refine .inl ⟨_, within_ok _ _ _, ?_⟩ | refine ⟨_, within_ok _ _ _, ?_⟩); (try rintro _ rfl)) | (refine wrap_succ ?_; omega))))
  all_goals (refine leaf_b ?_; rw [wrap_in (by omega) (by omega)]; rw [decide_eq_decide]; omega)
theorem thing1_ok (x : Thing) (id : Int) : Ret env.P 92 [.agg x.cs, rfL [.i .i64 id]] (fun r => r = .b (idP id x)) := by
  refine ret_of (nt := 8) (rvs := [.tmp 3]) Try.func92 rfl rfl rfl rfl (fun X => ?_)
  repeat' (first | exact aa | ((conv => whnf) <;> (first | refine And.intro ?_ ?_ | (intro _h; first | contradiction | (try simp only [dd] at _h)) | (refine dt_go ?_) | exact rfl | exact True.intro | exact dkk | exact dks | (refine wrap_succ ?_; omega))))
  all_goals exact rfl
theorem thing_ok (s : Shelf) (h : s.ok) (id : Int) : Ret env.P 73 [rfL s.cs, .i .i64 id] (fun r => r = .i .i64 (idxI (s.thing id))) := by
  have hl : s.things.length ≤ 1048576 := h.2.1
  refine ret_of (nt := 12) (rvs := [.tmp 4]) Try.func73 rfl rfl rfl rfl (fun X => ?_)
  repeat' (first | exact aa | ((conv => whnf) <;> (first | refine And.intro ?_ ?_ | (intro _h; first | contradiction | (try simp only [dd] at _h)) | (refine dt_go ?_) | exact rfl | exact True.intro | exact dkk | exact dks | ((first | refine .inl ⟨_, Ret.wke (indexFuncThing1_ok s.things _ rfl [.i .i64 id] (idP id) hl (fun k hk => thing1_ok _ _)), ?_⟩ | refine ⟨_, Ret.wke (indexFuncThing1_ok s.things _ rfl [.i .i64 id] (idP id) hl (fun k hk => thing1_ok _ _)), ?_⟩); (try rintro _ rfl)) | (refine wrap_succ ?_; omega))))
  all_goals exact rfl
theorem entry_ok (s : Shelf) (h : s.ok) (who num : Int) : Ret env.P 89 [rfL s.cs, .i .i64 who, .i .i64 num] (fun r => r = entP (s.at_ who num)) := by
  have hl : s.tables.length ≤ 1048576 := h.1.1
  refine ret_of (nt := 45) (rvs := [.tmp 6]) Try.func89 rfl rfl rfl rfl (fun X => ?_)
  repeat' (first | exact aa | ((conv => whnf) <;> (first | (have he : (s.tables.getD who.toNat default).entries.length ≤ 1048576 := (h.1.2 who.toNat (by omega)).1; refine loopN (s.tables.getD who.toNat default).entries.length (fun k => [(23, .i .i64 k)]) (fun k => []) (fun k => ∀ j, j < k → ¬ ((s.tables.getD who.toNat default).entries.getD j default).num = num) ⟨fun _ h => by omega, ?_⟩) | exact upto_succ (by assumption) (by assumption) | refine And.intro ?_ ?_ | (intro _h; first | contradiction | (try simp only [dd] at _h)) | (refine dt_go ?_) | exact rfl | exact True.intro | exact dkk | exact dks | ((first | refine .inl ⟨_, isTable_ok s h _, ?_⟩ | refine ⟨_, isTable_ok s h _, ?_⟩); (try rintro _ rfl)) | (refine wrap_succ ?_; omega))))
  · rw [at_out (by assumption)]; rfl
  · rename_i k _ hI _
    rw [at_some (k := k) (by assumption) (by omega) _h hI]; rfl
  · rw [at_none (by assumption) (fun j hj => by have := ‹∀ j, j < _ → ¬ (Entry.num _) = num›; exact this j (by omega))]; rfl
theorem origin_ok (s : Shelf) (h : s.ok) (e : Entry) : Ret env.P 86 [rfL s.cs, .agg e.cs] (fun r => r = entP (s.orig e)) := by
  refine ret_of (nt := 11) (rvs := [.tmp 4]) Try.func86 rfl rfl rfl rfl (fun X => ?_)
  repeat' (first | exact aa | ((conv => whnf) <;> (first | (refine .inl ⟨_, entry_ok s h _ _, ?_⟩; rintro _ rfl; cases hE : s.at_ e.from_ e.fromNum) | refine And.intro ?_ ?_ | (intro _h; first | contradiction | (try simp only [dd] at _h)) | (refine dt_go ?_) | exact rfl | exact True.intro | exact dkk | exact dks | (refine wrap_succ ?_; omega))))
  all_goals (simp only [Shelf.orig, hE]; rfl)
theorem lentOk_ok (s : Shelf) (h : s.ok) (e : Entry) : Ret env.P 78 [rfL s.cs, .agg e.cs] (fun r => r = .b (pb (s.lent e))) := by
  refine ret_of (nt := 36) (rvs := [.tmp 4]) Try.func78 rfl rfl rfl rfl (fun X => ?_)
  repeat' (first | exact aa | ((conv => whnf) <;> (first | refine loopN 85 (fun k => [(5, .i .i64 k)]) (fun k => [some (.box (s.chain e k).cs)]) (fun k => s.ends 85 e = s.ends (85 - k) (s.chain e k)) ⟨rfl, ?_⟩ | (rename_i k _ _; refine .inl ⟨_, origin_ok s h (s.chain e k), ?_⟩; rintro _ rfl; cases hE : s.orig (s.chain e k)) | (simp only [Shelf.chain, hE, Option.getD_some]) | refine And.intro ?_ ?_ | (intro _h; first | contradiction | (try simp only [dd] at _h)) | (refine dt_go ?_) | exact rfl | exact True.intro | exact dkk | exact dks | ((first | refine .inl ⟨_, within_ok _ _ _, ?_⟩ | refine ⟨_, within_ok _ _ _, ?_⟩); (try rintro _ rfl)) | (refine wrap_succ ?_; omega))))
  all_goals (first | refine leaf_f ?_ | refine leaf_t ?_ | (conv => whnf))
  · exact fun q => by have := q.1; omega
  · rename_i hI _
    exact fun q => by rw [Shelf.lent, ‹s.ends 85 e = s.ends (85 - k) (s.chain e k)›, Shelf.ends_none hE] at q; cases q.2
  · rename_i hI _ _ _
    exact fun q => by rw [Shelf.lent, ‹s.ends 85 e = s.ends (85 - k) (s.chain e k)›, Shelf.ends_id hE (by assumption)] at q; cases q.2
  · rename_i hI _ _ _ _
    exact ⟨by omega, by rw [‹s.ends 85 e = s.ends (85 - k) (s.chain e k)›, show 85 - k = (84 - k) + 1 by omega]; exact Shelf.ends_own hE (by omega) (by assumption)⟩
  · rename_i hI _ _ _ _
    rw [‹s.ends 85 e = s.ends (85 - k) (s.chain e k)›, show 85 - k = (85 - (k + 1)) + 1 by omega]
    exact Shelf.ends_on hE (by omega) (by assumption)
  · rename_i k _ hI
    exact fun q => by rw [Shelf.lent, hI, show 85 - k = 0 by omega] at q; cases q.2
theorem tableOk_ok (t : Table) (h : t.ok) : Ret env.P 49 [.agg t.cs] (fun r => r = .b (pb t.good)) := by
  have hl : t.entries.length ≤ 1048576 := h.1
  refine ret_of (nt := 41) (rvs := [.tmp 2]) Try.func49 rfl rfl rfl rfl (fun X => ?_)
  repeat' (first | exact aa | ((conv => whnf) <;> (first | refine loopN t.entries.length (fun k => [(9, .i .i64 k), (3, .i .i64 (prevNum t.entries k))]) (fun k => []) (fun k => t.Up k) ⟨t.up_zero, ?_⟩ | exact Table.up_succ (by assumption) (by simp only [Int.toNat_natCast] at *; omega) (by simp only [Int.toNat_natCast] at *; omega) (by simp only [Int.toNat_natCast] at *; omega) | refine And.intro ?_ ?_ | (intro _h; first | contradiction | (try simp only [dd] at _h)) | (refine dt_go ?_) | exact rfl | exact True.intro | exact dkk | exact dks | ((first | refine .inl ⟨_, within_ok _ _ _, ?_⟩ | refine ⟨_, within_ok _ _ _, ?_⟩); (try rintro _ rfl)) | (refine wrap_succ ?_; omega))))
  all_goals (first | refine leaf_f ?_ | refine leaf_t ?_ | refine leaf_p ?_ | (conv => whnf))
  all_goals (try simp only [Int.toNat_natCast] at *)
  · rename_i k _ _ _ _ _
    exact fun q => by have := (q.1 k (by omega)).2.2; omega
  · rename_i k _ _ _ _
    exact fun q => by have := (q.1 k (by omega)).2.1; omega
  · rename_i k _ _ _
    exact fun q => by have := (q.1 k (by omega)).1; omega
  · rename_i k _ hI _
    rw [decide_eq_true_eq]
    exact ⟨fun q => ⟨by rw [show t.entries.length = k by omega]; exact hI.h, by assumption, by omega⟩, fun q => by have := q.2.2; omega⟩
  · exact fun q => by have := q.2.1; omega
theorem thingsOk_ok (s : Shelf) (h : s.ok) : Ret env.P 46 [.agg s.cs] (fun r => r = .b (pb s.goodT)) := by
  have hl : s.things.length ≤ 1048576 := h.2.1
  refine ret_of (nt := 43) (rvs := [.tmp 2]) Try.func46 rfl rfl rfl rfl (fun X => ?_)
  repeat' (first | exact aa | ((conv => whnf) <;> (first | refine loopN s.things.length (fun k => [(9, .i .i64 k), (3, .i .i64 (prevId s.things k))]) (fun k => []) (fun k => s.UpT k) ⟨s.upT_zero, ?_⟩ | exact Shelf.upT_succ (by assumption) (by simp only [Int.toNat_natCast] at *; omega) (by simp only [Int.toNat_natCast] at *; omega) (by simp only [Int.toNat_natCast] at *; omega) (by simp only [Int.toNat_natCast] at *; omega) | refine And.intro ?_ ?_ | (intro _h; first | contradiction | (try simp only [dd] at _h)) | (refine dt_go ?_) | exact rfl | exact True.intro | exact dkk | exact dks | ((first | refine .inl ⟨_, within_ok _ _ _, ?_⟩ | refine ⟨_, within_ok _ _ _, ?_⟩); (try rintro _ rfl)) | (refine wrap_succ ?_; omega))))
  all_goals (first | refine leaf_f ?_ | refine leaf_t ?_ | refine leaf_p ?_ | (conv => whnf))
  all_goals (try simp only [Int.toNat_natCast] at *)
  · rename_i k _ _ _ _ _ _
    exact fun q => by have := (q.1 k (by omega)).2.2.2; omega
  · rename_i k _ _ _ _ _
    exact fun q => by have := (q.1 k (by omega)).2.2.1; omega
  · rename_i k _ _ _ _
    exact fun q => by have := (q.1 k (by omega)).2.1; omega
  · rename_i k _ _ _
    exact fun q => by have := (q.1 k (by omega)).1; omega
  · rename_i k _ hI
    rw [decide_eq_true_eq]
    exact ⟨fun q => ⟨by rw [show s.things.length = k by omega]; exact hI.h, by omega⟩, fun q => by have := q.2; omega⟩
theorem shelfOk1_ok (t : Table) (h : t.ok) : Ret env.P 48 [.agg t.cs] (fun r => r = .b (!pb t.good)) := by
  refine ret_of (nt := 6) (rvs := [.tmp 2]) Try.func48 rfl rfl rfl rfl (fun X => ?_)
  repeat' (first | exact aa | ((conv => whnf) <;> (first | refine And.intro ?_ ?_ | (intro _h; first | contradiction | (try simp only [dd] at _h)) | (refine dt_go ?_) | exact rfl | exact True.intro | exact dkk | exact dks | ((first | refine .inl ⟨_, tableOk_ok t h, ?_⟩ | refine ⟨_, tableOk_ok t h, ?_⟩); (try rintro _ rfl)) | (refine wrap_succ ?_; omega))))
  all_goals exact rfl
theorem cnt_end {s : Shelf} {i : Nat} (h : i ≤ s.tables.length) (hn : ¬ i < s.tables.length) : [some (mpRow true (leF (s.upTo i 0)) []), some (mpRow false (owF (s.upTo i 0)) [])] = [some (mpRow true (leF s.all) []), some (mpRow false (owF s.all) [])] := by
  rw [show i = s.tables.length by omega, upTo_end]
set_option maxRecDepth 8000 in
theorem counts_ok (s : Shelf) (h : s.ok) : RetM env.P 77 [] [rfL s.cs] (fun r H => r = .tup [.mp 0, .mp 1] ∧ H = [some (mpRow true (leF s.all) []), some (mpRow false (owF s.all) [])]) := by
  have hl : s.tables.length ≤ 1048576 := h.1.1
  refine ret_ofM (nt := 50) (rvs := [.tmp 2, .tmp 3]) Try.func77 rfl rfl rfl rfl (fun X hX => ?_)
  repeat' (first | exact aa | ((conv => whnf) <;> (first | (refine endM_self ⟨rfl, ?_⟩; simp only [mkH, RowI.row]; exact cnt_end (by omega) (by omega)) | refine loopAt 18 s.tables.length (fun i => [(18, .i .i64 i)]) (fun i => [some (.mp true (leF (s.upTo i 0))), some (.mp false (owF (s.upTo i 0)))]) (fun _ => True) rfl ⟨trivial, ?_⟩ | (rename_i i _ _; have he : (s.tables.getD (i : Int).toNat default).entries.length ≤ 1048576 := (h.1.2 i (by omega)).1; refine loopAt 25 (s.tables.getD (i : Int).toNat default).entries.length (fun k => [(25, .i .i64 k)]) (fun k => [some (.mp true (leF (s.upTo i k))), some (.mp false (owF (s.upTo i k)))]) (fun _ => True) rfl ⟨trivial, ?_⟩) | refine And.intro ?_ ?_ | (intro _h; first | contradiction | (try simp only [dd] at _h)) | (refine dt_go ?_) | exact rfl | exact True.intro | exact dkk | exact dks | (refine wrap_succ ?_; omega))))
  all_goals (first | (conv => whnf) | skip)
  all_goals (simp only [Int.toNat_natCast] at *)
  all_goals first | exact le_own (by omega) (by assumption) | exact le_lent (by omega) (by assumption) | exact ow_own (by omega) (by assumption) | exact ow_lent (by omega) (by assumption) | exact congrArg _ (upTo_ends (by omega) (by omega) (by omega)) | trace_state
end Go.Proofs.Ytmglpojnoadgeaa
