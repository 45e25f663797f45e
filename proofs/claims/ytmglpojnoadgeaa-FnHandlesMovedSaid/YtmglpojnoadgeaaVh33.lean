/- Texts for VHandlesMovedP. -/
import Derived.Test.YtmglpojnoadgeaaVh32
namespace Go.Proofs.Ytmglpojnoadgeaa
open Go Go.RowKit
set_option linter.unusedVariables false
set_option linter.unusedSimpArgs false
set_option maxRecDepth 8000
theorem all_count {s : Shelf} {p : Entry → Bool} : s.all.countP p = ((List.range s.tables.length).map fun i => (s.en i).countP p).sum := by
  unfold Shelf.all
  rw [List.countP_flatMap]
  congr 1
  refine List.ext_getElem? fun i => ?_
  rw [List.getElem?_map, List.getElem?_map]
  by_cases h : i < s.tables.length
  · rw [List.getElem?_eq_getElem h, List.getElem?_range h]
    simp only [Option.map_some, Function.comp, Shelf.en, List.getD_eq_getElem?_getD, List.getElem?_eq_getElem h, Option.getD_some]
  · rw [List.getElem?_eq_none (by omega), List.getElem?_eq_none (by rw [List.length_range]; omega)]
    rfl
structure Shelf.Same (s s' : Shelf) (f : Nat → Entry → Entry) : Prop where
  nx : s'.next = s.next
  th : s'.things = s.things
  len : s'.tables.length = s.tables.length
  tn : ∀ i, i < s.tables.length → (s'.tables.getD i default).next = (s.tables.getD i default).next
  en : ∀ i, i < s.tables.length → s'.en i = (s.en i).map (f i)
  eq : ∀ i e, (f i e).num = e.num ∧ (f i e).id = e.id ∧ (f i e).own = e.own ∧ (f i e).scope = e.scope ∧ (f i e).from_ = e.from_ ∧ (f i e).fromNum = e.fromNum
theorem Shelf.Same.count {s s' : Shelf} {f : Nat → Entry → Entry} (h : s.Same s' f) {p : Entry → Bool} (hp : ∀ i e, p (f i e) = p e) : s'.all.countP p = s.all.countP p := by
  rw [all_count, all_count, h.len]
  congr 1
  refine List.map_congr_left fun i hi => ?_
  rw [h.en i (List.mem_range.1 hi), List.countP_map]
  congr 1
  funext e
  exact hp i e
theorem Shelf.Same.at {s s' : Shelf} {f : Nat → Entry → Entry} (h : s.Same s' f) {w n : Int} : s'.at_ w n = (s.at_ w n).map (f w.toNat) := by
  rw [at_eq, at_eq]
  have hT : s'.isT w = s.isT w := by unfold Shelf.isT; rw [h.len]
  rw [hT]
  split
  · rename_i ht
    have ht' : 0 ≤ w ∧ w < (s.tables.length : Int) := by simpa [Shelf.isT] using ht
    have := h.en w.toNat (by omega)
    unfold Shelf.en at this
    rw [this, List.find?_map]
    congr 2
    funext e
    simp only [Function.comp, numP, (h.eq w.toNat e).1]
  · rfl
theorem Shelf.Same.sEnds {s s' : Shelf} {f : Nat → Entry → Entry} (h : s.Same s' f) : ∀ (n : Nat) (i : Nat) (e : Entry), s'.sEnds n (f i e) = s.sEnds n e
  | 0, _, _ => rfl
  | n + 1, i, e => by
    have q := h.eq i e
    cases ho : e.own with
    | true => rw [Shelf.sEnds_own ho, Shelf.sEnds_own (by rw [q.2.2.1, ho])]
    | false =>
      have ho' : (f i e).own = false := by rw [q.2.2.1, ho]
      have hO : s'.orig (f i e) = (s.orig e).map (f e.from_.toNat) := by
        unfold Shelf.orig
        rw [h.at, q.2.2.2.2.1, q.2.2.2.2.2]
      cases hx : s.orig e with
      | none => rw [Shelf.sEnds_none ho hx, Shelf.sEnds_none ho' (by rw [hO, hx]; rfl)]
      | some x =>
        have hx' : s'.orig (f i e) = some (f e.from_.toNat x) := by rw [hO, hx]; rfl
        have hi' : (f e.from_.toNat x).id = x.id := (h.eq _ x).2.1
        by_cases hi : x.id = e.id
        · rw [Shelf.sEnds_on ho hx hi, Shelf.sEnds_on ho' hx' (by rw [hi', q.2.1, hi]), h.sEnds n]
        · rw [Shelf.sEnds_id ho hx hi, Shelf.sEnds_id ho' hx' (by rw [hi', q.2.1]; exact hi)]
theorem Shelf.Same.H {s s' : Shelf} {f : Nat → Entry → Entry} (h : s.Same s' f) (g : s.H) : s'.H := by
  have mem : ∀ {P : Entry → Prop} {i : Nat}, i < s'.tables.length → (∀ e ∈ s.en i, P (f i e)) → ∀ e ∈ s'.en i, P e := by
    intro P i hi hP e he
    rw [h.en i (h.len ▸ hi), List.mem_map] at he
    obtain ⟨x, hx, rfl⟩ := he
    exact hP x hx
  refine ⟨h.nx ▸ g.nx, h.len ▸ g.tb, h.th ▸ g.ids, fun x hx => ?_, h.th ▸ g.tl, fun i hi => ?_, fun i hi => mem hi fun e he => ?_, fun i hi => ?_, fun i hi => mem hi fun e he => ?_, fun i hi => mem hi fun e he => ?_, fun i hi => mem hi fun e he => ?_, fun x hx => ?_⟩
  · rw [h.nx]; exact g.fine x (h.th ▸ hx)
  · have hi' := h.len ▸ hi
    rw [h.en i hi', List.pairwise_map]
    exact (g.nums i hi').imp fun hab => by rw [(h.eq i _).1, (h.eq i _).1]; exact hab
  · have hi' := h.len ▸ hi
    rw [h.tn i hi', (h.eq i e).1]; exact g.num i hi' e he
  · have hi' := h.len ▸ hi
    rw [h.tn i hi', h.en i hi', List.length_map]; exact g.tn i hi'
  · rw [h.th, (h.eq i e).2.1]; exact g.thing i (h.len ▸ hi) e he
  · have := g.plain i (h.len ▸ hi) e he
    unfold Entry.plain at *
    obtain ⟨_, _, q3, q4, q5, q6⟩ := h.eq i e
    rw [q3, q4, q5, q6]; exact this
  · obtain ⟨n, hn⟩ := g.ends i (h.len ▸ hi) e he
    exact ⟨n, by rw [h.sEnds n i e]; exact hn⟩
  · rw [h.count fun i e => by unfold owsP; rw [(h.eq i e).2.1, (h.eq i e).2.2.1]]
    exact g.own x (h.th ▸ hx)
theorem H_small {s : Shelf} (h : s.H) : s.all.length < 85 := by
  have := all_length s.tables fun t ht => by
    obtain ⟨k, hk⟩ := List.getElem?_of_mem ht
    have := (h.tn k (List.getElem?_eq_some_iff.1 hk).1).2
    unfold Shelf.en at this
    rw [List.getD_eq_getElem?_getD, hk] at this
    exact this
  have := h.tb.2
  unfold Shelf.all
  omega
theorem relend_same (s : Shelf) : s.Same s.relend (fun i e => lendE (leF s.all) i e) := by
  refine ⟨rfl, rfl, lendU_len, fun i hi => lendU_next0, fun i hi => ?_, fun i e => ⟨rfl, rfl, rfl, rfl, rfl, rfl⟩⟩
  unfold Shelf.en Shelf.relend
  rw [lendU_tab]
  dsimp only
  refine List.ext_getElem? fun k => ?_
  rw [List.getElem?_mapIdx, List.getElem?_map]
  cases (s.tables.getD i default).entries[k]? with
  | none => rfl
  | some e => simp only [Option.map_some, hi, true_or, if_true]
theorem relend_good {s : Shelf} (h : s.H) : s.relend.good := by
  have hS := relend_same s
  refine H_good (hS.H h) fun i hi e he => ?_
  have hi' : i < s.tables.length := hS.len ▸ hi
  rw [hS.en i hi', List.mem_map] at he
  obtain ⟨x, hx, rfl⟩ := he
  rw [hS.count fun i e => rfl]
  show leF s.all [(i : Int), x.num] = _
  exact leF_count (by have := H_small h; omega)
theorem filter_count {α : Type} {p q : α → Bool} {l : List α} (h : ∀ x ∈ l, p x = true → q x = true) : (l.filter q).countP p = l.countP p := by
  rw [List.countP_filter]
  refine List.countP_congr fun x hx => ?_
  constructor
  · intro hp; rw [Bool.and_eq_true] at hp; exact hp.1
  · intro hp; rw [Bool.and_eq_true]; exact ⟨hp, h x hx hp⟩
theorem keep_H {s : Shelf} (h : s.H) {K : Nat → Entry → Bool} {T : List Thing} (hT : T.Sublist s.things)
    (ho : ∀ i, i < s.tables.length → ∀ e ∈ s.en i, K i e = true → e.own = false → ∃ x, s.at_ e.from_ e.fromNum = some x ∧ K e.from_.toNat x = true)
    (ht : ∀ i, i < s.tables.length → ∀ e ∈ s.en i, K i e = true → ∃ x ∈ T, x.id = e.id)
    (hk : ∀ x ∈ T, ∀ i, i < s.tables.length → ∀ e ∈ s.en i, e.own = true → e.id = x.id → K i e = true) : ((⟨s.next, s.tables, T⟩ : Shelf).keep K).H := by
  have hlen : ((⟨s.next, s.tables, T⟩ : Shelf).keep K).tables.length = s.tables.length := keep_len
  have hen : ∀ i, ((⟨s.next, s.tables, T⟩ : Shelf).keep K).en i = (s.en i).filter (K i) := fun i => by unfold Shelf.en; rw [keep_tab]
  have htn : ∀ i, (((⟨s.next, s.tables, T⟩ : Shelf).keep K).tables.getD i default).next = (s.tables.getD i default).next := fun i => by rw [keep_tab]
  have hmem : ∀ {i e}, e ∈ ((⟨s.next, s.tables, T⟩ : Shelf).keep K).en i → e ∈ s.en i ∧ K i e = true := fun {i e} he => by rw [hen] at he; exact List.mem_filter.1 he
  have hu : ∀ i, uniq ((⟨s.next, s.tables, T⟩ : Shelf).tables.getD i default).entries := fun i => by
    show uniq (s.tables.getD i default).entries
    by_cases hi : i < s.tables.length
    · intro a b ha hb e
      have := h.nums i hi
      rw [List.pairwise_iff_getElem] at this
      have hlt : ∀ {a b}, a < b → b < (s.en i).length → ((s.en i).getD a default).num < ((s.en i).getD b default).num := fun {a b} hab hb => by
        have := this a b (by omega) hb hab
        rw [List.getD_eq_getElem?_getD, List.getElem?_eq_getElem (by omega), List.getD_eq_getElem?_getD, List.getElem?_eq_getElem hb]
        exact this
      rcases Nat.lt_trichotomy a b with q | q | q
      · have := hlt q hb; unfold Shelf.en at this; omega
      · exact q
      · have := hlt q ha; unfold Shelf.en at this; omega
    · rw [List.getD_eq_getElem?_getD, List.getElem?_eq_none (by omega)]
      intro a b ha; cases ha
  have hE : ∀ (n : Nat) (i : Nat) (e : Entry), i < s.tables.length → e ∈ s.en i → K i e = true → s.sEnds n e = true → ((⟨s.next, s.tables, T⟩ : Shelf).keep K).sEnds n e = true := by
    intro n
    induction n with
    | zero => intro i e _ _ _ q; cases q
    | succ n ih =>
      intro i e hi he hKe q
      cases hoe : e.own with
      | true => exact Shelf.sEnds_own hoe
      | false =>
        obtain ⟨x, hx, hKx⟩ := ho i hi e he hKe hoe
        have hx' : ((⟨s.next, s.tables, T⟩ : Shelf).keep K).orig e = some x := by
          unfold Shelf.orig
          rw [keep_at hu, show (⟨s.next, s.tables, T⟩ : Shelf).at_ e.from_ e.fromNum = s.at_ e.from_ e.fromNum from rfl, hx]
          simp only [Option.filter, hKx, if_true]
        obtain ⟨h1, h2, k, h3, h4⟩ := at_in hx
        by_cases hid : x.id = e.id
        · rw [Shelf.sEnds_on hoe hx hid] at q
          rw [Shelf.sEnds_on hoe hx' hid]
          exact ih _ x h1 (h4 ▸ getD_mem h3) hKx q
        · rw [Shelf.sEnds_id hoe hx hid] at q; cases q
  refine ⟨h.nx, hlen ▸ h.tb, h.ids.sublist hT, fun x hx => h.fine x (hT.subset hx), Nat.le_trans hT.length_le h.tl, fun i hi => ?_, fun i hi e he => ?_, fun i hi => ?_, fun i hi e he => ht i (hlen ▸ hi) e (hmem he).1 (hmem he).2, fun i hi e he => h.plain i (hlen ▸ hi) e (hmem he).1, fun i hi e he => ?_, fun x hx => ?_⟩
  · rw [hen]; exact (h.nums i (hlen ▸ hi)).sublist List.filter_sublist
  · rw [htn]; exact h.num i (hlen ▸ hi) e (hmem he).1
  · rw [htn, hen]
    have := h.tn i (hlen ▸ hi)
    exact ⟨this.1, Nat.le_trans (List.length_filter_le _ _) this.2⟩
  · obtain ⟨n, hn⟩ := h.ends i (hlen ▸ hi) e (hmem he).1
    exact ⟨n, hE n i e (hlen ▸ hi) (hmem he).1 (hmem he).2 hn⟩
  · rw [← h.own x (hT.subset hx), all_count, all_count, hlen]
    congr 1
    refine List.map_congr_left fun i hi => ?_
    rw [hen]
    refine filter_count fun e he hp => ?_
    unfold owsP at hp
    rw [Bool.and_eq_true, decide_eq_true_eq] at hp
    exact hk x hx i (List.mem_range.1 hi) e he hp.1 hp.2
def cutE (num : Int) (l : List Entry) : Nat → Nat → AV := fun i j => if i < (cutL num l).length then elE Entry.cs (cutL num l) i j else [AV.i .i64 0, AV.i .i64 0, AV.kb false, AV.i .i64 0, AV.i .i64 0, AV.i .i64 0, AV.i .i64 0].getD j .any
theorem cutE_pl {num : Int} {l : List Entry} {i j : Nat} : pl1 (cutE num l i j) = true := by
  unfold cutE
  split
  · exact pl1_getD rfl j
  · exact pl1_getD rfl j
theorem keepH {num : Int} {l : List Entry} {j : Nat} (hj : j < l.length) (h : numP num ((cutM num l j).getD ((j : Nat) : Int).toNat default) = false) : ¬ (l.getD j default).num = num := by
  rw [Int.toNat_natCast, cutM_at (cutT_le (num := num) (l := l) (i := j)).1] at h
  simpa only [numP, decide_eq_false_iff_not] using h
theorem hitH {num : Int} {l : List Entry} {j : Nat} (hj : j < l.length) (h : ¬ numP num ((cutM num l j).getD ((j : Nat) : Int).toNat default) = false) : (l.getD j default).num = num := by
  rw [Int.toNat_natCast, cutM_at (cutT_le (num := num) (l := l) (i := j)).1] at h
  simpa only [numP, decide_eq_false_iff_not, Classical.not_not] using h
theorem cutE_idf {num : Int} {l : List Entry} {i j : Nat} : (cutE num l i j).idfO := by
  unfold cutE
  split
  · exact HoldC.h _ j
  · exact (holdC_plain (c := fun _ : Unit => [AV.i .i64 0, AV.i .i64 0, AV.kb false, AV.i .i64 0, AV.i .i64 0, AV.i .i64 0, AV.i .i64 0]) fun _ => rfl).h () j
theorem cutE_in {num : Int} {l : List Entry} {i j : Nat} (h : i < (cutL num l).length) : cutE num l i j = elE Entry.cs (cutL num l) i j := if_pos h
theorem getD_app {α : Type} [Inhabited α] {l m : List α} {i : Nat} (h : i < l.length) : (l ++ m).getD i default = l.getD i default := by
  rw [List.getD_eq_getElem?_getD, List.getD_eq_getElem?_getD, List.getElem?_append_left h]
theorem cutE_row {num : Int} {l : List Entry} {n : Nat} : RowPl ⟨7, n, cutE num l, .arr⟩ := ⟨fun i j _ _ => cutE_pl⟩
set_option maxHeartbeats 2000000 in
theorem deleteFunc_ok (l : List Entry) (num : Int) (hl : l.length ≤ 1048576) (q : Nat) (hq : l.findIdx? (numP num) = some q) (hlt : q < l.length) (h1 : ∀ j, j < q → ¬ (l.getD j default).num = num) (h2 : (l.getD q default).num = num) : RetM env.P 83 [some (rowL 7 Entry.cs l), some (boxRow [.i .i64 num])] [.row 0 l.length, .fn 90 [.ptr 1 0 0]] (fun r H => r = .row 0 (cutL num l).length ∧ H = [some ⟨7, l.length, cutE num l, .arr⟩, some (boxRow [.i .i64 num])]) := by
  have hS := cutM_start hlt h1 h2
  refine ret_ofM (nt := 42) (rvs := [.tmp 4]) Try.func83 rfl rfl rfl rfl (fun X hX => ?_)
  repeat' (first | exact aa | ((conv => whnf) <;> (first | (refine .inl ⟨_, Ret.wka (indexFuncEntry1_ok l 90 rfl [.i .i64 num] (numP num) hl (fun k hk => del1_ok _ _)), ?_⟩; rintro _ rfl; rw [hq]; simp only [idxI]) | refine loopN (l.length - (q + 1)) (fun k => [(6, .i .i64 ((q + 1 + k : Nat) : Int)), (5, .i .i64 ((cutL num (l.take (q + 1 + k))).length : Nat))]) (fun k => [some (.arr ⟨7, l.length, elE Entry.cs (cutM num l (q + 1 + k)), .arr⟩)]) (fun k => True) ⟨trivial, ?_⟩ | refine And.intro ?_ ?_ | (intro _h; first | contradiction | (try simp only [dd] at _h)) | (refine dt_go ?_) | exact rfl | exact True.intro | exact dkk | exact dks | ((first | refine .inl ⟨_, Ret.wka (del1_ok _ _), ?_⟩ | refine ⟨_, Ret.wka (del1_ok _ _), ?_⟩); (try rintro _ rfl)) | (refine wrap_succ ?_; omega))))
  · exact congrArg _ hS.2.symm
  · exact arr_same hS.1 rfl (fun a j => low_cells rfl)
  · rename_i k _ _ _
    have := (cutT_le (num := num) (l := l) (i := q + 1 + k)).1
    omega
  · rename_i k _ _ hj
    have hj' : q + 1 + k < l.length := by omega
    have hn := keepH hj' _h
    have hle := (cutT_le (num := num) (l := l) (i := q + 1 + k)).2
    rw [show q + 1 + (k + 1) = q + 1 + k + 1 from rfl, cutL_miss hj' hn, List.length_append, List.length_singleton, wrap_in (by omega) (by omega)]
    rfl
  · rename_i k _ _ hj
    have hj' : q + 1 + k < l.length := by omega
    have hn := keepH hj' _h
    have hle := (cutT_le (num := num) (l := l) (i := q + 1 + k)).1
    conv => whnf
    refine arr_set (k := (cutL num (l.take (q + 1 + k))).length) (show cutM num l (q + 1 + (k + 1)) = _ from cutM_miss (k := q + 1 + k) hj' hn) (by rw [cutM_len]; omega) rfl (fun a j => low_cells rfl) ?_ ?_
    · intro j hj
      have e0 : (cutM num l (q + 1 + k)).getD (((q + 1 + k : Nat) : Int)).toNat default = l.getD (q + 1 + k) default := by rw [Int.toNat_natCast, cutM_at hle]
      have hj7 : j < 7 := hj
      rw [← e0]
      rcases (show j = 0 ∨ j = 1 ∨ j = 2 ∨ j = 3 ∨ j = 4 ∨ j = 5 ∨ j = 6 by omega) with rfl | rfl | rfl | rfl | rfl | rfl | rfl
      all_goals (simp only [upd, Nat.beq_refl, Int.toNat_natCast]; rfl)
    · intro a j hne
      simp only [upd, beq_ff hne, Bool.and_false, cond_false, Int.toNat_natCast]
  · rename_i k _ _ hj
    have hj' : q + 1 + k < l.length := by omega
    exact congrArg _ (congrArg List.length (cutL_hit hj' (hitH hj' _h)).symm)
  · rename_i k _ _ hj
    have hj' : q + 1 + k < l.length := by omega
    exact arr_same (cutM_hit hj' (hitH hj' _h)) rfl (fun a j => low_cells rfl)
  all_goals first | (exact Int.ofNat_le.2 cutT_le.2) | exact Int.le_refl _ | skip
  all_goals (conv => whnf)
  rename_i k _ _
  have hk : cutL num (l.take (q + 1 + k)) = cutL num l := cutL_all (by omega)
  have hM : cutM num l (q + 1 + k) = cutL num l ++ l.drop (cutL num l).length := by unfold cutM; rw [hk]
  refine endM_turn (turn_same (id := 0) (x := ⟨7, l.length, cutE num l, .arr⟩) rfl rfl rfl rfl rfl (fun i j hi hj => ?_)) ?_
  · have hi' : i < l.length := hi
    dsimp only
    rw [hk, hM]
    have hle := cutL_le (num := num) (l := l)
    unfold cutE
    by_cases h : i < (cutL num l).length
    · rw [if_pos h, segE_out (by omega)]
      unfold elE
      rw [getD_app h]
    · rw [if_neg h, segE_in (by omega) (by omega)]
      rfl
  exact endM_pick [0, 1] [some ⟨7, l.length, cutE num l, .arr⟩, some (boxRow [.i .i64 num])] (.row 0 (cutL num l).length) (view_of rfl (.cons rfl (.self cutE_row) (.cons rfl (.self (rowPl_box rfl)) .nil))) (by rw [hk]; rfl) rfl (by rw [hX]; exact keepK (n := 2) rfl rfl) ⟨rfl, rfl⟩
theorem find_first {t : Table} {num : Int} {q : Nat} (h : t.find num = some q) : q < t.entries.length ∧ (t.entries.getD q default).num = num ∧ ∀ j, j < q → ¬ (t.entries.getD j default).num = num := by
  refine ⟨(find_lt h).1, (find_lt h).2, fun j hj hn => ?_⟩
  unfold Table.find at h
  rw [List.findIdx?_eq_some_iff_getElem] at h
  obtain ⟨hk, _, hb⟩ := h
  have := hb j hj
  rw [List.getD_eq_getElem?_getD, List.getElem?_eq_getElem (by omega)] at hn
  simp only [numP, Bool.not_eq_true, decide_eq_false_iff_not] at this
  exact this hn
set_option maxHeartbeats 2000000 in
theorem remove_ok (s : Shelf) (h : s.ok) (who num : Int) (hw : 0 ≤ who ∧ who < (s.tables.length : Int)) (h7 : s.tables.length ≤ 7) (q : Nat) (hq : (s.tables.getD who.toNat default).find num = some q) : RetM env.P 66 [some (boxRow s.csO)] [.ptr 0 0 0, .i .i64 who, .i .i64 num] (fun r H => r = .tup [] ∧ H = [some (boxRow (s.cut who.toNat num).csO)]) := by
  have hl : s.tables.length ≤ 1048576 := h.1.1
  have hw2 : who.toNat < s.tables.length := by omega
  have he : (s.tables.getD who.toNat default).entries.length ≤ 1048576 := entLe h _
  have hf := find_first hq
  refine ret_ofM (nt := 23) (rvs := []) Try.func66 rfl rfl rfl rfl (fun X hX => ?_)
  repeat' (first | exact aa | ((conv => whnf) <;> (first | (refine .inr (.inl (.inl ⟨[3, 1], _, _, _, deleteFunc_ok (s.tables.getD who.toNat default).entries num he q hq hf.1 hf.2.2 hf.2.1, (view_of rfl (.cons rfl (.self (rowPl_L fun _ => rfl)) (.cons rfl (.self (rowPl_box rfl)) .nil))), ⟨rfl, rfl⟩, ?_⟩)); rintro _ _ ⟨rfl, rfl⟩; refine ⟨rfl, _, lok_pl (.cons cutE_row (.cons (rowPl_box rfl) .nil)), ?_⟩) | refine And.intro ?_ ?_ | (intro _h; first | contradiction | (try simp only [dd] at _h)) | (refine dt_go ?_) | exact rfl | exact True.intro | exact dkk | exact dks | (refine wrap_succ ?_; omega))))
  all_goals (conv => whnf)
  all_goals refine endM_turn (turn_close (id := 2) (i := who.toNat) (j := 1) (id' := 3) rfl hw2 (show 1 < 2 by decide) (by exact upd_self) rfl (show 2 ≠ 3 by decide) rfl ⟨cutL_le, fun i j _ _ => cutE_idf⟩) ?_
  all_goals refine endM_turn (turn_eq (id := 2) (x := rowL 2 Table.csO (s.setE who.toNat (cutL num (s.tables.getD who.toNat default).entries)).tables) rfl rfl setE_len rfl rfl (setE_rows3 (l := (cutL num (s.tables.getD who.toNat default).entries)) hw2 rfl (fun i j hi _ => by dsimp only; rw [cutE_in hi]; exact .refl _))) ?_
  all_goals refine endM_turn (turn_close (id := 0) (i := 0) (j := 1) (id' := 2) rfl (show 0 < 1 by decide) (show 1 < 3 by decide) rfl rfl (show 0 ≠ 2 by decide) rfl (rowO_le (Nat.le_of_eq setE_len.symm))) ?_
  all_goals refine endM_turn (turn_box (id := 0) (ds := (s.setE who.toNat (cutL num (s.tables.getD who.toNat default).entries)).csO) rfl rfl rfl (.cons (.refl _) (.cons (OwEq.len setE_len.symm (fun i j _ _ => HoldC.h _ j) (fun i j _ _ => .refl _)) (.cons (.refl _) .nil)))) ?_
  all_goals exact endM_pick [0] [some (boxRow (s.cut who.toNat num).csO)] (.tup []) (view_of rfl (.cons rfl (.self (rowPl_box rfl)) .nil)) rfl rfl (by rw [hX]; exact keepK (n := 1) rfl rfl) ⟨rfl, rfl⟩
def cutX (id : Int) (l : List Thing) : List Thing := l.filter (fun x => !idP id x)
def lastX (id : Int) (l : List Thing) : Thing := l.foldl (fun o x => if x.id = id then x else o) ⟨0, 0, 0⟩
def Shelf.cutT (s : Shelf) (id : Int) : Shelf := ⟨s.next, s.tables, cutX id s.things⟩
theorem cutX_le {id : Int} {l : List Thing} : (cutX id l).length ≤ l.length := List.length_filter_le _ _
theorem cutX_hit {id : Int} {l : List Thing} {k : Nat} (hk : k < l.length) (h : (l.getD k default).id = id) : cutX id (l.take (k + 1)) = cutX id (l.take k) := by
  have hp : (!idP id (l.getD k default)) = false := by simp only [idP, h, decide_true, Bool.not_true]
  rw [take_snoc hk]
  unfold cutX
  rw [List.filter_append]
  simp only [List.filter, hp, List.append_nil]
theorem cutX_miss {id : Int} {l : List Thing} {k : Nat} (hk : k < l.length) (h : ¬ (l.getD k default).id = id) : cutX id (l.take (k + 1)) = cutX id (l.take k) ++ [l.getD k default] := by
  have hp : (!idP id (l.getD k default)) = true := by simp only [idP, h, decide_false, Bool.not_false]
  rw [take_snoc hk]
  unfold cutX
  rw [List.filter_append]
  simp only [List.filter, hp]
theorem cutXT_le {id : Int} {l : List Thing} {i : Nat} : (cutX id (l.take i)).length ≤ l.length := by
  have h1 := cutX_le (id := id) (l := l.take i)
  rw [List.length_take] at h1
  omega
theorem lastX_hit {id : Int} {l : List Thing} {k : Nat} (hk : k < l.length) (h : (l.getD k default).id = id) : lastX id (l.take (k + 1)) = l.getD k default := by
  rw [take_snoc hk]
  unfold lastX
  rw [List.foldl_append]
  simp only [List.foldl_cons, List.foldl_nil, h, if_true]
theorem lastX_miss {id : Int} {l : List Thing} {k : Nat} (hk : k < l.length) (h : ¬ (l.getD k default).id = id) : lastX id (l.take (k + 1)) = lastX id (l.take k) := by
  rw [take_snoc hk]
  unfold lastX
  rw [List.foldl_append]
  simp only [List.foldl_cons, List.foldl_nil, h, if_false]
set_option maxHeartbeats 2000000 in
theorem l19CutThing_ok (s : Shelf) (h : s.ok) (id : Int) : RetM env.P 98 [some (boxRow s.csO)] [.ptr 0 0 0, .i .i64 id] (fun r H => r = .agg (lastX id s.things).cs ∧ H = [some (boxRow (s.cutT id).csO)]) := by
  have hl2 : s.things.length ≤ 1048576 := h.2.1
  refine ret_ofM (nt := 51) (rvs := [.cell 4 35]) Try.func98 rfl rfl rfl rfl (fun X hX => ?_)
  repeat' (first | exact aa | ((conv => whnf) <;> (first | (refine lw_del 9 ?_; refine loopFT (fun k : Nat => [(7, .i .i64 k), (6, .row 3 (cutX id (s.things.take k)).length)]) (fun k => [none, none, some (.box (lastX id (s.things.take k)).cs), some (.arr ⟨3, (cutX id (s.things.take k)).length, elE Thing.cs (cutX id (s.things.take k)), .arr⟩)]) (fun k => k ≤ s.things.length) (fun k => s.things.length - k) 0 ⟨Nat.zero_le _, ?_⟩) | exact arr_zero rfl rfl | exact low_cells rfl | exact capB2 (Nat.le_trans cutXT_le hl2) (by decide) | exact capN2 (Nat.le_trans cutXT_le hl2) | (refine roundET_turn (turn_close (id := 0) (i := 0) (j := 2) (id' := 4) rfl (show 0 < 1 by decide) (show 2 < 3 by decide) rfl rfl (show 0 ≠ 4 by decide) rfl (rowO_le (Nat.le_refl _))) ?_; refine roundET_turn (turn_box (id := 0) (ds := s.csO) rfl rfl rfl (.cons (.refl _) (.cons (.refl _) (.cons (.refl _) .nil)))) ?_; refine roundET_end ?_) | refine And.intro ?_ ?_ | (intro _h; first | contradiction | (try simp only [dd] at _h)) | (refine dt_go ?_) | exact rfl | exact True.intro | exact dkk | exact dks | (refine wrap_succ ?_; omega))))
  · rename_i k _ _
    have hk : k < s.things.length := by omega
    have hc := cutX_hit (id := id) hk (by simpa using _h)
    have hx := lastX_hit (id := id) hk (by simpa using _h)
    have hlen : (cutX id (s.things.take (k + 1))).length = (cutX id (s.things.take k)).length := by rw [hc]
    refine ⟨k + 1, [], hk, (show s.things.length - (k + 1) < s.things.length - k by omega), ?_⟩
    repeat' (first | exact aa | ((conv => whnf) <;> (first | exact arr_zero rfl rfl | exact low_cells rfl | exact capB2 (Nat.le_trans cutXT_le hl2) (by decide) | exact capN2 (Nat.le_trans cutXT_le hl2) | exact rho_keep hX _h | exact hlen | exact hlen.symm | exact congrArg Thing.id hx.symm | exact congrArg Thing.res hx.symm | exact congrArg Thing.rep hx.symm | exact arr_same hc hlen.symm (fun a j => low_cells rfl) | refine And.intro ?_ ?_ | (intro _h; first | contradiction | (try simp only [dd] at _h)) | (refine dt_go ?_) | exact rfl | exact True.intro | exact dkk | exact dks | (refine wrap_succ ?_; omega))))
  · rename_i k _ _
    have hk : k < s.things.length := by omega
    have hc := cutX_miss (id := id) hk (by simpa using _h)
    have hx := lastX_miss (id := id) hk (by simpa using _h)
    have hlen : (cutX id (s.things.take (k + 1))).length = (cutX id (s.things.take k)).length + 1 := by rw [hc, List.length_append, List.length_singleton]
    refine ⟨k + 1, [0, 1, 2, 6], hk, (show s.things.length - (k + 1) < s.things.length - k by omega), ?_⟩
    repeat' (first | exact aa | ((conv => whnf) <;> (first | exact arr_zero rfl rfl | exact low_cells rfl | exact capB2 (Nat.le_trans cutXT_le hl2) (by decide) | exact capN2 (Nat.le_trans cutXT_le hl2) | exact rho_keep hX _h | exact hlen | exact hlen.symm | exact congrArg Thing.id hx.symm | exact congrArg Thing.res hx.symm | exact congrArg Thing.rep hx.symm | exact arr_snoc hc rfl hlen.symm hlen (fun a j => low_cells rfl) (fun j hj => rfl) | refine And.intro ?_ ?_ | (intro _h; first | contradiction | (try simp only [dd] at _h)) | (refine dt_go ?_) | exact rfl | exact True.intro | exact dkk | exact dks | (refine wrap_succ ?_; omega))))
  conv => whnf
  rename_i k _
  have hk : s.things.take k = s.things := List.take_of_length_le (by omega)
  refine endM_turn (turn_close (id := 0) (i := 0) (j := 2) (id' := 3) rfl (show 0 < 1 by decide) (show 2 < 3 by decide) rfl rfl (show 0 ≠ 3 by decide) rfl (rowO_le (Nat.le_refl _))) ?_
  refine endM_turn (turn_box (id := 0) (ds := (⟨s.next, s.tables, cutX id (s.things.take k)⟩ : Shelf).csO) rfl rfl rfl (.cons (.refl _) (.cons (.refl _) (.cons (.refl _) .nil)))) ?_
  exact endM_pick [0] [some (boxRow (⟨s.next, s.tables, cutX id (s.things.take k)⟩ : Shelf).csO)] (.agg (lastX id (s.things.take k)).cs) (view_of rfl (.cons rfl (.self (rowPl_box rfl)) .nil)) rfl rfl (by rw [hX]; exact keepK (n := 1) rfl rfl) ⟨by rw [hk], by rw [hk]; rfl⟩
def ownP (id : Int) (e : Entry) : Bool := e.own && decide (e.id = id)
def killT (l : List Entry) (t : List Thing) : List Thing := t.flatMap fun x => (l.filter (ownP x.id)).map fun _ => x
def killK (l : List Entry) (t : List Thing) (i k : Nat) : List Thing := killT l (t.take i) ++ ((l.take k).filter (ownP (t.getD i default).id)).map fun _ => t.getD i default
theorem killK_zero {l : List Entry} {t : List Thing} {i : Nat} : killK l t i 0 = killT l (t.take i) := by
  unfold killK
  rw [List.take_zero, List.filter_nil, List.map_nil, List.append_nil]
theorem killK_hit {l : List Entry} {t : List Thing} {i k : Nat} (hk : k < l.length) (ho : (l.getD k default).own = true) (h : (l.getD k default).id = (t.getD i default).id) : killK l t i (k + 1) = killK l t i k ++ [t.getD i default] := by
  have hp : ownP (t.getD i default).id (l.getD k default) = true := by unfold ownP; rw [ho, h]; simp
  unfold killK
  rw [take_snoc hk, List.filter_append, List.map_append, List.append_assoc]
  simp only [List.filter, hp, List.map_cons, List.map_nil]
theorem killK_miss {l : List Entry} {t : List Thing} {i k : Nat} (hk : k < l.length) (h : ¬ ((l.getD k default).own = true ∧ (l.getD k default).id = (t.getD i default).id)) : killK l t i (k + 1) = killK l t i k := by
  have hp : ownP (t.getD i default).id (l.getD k default) = false := by
    unfold ownP
    cases ho : (l.getD k default).own with
    | false => rfl
    | true =>
      rw [Bool.true_and, decide_eq_false_iff_not]
      exact fun q => h ⟨ho, q⟩
  unfold killK
  rw [take_snoc hk, List.filter_append, List.map_append]
  simp only [List.filter, hp, List.map_nil, List.append_nil]
theorem killK_end {l : List Entry} {t : List Thing} {i k : Nat} (hi : i < t.length) (hk : ¬ k < l.length) : killK l t i k = killT l (t.take (i + 1)) := by
  unfold killK
  rw [List.take_of_length_le (l := l) (by omega), take_snoc hi]
  unfold killT
  rw [List.flatMap_append]
  simp only [List.flatMap_cons, List.flatMap_nil, List.append_nil]
theorem killT_le {l : List Entry} : ∀ t : List Thing, (killT l t).length ≤ t.length * l.length
  | [] => Nat.zero_le _
  | x :: t => by
    have h1 := killT_le (l := l) t
    have h2 : (l.filter (ownP x.id)).length ≤ l.length := List.length_filter_le _ _
    unfold killT at *
    rw [List.flatMap_cons, List.length_append, List.length_map, List.length_cons, Nat.succ_mul]
    omega
theorem killK_le {l : List Entry} {t : List Thing} {i k : Nat} (hl : l.length ≤ 1000) (ht : t.length ≤ 1000) : (killK l t i k).length ≤ 1048576 := by
  have h1 := killT_le (l := l) (t.take i)
  have h2 : ((l.take k).filter (ownP (t.getD i default).id)).length ≤ (l.take k).length := List.length_filter_le _ _
  have h3 : (l.take k).length ≤ l.length := by rw [List.length_take]; omega
  have h4 : (t.take i).length ≤ t.length := by rw [List.length_take]; omega
  have h5 : (t.take i).length * l.length ≤ 1000 * 1000 := Nat.mul_le_mul (by omega) hl
  unfold killK
  rw [List.length_append, List.length_map]
  omega
def Shelf.cutTs (s : Shelf) (L : List Thing) : Shelf := L.foldl (fun s x => s.cutT x.id) s
theorem cutTs_succ {s : Shelf} {L : List Thing} {k : Nat} (hk : k < L.length) : s.cutTs (L.take (k + 1)) = (s.cutTs (L.take k)).cutT (L.getD k default).id := by
  rw [take_snoc hk]
  unfold Shelf.cutTs
  rw [List.foldl_append]
  rfl
theorem cutT_ok {s : Shelf} (h : s.ok) {id : Int} : (s.cutT id).ok := ⟨h.1, Nat.le_trans cutX_le h.2.1, fun k hk => trivial⟩
theorem cutTs_ok {s : Shelf} (h : s.ok) : ∀ L : List Thing, (s.cutTs L).ok := fun L => by
  induction L generalizing s with
  | nil => exact h
  | cons x L ih => exact ih (cutT_ok h)
def kiK (w : Nat) : Nat → Entry → Bool := fun i _ => !decide (i = w)
def cutXs (L t : List Thing) : List Thing := L.foldl (fun t x => cutX x.id t) t
theorem cutTs_eq {L : List Thing} : ∀ {s : Shelf}, s.cutTs L = ⟨s.next, s.tables, cutXs L s.things⟩ := by
  induction L with
  | nil => intro s; rfl
  | cons x L ih => intro s; exact ih
theorem cutXs_eq {L : List Thing} : ∀ {t : List Thing}, cutXs L t = t.filter fun x => !(L.any fun y => idP y.id x) := by
  induction L with
  | nil =>
    intro t
    show t = _
    simp only [List.any_nil, Bool.not_false]
    exact (List.filter_eq_self.2 fun _ _ => rfl).symm
  | cons y L ih =>
    intro t
    show cutXs L (cutX y.id t) = _
    rw [ih]
    unfold cutX
    rw [List.filter_filter]
    congr 1
    funext x
    rw [List.any_cons, Bool.not_or, Bool.and_comm]
def Shelf.dead (s : Shelf) (w : Nat) : List Thing := killT (s.tables.getD w default).entries s.things
def Shelf.bared (s : Shelf) (w : Nat) : Shelf := ⟨s.next, s.tables, cutXs (s.dead w) s.things⟩
theorem bared_ok {s : Shelf} (h : s.ok) {w : Nat} : (s.bared w).ok := by
  have := cutTs_ok h (s.dead w)
  rw [cutTs_eq] at this
  exact this
theorem kill_keep {s : Shelf} {w : Nat} (hw : w < s.tables.length) : (s.setE w []).cutTs (s.dead w) = (s.bared w).keep (kiK w) := by
  rw [cutTs_eq]
  refine shelf_ext rfl rfl (setE_len.trans keep_len.symm) fun i hi => ?_
  rw [keep_tab]
  show (s.setE w []).tables.getD i default = ⟨(s.tables.getD i default).next, (s.tables.getD i default).entries.filter (kiK w i)⟩
  rw [setE_at hw]
  by_cases e : i = w
  · subst e
    rw [if_pos rfl]
    have : (s.tables.getD i default).entries.filter (kiK i i) = [] := List.filter_eq_nil_iff.2 fun a _ => by simp [kiK]
    rw [this]
  · rw [if_neg e]
    have : (s.tables.getD i default).entries.filter (kiK w i) = (s.tables.getD i default).entries := List.filter_eq_self.2 fun a _ => by simp [kiK, e]
    rw [this]
noncomputable def Shelf.killed (s : Shelf) (w : Nat) : Shelf := ((s.bared w).keep ((s.bared w).fixK (kiK w))).relend
end Go.Proofs.Ytmglpojnoadgeaa
