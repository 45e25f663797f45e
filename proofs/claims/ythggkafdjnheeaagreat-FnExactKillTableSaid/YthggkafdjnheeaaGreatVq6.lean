import Derived.Test.YthggkafdjnheeaaGreatVq4
import Derived.Test.YthggkafdjnheeaaGreatVq5
import Derived.Test.YthggkafdjnheeaaGreatVq2
namespace Go.Proofs.YthggkafdjnheeaaGreat
open Go Go.RowKit
set_option linter.unusedVariables false
set_option linter.unusedSimpArgs false
set_option maxRecDepth 8000
def cutX (id : Int) (l : List Thing) : List Thing := l.filter (fun x => !idP id x)
def lastX (id : Int) (l : List Thing) : Thing := l.foldl (fun o x => if x.id = id then x else o) ⟨0, 0, 0⟩
def Shelf.cutT (s : Shelf) (id : Int) : Shelf := ⟨s.next, s.tables, cutX id s.things⟩
theorem cutX_le {id : Int} {l : List Thing} : (cutX id l).length ≤ l.length := List.length_filter_le _ _
theorem cutX_hit {id : Int} {l : List Thing} {k : Nat} (hk : k < l.length) (h : (l.getD k default).id = id) : cutX id (l.take (k + 1)) = cutX id (l.take k) := by
  have hp : (!idP id (l.getD k default)) = false := by simp only [idP, h, decide_true, Bool.not_true]
  rw [take_snoc hk]
  unfold cutX
  rw [List.filter_append]
  simp only [List.filter, hp, List.append_nil]
theorem cutX_miss {id : Int} {l : List Thing} {k : Nat} (hk : k < l.length) (h : ¬ (l.getD k default).id = id) : cutX id (l.take (k + 1)) = cutX id (l.take k) ++ [l.getD k default] := by
  have hp : (!idP id (l.getD k default)) = true := by simp only [idP, h, decide_false, Bool.not_false]
  rw [take_snoc hk]
  unfold cutX
  rw [List.filter_append]
  simp only [List.filter, hp]
theorem cutXT_le {id : Int} {l : List Thing} {i : Nat} : (cutX id (l.take i)).length ≤ l.length := by
  have h1 := cutX_le (id := id) (l := l.take i)
  rw [List.length_take] at h1
  omega
theorem lastX_hit {id : Int} {l : List Thing} {k : Nat} (hk : k < l.length) (h : (l.getD k default).id = id) : lastX id (l.take (k + 1)) = l.getD k default := by
  rw [take_snoc hk]
  unfold lastX
  rw [List.foldl_append]
  simp only [List.foldl_cons, List.foldl_nil, h, if_true]
theorem lastX_miss {id : Int} {l : List Thing} {k : Nat} (hk : k < l.length) (h : ¬ (l.getD k default).id = id) : lastX id (l.take (k + 1)) = lastX id (l.take k) := by
  rw [take_snoc hk]
  unfold lastX
  rw [List.foldl_append]
  simp only [List.foldl_cons, List.foldl_nil, h, if_false]
set_option maxHeartbeats 2000000 in
theorem l19CutThing_ok (s : Shelf) (h : s.ok) (id : Int) : RetM env.P 106 [some (boxRow s.csO)] [.ptr 0 0 0, .i .i64 id] (fun r H => r = .agg (lastX id s.things).cs ∧ H = [some (boxRow (s.cutT id).csO)]) := by
  have hl2 : s.things.length ≤ 1048576 := h.2.1
  refine ret_ofM (nt := 51) (rvs := [.cell 4 37]) Tryz.func106 rfl rfl rfl rfl (fun X hX => ?_)
  repeat' (first | exact aa | ((conv => whnf) <;> (first | (refine lw_del 9 ?_; refine loopFT (fun k : Nat => [(7, .i .i64 k), (6, .row 3 (cutX id (s.things.take k)).length)]) (fun k => [none, none, some (.box (lastX id (s.things.take k)).cs), some (.arr ⟨3, (cutX id (s.things.take k)).length, elE Thing.cs (cutX id (s.things.take k)), .arr⟩)]) (fun k => k ≤ s.things.length) (fun k => s.things.length - k) 0 ⟨Nat.zero_le _, ?_⟩) | exact arr_zero rfl rfl | exact low_cells rfl | exact capB2 (Nat.le_trans cutXT_le hl2) (by decide) | exact capN2 (Nat.le_trans cutXT_le hl2) | (refine roundET_turn (turn_close (id := 0) (i := 0) (j := 2) (id' := 4) rfl (show 0 < 1 by decide) (show 2 < 3 by decide) rfl rfl (show 0 ≠ 4 by decide) rfl (rowO_le (Nat.le_refl _))) ?_; refine roundET_turn (turn_box (id := 0) (ds := s.csO) rfl rfl rfl (.cons (.refl _) (.cons (.refl _) (.cons (.refl _) .nil)))) ?_; refine roundET_end ?_) | refine And.intro ?_ ?_ | (intro _h; first | contradiction | (try simp only [dd] at _h)) | (refine dt_go ?_) | exact rfl | exact True.intro | exact dkk | exact dks | (refine wrap_succ ?_; omega))))
  · rename_i k _ _
    have hk : k < s.things.length := by omega
    have hc := cutX_hit (id := id) hk (by simpa using _h)
    have hx := lastX_hit (id := id) hk (by simpa using _h)
    have hlen : (cutX id (s.things.take (k + 1))).length = (cutX id (s.things.take k)).length := by rw [hc]
    refine ⟨k + 1, [], hk, (show s.things.length - (k + 1) < s.things.length - k by omega), ?_⟩
    repeat' (first | exact aa | ((conv => whnf) <;> (first | exact arr_zero rfl rfl | exact low_cells rfl | exact capB2 (Nat.le_trans cutXT_le hl2) (by decide) | exact capN2 (Nat.le_trans cutXT_le hl2) | exact rho_keep hX _h | exact hlen | exact hlen.symm | exact congrArg Thing.id hx.symm | exact congrArg Thing.res hx.symm | exact congrArg Thing.rep hx.symm | exact arr_same hc hlen.symm (fun a j => low_cells rfl) | refine And.intro ?_ ?_ | (intro _h; first | contradiction | (try simp only [dd] at _h)) | (refine dt_go ?_) | exact rfl | exact True.intro | exact dkk | exact dks | (refine wrap_succ ?_; omega))))
  · rename_i k _ _
    have hk : k < s.things.length := by omega
    have hc := cutX_miss (id := id) hk (by simpa using _h)
    have hx := lastX_miss (id := id) hk (by simpa using _h)
    have hlen : (cutX id (s.things.take (k + 1))).length = (cutX id (s.things.take k)).length + 1 := by rw [hc, List.length_append, List.length_singleton]
    refine ⟨k + 1, [0, 1, 2, 6], hk, (show s.things.length - (k + 1) < s.things.length - k by omega), ?_⟩
    repeat' (first | exact aa | ((conv => whnf) <;> (first | exact arr_zero rfl rfl | exact low_cells rfl | exact capB2 (Nat.le_trans cutXT_le hl2) (by decide) | exact capN2 (Nat.le_trans cutXT_le hl2) | exact rho_keep hX _h | exact hlen | exact hlen.symm | exact congrArg Thing.id hx.symm | exact congrArg Thing.res hx.symm | exact congrArg Thing.rep hx.symm | exact arr_snoc hc rfl hlen.symm hlen (fun a j => low_cells rfl) (fun j hj => rfl) | refine And.intro ?_ ?_ | (intro _h; first | contradiction | (try simp only [dd] at _h)) | (refine dt_go ?_) | exact rfl | exact True.intro | exact dkk | exact dks | (refine wrap_succ ?_; omega))))
  conv => whnf
  rename_i k _
  have hk : s.things.take k = s.things := List.take_of_length_le (by omega)
  refine endM_turn (turn_close (id := 0) (i := 0) (j := 2) (id' := 3) rfl (show 0 < 1 by decide) (show 2 < 3 by decide) rfl rfl (show 0 ≠ 3 by decide) rfl (rowO_le (Nat.le_refl _))) ?_
  refine endM_turn (turn_box (id := 0) (ds := (⟨s.next, s.tables, cutX id (s.things.take k)⟩ : Shelf).csO) rfl rfl rfl (.cons (.refl _) (.cons (.refl _) (.cons (.refl _) .nil)))) ?_
  exact endM_pick [0] [some (boxRow (⟨s.next, s.tables, cutX id (s.things.take k)⟩ : Shelf).csO)] (.agg (lastX id (s.things.take k)).cs) (view_of rfl (.cons rfl (.self (rowPl_box rfl)) .nil)) rfl rfl (by rw [hX]; exact keepK (n := 1) rfl rfl) ⟨by rw [hk], by rw [hk]; rfl⟩
theorem srcOk_from {α : Type} [Inhabited α] {m sz o : Nat} {c : α → List AV} {l : List α} (h : ∀ a, (c a).all cp1 = true ∧ (c a).length = sz) : SrcOk m sz (fun i j => elE c l (o + i) j) := ⟨fun i j hi hj => (srcOk_E (m := o + m) h).h (o + i) j (by omega) hj⟩
theorem erase_at {l : List Thing} {q i : Nat} : (l.eraseIdx q).getD i default = if i < q then l.getD i default else l.getD (i + 1) default := by
  rw [List.getD_eq_getElem?_getD, List.getElem?_eraseIdx]
  split <;> rw [List.getD_eq_getElem?_getD]
def delX (q : Nat) (l : List Thing) : Nat → Nat → AV := fun i j => if i < l.length - 1 then elE Thing.cs (l.eraseIdx q) i j else [AV.i .i64 0, AV.i .i64 0, AV.i .i64 0].getD j .any
theorem delX_pl {q : Nat} {l : List Thing} {i j : Nat} : pl1 (delX q l i j) = true := by
  unfold delX
  split
  · exact pl1_getD rfl j
  · exact pl1_getD rfl j
theorem delX_idf {q : Nat} {l : List Thing} {i j : Nat} : (delX q l i j).idfO := by
  unfold delX
  split
  · exact HoldC.h _ j
  · exact (holdC_plain (c := fun _ : Unit => [AV.i .i64 0, AV.i .i64 0, AV.i .i64 0]) fun _ => rfl).h () j
theorem delX_row {q : Nat} {l : List Thing} {n : Nat} : RowPl ⟨3, n, delX q l, .arr⟩ := ⟨fun i j _ _ => delX_pl⟩
set_option maxHeartbeats 2000000 in
theorem deleteThing_ok (l : List Thing) (hl : l.length ≤ 1048576) (q : Nat) (hq : q < l.length) (j : Int) (hj : j = (q : Int) + 1) : RetM env.P 123 [some (rowL 3 Thing.cs l)] [.row 0 l.length, .i .i64 (q : Int), .i .i64 j] (fun r H => r = .row 0 (l.length - 1) ∧ H = [some ⟨3, l.length, delX q l, .arr⟩]) := by
  refine ret_ofM (nt := 33) (rvs := [.tmp 6]) Tryz.func123 rfl rfl rfl rfl (fun X hX => ?_)
  repeat' (first | exact aa | ((conv => whnf) <;> (first | refine And.intro ?_ ?_ | (intro _h; first | contradiction | (try simp only [dd] at _h)) | (refine dt_go ?_) | exact rfl | exact True.intro | exact dkk | exact dks | (refine wrap_succ ?_; omega))))
  all_goals (first | exact Int.le_refl _ | exact Int.ofNat_le.2 (Nat.le_of_lt hq) | exact srcOk_from (c := Thing.cs) (fun _ => ⟨rfl, rfl⟩) | (show _ ≤ l.length; omega) | skip)
  all_goals (conv => whnf)
  have e1 : ((q : Int)).toNat = q := rfl
  have e2 : ((l.length : Int) - j).toNat = l.length - (q + 1) := by omega
  have e3 : j.toNat = q + 1 := by omega
  refine endM_turn (turn_same (id := 0) (x := ⟨3, l.length, delX q l, .arr⟩) rfl rfl rfl rfl rfl (fun i j hi hj => ?_)) ?_
  · have hi' : i < l.length := hi
    dsimp only
    unfold delX
    by_cases h : i < l.length - 1
    · rw [if_pos h, segE_out (by omega)]
      unfold elE
      rw [erase_at]
      by_cases h2 : i < q
      · rw [if_pos h2, segE_out (by omega)]; rfl
      · rw [if_neg h2, segE_in (by omega) (by omega)]
        show _ = (Thing.cs (l.getD _ default)).getD j .any
        congr 3
        omega
    · rw [if_neg h, segE_in (by omega) (by omega)]
      rfl
  exact endM_pick [0] [some ⟨3, l.length, delX q l, .arr⟩] (.row 0 (l.length - 1)) (view_of rfl (.cons rfl (.self delX_row) .nil)) (by rw [show l.length - 1 = q + (l.length - (q + 1)) by omega, ← e2]; rfl) rfl (by rw [hX]; exact keepK (n := 1) rfl rfl) ⟨rfl, rfl⟩
theorem list_ext {α : Type} [Inhabited α] {l m : List α} (h : l.length = m.length) (he : ∀ i, i < l.length → l.getD i default = m.getD i default) : l = m := by
  refine List.ext_getElem h fun i hi hj => ?_
  have := he i hi
  rw [List.getD_eq_getElem?_getD, List.getElem?_eq_getElem hi, List.getD_eq_getElem?_getD, List.getElem?_eq_getElem hj] at this
  exact this
theorem shelf_ext {a b : Shelf} (h1 : a.next = b.next) (h2 : a.things = b.things) (h3 : a.tables.length = b.tables.length) (h4 : ∀ i, i < a.tables.length → a.tables.getD i default = b.tables.getD i default) : a = b := by
  obtain ⟨n, t, x⟩ := a
  obtain ⟨n', t', x'⟩ := b
  dsimp only at h1 h2 h3 h4
  subst h1 h2
  rw [list_ext h3 h4]
def Shelf.keep (s : Shelf) (K : Nat → Entry → Bool) : Shelf := ⟨s.next, s.tables.mapIdx fun i t => ⟨t.next, t.entries.filter (K i)⟩, s.things⟩
theorem keep_len {s : Shelf} {K : Nat → Entry → Bool} : (s.keep K).tables.length = s.tables.length := List.length_mapIdx
theorem keep_tab {s : Shelf} {K : Nat → Entry → Bool} {i : Nat} : (s.keep K).tables.getD i default = ⟨(s.tables.getD i default).next, (s.tables.getD i default).entries.filter (K i)⟩ := by
  unfold Shelf.keep
  dsimp only
  rw [List.getD_eq_getElem?_getD, List.getElem?_mapIdx, List.getD_eq_getElem?_getD]
  cases s.tables[i]? with
  | none => rfl
  | some t => rfl
theorem find_idx {p : Entry → Bool} : ∀ l : List Entry, (l.findIdx? p).map (fun k => l.getD k default) = l.find? p
  | [] => rfl
  | a :: l => by
    rw [List.findIdx?_cons, List.find?_cons, ← find_idx l]
    cases p a with
    | true => rfl
    | false =>
      simp only [Bool.false_eq_true, if_false, Option.map_map]
      rfl
theorem at_eq {s : Shelf} {who num : Int} : s.at_ who num = if s.isT who = true then (s.tables.getD who.toNat default).entries.find? (numP num) else none := by
  unfold Shelf.at_ Shelf.tab Table.find
  rw [find_idx]
def uniq (l : List Entry) : Prop := ∀ i j, i < l.length → j < l.length → (l.getD i default).num = (l.getD j default).num → i = j
theorem uniq_tail {a : Entry} {l : List Entry} (h : uniq (a :: l)) : uniq l ∧ ∀ b ∈ l, ¬ b.num = a.num := by
  refine ⟨fun i j hi hj e => ?_, fun b hb e => ?_⟩
  · have := h (i + 1) (j + 1) (by simpa using hi) (by simpa using hj) (by simpa using e)
    omega
  · obtain ⟨k, hk⟩ := List.getElem?_of_mem hb
    have := h (k + 1) 0 (by simpa using (List.getElem?_eq_some_iff.1 hk).1) (by simp) (by
      rw [List.getD_eq_getElem?_getD]
      simp only [List.getElem?_cons_succ, hk, Option.getD_some]
      exact e)
    omega
theorem find_none_of {num : Int} {l : List Entry} (h : ∀ b ∈ l, ¬ b.num = num) : l.find? (numP num) = none :=
  List.find?_eq_none.2 fun b hb => by simpa [numP] using h b hb
theorem find_filter {K : Entry → Bool} {num : Int} : ∀ {l : List Entry}, uniq l → (l.filter K).find? (numP num) = (l.find? (numP num)).filter K
  | [], _ => rfl
  | a :: l, h => by
    have h2 := uniq_tail h
    rw [List.filter_cons, List.find?_cons]
    by_cases e : a.num = num
    · have ea : numP num a = true := by simpa [numP] using e
      rw [ea]
      cases hK : K a with
      | true => simp only [if_true, List.find?_cons, ea, Option.filter, hK]
      | false =>
        simp only [Bool.false_eq_true, if_false, Option.filter, hK]
        exact find_none_of fun b hb => by
          have := h2.2 b ((List.mem_filter.1 hb).1)
          rwa [e] at this
    · have ea : numP num a = false := by simpa [numP] using e
      rw [ea]
      dsimp only
      rw [← find_filter h2.1]
      split
      · rw [List.find?_cons, ea]
      · rfl
theorem keep_at {s : Shelf} {K : Nat → Entry → Bool} (hu : ∀ i, uniq (s.tables.getD i default).entries) {who num : Int} : (s.keep K).at_ who num = (s.at_ who num).filter (K who.toNat) := by
  rw [at_eq, at_eq, keep_tab]
  have : (s.keep K).isT who = s.isT who := by unfold Shelf.isT; rw [keep_len]
  rw [this]
  split
  · exact find_filter (hu _)
  · rfl
theorem at_in {s : Shelf} {who num : Int} {x : Entry} (h : s.at_ who num = some x) : who.toNat < s.tables.length ∧ x.num = num ∧ ∃ k, k < (s.tables.getD who.toNat default).entries.length ∧ (s.tables.getD who.toNat default).entries.getD k default = x := by
  rw [at_eq] at h
  split at h
  · rename_i ht
    have ht' : 0 ≤ who ∧ who < (s.tables.length : Int) := by simpa [Shelf.isT] using ht
    refine ⟨by omega, by simpa [numP] using List.find?_some h, ?_⟩
    obtain ⟨k, hk⟩ := List.getElem?_of_mem (List.mem_of_find?_eq_some h)
    exact ⟨k, (List.getElem?_eq_some_iff.1 hk).1, by rw [List.getD_eq_getElem?_getD, hk]; rfl⟩
  · cases h
inductive Shelf.Live (s : Shelf) (K : Nat → Entry → Bool) : Entry → Prop
  | own {e : Entry} (h : e.own = true) : Shelf.Live s K e
  | lent {e x : Entry} (h : s.at_ e.from_ e.fromNum = some x) (hk : K e.from_.toNat x = true) (hx : Shelf.Live s K x) : Shelf.Live s K e
structure Shelf.Cut (s : Shelf) (K0 K : Nat → Entry → Bool) : Prop where
  sub : ∀ i e, K i e = true → K0 i e = true
  live : ∀ i k, i < s.tables.length → k < (s.tables.getD i default).entries.length → K0 i ((s.tables.getD i default).entries.getD k default) = true → s.Live K0 ((s.tables.getD i default).entries.getD k default) → K i ((s.tables.getD i default).entries.getD k default) = true
structure Shelf.Fix (s : Shelf) (K0 K : Nat → Entry → Bool) : Prop where
  cut : s.Cut K0 K
  fix : ∀ i k, i < s.tables.length → k < (s.tables.getD i default).entries.length → K i ((s.tables.getD i default).entries.getD k default) = true → s.Live K0 ((s.tables.getD i default).entries.getD k default)
theorem Shelf.Cut.start (s : Shelf) (K0 : Nat → Entry → Bool) : s.Cut K0 K0 := ⟨fun _ _ h => h, fun _ _ _ _ h _ => h⟩
theorem keep_congr {s : Shelf} {K K' : Nat → Entry → Bool} (h : ∀ i k, i < s.tables.length → k < (s.tables.getD i default).entries.length → K i ((s.tables.getD i default).entries.getD k default) = K' i ((s.tables.getD i default).entries.getD k default)) : s.keep K = s.keep K' := by
  refine shelf_ext rfl rfl (keep_len.trans keep_len.symm) fun i hi => ?_
  rw [keep_len] at hi
  rw [keep_tab, keep_tab]
  congr 1
  refine List.filter_congr fun e he => ?_
  obtain ⟨k, hk⟩ := List.getElem?_of_mem he
  have := h i k hi (List.getElem?_eq_some_iff.1 hk).1
  rw [List.getD_eq_getElem?_getD, hk] at this
  exact this
theorem Shelf.Fix.one {s : Shelf} {K0 K K' : Nat → Entry → Bool} (h : s.Fix K0 K) (h' : s.Fix K0 K') : s.keep K = s.keep K' := keep_congr fun i k hi hk => by
  rw [Bool.eq_iff_iff]
  exact ⟨fun q => h'.cut.live i k hi hk (h.cut.sub _ _ q) (h.fix i k hi hk q), fun q => h.cut.live i k hi hk (h'.cut.sub _ _ q) (h'.fix i k hi hk q)⟩
def delE (K : Nat → Entry → Bool) (w : Nat) (num : Int) : Nat → Entry → Bool := fun i e => K i e && !(Nat.beq i w && numP num e)
theorem keep_cut {s : Shelf} {K : Nat → Entry → Bool} {w : Nat} {num : Int} (hw : w < s.tables.length) : (s.keep K).cut w num = s.keep (delE K w num) := by
  refine shelf_ext rfl rfl (by unfold Shelf.cut; rw [setE_len, keep_len, keep_len]) fun i hi => ?_
  unfold Shelf.cut
  rw [setE_at (by rw [keep_len]; exact hw), keep_tab, keep_tab]
  split
  · rename_i e
    subst e
    rw [keep_tab]
    dsimp only
    congr 1
    unfold cutL
    rw [List.filter_filter]
    refine List.filter_congr fun e _ => ?_
    unfold delE
    rw [Nat.beq_refl, Bool.true_and, Bool.and_comm]
  · rename_i e
    rw [keep_tab]
    congr 1
    refine List.filter_congr fun x _ => ?_
    unfold delE
    rw [beq_ff e, Bool.false_and, Bool.not_false, Bool.and_true]
theorem Shelf.Cut.dead {s : Shelf} {K0 K : Nat → Entry → Bool} (h : s.Cut K0 K) (hu : ∀ i, uniq (s.tables.getD i default).entries) {e : Entry} (ho : e.own = false) (hn : (s.keep K).orig e = none) : ¬ s.Live K0 e := by
  intro hl
  cases hl with
  | own q => rw [ho] at q; cases q
  | @lent e x ha hk hx =>
    unfold Shelf.orig at hn
    rw [keep_at hu, ha] at hn
    obtain ⟨h1, h2, k, h3, h4⟩ := at_in ha
    have := h.live _ k h1 h3 (by rw [h4]; exact hk) (by rw [h4]; exact hx)
    rw [h4] at this
    simp [Option.filter, this] at hn
theorem Shelf.Cut.del {s : Shelf} {K0 K : Nat → Entry → Bool} (h : s.Cut K0 K) (hu : ∀ i, uniq (s.tables.getD i default).entries) {w : Nat} {e : Entry} (he : e ∈ (s.tables.getD w default).entries) (hd : ¬ s.Live K0 e) : s.Cut K0 (delE K w e.num) := by
  refine ⟨fun i x q => h.sub i x (by unfold delE at q; rw [Bool.and_eq_true] at q; exact q.1), fun i k hi hk h0 hl => ?_⟩
  unfold delE
  rw [h.live i k hi hk h0 hl, Bool.true_and, Bool.not_eq_true']
  cases hb : (Nat.beq i w && numP e.num ((s.tables.getD i default).entries.getD k default)) with
  | false => rfl
  | true =>
    rw [Bool.and_eq_true] at hb
    have e1 := Nat.eq_of_beq_eq_true hb.1
    subst e1
    have e2 : ((s.tables.getD i default).entries.getD k default).num = e.num := by simpa [numP] using hb.2
    obtain ⟨q, hq⟩ := List.getElem?_of_mem he
    have hql := (List.getElem?_eq_some_iff.1 hq).1
    have hqe : (s.tables.getD i default).entries.getD q default = e := by rw [List.getD_eq_getElem?_getD, hq]; rfl
    have := hu i k q hk hql (by rw [e2, hqe])
    subst this
    rw [hqe] at hl
    exact absurd hl hd
theorem Shelf.Cut.done {s : Shelf} {K0 K : Nat → Entry → Bool} (h : s.Cut K0 K) (hu : ∀ i, uniq (s.tables.getD i default).entries) (hs : ∀ i k, i < s.tables.length → k < (s.tables.getD i default).entries.length → ∃ n, s.sEnds n ((s.tables.getD i default).entries.getD k default) = true)
    (he : ∀ i k, i < s.tables.length → k < (s.tables.getD i default).entries.length → K i ((s.tables.getD i default).entries.getD k default) = true → ((s.tables.getD i default).entries.getD k default).own = true ∨ ¬ (s.keep K).orig ((s.tables.getD i default).entries.getD k default) = none) : s.Fix K0 K := by
  have key : ∀ (n : Nat) (i k : Nat), i < s.tables.length → k < (s.tables.getD i default).entries.length → K i ((s.tables.getD i default).entries.getD k default) = true → s.sEnds n ((s.tables.getD i default).entries.getD k default) = true → s.Live K0 ((s.tables.getD i default).entries.getD k default) := by
    intro n
    induction n with
    | zero => intro i k _ _ _ q; cases q
    | succ n ih =>
      intro i k hi hk hK q
      rcases he i k hi hk hK with q1 | q1
      · exact .own q1
      · by_cases ho : ((s.tables.getD i default).entries.getD k default).own = true
        · exact .own ho
        · generalize (s.tables.getD i default).entries.getD k default = e at *
          unfold Shelf.orig at q1
          rw [keep_at hu] at q1
          rw [Shelf.sEnds, if_neg ho] at q
          unfold Shelf.orig at q
          cases ha : s.at_ e.from_ e.fromNum with
          | none => rw [ha] at q; cases q
          | some x =>
            rw [ha] at q q1
            dsimp only at q
            have hKx : K e.from_.toNat x = true := by
              cases hc : K e.from_.toNat x with
              | true => rfl
              | false => simp [Option.filter, hc] at q1
            split at q
            · cases q
            · obtain ⟨h1, h2, j, h3, h4⟩ := at_in ha
              have := ih _ j h1 h3 (by rw [h4]; exact hKx) (by rw [h4]; exact q)
              rw [h4] at this
              exact .lent ha (h.sub _ _ hKx) this
  refine ⟨h, fun i k hi hk hK => ?_⟩
  obtain ⟨n, hn⟩ := hs i k hi hk
  exact key n i k hi hk hK hn
theorem good_lt {t : Table} (h : t.good) : ∀ {i j : Nat}, i < j → j < t.entries.length → (t.entries.getD i default).num < (t.entries.getD j default).num := by
  intro i j hij hj
  induction j with
  | zero => omega
  | succ j ih =>
    have h1 := (h.1 (j + 1) hj).1
    unfold prevNum at h1
    rw [if_neg (by omega), Nat.add_sub_cancel] at h1
    rcases Nat.lt_or_eq_of_le (Nat.le_of_lt_succ hij) with q | rfl
    · have := ih q (by omega); omega
    · exact h1
theorem good_uniq {t : Table} (h : t.good) : uniq t.entries := fun i j hi hj e => by
  rcases Nat.lt_trichotomy i j with q | q | q
  · have := good_lt h q hj; omega
  · exact q
  · have := good_lt h q hi; omega
theorem good_uniqs {s : Shelf} (h : s.good) (i : Nat) : uniq (s.tables.getD i default).entries := by
  by_cases hi : i < s.tables.length
  · exact good_uniq (h.2.2.2.1 i hi)
  · rw [List.getD_eq_getElem?_getD, List.getElem?_eq_none (by omega)]
    intro i j hi; cases hi
structure Shelf.Tidy (s : Shelf) : Prop where
  seven : s.tables.length ≤ 7
  uniq : ∀ i, uniq (s.tables.getD i default).entries
  ends : ∀ i k, i < s.tables.length → k < (s.tables.getD i default).entries.length → ∃ n, s.sEnds n ((s.tables.getD i default).entries.getD k default) = true
theorem Shelf.good.tidy {s : Shelf} (h : s.good) : s.Tidy := ⟨h.2.1.2, good_uniqs h, fun i k hi hk => ⟨85, (((good_iff s).1 h).2.2.1 i k hi hk).1⟩⟩
theorem shelf_uniq {s : Shelf} (h : s.Tidy) (i : Nat) : uniq (s.tables.getD i default).entries := h.uniq i
theorem shelf_ends {s : Shelf} (h : s.Tidy) (i k : Nat) (hi : i < s.tables.length) (hk : k < (s.tables.getD i default).entries.length) : ∃ n, s.sEnds n ((s.tables.getD i default).entries.getD k default) = true := h.ends i k hi hk
theorem sEnds_things {s : Shelf} {T : List Thing} : ∀ (n : Nat) (e : Entry), (⟨s.next, s.tables, T⟩ : Shelf).sEnds n e = s.sEnds n e
  | 0, _ => rfl
  | n + 1, e => by
    cases ho : e.own with
    | true => rw [Shelf.sEnds_own ho, Shelf.sEnds_own ho]
    | false =>
      cases hx : s.orig e with
      | none => rw [Shelf.sEnds_none ho hx, Shelf.sEnds_none ho (show (⟨s.next, s.tables, T⟩ : Shelf).orig e = none from hx)]
      | some x =>
        have hx' : (⟨s.next, s.tables, T⟩ : Shelf).orig e = some x := hx
        by_cases hi : x.id = e.id
        · rw [Shelf.sEnds_on ho hx hi, Shelf.sEnds_on ho hx' hi, sEnds_things n x]
        · rw [Shelf.sEnds_id ho hx hi, Shelf.sEnds_id ho hx' hi]
theorem Shelf.Tidy.things {s : Shelf} (h : s.Tidy) (T : List Thing) : (⟨s.next, s.tables, T⟩ : Shelf).Tidy :=
  ⟨h.seven, h.uniq, fun i k hi hk => by
    obtain ⟨n, hn⟩ := h.ends i k hi hk
    exact ⟨n, (sEnds_things n _).trans hn⟩⟩
theorem loopTF {E : Env} {nt : Nat} {X : Ctx} {f : Fr} {H : Hp} {c : Code} {Q : Exit → Fr → Hp → Prop} {α : Type} (t : Nat) (vs : α → Fr) (hp : α → List (Option RowI)) (I : α → Prop) (μ : α → Nat) (x0 : α) (ht : inL (asg c) t = true)
    (h : I x0 ∧ agK (mkH H (hp x0)) H [] f (vs x0) ∧ hpP (mkH H (hp x0)) H [] 0 (hp x0) H ∧
      delK H.length (asg c) f fun f0 => ∀ x, I x → wpc E nt X c (vs x ++ f0) (mkH H (hp x)) (thn (RoundEndT X f0 H vs hp I μ x) Q)) :
    LW E.P nt X (.loop c) f H Q := loopFT vs hp I μ x0 h
def untilK (K : Nat → Entry → Bool) (i : Nat) : Nat → Entry → Bool := fun j e => if j < i then K j e else true
theorem until_zero {s : Shelf} {K : Nat → Entry → Bool} : s.keep (untilK K 0) = s := by
  refine shelf_ext rfl rfl keep_len fun i hi => ?_
  rw [keep_tab]
  have : (s.tables.getD i default).entries.filter (untilK K 0 i) = (s.tables.getD i default).entries := List.filter_eq_self.2 fun e _ => by simp [untilK]
  rw [this]
theorem until_at {s : Shelf} {K : Nat → Entry → Bool} {i j : Nat} (h : i ≤ j) : (s.keep (untilK K i)).tables.getD j default = s.tables.getD j default := by
  rw [keep_tab]
  have : (s.tables.getD j default).entries.filter (untilK K i j) = (s.tables.getD j default).entries := List.filter_eq_self.2 fun e _ => by
    unfold untilK
    rw [if_neg (by omega)]
  rw [this]
theorem until_succ {s : Shelf} {K : Nat → Entry → Bool} {i : Nat} (h : i < s.tables.length) : (s.keep (untilK K i)).setE i ((s.tables.getD i default).entries.filter (K i)) = s.keep (untilK K (i + 1)) := by
  refine shelf_ext rfl rfl (by rw [setE_len, keep_len, keep_len]) fun j hj => ?_
  rw [setE_at (by rw [keep_len]; exact h), keep_tab, keep_tab]
  split
  · rename_i e
    subst e
    rw [keep_tab]
    congr 1
    refine List.filter_congr fun e _ => ?_
    unfold untilK
    rw [if_pos (by omega)]
  · rename_i e
    rw [keep_tab]
    congr 1
    refine List.filter_congr fun x _ => ?_
    unfold untilK
    by_cases h2 : j < i
    · rw [if_pos h2, if_pos (by omega)]
    · rw [if_neg h2, if_neg (by omega)]
theorem until_end {s : Shelf} {K : Nat → Entry → Bool} {i : Nat} (h : ¬ i < s.tables.length) : s.keep (untilK K i) = s.keep K := keep_congr fun j k hj _ => by
  unfold untilK
  rw [if_pos (by omega)]
noncomputable def Shelf.fixK (s : Shelf) (K0 : Nat → Entry → Bool) : Nat → Entry → Bool := fun i e => K0 i e && pb (s.Live K0 e)
theorem fixK_fix (s : Shelf) (K0 : Nat → Entry → Bool) : s.Fix K0 (s.fixK K0) :=
  ⟨⟨fun i e h => by unfold Shelf.fixK at h; rw [Bool.and_eq_true] at h; exact h.1, fun i k hi hk h0 hl => by unfold Shelf.fixK; rw [h0, Bool.true_and]; exact pb_t.mpr hl⟩,
   fun i k hi hk h => by unfold Shelf.fixK at h; rw [Bool.and_eq_true] at h; exact pb_t.mp h.2⟩
theorem keep_ok {s : Shelf} (h : s.ok) {K : Nat → Entry → Bool} : (s.keep K).ok := ⟨⟨by rw [keep_len]; exact h.1.1, fun i hi => by
  rw [keep_tab]
  exact ⟨Nat.le_trans (List.length_filter_le _ _) (entLe h i), fun _ _ => trivial⟩⟩, h.2⟩
def Shelf.cnt (s : Shelf) : Nat := (s.tables.map fun t => t.entries.length).sum
theorem sum_set {l : List Nat} : ∀ {w : Nat} {v : Nat}, w < l.length → v < l.getD w 0 → (l.set w v).sum < l.sum := by
  induction l with
  | nil => intro w v h; simp at h
  | cons a l ih =>
    intro w v h hv
    cases w with
    | zero =>
      have : v < a := by simpa using hv
      simp only [List.set_cons_zero, List.sum_cons]
      omega
    | succ w =>
      have := ih (w := w) (v := v) (by simpa using h) (by simpa using hv)
      simp only [List.set_cons_succ, List.sum_cons]
      omega
theorem cnt_setE {s : Shelf} {w : Nat} {l : List Entry} (hw : w < s.tables.length) (hl : l.length < (s.tables.getD w default).entries.length) : (s.setE w l).cnt < s.cnt := by
  unfold Shelf.cnt Shelf.setE
  dsimp only
  rw [List.map_set]
  refine sum_set (by simpa using hw) ?_
  have e : (s.tables.map fun t => t.entries.length).getD w 0 = (s.tables.getD w default).entries.length := by
    rw [List.getD_eq_getElem?_getD (l := s.tables.map _), List.getElem?_map, List.getElem?_eq_getElem hw, List.getD_eq_getElem?_getD, List.getElem?_eq_getElem hw]; rfl
  rw [e]
  exact hl
theorem cutL_lt {num : Int} {l : List Entry} {k : Nat} (hk : k < l.length) (h : (l.getD k default).num = num) : (cutL num l).length < l.length := by
  have h1 : l = l.take k ++ l.drop k := (List.take_append_drop k l).symm
  have h2 : l.drop k = l.getD k default :: l.drop (k + 1) := by
    rw [List.drop_eq_getElem_cons hk, List.getD_eq_getElem?_getD, List.getElem?_eq_getElem hk]; rfl
  have h3 : cutL num l = cutL num (l.take k) ++ cutL num (l.drop (k + 1)) := by
    conv => lhs; rw [h1, h2]
    unfold cutL
    rw [List.filter_append, List.filter_cons]
    have : (!numP num (l.getD k default)) = false := by simp only [numP, h, decide_true, Bool.not_true]
    rw [this]
    rfl
  have h4 := cutL_le (num := num) (l := l.take k)
  have h5 := cutL_le (num := num) (l := l.drop (k + 1))
  rw [h3, List.length_append]
  rw [List.length_take] at h4
  rw [List.length_drop] at h5
  omega
theorem filt_no {α : Type} [Inhabited α] {p : α → Bool} {l : List α} {k : Nat} (hk : k < l.length) (h : p (l.getD k default) = false) : (l.take (k + 1)).filter p = (l.take k).filter p := by
  rw [take_snoc hk, List.filter_append]
  simp only [List.filter, h, List.append_nil]
theorem filt_yes {α : Type} [Inhabited α] {p : α → Bool} {l : List α} {k : Nat} (hk : k < l.length) (h : p (l.getD k default) = true) : (l.take (k + 1)).filter p = (l.take k).filter p ++ [l.getD k default] := by
  rw [take_snoc hk, List.filter_append]
  simp only [List.filter, h]
theorem filt_le {α : Type} {p : α → Bool} {l : List α} {k : Nat} : ((l.take k).filter p).length ≤ l.length := by
  have h1 := List.length_filter_le p (l.take k)
  rw [List.length_take] at h1
  omega
def lendE (f : List Int → Int) (j : Nat) (e : Entry) : Entry := { e with lends := f [(j : Int), e.num] }
def lendU (f : List Int → Int) (s : Shelf) (i k : Nat) : Shelf := ⟨s.next, s.tables.mapIdx fun j t => ⟨t.next, t.entries.mapIdx fun l e => if j < i ∨ (j = i ∧ l < k) then lendE f j e else e⟩, s.things⟩
def Shelf.relend (s : Shelf) : Shelf := lendU (leF s.all) s s.tables.length 0
theorem lendU_len {f : List Int → Int} {s : Shelf} {i k : Nat} : (lendU f s i k).tables.length = s.tables.length := List.length_mapIdx
theorem lendU_tab {f : List Int → Int} {s : Shelf} {i k j : Nat} : (lendU f s i k).tables.getD j default = ⟨(s.tables.getD j default).next, (s.tables.getD j default).entries.mapIdx fun l e => if j < i ∨ (j = i ∧ l < k) then lendE f j e else e⟩ := by
  unfold lendU
  dsimp only
  rw [List.getD_eq_getElem?_getD, List.getElem?_mapIdx, List.getD_eq_getElem?_getD]
  cases s.tables[j]? with
  | none => rfl
  | some t => rfl
theorem lendU_elen {f : List Int → Int} {s : Shelf} {i k j : Nat} : ((lendU f s i k).tables.getD j default).entries.length = (s.tables.getD j default).entries.length := by
  rw [lendU_tab]
  exact List.length_mapIdx
theorem lendU_ent {f : List Int → Int} {s : Shelf} {i k j l : Nat} (hl : l < (s.tables.getD j default).entries.length) : ((lendU f s i k).tables.getD j default).entries.getD l default = if j < i ∨ (j = i ∧ l < k) then lendE f j ((s.tables.getD j default).entries.getD l default) else (s.tables.getD j default).entries.getD l default := by
  rw [lendU_tab]
  dsimp only
  generalize (s.tables.getD j default).entries = es at hl ⊢
  rw [List.getD_eq_getElem?_getD, List.getElem?_mapIdx, List.getD_eq_getElem?_getD, List.getElem?_eq_getElem hl]
  rfl
theorem table_ext {a b : Table} (h1 : a.next = b.next) (h2 : a.entries.length = b.entries.length) (h3 : ∀ k, k < a.entries.length → a.entries.getD k default = b.entries.getD k default) : a = b := by
  obtain ⟨n, l⟩ := a
  obtain ⟨m, l'⟩ := b
  dsimp only at h1 h2 h3
  subst h1
  rw [list_ext h2 h3]
theorem lendU_next0 {f : List Int → Int} {s : Shelf} {i k j : Nat} : ((lendU f s i k).tables.getD j default).next = (s.tables.getD j default).next := by rw [lendU_tab]
theorem lendU_congr {f : List Int → Int} {s : Shelf} {i k i' k' : Nat} (h : ∀ j l, j < s.tables.length → l < (s.tables.getD j default).entries.length → ((j < i ∨ (j = i ∧ l < k)) ↔ (j < i' ∨ (j = i' ∧ l < k')))) : lendU f s i k = lendU f s i' k' := by
  refine shelf_ext rfl rfl (lendU_len.trans lendU_len.symm) fun j hj => ?_
  rw [lendU_len] at hj
  refine table_ext (lendU_next0.trans lendU_next0.symm) (lendU_elen.trans lendU_elen.symm) fun l hl => ?_
  rw [lendU_elen] at hl
  rw [lendU_ent hl, lendU_ent hl]
  by_cases c : j < i ∨ (j = i ∧ l < k)
  · rw [if_pos c, if_pos ((h j l hj hl).1 c)]
  · rw [if_neg c, if_neg (fun q => c ((h j l hj hl).2 q))]
theorem lendU_zero {f : List Int → Int} {s : Shelf} : lendU f s 0 0 = s := by
  refine shelf_ext rfl rfl lendU_len fun j hj => ?_
  refine table_ext lendU_next0 lendU_elen fun l hl => ?_
  rw [lendU_elen] at hl
  rw [lendU_ent hl, if_neg (by omega)]
theorem lendU_next {f : List Int → Int} {s : Shelf} {i k : Nat} (h : ¬ k < (s.tables.getD i default).entries.length) : lendU f s i k = lendU f s (i + 1) 0 := lendU_congr fun j l _ hl => by
  by_cases e : j = i
  · subst e; omega
  · omega
theorem lendU_end {f : List Int → Int} {s : Shelf} {i : Nat} (h : ¬ i < s.tables.length) : lendU f s i 0 = lendU f s s.tables.length 0 := lendU_congr fun j l hj _ => by omega
theorem lendU_step {f : List Int → Int} {s : Shelf} {i k : Nat} (hi : i < s.tables.length) (hk : k < (s.tables.getD i default).entries.length) {v : Int} (hv : v = f [(i : Int), ((s.tables.getD i default).entries.getD k default).num]) : (lendU f s i k).setL i k v = lendU f s i (k + 1) := by
  subst hv
  have hi' : i < (lendU f s i k).tables.length := by rw [lendU_len]; exact hi
  have hk' : k < ((lendU f s i k).tables.getD i default).entries.length := by rw [lendU_elen]; exact hk
  unfold Shelf.setL
  refine shelf_ext rfl rfl (by rw [setE_len, lendU_len, lendU_len]) fun j hj => ?_
  rw [setE_len, lendU_len] at hj
  rw [setE_at hi']
  split
  · rename_i e
    subst e
    refine table_ext (lendU_next0.trans lendU_next0.symm) (by rw [setLd_len, lendU_elen, lendU_elen]) fun l hl => ?_
    rw [setLd_len, lendU_elen] at hl
    unfold setLd
    rw [getD_set hk', lendU_ent hl, lendU_ent hk]
    by_cases e : l = k
    · subst e
      rw [if_pos rfl, if_neg (by omega), lendU_ent hl, if_pos (by omega)]
      rfl
    · rw [if_neg e, lendU_ent hl]
      by_cases c : j < j ∨ (j = j ∧ l < k)
      · rw [if_pos c, if_pos (by omega)]
      · rw [if_neg c, if_neg (by omega)]
  · rename_i e
    refine table_ext (lendU_next0.trans lendU_next0.symm) (lendU_elen.trans lendU_elen.symm) fun l hl => ?_
    rw [lendU_elen] at hl
    rw [lendU_ent hl, lendU_ent hl]
    by_cases c : j < i ∨ (j = i ∧ l < k)
    · rw [if_pos c, if_pos (by omega)]
    · rw [if_neg c, if_neg (by omega)]
theorem lendU_ok {f : List Int → Int} {s : Shelf} (h : s.ok) {i k : Nat} : (lendU f s i k).ok := ⟨⟨by rw [lendU_len]; exact h.1.1, fun j hj => ⟨by rw [lendU_elen]; exact entLe h j, fun _ _ => trivial⟩⟩, h.2⟩
theorem fold_idx {g : (List Int → Int) → Entry → (List Int → Int)} (F : Nat → Entry → Entry) (hF : ∀ f l e, g f (F l e) = g f e) : ∀ (l : List Entry) (n : Nat) (f : List Int → Int), (l.mapIdx fun i e => F (n + i) e).foldl g f = l.foldl g f
  | [], _, _ => rfl
  | a :: l, n, f => by
    rw [List.mapIdx_cons, List.foldl_cons, List.foldl_cons, hF]
    have := fold_idx F hF l (n + 1) (g f a)
    rw [← this]
    congr 1
    refine congrArg (fun q => List.mapIdx q l) ?_
    funext i e
    rw [show n + 1 + i = n + (i + 1) by omega]
theorem fold_flat {g : (List Int → Int) → Entry → (List Int → Int)} (F : Nat → Nat → Entry → Entry) (hF : ∀ f j l e, g f (F j l e) = g f e) : ∀ (ts : List Table) (n : Nat) (f : List Int → Int), ((ts.mapIdx fun j t => (⟨t.next, t.entries.mapIdx fun l e => F (n + j) l e⟩ : Table)).flatMap Table.entries).foldl g f = (ts.flatMap Table.entries).foldl g f
  | [], _, _ => rfl
  | t :: ts, n, f => by
    rw [List.mapIdx_cons, List.flatMap_cons, List.flatMap_cons, List.foldl_append, List.foldl_append]
    have h1 := fold_idx (g := g) (fun l e => F (n + 0) l e) (fun f l e => hF f _ l e) t.entries 0 f
    simp only [Nat.zero_add] at h1
    dsimp only
    rw [h1]
    have := fold_flat F hF ts (n + 1) (t.entries.foldl g f)
    rw [← this]
    congr 2
    refine congrArg (fun q => List.mapIdx q ts) ?_
    funext j t
    rw [show n + 1 + j = n + (j + 1) by omega]
theorem lendU_le {f : List Int → Int} {s : Shelf} {i k : Nat} : leF (lendU f s i k).all = leF s.all := by
  unfold leF Shelf.all lendU
  have := fold_flat (g := leStep) (fun j l e => if j < i ∨ (j = i ∧ l < k) then lendE f j e else e) (fun f' j l e => by split <;> rfl) s.tables 0 (fun _ => 0)
  simp only [Nat.zero_add] at this
  exact this
def scK (sc : Int) : Nat → Entry → Bool := fun _ e => e.own || !decide (e.scope = sc)
theorem scK_own {sc : Int} {i : Nat} {e : Entry} (h : e.own = true) : scK sc i e = true := by unfold scK; rw [h]; rfl
theorem scK_far {sc : Int} {i : Nat} {e : Entry} (h : ¬ e.scope = sc) : scK sc i e = true := by unfold scK; rw [decide_eq_false h]; cases e.own <;> rfl
theorem scK_not {sc : Int} {i : Nat} {e : Entry} (h : e.own = false) (h2 : e.scope = sc) : scK sc i e = false := by unfold scK; rw [h, h2, decide_eq_true rfl]; rfl
set_option maxHeartbeats 8000000 in
theorem l19End_ok (s : Shelf) (h : s.ok) (hg : s.good) (sc : Int) (S : Shelf) (hL : RetM env.P 107 [some (boxRow (s.keep (scK sc)).csO)] [.ptr 0 0 0] (fun r H => r = .tup [] ∧ H = [some (boxRow S.csO)])) : RetM env.P 98 [some (boxRow (s.keep (untilK (scK sc) 0)).csO)] [.ptr 0 0 0, .i .i64 sc] (fun r H => r = .tup [] ∧ H = [some (boxRow S.csO)]) := by
  have hl : s.tables.length ≤ 1048576 := h.1.1
  have h7 := hg.2.1.2
  refine ret_ofM (nt := 64) (rvs := []) Tryz.func98 rfl rfl rfl rfl (fun X hX => ?_)
  repeat' (first | exact aa | ((conv => whnf) <;> (first | (refine loopTF 4 (fun i : Nat => [(4, .i .i64 i)]) (fun i => [some (.box (s.keep (untilK (scK sc) i)).csO)]) (fun i => i ≤ s.tables.length) (fun i => s.tables.length - i) 0 rfl ⟨Nat.zero_le _, ?_⟩) | refine And.intro ?_ ?_ | (intro _h; first | contradiction | (try simp only [dd] at _h)) | (refine dt_go ?_) | exact rfl | exact True.intro | exact dkk | exact dks | (refine wrap_succ ?_; omega))))
  · rename_i i _
    have hTl := keep_len (s := s) (K := untilK (scK sc) i)
    have hi : i < s.tables.length := by omega
    conv => whnf
    · have hik : i < (s.keep (untilK (scK sc) i)).tables.length := by omega
      have he : ((s.keep (untilK (scK sc) i)).tables.getD i default).entries.length ≤ 1048576 := entLe (keep_ok h) i
      refine lw_turn _ (turn_close (id := 0) (i := 0) (j := 1) (id' := 1) rfl (show 0 < 1 by decide) (show 1 < 3 by decide) rfl rfl (show 0 ≠ 1 by decide) rfl (rowO_le (Nat.le_refl _))) ?_
      refine lw_turn _ (turn_box (id := 0) (ds := ((s.keep (untilK (scK sc) i))).csO) rfl rfl rfl (.cons (.refl _) (.cons (.refl _) (.cons (.refl _) .nil)))) ?_
      refine lw_del 17 ?_
      refine loopFT (fun k : Nat => [(6, .i .i64 k), (5, .row 2 ((((s.keep (untilK (scK sc) i)).tables.getD i default).entries.take k).filter (scK sc i)).length)]) (fun k => [none, none, some (.arr ⟨7, ((((s.keep (untilK (scK sc) i)).tables.getD i default).entries.take k).filter (scK sc i)).length, elE Entry.cs ((((s.keep (untilK (scK sc) i)).tables.getD i default).entries.take k).filter (scK sc i)), .arr⟩)]) (fun k => k ≤ ((s.keep (untilK (scK sc) i)).tables.getD i default).entries.length) (fun k => ((s.keep (untilK (scK sc) i)).tables.getD i default).entries.length - k) 0 ⟨Nat.zero_le _, ?_⟩
      repeat' (first | exact aa | ((conv => whnf) <;> (first | exact arr_zero rfl rfl | exact low_cells rfl | exact rho_keep hX _h | exact capB2 (Nat.le_trans filt_le he) (by decide) | exact capN2 (Nat.le_trans filt_le he) | (refine ld_skip rfl rfl rfl rfl upd_self ?_) | (refine bool_skip any_self ?_) | (first | rw [ld_self rfl] | rw [ld_selfA rfl]) | (refine roundET_turn (turn_close (id := 3) (i := i) (j := 1) (id' := 4) rfl hik (show 1 < 2 by decide) (by first | exact upd_self | exact rfl | (simp only [upd, Nat.beq_refl]; rfl)) rfl (show 3 ≠ 4 by decide) rfl (rowO_le (Nat.le_refl _))) ?_; refine roundET_turn (turn_eq (id := 3) (x := rowL 2 Table.csO ((s.keep (untilK (scK sc) i)).setE i ((s.keep (untilK (scK sc) i)).tables.getD i default).entries).tables) rfl rfl setE_len rfl rfl (setE_rows (l := ((s.keep (untilK (scK sc) i)).tables.getD i default).entries) hik rfl (fun i j _ _ => .refl _))) ?_; refine roundET_turn (turn_close (id := 0) (i := 0) (j := 1) (id' := 3) rfl (show 0 < 1 by decide) (show 1 < 3 by decide) rfl rfl (show 0 ≠ 3 by decide) rfl (rowO_le (Nat.le_of_eq setE_len.symm))) ?_; refine roundET_turn (turn_box (id := 0) (ds := ((s.keep (untilK (scK sc) i))).csO) rfl rfl rfl (.cons (.refl _) (.cons (OwEq.len rfl (fun i j _ _ => HoldC.h _ j) (fun i j _ _ => by rw [setE_self]; exact .refl _)) (.cons (.refl _) .nil)))) ?_; refine roundET_end ?_) | refine And.intro ?_ ?_ | (intro _h; first | contradiction | (try simp only [dd] at _h)) | (refine dt_go ?_) | exact rfl | exact True.intro | exact dkk | exact dks | (refine wrap_succ ?_; omega))))
      · rename_i k _ hlt ho
        have hk : k < ((s.keep (untilK (scK sc) i)).tables.getD i default).entries.length := Int.ofNat_lt.1 hlt
        have hc := filt_yes (p := scK sc i) hk (scK_far _h)
        have hlen : ((((s.keep (untilK (scK sc) i)).tables.getD i default).entries.take (k + 1)).filter (scK sc i)).length = ((((s.keep (untilK (scK sc) i)).tables.getD i default).entries.take k).filter (scK sc i)).length + 1 := by rw [hc, List.length_append]; rfl
        refine ⟨k + 1, [0, 1, 7], hk, (show ((s.keep (untilK (scK sc) i)).tables.getD i default).entries.length - (k + 1) < ((s.keep (untilK (scK sc) i)).tables.getD i default).entries.length - k by omega), ?_⟩
        repeat' (first | exact aa | ((conv => whnf) <;> (first | exact arr_zero rfl rfl | exact low_cells rfl | exact rho_keep hX _h | exact capB2 (Nat.le_trans filt_le he) (by decide) | exact capN2 (Nat.le_trans filt_le he) | (refine ld_skip rfl rfl rfl rfl upd_self ?_) | (refine bool_skip any_self ?_) | (first | rw [ld_self rfl] | rw [ld_selfA rfl]) | exact hlen | exact hlen.symm | exact arr_snoc hc rfl hlen.symm hlen (fun a j => low_cells rfl) (fun j hj => rfl) | refine And.intro ?_ ?_ | (intro _h; first | contradiction | (try simp only [dd] at _h)) | (refine dt_go ?_) | exact rfl | exact True.intro | exact dkk | exact dks | (refine wrap_succ ?_; omega))))
      · rename_i k _ hlt ho
        have hk : k < ((s.keep (untilK (scK sc) i)).tables.getD i default).entries.length := Int.ofNat_lt.1 hlt
        have hc := filt_no (p := scK sc i) hk (scK_not ho _h)
        have hlen : ((((s.keep (untilK (scK sc) i)).tables.getD i default).entries.take (k + 1)).filter (scK sc i)).length = ((((s.keep (untilK (scK sc) i)).tables.getD i default).entries.take k).filter (scK sc i)).length := by rw [hc]
        refine ⟨k + 1, [], hk, (show ((s.keep (untilK (scK sc) i)).tables.getD i default).entries.length - (k + 1) < ((s.keep (untilK (scK sc) i)).tables.getD i default).entries.length - k by omega), ?_⟩
        repeat' (first | exact aa | ((conv => whnf) <;> (first | exact arr_zero rfl rfl | exact low_cells rfl | exact rho_keep hX _h | exact capB2 (Nat.le_trans filt_le he) (by decide) | exact capN2 (Nat.le_trans filt_le he) | (refine ld_skip rfl rfl rfl rfl upd_self ?_) | (refine bool_skip any_self ?_) | (first | rw [ld_self rfl] | rw [ld_selfA rfl]) | exact hlen | exact hlen.symm | exact arr_same hc hlen.symm (fun a j => low_cells rfl) | refine And.intro ?_ ?_ | (intro _h; first | contradiction | (try simp only [dd] at _h)) | (refine dt_go ?_) | exact rfl | exact True.intro | exact dkk | exact dks | (refine wrap_succ ?_; omega))))
      · rename_i k _ hlt
        have hk : k < ((s.keep (untilK (scK sc) i)).tables.getD i default).entries.length := Int.ofNat_lt.1 hlt
        have hc := filt_yes (p := scK sc i) hk (scK_own _h)
        have hlen : ((((s.keep (untilK (scK sc) i)).tables.getD i default).entries.take (k + 1)).filter (scK sc i)).length = ((((s.keep (untilK (scK sc) i)).tables.getD i default).entries.take k).filter (scK sc i)).length + 1 := by rw [hc, List.length_append]; rfl
        refine ⟨k + 1, [0, 1, 7], hk, (show ((s.keep (untilK (scK sc) i)).tables.getD i default).entries.length - (k + 1) < ((s.keep (untilK (scK sc) i)).tables.getD i default).entries.length - k by omega), ?_⟩
        repeat' (first | exact aa | ((conv => whnf) <;> (first | exact arr_zero rfl rfl | exact low_cells rfl | exact rho_keep hX _h | exact capB2 (Nat.le_trans filt_le he) (by decide) | exact capN2 (Nat.le_trans filt_le he) | (refine ld_skip rfl rfl rfl rfl upd_self ?_) | (refine bool_skip any_self ?_) | (first | rw [ld_self rfl] | rw [ld_selfA rfl]) | exact hlen | exact hlen.symm | exact arr_snoc hc rfl hlen.symm hlen (fun a j => low_cells rfl) (fun j hj => rfl) | refine And.intro ?_ ?_ | (intro _h; first | contradiction | (try simp only [dd] at _h)) | (refine dt_go ?_) | exact rfl | exact True.intro | exact dkk | exact dks | (refine wrap_succ ?_; omega))))
      · conv => whnf
        rename_i k _
        have hk : ¬ k < ((s.keep (untilK (scK sc) i)).tables.getD i default).entries.length := fun q => _h (Int.ofNat_lt.2 q)
        have hU : (s.keep (untilK (scK sc) i)).setE i ((((s.keep (untilK (scK sc) i)).tables.getD i default).entries.take k).filter (scK sc i)) = (s.keep (untilK (scK sc) (i + 1))) := by
          rw [List.take_of_length_le (Nat.le_of_not_lt hk), show (s.keep (untilK (scK sc) i)).tables.getD i default = s.tables.getD i default from until_at (Nat.le_refl _)]
          exact until_succ hi
        refine roundET_turn (turn_close (id := 3) (i := i) (j := 1) (id' := 2) rfl hik (show 1 < 2 by decide) (by first | exact upd_self | exact rfl | (simp only [upd, Nat.beq_refl]; rfl)) rfl (show 3 ≠ 2 by decide) rfl (rowO_le (Nat.le_refl _))) ?_
        refine roundET_turn (turn_eq (id := 3) (x := rowL 2 Table.csO ((s.keep (untilK (scK sc) i)).setE i ((((s.keep (untilK (scK sc) i)).tables.getD i default).entries.take k).filter (scK sc i))).tables) rfl rfl setE_len rfl rfl (setE_rows3 (l := ((((s.keep (untilK (scK sc) i)).tables.getD i default).entries.take k).filter (scK sc i))) hik rfl (fun i j _ _ => .refl _))) ?_
        refine roundET_turn (turn_close (id := 0) (i := 0) (j := 1) (id' := 3) rfl (show 0 < 1 by decide) (show 1 < 3 by decide) rfl rfl (show 0 ≠ 3 by decide) rfl (rowO_le (Nat.le_of_eq setE_len.symm))) ?_
        refine roundET_turn (turn_box (id := 0) (ds := (s.keep (untilK (scK sc) (i + 1))).csO) rfl rfl rfl (by rw [← hU]; exact (.cons (.refl _) (.cons (OwEq.len setE_len.symm (fun i j _ _ => HoldC.h _ j) (fun i j _ _ => .refl _)) (.cons (.refl _) .nil))))) ?_
        refine roundET_end ?_
        refine ⟨i + 1, [], hi, (show s.tables.length - (i + 1) < s.tables.length - i by omega), ?_⟩
        repeat' (first | exact aa | ((conv => whnf) <;> (first | exact arr_zero rfl rfl | exact low_cells rfl | exact rho_keep hX _h | exact capB2 (Nat.le_trans filt_le he) (by decide) | exact capN2 (Nat.le_trans filt_le he) | (refine ld_skip rfl rfl rfl rfl upd_self ?_) | (refine bool_skip any_self ?_) | (first | rw [ld_self rfl] | rw [ld_selfA rfl]) | refine And.intro ?_ ?_ | (intro _h; first | contradiction | (try simp only [dd] at _h)) | (refine dt_go ?_) | exact rfl | exact True.intro | exact dkk | exact dks | (refine wrap_succ ?_; omega))))
  · rename_i i _
    have hTl := keep_len (s := s) (K := untilK (scK sc) i)
    have hn : ¬ i < s.tables.length := by omega
    rw [← until_end (K := scK sc) hn] at hL
    repeat' (first | exact aa | ((conv => whnf) <;> (first | (refine .inr (.inr ⟨[some (boxRow (s.keep (untilK (scK sc) i)).csO), none], (by intro X; refine Turn.trans (turn_close (id := 0) (i := 0) (j := 1) (id' := 1) rfl (show 0 < 1 by decide) (show 1 < 3 by decide) rfl rfl (show 0 ≠ 1 by decide) rfl (rowO_le (Nat.le_refl _))) ?_; exact turn_box (id := 0) (ds := ((s.keep (untilK (scK sc) i))).csO) rfl rfl rfl (.cons (.refl _) (.cons (.refl _) (.cons (.refl _) .nil)))), (fun i _ q => (by cases q)), .inl ⟨[0], _, _, _, hL, (view_of rfl (.cons rfl (.self (rowPl_box rfl)) .nil)), ⟨rfl, rfl⟩, ?_⟩⟩); rintro _ _ ⟨rfl, rfl⟩; refine ⟨rfl, _, (lok_pl (.cons (rowPl_box rfl) .nil)), ?_⟩) | refine And.intro ?_ ?_ | (intro _h; first | contradiction | (try simp only [dd] at _h)) | (refine dt_go ?_) | exact rfl | exact True.intro | exact dkk | exact dks | (refine wrap_succ ?_; omega))))
    conv => whnf
    exact endM_pick [0] [some (boxRow S.csO)] (.tup []) (view_of rfl (.cons rfl (.self (rowPl_box rfl)) .nil)) rfl rfl (by rw [hX]; exact keepK (n := 1) rfl rfl) ⟨rfl, rfl⟩
theorem self_not {s : Shelf} {e : Entry} (ho : e.own = false) (h : s.orig e = some e) : ∀ n, s.sEnds n e = false
  | 0 => rfl
  | n + 1 => by
    rw [Shelf.sEnds_on ho h rfl]
    exact self_not ho h n
theorem orig_some {s : Shelf} (h : s.good) {who num : Int} {e : Entry} (he : s.at_ who num = some e) (ho : e.own = false) : (∃ x, s.orig e = some x) ∧ ¬ (e.from_.toNat = who.toNat ∧ e.fromNum = num) := by
  obtain ⟨h1, h2, k, h3, h4⟩ := at_in he
  obtain ⟨n, hn⟩ := shelf_ends h.tidy _ k h1 h3
  rw [h4] at hn
  have hx : ∃ x, s.orig e = some x := by
    cases n with
    | zero => cases hn
    | succ n =>
      cases hx : s.orig e with
      | none => rw [Shelf.sEnds_none ho hx] at hn; cases hn
      | some x => exact ⟨x, rfl⟩
  refine ⟨hx, fun ⟨q1, q2⟩ => ?_⟩
  obtain ⟨x, hx⟩ := hx
  have : x = e := by
    have hx' := hx
    unfold Shelf.orig at hx'
    rw [at_eq] at hx' he
    split at hx'
    · split at he
      · rw [q1, q2, he] at hx'
        exact (Option.some.inj hx').symm
      · cases he
    · cases hx'
  subst this
  rw [self_not ho hx] at hn
  cases hn
theorem find_ne {num m : Int} (hne : ¬ m = num) : ∀ l : List Entry, (cutL num l).find? (numP m) = l.find? (numP m)
  | [] => rfl
  | a :: l => by
    unfold cutL
    rw [List.filter_cons, List.find?_cons]
    have ih := find_ne hne l
    unfold cutL at ih
    by_cases e : a.num = num
    · have e1 : (!numP num a) = false := by simp [numP, e]
      have e2 : numP m a = false := by simp only [numP, e, decide_eq_false_iff_not]; exact fun q => hne q.symm
      rw [e1, e2]
      exact ih
    · have e1 : (!numP num a) = true := by simp [numP, e]
      rw [e1, if_pos rfl, List.find?_cons, ih]
theorem cut_at_other {s : Shelf} {w : Nat} {num who m : Int} (hw : w < s.tables.length) (hne : ¬ (who.toNat = w ∧ m = num)) : (s.cut w num).at_ who m = s.at_ who m := by
  have hT : (s.cut w num).isT who = s.isT who := by unfold Shelf.isT Shelf.cut; rw [setE_len]
  rw [at_eq, at_eq, hT]
  unfold Shelf.cut
  rw [setE_at hw]
  split
  · split
    · rename_i e
      rw [e, find_ne fun q => hne ⟨e, q⟩]
    · rfl
  · rfl
theorem at_posD {s : Shelf} {who m : Int} {x : Entry} (h : s.at_ who m = some x) : (0 ≤ who ∧ who < (s.tables.length : Int)) ∧ ∃ p, (s.tables.getD who.toNat default).find m = some p ∧ (s.tables.getD who.toNat default).entries.getD p default = x := by
  by_cases hw : 0 ≤ who ∧ who < (s.tables.length : Int)
  · refine ⟨hw, ?_⟩
    rw [at_find hw] at h
    obtain ⟨p, h1, h2⟩ := Option.map_eq_some_iff.1 h
    exact ⟨p, h1, h2⟩
  · rw [at_out hw] at h
    cases h
theorem last_none {id : Int} : ∀ {l : List Thing} {o : Thing}, (∀ x ∈ l, ¬ x.id = id) → l.foldl (fun o x => if x.id = id then x else o) o = o
  | [], _, _ => rfl
  | a :: l, o, h => by
    rw [List.foldl_cons, if_neg (h a (by simp))]
    exact last_none fun x hx => h x (by simp [hx])
def uniqX (l : List Thing) : Prop := ∀ i j, i < l.length → j < l.length → (l.getD i default).id = (l.getD j default).id → i = j
theorem cutX_none {id : Int} {l : List Thing} (h : ∀ x ∈ l, ¬ x.id = id) : cutX id l = l := List.filter_eq_self.2 fun x hx => by simp [idP, h x hx]
theorem cutX_erase {id : Int} : ∀ {l : List Thing} {q : Nat}, uniqX l → l.findIdx? (idP id) = some q → cutX id l = l.eraseIdx q ∧ lastX id l = l.getD q default ∧ q < l.length
  | [], q, _, h => by cases h
  | a :: l, q, hu, h => by
    have hu2 : uniqX l := fun i j hi hj e => by
      have := hu (i + 1) (j + 1) (by simpa using hi) (by simpa using hj) (by simpa using e)
      omega
    rw [List.findIdx?_cons] at h
    by_cases e : a.id = id
    · have ea : idP id a = true := by simp [idP, e]
      rw [ea, if_pos rfl] at h
      cases h
      have hn : ∀ x ∈ l, ¬ x.id = id := fun x hx e2 => by
        obtain ⟨k, hk⟩ := List.getElem?_of_mem hx
        have := hu (k + 1) 0 (by simpa using (List.getElem?_eq_some_iff.1 hk).1) (by simp) (by
          rw [List.getD_eq_getElem?_getD]
          simp only [List.getElem?_cons_succ, hk, Option.getD_some]
          exact e2.trans e.symm)
        omega
      refine ⟨?_, ?_, by simp⟩
      · have : cutX id (a :: l) = cutX id l := by
          unfold cutX
          rw [List.filter_cons, ea]
          rfl
        rw [this, cutX_none hn]
        rfl
      · unfold lastX
        rw [List.foldl_cons, if_pos e, last_none hn]
        rfl
    · have ea : idP id a = false := by simp [idP, e]
      rw [ea] at h
      simp only [Bool.false_eq_true, if_false] at h
      obtain ⟨q', hq', rfl⟩ := Option.map_eq_some_iff.1 h
      obtain ⟨h1, h2, h3⟩ := cutX_erase hu2 hq'
      refine ⟨?_, ?_, by simpa using h3⟩
      · have : cutX id (a :: l) = a :: cutX id l := by
          unfold cutX
          rw [List.filter_cons, ea]
          rfl
        rw [this, h1]
        rfl
      · unfold lastX at h2 ⊢
        rw [List.foldl_cons, if_neg e, h2]
        simp
theorem good_ltX {s : Shelf} (h : s.goodT) : ∀ {i j : Nat}, i < j → j < s.things.length → (s.things.getD i default).id < (s.things.getD j default).id := by
  intro i j hij hj
  induction j with
  | zero => omega
  | succ j ih =>
    have h1 := (h.1 (j + 1) hj).1
    unfold prevId at h1
    rw [if_neg (by omega), Nat.add_sub_cancel] at h1
    rcases Nat.lt_or_eq_of_le (Nat.le_of_lt_succ hij) with q | rfl
    · have := ih q (by omega); omega
    · exact h1
theorem good_uniqX {s : Shelf} (h : s.goodT) : uniqX s.things := fun i j hi hj e => by
  rcases Nat.lt_trichotomy i j with q | q | q
  · have := good_ltX h q hj; omega
  · exact q
  · have := good_ltX h q hi; omega
set_option maxHeartbeats 2000000 in
theorem l19Drop_none (s : Shelf) (h : s.ok) (who num : Int) (hg : s.good) (hw : 0 ≤ who ∧ who < (s.tables.length : Int)) (hE : s.at_ who num = none) : RetM env.P 72 [some (boxRow s.csO)] [.ptr 0 0 0, .i .i64 who, .i .i64 num] (fun r H => r = .tup [.agg [.i .i64 0, .i .i64 0, .i .i64 0], .i .i64 11] ∧ H = [some (boxRow s.csO)]) := by
  have hl : s.tables.length ≤ 1048576 := h.1.1
  have hw2 : who.toNat < s.tables.length := by omega
  have h7 := hg.2.1.2
  have he := entLe h who.toNat
  refine ret_ofM (nt := 63) (rvs := [.cell 6 37, .tmp 7]) Tryz.func72 rfl rfl rfl rfl (fun X hX => ?_)
  repeat' (first | exact aa | ((conv => whnf) <;> (first | ((first | refine .inl ⟨_, Ret.wka (l19At_ok s h who num), ?_⟩ | refine ⟨_, Ret.wka (l19At_ok s h who num), ?_⟩); (try rintro _ rfl); rw [hE]; simp only [entR]) | refine And.intro ?_ ?_ | (intro _h; first | contradiction | (try simp only [dd] at _h)) | (refine dt_go ?_) | exact rfl | exact True.intro | exact dkk | exact dks | (refine wrap_succ ?_; omega))))
  all_goals (first | contradiction | skip)
  all_goals (conv => whnf)
  all_goals exact endM_pick [0] [some (boxRow (s).csO)] (.tup [.agg [.i .i64 0, .i .i64 0, .i .i64 0], .i .i64 11]) (view_of rfl (.cons rfl (.self (rowPl_box rfl)) .nil)) rfl rfl (by rw [hX]; exact keepK (n := 1) rfl rfl) ⟨rfl, rfl⟩
set_option maxHeartbeats 2000000 in
theorem l19Drop_lent (s : Shelf) (h : s.ok) (who num : Int) (hg : s.good) (hw : 0 ≤ who ∧ who < (s.tables.length : Int)) (n i ld sc fr fn : Int) (ow : Bool) (hE : s.at_ who num = some ⟨n, i, ow, ld, sc, fr, fn⟩) (hl0 : 0 < ld) : RetM env.P 72 [some (boxRow s.csO)] [.ptr 0 0 0, .i .i64 who, .i .i64 num] (fun r H => r = .tup [.agg [.i .i64 0, .i .i64 0, .i .i64 0], .i .i64 12] ∧ H = [some (boxRow s.csO)]) := by
  have hl : s.tables.length ≤ 1048576 := h.1.1
  have hw2 : who.toNat < s.tables.length := by omega
  have h7 := hg.2.1.2
  have he := entLe h who.toNat
  refine ret_ofM (nt := 63) (rvs := [.cell 6 37, .tmp 7]) Tryz.func72 rfl rfl rfl rfl (fun X hX => ?_)
  repeat' (first | exact aa | ((conv => whnf) <;> (first | ((first | refine .inl ⟨_, Ret.wka (l19At_ok s h who num), ?_⟩ | refine ⟨_, Ret.wka (l19At_ok s h who num), ?_⟩); (try rintro _ rfl); rw [hE]; simp only [entR]) | refine And.intro ?_ ?_ | (intro _h; first | contradiction | (try simp only [dd] at _h)) | (refine dt_go ?_) | exact rfl | exact True.intro | exact dkk | exact dks | (refine wrap_succ ?_; omega))))
  all_goals (first | contradiction | (dsimp only; omega) | (exfalso; omega) | skip)
  all_goals (conv => whnf)
  all_goals exact endM_pick [0] [some (boxRow (s).csO)] (.tup [.agg [.i .i64 0, .i .i64 0, .i .i64 0], .i .i64 12]) (view_of rfl (.cons rfl (.self (rowPl_box rfl)) .nil)) rfl rfl (by rw [hX]; exact keepK (n := 1) rfl rfl) ⟨rfl, rfl⟩
set_option maxHeartbeats 2000000 in
theorem l19Drop_own (s : Shelf) (h : s.ok) (who num : Int) (hg : s.good) (hw : 0 ≤ who ∧ who < (s.tables.length : Int)) (n i ld sc fr fn : Int) (hE : s.at_ who num = some ⟨n, i, true, ld, sc, fr, fn⟩) (hl0 : ¬ 0 < ld) : RetM env.P 72 [some (boxRow s.csO)] [.ptr 0 0 0, .i .i64 who, .i .i64 num] (fun r H => r = .tup [.agg (lastX i s.things).cs, .i .i64 0] ∧ H = [some (boxRow ((s.cut who.toNat num).cutT i).csO)]) := by
  have hl : s.tables.length ≤ 1048576 := h.1.1
  have hw2 : who.toNat < s.tables.length := by omega
  have h7 := hg.2.1.2
  have he := entLe h who.toNat
  refine ret_ofM (nt := 63) (rvs := [.cell 6 37, .tmp 7]) Tryz.func72 rfl rfl rfl rfl (fun X hX => ?_)
  repeat' (first | exact aa | ((conv => whnf) <;> (first | ((first | refine .inl ⟨_, Ret.wka (l19At_ok s h who num), ?_⟩ | refine ⟨_, Ret.wka (l19At_ok s h who num), ?_⟩); (try rintro _ rfl); rw [hE]; simp only [entR]) | refine And.intro ?_ ?_ | (intro _h; first | contradiction | (try simp only [dd] at _h)) | (refine dt_go ?_) | exact rfl | exact True.intro | exact dkk | exact dks | (refine .inr (.inl (.inl ⟨[0], _, _, _, l19Cut_ok s h who num hw h7, viewA, ⟨rfl, rfl⟩, ?_⟩)); rintro _ _ ⟨rfl, rfl⟩; refine ⟨rfl, _, lokA, ?_⟩) | (refine .inr (.inl (.inl ⟨[0], _, _, _, l19CutThing_ok (s.cut who.toNat num) (cut_ok h) _, viewA, ⟨rfl, rfl⟩, ?_⟩)); rintro _ _ ⟨rfl, rfl⟩; refine ⟨rfl, _, lokA, ?_⟩) | (refine wrap_succ ?_; omega))))
  all_goals (first | contradiction | (dsimp only; omega) | (exfalso; omega) | skip)
  all_goals (conv => whnf)
  all_goals exact endM_pick [0] [some (boxRow ((s.cut who.toNat num).cutT i).csO)] (.tup [.agg (lastX i s.things).cs, .i .i64 0]) (view_of rfl (.cons rfl (.self (rowPl_box rfl)) .nil)) rfl rfl (by rw [hX]; exact keepK (n := 1) rfl rfl) ⟨rfl, rfl⟩
set_option maxHeartbeats 2000000 in
theorem l19Drop_borS (s : Shelf) (h : s.ok) (who num : Int) (hg : s.good) (hw : 0 ≤ who ∧ who < (s.tables.length : Int)) (n i ld sc fr fn : Int) (hE : s.at_ who num = some ⟨n, i, false, ld, sc, fr, fn⟩) (hl0 : ¬ 0 < ld) (hf : 0 ≤ fr ∧ fr < (s.tables.length : Int)) (p : Nat) (hp : ((s.cut who.toNat num).tables.getD fr.toNat default).find fn = some p) : RetM env.P 72 [some (boxRow s.csO)] [.ptr 0 0 0, .i .i64 who, .i .i64 num] (fun r H => r = .tup [.agg [.i .i64 0, .i .i64 0, .i .i64 0], .i .i64 0] ∧ H = [some (boxRow ((s.cut who.toNat num).setL fr.toNat p (IntKind.i64.wrap ((((s.cut who.toNat num).tables.getD fr.toNat default).entries.getD p default).lends - 1))).csO)]) := by
  have hl : s.tables.length ≤ 1048576 := h.1.1
  have hw2 : who.toNat < s.tables.length := by omega
  have h7 := hg.2.1.2
  have he := entLe h who.toNat
  have hlc : (s.cut who.toNat num).tables.length = s.tables.length := setE_len
  have hlc1 : (s.cut who.toNat num).tables.length ≤ 1048576 := by rw [hlc]; exact hl
  have hk2 : fr.toNat < (s.cut who.toNat num).tables.length := by rw [hlc]; omega
  have hlt : p < ((s.cut who.toNat num).tables.getD fr.toNat default).entries.length := (find_lt hp).1
  have hec : ((s.cut who.toNat num).tables.getD fr.toNat default).entries.length ≤ 1048576 := entLe (cut_ok h) _
  refine ret_ofM (nt := 63) (rvs := [.cell 6 37, .tmp 7]) Tryz.func72 rfl rfl rfl rfl (fun X hX => ?_)
  repeat' (first | exact aa | ((conv => whnf) <;> (first | ((first | refine .inl ⟨_, Ret.wka (l19At_ok s h who num), ?_⟩ | refine ⟨_, Ret.wka (l19At_ok s h who num), ?_⟩); (try rintro _ rfl); rw [hE]; simp only [entR]) | ((first | refine .inl ⟨_, Ret.wka (l19Entry_ok _ ((cut_ok h).1.2 fr.toNat hk2) fn), ?_⟩ | refine ⟨_, Ret.wka (l19Entry_ok _ ((cut_ok h).1.2 fr.toNat hk2) fn), ?_⟩); (try rintro _ rfl); rw [hp]; simp only [idxI]) | (refine dt_goN [0] rfl ?_) | (refine dt_goM [4] ?_) | (refine ld_skip rfl rfl rfl rfl upd_self ?_) | (refine bool_skip any_self ?_) | (first | rw [ld_self rfl] | rw [ld_selfA rfl]) | refine And.intro ?_ ?_ | (intro _h; first | contradiction | (try simp only [dd] at _h)) | (refine dt_go ?_) | exact rfl | exact True.intro | exact dkk | exact dks | (refine .inr (.inl (.inl ⟨[0], _, _, _, l19Cut_ok s h who num hw h7, viewA, ⟨rfl, rfl⟩, ?_⟩)); rintro _ _ ⟨rfl, rfl⟩; refine ⟨rfl, _, lokA, ?_⟩) | (refine wrap_succ ?_; omega))))
  all_goals (first | contradiction | (dsimp only; omega) | (exfalso; omega) | skip)
  all_goals (conv => whnf)
  all_goals refine endM_turn (by exact turn_close (id := 3) (i := fr.toNat) (j := 1) (id' := 4) rfl hk2 (show 1 < 2 by decide) (by exact upd_self) rfl (show 3 ≠ 4 by decide) rfl (by exact setLd_rowO (Nat.le_refl _))) ?_
  all_goals refine endM_turn (by exact turn_eq (id := 3) (x := rowL 2 Table.csO ((s.cut who.toNat num).setE fr.toNat (setLd ((s.cut who.toNat num).tables.getD fr.toNat default).entries p (IntKind.i64.wrap ((((s.cut who.toNat num).tables.getD fr.toNat default).entries.getD p default).lends - 1)))).tables) rfl rfl setE_len rfl rfl (setE_rows (l := (setLd ((s.cut who.toNat num).tables.getD fr.toNat default).entries p (IntKind.i64.wrap ((((s.cut who.toNat num).tables.getD fr.toNat default).entries.getD p default).lends - 1)))) hk2 setLd_len.symm (setLd_rows hlt))) ?_
  all_goals refine endM_turn (by exact turn_close (id := 0) (i := 0) (j := 1) (id' := 3) rfl (show 0 < 1 by decide) (show 1 < 3 by decide) rfl rfl (show 0 ≠ 3 by decide) rfl (rowO_le (Nat.le_of_eq setE_len.symm))) ?_
  all_goals refine endM_turn (by exact turn_box (id := 0) (ds := ((s.cut who.toNat num).setE fr.toNat (setLd ((s.cut who.toNat num).tables.getD fr.toNat default).entries p (IntKind.i64.wrap ((((s.cut who.toNat num).tables.getD fr.toNat default).entries.getD p default).lends - 1)))).csO) rfl rfl rfl (.cons (.refl _) (.cons (OwEq.len setE_len.symm (fun i j _ _ => HoldC.h _ j) (fun i j _ _ => .refl _)) (.cons (.refl _) .nil)))) ?_
  all_goals exact endM_pick [0] [some (boxRow (((s.cut who.toNat num).setL fr.toNat p (IntKind.i64.wrap ((((s.cut who.toNat num).tables.getD fr.toNat default).entries.getD p default).lends - 1)))).csO)] (.tup [.agg [.i .i64 0, .i .i64 0, .i .i64 0], .i .i64 0]) (view_of rfl (.cons rfl (.self (rowPl_box rfl)) .nil)) rfl rfl (by rw [hX]; exact keepK (n := 1) rfl rfl) ⟨rfl, rfl⟩
set_option maxHeartbeats 2000000 in
theorem originO_some (s : Shelf) (h : s.ok) (e : Entry) (hf : 0 ≤ e.from_ ∧ e.from_ < (s.tables.length : Int)) (q : Nat) (hq : (s.tables.getD e.from_.toNat default).find e.fromNum = some q) : RetM env.P 122 [some (boxRow s.csO)] [.ptr 0 0 0, .agg e.cs] (fun r H => r = .ptr 2 q 0 ∧ H = s.opened e.from_.toNat) := by
  refine ret_ofM (nt := 11) (rvs := [.tmp 4]) Tryz.func122 rfl rfl rfl rfl (fun X hX => ?_)
  repeat' (first | exact aa | ((conv => whnf) <;> (first | (refine .inr (.inl (.inl ⟨[0], _, _, _, entryO_some s h e.from_ e.fromNum hf q hq, (view_of rfl (.cons rfl (.self (rowPl_box rfl)) .nil)), ⟨rfl, rfl⟩, ?_⟩)); rintro _ _ ⟨rfl, rfl⟩; refine ⟨rfl, _, lok_open, ?_⟩) | refine And.intro ?_ ?_ | (intro _h; first | contradiction | (try simp only [dd] at _h)) | (refine dt_go ?_) | exact rfl | exact True.intro | exact dkk | exact dks | (refine wrap_succ ?_; omega))))
  all_goals (conv => whnf)
  all_goals exact endM_pick [0, 2, 3, 4] (s.opened e.from_.toNat) (.ptr 2 q 0) (view_open rfl rfl rfl rfl rfl) rfl rfl (by rw [hX]; exact keepK (n := 1) rfl rfl) ⟨rfl, rfl⟩
set_option maxHeartbeats 2000000 in
theorem drop_none (s : Shelf) (h : s.ok) (who num : Int) (hg : s.good) (hw : 0 ≤ who ∧ who < (s.tables.length : Int)) (hE : s.at_ who num = none) : RetM env.P 70 [some (boxRow s.csO)] [.ptr 0 0 0, .i .i64 who, .i .i64 num] (fun r H => r = .tup [.agg [.i .i64 0, .i .i64 0, .i .i64 0], .i .i64 11] ∧ H = [some (boxRow s.csO)]) := by
  have hl : s.tables.length ≤ 1048576 := h.1.1
  have hw2 : who.toNat < s.tables.length := by omega
  have h7 := hg.2.1.2
  have he := entLe h who.toNat
  refine ret_ofM (nt := 73) (rvs := [.cell 6 37, .tmp 7]) Tryz.func70 rfl rfl rfl rfl (fun X hX => ?_)
  repeat' (first | exact aa | ((conv => whnf) <;> (first | refine And.intro ?_ ?_ | (intro _h; first | contradiction | (try simp only [dd] at _h)) | (refine dt_go ?_) | exact rfl | exact True.intro | exact dkk | exact dks | (refine .inr (.inl (.inl ⟨[0], _, _, _, entryO_none s h who num hw hE, viewA, ⟨rfl, rfl⟩, ?_⟩)); rintro _ _ ⟨rfl, rfl⟩; refine ⟨rfl, _, lokA, ?_⟩) | (refine wrap_succ ?_; omega))))
  all_goals (first | contradiction | skip)
  all_goals (conv => whnf)
  all_goals exact endM_pick [0] [some (boxRow (s).csO)] (.tup [.agg [.i .i64 0, .i .i64 0, .i .i64 0], .i .i64 11]) (view_of rfl (.cons rfl (.self (rowPl_box rfl)) .nil)) rfl rfl (by rw [hX]; exact keepK (n := 1) rfl rfl) ⟨rfl, rfl⟩
set_option maxHeartbeats 2000000 in
theorem drop_lent (s : Shelf) (h : s.ok) (who num : Int) (hg : s.good) (hw : 0 ≤ who ∧ who < (s.tables.length : Int)) (q : Nat) (hq : (s.tables.getD who.toNat default).find num = some q) (hl0 : ¬ ((s.tables.getD who.toNat default).entries.getD q default).lends = 0) : RetM env.P 70 [some (boxRow s.csO)] [.ptr 0 0 0, .i .i64 who, .i .i64 num] (fun r H => r = .tup [.agg [.i .i64 0, .i .i64 0, .i .i64 0], .i .i64 12] ∧ H = [some (boxRow s.csO)]) := by
  have hl : s.tables.length ≤ 1048576 := h.1.1
  have hw2 : who.toNat < s.tables.length := by omega
  have h7 := hg.2.1.2
  have he := entLe h who.toNat
  refine ret_ofM (nt := 73) (rvs := [.cell 6 37, .tmp 7]) Tryz.func70 rfl rfl rfl rfl (fun X hX => ?_)
  repeat' (first | exact aa | ((conv => whnf) <;> (first | (refine .inr (.inl (.inl ⟨[0], _, _, _, entryO_some s h who num hw q hq, (view_of rfl (.cons rfl (.self (rowPl_box rfl)) .nil)), ⟨rfl, rfl⟩, ?_⟩)); rintro _ _ ⟨rfl, rfl⟩; refine ⟨rfl, _, lok_open, ?_⟩) | refine And.intro ?_ ?_ | (intro _h; first | contradiction | (try simp only [dd] at _h)) | (refine dt_go ?_) | exact rfl | exact True.intro | exact dkk | exact dks | (refine wrap_succ ?_; omega))))
  all_goals (first | contradiction | (dsimp only; omega) | (exfalso; omega) | skip)
  all_goals (conv => whnf)
  all_goals refine endM_turn (turn_close (id := 2) (i := who.toNat) (j := 1) (id' := 3) rfl hw2 (show 1 < 2 by decide) (by first | exact upd_self | (simp only [upd, Nat.beq_refl]; rfl) | (simp only [Shelf.rowT, upd, Nat.beq_refl]; rfl) | exact rowT_at) rfl (show 2 ≠ 3 by decide) rfl (rowO_le (Nat.le_refl _))) ?_
  all_goals refine endM_turn (turn_eq (id := 2) (x := rowL 2 Table.csO (s.setE who.toNat (s.tables.getD who.toNat default).entries).tables) rfl rfl setE_len rfl rfl (setE_rows (l := (s.tables.getD who.toNat default).entries) hw2 rfl (fun i j _ _ => .refl _))) ?_
  all_goals refine endM_turn (turn_close (id := 0) (i := 0) (j := 1) (id' := 2) rfl (show 0 < 1 by decide) (show 1 < 3 by decide) rfl rfl (show 0 ≠ 2 by decide) rfl (rowO_le (Nat.le_of_eq setE_len.symm))) ?_
  all_goals refine endM_turn (turn_close (id := 0) (i := 0) (j := 2) (id' := 4) rfl (show 0 < 1 by decide) (show 2 < 3 by decide) rfl rfl (show 0 ≠ 4 by decide) rfl (rowO_le (Nat.le_refl _))) ?_
  all_goals refine endM_turn (turn_box (id := 0) (ds := (s).csO) rfl rfl rfl (.cons (.refl _) (.cons (OwEq.len rfl (fun i j _ _ => HoldC.h _ j) (fun i j _ _ => by rw [setE_self]; exact .refl _)) (.cons (.refl _) .nil)))) ?_
  all_goals exact endM_pick [0] [some (boxRow (s).csO)] (.tup [.agg [.i .i64 0, .i .i64 0, .i .i64 0], .i .i64 12]) (view_of rfl (.cons rfl (.self (rowPl_box rfl)) .nil)) rfl rfl (by rw [hX]; exact keepK (n := 1) rfl rfl) ⟨rfl, rfl⟩
set_option maxHeartbeats 2000000 in
theorem drop_own (s : Shelf) (h : s.ok) (who num : Int) (hg : s.good) (hw : 0 ≤ who ∧ who < (s.tables.length : Int)) (q : Nat) (hq : (s.tables.getD who.toNat default).find num = some q) (ho : ((s.tables.getD who.toNat default).entries.getD q default).own = true) (hl0 : ((s.tables.getD who.toNat default).entries.getD q default).lends = 0) (qx : Nat) (hqx : s.thing ((s.tables.getD who.toNat default).entries.getD q default).id = some qx) (hqlt : qx < s.things.length) : RetM env.P 70 [some (boxRow s.csO)] [.ptr 0 0 0, .i .i64 who, .i .i64 num] (fun r H => r = .tup [.agg (s.things.getD qx default).cs, .i .i64 0] ∧ H = [some (boxRow (⟨s.next, (s.cut who.toNat num).tables, s.things.eraseIdx qx⟩ : Shelf).csO)]) := by
  have hl : s.tables.length ≤ 1048576 := h.1.1
  have hw2 : who.toNat < s.tables.length := by omega
  have h7 := hg.2.1.2
  have he := entLe h who.toNat
  have hl2 : s.things.length ≤ 1048576 := h.2.1
  have hqlt2 : qx < (s.cut who.toNat num).things.length := hqlt
  refine ret_ofM (nt := 73) (rvs := [.cell 6 37, .tmp 7]) Tryz.func70 rfl rfl rfl rfl (fun X hX => ?_)
  repeat' (first | exact aa | ((conv => whnf) <;> (first | (exfalso; have qq := ‹((s.tables.getD who.toNat default).entries.getD q default).own = false›; rw [ho] at qq; cases qq) | (refine .inr (.inl (.inl ⟨[0], _, _, _, entryO_some s h who num hw q hq, (view_of rfl (.cons rfl (.self (rowPl_box rfl)) .nil)), ⟨rfl, rfl⟩, ?_⟩)); rintro _ _ ⟨rfl, rfl⟩; refine ⟨rfl, _, lok_open, ?_⟩) | (refine .inr (.inr ⟨[some (boxRow s.csO), _, none, none, none, _], (by intro X; refine Turn.trans (turn_close (id := 2) (i := who.toNat) (j := 1) (id' := 3) rfl hw2 (show 1 < 2 by decide) (by first | exact upd_self | (simp only [upd, Nat.beq_refl]; rfl) | (simp only [Shelf.rowT, upd, Nat.beq_refl]; rfl) | exact rowT_at) rfl (show 2 ≠ 3 by decide) rfl (rowO_le (Nat.le_refl _))) ?_; refine Turn.trans (turn_eq (id := 2) (x := rowL 2 Table.csO (s.setE who.toNat (s.tables.getD who.toNat default).entries).tables) rfl rfl setE_len rfl rfl (setE_rows (l := (s.tables.getD who.toNat default).entries) hw2 rfl (fun i j _ _ => .refl _))) ?_; refine Turn.trans (turn_close (id := 0) (i := 0) (j := 1) (id' := 2) rfl (show 0 < 1 by decide) (show 1 < 3 by decide) rfl rfl (show 0 ≠ 2 by decide) rfl (rowO_le (Nat.le_of_eq setE_len.symm))) ?_; refine Turn.trans (turn_close (id := 0) (i := 0) (j := 2) (id' := 4) rfl (show 0 < 1 by decide) (show 2 < 3 by decide) rfl rfl (show 0 ≠ 4 by decide) rfl (rowO_le (Nat.le_refl _))) ?_; exact turn_box (id := 0) (ds := (s).csO) rfl rfl rfl (.cons (.refl _) (.cons (OwEq.len rfl (fun i j _ _ => HoldC.h _ j) (fun i j _ _ => by rw [setE_self]; exact .refl _)) (.cons (.refl _) .nil)))), (fun i _ q => (by cases q)), .inl ⟨[0], _, _, _, remove_ok s h who num hw h7 q hq, (view_of rfl (.cons rfl (.self (rowPl_box rfl)) .nil)), ⟨rfl, rfl⟩, ?_⟩⟩); rintro _ _ ⟨rfl, rfl⟩; refine ⟨rfl, _, (lok_pl (.cons (rowPl_box rfl) .nil)), ?_⟩) | ((first | refine .inl ⟨_, Ret.wka (thing_ok (s.cut who.toNat num) (cut_ok h) _), ?_⟩ | refine ⟨_, Ret.wka (thing_ok (s.cut who.toNat num) (cut_ok h) _), ?_⟩); (try rintro _ rfl); rw [show (s.cut who.toNat num).thing _ = some qx from hqx]; simp only [idxI]) | (refine .inr (.inl (.inl ⟨[6], _, _, _, deleteThing_ok s.things hl2 qx hqlt _ (wrap_in (by omega) (by omega)), (view_of rfl (.cons rfl (.self (rowPl_L fun _ => rfl)) .nil)), ⟨rfl, rfl⟩, ?_⟩)); rintro _ _ ⟨rfl, rfl⟩; refine ⟨rfl, _, lok_pl (.cons delX_row .nil), ?_⟩) | refine And.intro ?_ ?_ | (intro _h; first | contradiction | (try simp only [dd] at _h)) | (refine dt_go ?_) | exact rfl | exact True.intro | exact dkk | exact dks | (refine wrap_succ ?_; omega))))
  all_goals (first | contradiction | (dsimp only; omega) | (exfalso; omega) | skip)
  all_goals (conv => whnf)
  all_goals refine endM_turn (by exact turn_close (id := 0) (i := 0) (j := 2) (id' := 6) rfl (show 0 < 1 by decide) (show 2 < 3 by decide) rfl rfl (show 0 ≠ 6 by decide) rfl (by exact ⟨Nat.sub_le _ _, fun i j _ _ => delX_idf⟩)) ?_
  all_goals refine endM_turn (by exact turn_box (id := 0) (ds := (⟨s.next, (s.cut who.toNat num).tables, s.things.eraseIdx qx⟩ : Shelf).csO) rfl rfl rfl (.cons (.refl _) (.cons (.refl _) (.cons (OwEq.len (List.length_eraseIdx_of_lt hqlt).symm (fun i j _ _ => HoldC.h _ j) (fun i j hi _ => by show OwEq (delX qx s.things i j) _; unfold delX; rw [if_pos hi]; exact .refl _)) .nil)))) ?_
  all_goals exact endM_pick [0] [some (boxRow ((⟨s.next, (s.cut who.toNat num).tables, s.things.eraseIdx qx⟩ : Shelf)).csO)] (.tup [.agg (s.things.getD qx default).cs, .i .i64 0]) (view_of rfl (.cons rfl (.self (rowPl_box rfl)) .nil)) rfl rfl (by rw [hX]; exact keepK (n := 1) rfl rfl) ⟨rfl, rfl⟩
set_option maxHeartbeats 2000000 in
theorem drop_bor (s : Shelf) (h : s.ok) (who num : Int) (hg : s.good) (hw : 0 ≤ who ∧ who < (s.tables.length : Int)) (q : Nat) (hq : (s.tables.getD who.toNat default).find num = some q) (ho : ((s.tables.getD who.toNat default).entries.getD q default).own = false) (hl0 : ((s.tables.getD who.toNat default).entries.getD q default).lends = 0) (hf : 0 ≤ ((s.tables.getD who.toNat default).entries.getD q default).from_ ∧ ((s.tables.getD who.toNat default).entries.getD q default).from_ < (s.tables.length : Int)) (p : Nat) (hp : ((s.cut who.toNat num).tables.getD ((s.tables.getD who.toNat default).entries.getD q default).from_.toNat default).find ((s.tables.getD who.toNat default).entries.getD q default).fromNum = some p) : RetM env.P 70 [some (boxRow s.csO)] [.ptr 0 0 0, .i .i64 who, .i .i64 num] (fun r H => r = .tup [.agg [.i .i64 0, .i .i64 0, .i .i64 0], .i .i64 0] ∧ H = [some (boxRow ((s.cut who.toNat num).setL ((s.tables.getD who.toNat default).entries.getD q default).from_.toNat p (IntKind.i64.wrap ((((s.cut who.toNat num).tables.getD ((s.tables.getD who.toNat default).entries.getD q default).from_.toNat default).entries.getD p default).lends - 1))).csO)]) := by
  have hl : s.tables.length ≤ 1048576 := h.1.1
  have hw2 : who.toNat < s.tables.length := by omega
  have h7 := hg.2.1.2
  have he := entLe h who.toNat
  have hlc : (s.cut who.toNat num).tables.length = s.tables.length := setE_len
  have hk2 : ((s.tables.getD who.toNat default).entries.getD q default).from_.toNat < (s.cut who.toNat num).tables.length := by rw [hlc]; omega
  have hlt : p < ((s.cut who.toNat num).tables.getD ((s.tables.getD who.toNat default).entries.getD q default).from_.toNat default).entries.length := (find_lt hp).1
  refine ret_ofM (nt := 73) (rvs := [.cell 6 37, .tmp 7]) Tryz.func70 rfl rfl rfl rfl (fun X hX => ?_)
  repeat' (first | exact aa | ((conv => whnf) <;> (first | (exfalso; have qq := ‹((s.tables.getD who.toNat default).entries.getD q default).own = true›; rw [ho] at qq; cases qq) | (refine .inr (.inl (.inl ⟨[0], _, _, _, entryO_some s h who num hw q hq, (view_of rfl (.cons rfl (.self (rowPl_box rfl)) .nil)), ⟨rfl, rfl⟩, ?_⟩)); rintro _ _ ⟨rfl, rfl⟩; refine ⟨rfl, _, lok_open, ?_⟩) | (refine .inr (.inr ⟨[some (boxRow s.csO), _, none, none, none, _], (by intro X; refine Turn.trans (turn_close (id := 2) (i := who.toNat) (j := 1) (id' := 3) rfl hw2 (show 1 < 2 by decide) (by first | exact upd_self | (simp only [upd, Nat.beq_refl]; rfl) | (simp only [Shelf.rowT, upd, Nat.beq_refl]; rfl) | exact rowT_at) rfl (show 2 ≠ 3 by decide) rfl (rowO_le (Nat.le_refl _))) ?_; refine Turn.trans (turn_eq (id := 2) (x := rowL 2 Table.csO (s.setE who.toNat (s.tables.getD who.toNat default).entries).tables) rfl rfl setE_len rfl rfl (setE_rows (l := (s.tables.getD who.toNat default).entries) hw2 rfl (fun i j _ _ => .refl _))) ?_; refine Turn.trans (turn_close (id := 0) (i := 0) (j := 1) (id' := 2) rfl (show 0 < 1 by decide) (show 1 < 3 by decide) rfl rfl (show 0 ≠ 2 by decide) rfl (rowO_le (Nat.le_of_eq setE_len.symm))) ?_; refine Turn.trans (turn_close (id := 0) (i := 0) (j := 2) (id' := 4) rfl (show 0 < 1 by decide) (show 2 < 3 by decide) rfl rfl (show 0 ≠ 4 by decide) rfl (rowO_le (Nat.le_refl _))) ?_; exact turn_box (id := 0) (ds := (s).csO) rfl rfl rfl (.cons (.refl _) (.cons (OwEq.len rfl (fun i j _ _ => HoldC.h _ j) (fun i j _ _ => by rw [setE_self]; exact .refl _)) (.cons (.refl _) .nil)))), (fun i _ q => (by cases q)), .inl ⟨[0], _, _, _, remove_ok s h who num hw h7 q hq, (view_of rfl (.cons rfl (.self (rowPl_box rfl)) .nil)), ⟨rfl, rfl⟩, ?_⟩⟩); rintro _ _ ⟨rfl, rfl⟩; refine ⟨rfl, _, (lok_pl (.cons (rowPl_box rfl) .nil)), ?_⟩) | (refine .inr (.inl (.inl ⟨[0], _, _, _, originO_some (s.cut who.toNat num) (cut_ok h) ((s.tables.getD who.toNat default).entries.getD q default) (by rw [hlc]; exact hf) p hp, (view_of rfl (.cons rfl (.self (rowPl_box rfl)) .nil)), ⟨rfl, rfl⟩, ?_⟩)); rintro _ _ ⟨rfl, rfl⟩; refine ⟨rfl, _, lok_open, ?_⟩) | refine And.intro ?_ ?_ | (intro _h; first | contradiction | (try simp only [dd] at _h)) | (refine dt_go ?_) | exact rfl | exact True.intro | exact dkk | exact dks | (refine wrap_succ ?_; omega))))
  all_goals (first | contradiction | (dsimp only; omega) | (exfalso; omega) | skip)
  all_goals (conv => whnf)
  all_goals refine endM_turn (by exact turn_close (id := 6) (i := ((s.tables.getD who.toNat default).entries.getD q default).from_.toNat) (j := 1) (id' := 7) rfl hk2 (show 1 < 2 by decide) (by first | exact upd_self | (simp only [upd, Nat.beq_refl]; rfl) | (simp only [Shelf.rowT, upd, Nat.beq_refl]; rfl) | exact rowT_at) rfl (show 6 ≠ 7 by decide) rfl (by exact setLd_rowO (Nat.le_refl _))) ?_
  all_goals refine endM_turn (by exact turn_eq (id := 6) (x := rowL 2 Table.csO ((s.cut who.toNat num).setE ((s.tables.getD who.toNat default).entries.getD q default).from_.toNat (setLd ((s.cut who.toNat num).tables.getD ((s.tables.getD who.toNat default).entries.getD q default).from_.toNat default).entries p (IntKind.i64.wrap ((((s.cut who.toNat num).tables.getD ((s.tables.getD who.toNat default).entries.getD q default).from_.toNat default).entries.getD p default).lends - 1)))).tables) rfl rfl setE_len rfl rfl (setE_rows (l := (setLd ((s.cut who.toNat num).tables.getD ((s.tables.getD who.toNat default).entries.getD q default).from_.toNat default).entries p (IntKind.i64.wrap ((((s.cut who.toNat num).tables.getD ((s.tables.getD who.toNat default).entries.getD q default).from_.toNat default).entries.getD p default).lends - 1)))) hk2 setLd_len.symm (setLd_rows hlt))) ?_
  all_goals refine endM_turn (by exact turn_close (id := 0) (i := 0) (j := 1) (id' := 6) rfl (show 0 < 1 by decide) (show 1 < 3 by decide) rfl rfl (show 0 ≠ 6 by decide) rfl (rowO_le (Nat.le_of_eq setE_len.symm))) ?_
  all_goals refine endM_turn (by exact turn_close (id := 0) (i := 0) (j := 2) (id' := 8) rfl (show 0 < 1 by decide) (show 2 < 3 by decide) rfl rfl (show 0 ≠ 8 by decide) rfl (rowO_le (Nat.le_refl _))) ?_
  all_goals refine endM_turn (by exact turn_box (id := 0) (ds := ((s.cut who.toNat num).setE ((s.tables.getD who.toNat default).entries.getD q default).from_.toNat (setLd ((s.cut who.toNat num).tables.getD ((s.tables.getD who.toNat default).entries.getD q default).from_.toNat default).entries p (IntKind.i64.wrap ((((s.cut who.toNat num).tables.getD ((s.tables.getD who.toNat default).entries.getD q default).from_.toNat default).entries.getD p default).lends - 1)))).csO) rfl rfl rfl (.cons (.refl _) (.cons (OwEq.len setE_len.symm (fun i j _ _ => HoldC.h _ j) (fun i j _ _ => .refl _)) (.cons (.refl _) .nil)))) ?_
  all_goals exact endM_pick [0] [some (boxRow (((s.cut who.toNat num).setL ((s.tables.getD who.toNat default).entries.getD q default).from_.toNat p (IntKind.i64.wrap ((((s.cut who.toNat num).tables.getD ((s.tables.getD who.toNat default).entries.getD q default).from_.toNat default).entries.getD p default).lends - 1)))).csO)] (.tup [.agg [.i .i64 0, .i .i64 0, .i .i64 0], .i .i64 0]) (view_of rfl (.cons rfl (.self (rowPl_box rfl)) .nil)) rfl rfl (by rw [hX]; exact keepK (n := 1) rfl rfl) ⟨rfl, rfl⟩
end Go.Proofs.YthggkafdjnheeaaGreat
