/- Texts for VBorrowEndsP. -/
import Derived.Test.YtmglpojnoadgeaaVb32
namespace Go.Proofs.Ytmglpojnoadgeaa
open Go Go.RowKit
set_option linter.unusedVariables false
set_option linter.unusedSimpArgs false
def scK (sc : Int) : Nat → Entry → Bool := fun _ e => e.own || !decide (e.scope = sc)
theorem scK_own {sc : Int} {i : Nat} {e : Entry} (h : e.own = true) : scK sc i e = true := by unfold scK; rw [h]; rfl
theorem scK_far {sc : Int} {i : Nat} {e : Entry} (h : ¬ e.scope = sc) : scK sc i e = true := by unfold scK; rw [decide_eq_false h]; cases e.own <;> rfl
theorem scK_not {sc : Int} {i : Nat} {e : Entry} (h : e.own = false) (h2 : e.scope = sc) : scK sc i e = false := by unfold scK; rw [h, h2, decide_eq_true rfl]; rfl
set_option maxRecDepth 8000 in
set_option maxHeartbeats 8000000 in
theorem l19End_ok (s : Shelf) (h : s.ok) (hg : s.good) (sc : Int) (S : Shelf) (hL : RetM env.P 59 [some (boxRow (s.keep (scK sc)).csO)] [.ptr 0 0 0] (fun r H => r = .tup [] ∧ H = [some (boxRow S.csO)])) : RetM env.P 28 [some (boxRow (s.keep (untilK (scK sc) 0)).csO)] [.ptr 0 0 0, .i .i64 sc] (fun r H => r = .tup [] ∧ H = [some (boxRow S.csO)]) := by
  have hl : s.tables.length ≤ 1048576 := h.1.1
  have h7 := hg.2.1.2
  refine ret_ofM (nt := 64) (rvs := []) Try.func28 rfl rfl rfl rfl (fun X hX => ?_)
  repeat' (first | exact aa | ((conv => whnf) <;> (first | (refine loopTF 4 (fun i : Nat => [(4, .i .i64 i)]) (fun i => [some (.box (s.keep (untilK (scK sc) i)).csO)]) (fun i => i ≤ s.tables.length) (fun i => s.tables.length - i) 0 rfl ⟨Nat.zero_le _, ?_⟩) | refine And.intro ?_ ?_ | (intro _h; first | contradiction | (try simp only [dd] at _h)) | (refine dt_go ?_) | exact rfl | exact True.intro | exact dkk | exact dks | (refine wrap_succ ?_; omega))))
  · rename_i i _
    have hTl := keep_len (s := s) (K := untilK (scK sc) i)
    have hi : i < s.tables.length := by omega
    conv => whnf
    · have hik : i < (s.keep (untilK (scK sc) i)).tables.length := by omega
      have he : ((s.keep (untilK (scK sc) i)).tables.getD i default).entries.length ≤ 1048576 := entLe (keep_ok h) i
      refine lw_turn _ (turn_close (id := 0) (i := 0) (j := 1) (id' := 1) rfl (show 0 < 1 by decide) (show 1 < 3 by decide) rfl rfl (show 0 ≠ 1 by decide) rfl (rowO_le (Nat.le_refl _))) ?_
      refine lw_turn _ (turn_box (id := 0) (ds := ((s.keep (untilK (scK sc) i))).csO) rfl rfl rfl (.cons (.refl _) (.cons (.refl _) (.cons (.refl _) .nil)))) ?_
      refine lw_del 17 ?_
      refine loopFT (fun k : Nat => [(6, .i .i64 k), (5, .row 2 ((((s.keep (untilK (scK sc) i)).tables.getD i default).entries.take k).filter (scK sc i)).length)]) (fun k => [none, none, some (.arr ⟨7, ((((s.keep (untilK (scK sc) i)).tables.getD i default).entries.take k).filter (scK sc i)).length, elE Entry.cs ((((s.keep (untilK (scK sc) i)).tables.getD i default).entries.take k).filter (scK sc i)), .arr⟩)]) (fun k => k ≤ ((s.keep (untilK (scK sc) i)).tables.getD i default).entries.length) (fun k => ((s.keep (untilK (scK sc) i)).tables.getD i default).entries.length - k) 0 ⟨Nat.zero_le _, ?_⟩
      repeat' (first | exact aa | ((conv => whnf) <;> (first | exact arr_zero rfl rfl | exact low_cells rfl | exact rho_keep hX _h | exact capB2 (Nat.le_trans filt_le he) (by decide) | exact capN2 (Nat.le_trans filt_le he) | (refine ld_skip rfl rfl rfl rfl upd_self ?_) | (refine bool_skip any_self ?_) | (first | rw [ld_self rfl] | rw [ld_selfA rfl]) | (refine roundET_turn (turn_close (id := 3) (i := i) (j := 1) (id' := 4) rfl hik (show 1 < 2 by decide) (by first | exact upd_self | exact rfl | (simp only [upd, Nat.beq_refl]; rfl)) rfl (show 3 ≠ 4 by decide) rfl (rowO_le (Nat.le_refl _))) ?_; refine roundET_turn (turn_eq (id := 3) (x := rowL 2 Table.csO ((s.keep (untilK (scK sc) i)).setE i ((s.keep (untilK (scK sc) i)).tables.getD i default).entries).tables) rfl rfl setE_len rfl rfl (setE_rows (l := ((s.keep (untilK (scK sc) i)).tables.getD i default).entries) hik rfl (fun i j _ _ => .refl _))) ?_; refine roundET_turn (turn_close (id := 0) (i := 0) (j := 1) (id' := 3) rfl (show 0 < 1 by decide) (show 1 < 3 by decide) rfl rfl (show 0 ≠ 3 by decide) rfl (rowO_le (Nat.le_of_eq setE_len.symm))) ?_; refine roundET_turn (turn_box (id := 0) (ds := ((s.keep (untilK (scK sc) i))).csO) rfl rfl rfl (.cons (.refl _) (.cons (OwEq.len rfl (fun i j _ _ => HoldC.h _ j) (fun i j _ _ => by rw [setE_self]; exact .refl _)) (.cons (.refl _) .nil)))) ?_; refine roundET_end ?_) | refine And.intro ?_ ?_ | (intro _h; first | contradiction | (try simp only [dd] at _h)) | (refine dt_go ?_) | exact rfl | exact True.intro | exact dkk | exact dks | (refine wrap_succ ?_; omega))))
      · rename_i k _ hlt ho
        have hk : k < ((s.keep (untilK (scK sc) i)).tables.getD i default).entries.length := Int.ofNat_lt.1 hlt
        have hc := filt_yes (p := scK sc i) hk (scK_far _h)
        have hlen : ((((s.keep (untilK (scK sc) i)).tables.getD i default).entries.take (k + 1)).filter (scK sc i)).length = ((((s.keep (untilK (scK sc) i)).tables.getD i default).entries.take k).filter (scK sc i)).length + 1 := by rw [hc, List.length_append]; rfl
        refine ⟨k + 1, [0, 1, 7], hk, (show ((s.keep (untilK (scK sc) i)).tables.getD i default).entries.length - (k + 1) < ((s.keep (untilK (scK sc) i)).tables.getD i default).entries.length - k by omega), ?_⟩
        repeat' (first | exact aa | ((conv => whnf) <;> (first | exact arr_zero rfl rfl | exact low_cells rfl | exact rho_keep hX _h | exact capB2 (Nat.le_trans filt_le he) (by decide) | exact capN2 (Nat.le_trans filt_le he) | (refine ld_skip rfl rfl rfl rfl upd_self ?_) | (refine bool_skip any_self ?_) | (first | rw [ld_self rfl] | rw [ld_selfA rfl]) | exact hlen | exact hlen.symm | exact arr_snoc hc rfl hlen.symm hlen (fun a j => low_cells rfl) (fun j hj => rfl) | refine And.intro ?_ ?_ | (intro _h; first | contradiction | (try simp only [dd] at _h)) | (refine dt_go ?_) | exact rfl | exact True.intro | exact dkk | exact dks | (refine wrap_succ ?_; omega))))
      · rename_i k _ hlt ho
        have hk : k < ((s.keep (untilK (scK sc) i)).tables.getD i default).entries.length := Int.ofNat_lt.1 hlt
        have hc := filt_no (p := scK sc i) hk (scK_not ho _h)
        have hlen : ((((s.keep (untilK (scK sc) i)).tables.getD i default).entries.take (k + 1)).filter (scK sc i)).length = ((((s.keep (untilK (scK sc) i)).tables.getD i default).entries.take k).filter (scK sc i)).length := by rw [hc]
        refine ⟨k + 1, [], hk, (show ((s.keep (untilK (scK sc) i)).tables.getD i default).entries.length - (k + 1) < ((s.keep (untilK (scK sc) i)).tables.getD i default).entries.length - k by omega), ?_⟩
        repeat' (first | exact aa | ((conv => whnf) <;> (first | exact arr_zero rfl rfl | exact low_cells rfl | exact rho_keep hX _h | exact capB2 (Nat.le_trans filt_le he) (by decide) | exact capN2 (Nat.le_trans filt_le he) | (refine ld_skip rfl rfl rfl rfl upd_self ?_) | (refine bool_skip any_self ?_) | (first | rw [ld_self rfl] | rw [ld_selfA rfl]) | exact hlen | exact hlen.symm | exact arr_same hc hlen.symm (fun a j => low_cells rfl) | refine And.intro ?_ ?_ | (intro _h; first | contradiction | (try simp only [dd] at _h)) | (refine dt_go ?_) | exact rfl | exact True.intro | exact dkk | exact dks | (refine wrap_succ ?_; omega))))
      · rename_i k _ hlt
        have hk : k < ((s.keep (untilK (scK sc) i)).tables.getD i default).entries.length := Int.ofNat_lt.1 hlt
        have hc := filt_yes (p := scK sc i) hk (scK_own _h)
        have hlen : ((((s.keep (untilK (scK sc) i)).tables.getD i default).entries.take (k + 1)).filter (scK sc i)).length = ((((s.keep (untilK (scK sc) i)).tables.getD i default).entries.take k).filter (scK sc i)).length + 1 := by rw [hc, List.length_append]; rfl
        refine ⟨k + 1, [0, 1, 7], hk, (show ((s.keep (untilK (scK sc) i)).tables.getD i default).entries.length - (k + 1) < ((s.keep (untilK (scK sc) i)).tables.getD i default).entries.length - k by omega), ?_⟩
        repeat' (first | exact aa | ((conv => whnf) <;> (first | exact arr_zero rfl rfl | exact low_cells rfl | exact rho_keep hX _h | exact capB2 (Nat.le_trans filt_le he) (by decide) | exact capN2 (Nat.le_trans filt_le he) | (refine ld_skip rfl rfl rfl rfl upd_self ?_) | (refine bool_skip any_self ?_) | (first | rw [ld_self rfl] | rw [ld_selfA rfl]) | exact hlen | exact hlen.symm | exact arr_snoc hc rfl hlen.symm hlen (fun a j => low_cells rfl) (fun j hj => rfl) | refine And.intro ?_ ?_ | (intro _h; first | contradiction | (try simp only [dd] at _h)) | (refine dt_go ?_) | exact rfl | exact True.intro | exact dkk | exact dks | (refine wrap_succ ?_; omega))))
      · conv => whnf
        rename_i k _
        have hk : ¬ k < ((s.keep (untilK (scK sc) i)).tables.getD i default).entries.length := fun q => _h (Int.ofNat_lt.2 q)
        have hU : (s.keep (untilK (scK sc) i)).setE i ((((s.keep (untilK (scK sc) i)).tables.getD i default).entries.take k).filter (scK sc i)) = (s.keep (untilK (scK sc) (i + 1))) := by
          rw [List.take_of_length_le (Nat.le_of_not_lt hk), show (s.keep (untilK (scK sc) i)).tables.getD i default = s.tables.getD i default from until_at (Nat.le_refl _)]
          exact until_succ hi
        refine roundET_turn (turn_close (id := 3) (i := i) (j := 1) (id' := 2) rfl hik (show 1 < 2 by decide) (by first | exact upd_self | exact rfl | (simp only [upd, Nat.beq_refl]; rfl)) rfl (show 3 ≠ 2 by decide) rfl (rowO_le (Nat.le_refl _))) ?_
        refine roundET_turn (turn_eq (id := 3) (x := rowL 2 Table.csO ((s.keep (untilK (scK sc) i)).setE i ((((s.keep (untilK (scK sc) i)).tables.getD i default).entries.take k).filter (scK sc i))).tables) rfl rfl setE_len rfl rfl (setE_rows3 (l := ((((s.keep (untilK (scK sc) i)).tables.getD i default).entries.take k).filter (scK sc i))) hik rfl (fun i j _ _ => .refl _))) ?_
        refine roundET_turn (turn_close (id := 0) (i := 0) (j := 1) (id' := 3) rfl (show 0 < 1 by decide) (show 1 < 3 by decide) rfl rfl (show 0 ≠ 3 by decide) rfl (rowO_le (Nat.le_of_eq setE_len.symm))) ?_
        refine roundET_turn (turn_box (id := 0) (ds := (s.keep (untilK (scK sc) (i + 1))).csO) rfl rfl rfl (by rw [← hU]; exact (.cons (.refl _) (.cons (OwEq.len setE_len.symm (fun i j _ _ => HoldC.h _ j) (fun i j _ _ => .refl _)) (.cons (.refl _) .nil))))) ?_
        refine roundET_end ?_
        refine ⟨i + 1, [], hi, (show s.tables.length - (i + 1) < s.tables.length - i by omega), ?_⟩
        repeat' (first | exact aa | ((conv => whnf) <;> (first | exact arr_zero rfl rfl | exact low_cells rfl | exact rho_keep hX _h | exact capB2 (Nat.le_trans filt_le he) (by decide) | exact capN2 (Nat.le_trans filt_le he) | (refine ld_skip rfl rfl rfl rfl upd_self ?_) | (refine bool_skip any_self ?_) | (first | rw [ld_self rfl] | rw [ld_selfA rfl]) | refine And.intro ?_ ?_ | (intro _h; first | contradiction | (try simp only [dd] at _h)) | (refine dt_go ?_) | exact rfl | exact True.intro | exact dkk | exact dks | (refine wrap_succ ?_; omega))))
  · rename_i i _
    have hTl := keep_len (s := s) (K := untilK (scK sc) i)
    have hn : ¬ i < s.tables.length := by omega
    rw [← until_end (K := scK sc) hn] at hL
    repeat' (first | exact aa | ((conv => whnf) <;> (first | (refine .inr (.inr ⟨[some (boxRow (s.keep (untilK (scK sc) i)).csO), none], (by intro X; refine Turn.trans (turn_close (id := 0) (i := 0) (j := 1) (id' := 1) rfl (show 0 < 1 by decide) (show 1 < 3 by decide) rfl rfl (show 0 ≠ 1 by decide) rfl (rowO_le (Nat.le_refl _))) ?_; exact turn_box (id := 0) (ds := ((s.keep (untilK (scK sc) i))).csO) rfl rfl rfl (.cons (.refl _) (.cons (.refl _) (.cons (.refl _) .nil)))), (fun i _ q => (by cases q)), .inl ⟨[0], _, _, _, hL, (view_of rfl (.cons rfl (.self (rowPl_box rfl)) .nil)), ⟨rfl, rfl⟩, ?_⟩⟩); rintro _ _ ⟨rfl, rfl⟩; refine ⟨rfl, _, (lok_pl (.cons (rowPl_box rfl) .nil)), ?_⟩) | refine And.intro ?_ ?_ | (intro _h; first | contradiction | (try simp only [dd] at _h)) | (refine dt_go ?_) | exact rfl | exact True.intro | exact dkk | exact dks | (refine wrap_succ ?_; omega))))
    conv => whnf
    exact endM_pick [0] [some (boxRow S.csO)] (.tup []) (view_of rfl (.cons rfl (.self (rowPl_box rfl)) .nil)) rfl rfl (by rw [hX]; exact keepK (n := 1) rfl rfl) ⟨rfl, rfl⟩
theorem mem_sum : ∀ {l : List Nat} {n : Nat}, n ∈ l → n ≤ l.sum
  | [], _, h => by cases h
  | a :: l, n, h => by
    rw [List.sum_cons]
    rcases List.mem_cons.1 h with h | h
    · omega
    · have := mem_sum h; omega
theorem two_count {α : Type} {p : α → Bool} {l : List α} {i j : Nat} (hij : i < j) (hj : j < l.length) (h1 : p (l[i]'(by omega)) = true) (h2 : p l[j] = true) : 2 ≤ l.countP p := by
  have e : l = l.take j ++ l.drop j := (List.take_append_drop j l).symm
  have c1 : 0 < (l.take j).countP p := List.countP_pos_iff.2 ⟨l[i], by
    rw [List.mem_iff_getElem]
    exact ⟨i, by rw [List.length_take]; omega, by rw [List.getElem_take]⟩, h1⟩
  have c2 : 0 < (l.drop j).countP p := List.countP_pos_iff.2 ⟨l[j], by
    rw [List.mem_iff_getElem]
    exact ⟨0, by rw [List.length_drop]; omega, by rw [List.getElem_drop]; rfl⟩, h2⟩
  rw [e, List.countP_append]
  omega
theorem en_at {s : Shelf} {i k : Nat} (hk : k < (s.tables.getD i default).entries.length) : (s.en i)[k]'hk = (s.tables.getD i default).entries.getD k default := by
  rw [List.getD_eq_getElem?_getD, List.getElem?_eq_getElem hk]; rfl
theorem ownV_of {s : Shelf} (h : s.H) {x : Thing} (hx : x ∈ s.things) {w : Nat} (hw : w < s.tables.length) {e : Entry} (he : e ∈ s.en w) (h1 : e.own = true) (h2 : e.id = x.id) : s.ownV x.id = ((w : Int), e.num, true) := by
  obtain ⟨k, hk, rfl⟩ := List.mem_iff_getElem.1 he
  have hk' : k < (s.tables.getD w default).entries.length := hk
  have hc := h.own x hx
  have one : ∀ i' k', s.isOwn x.id i' k' → i' = w ∧ k' = k := by
    rintro i' k' ⟨q1, q2, q3, q4⟩
    have m : (s.en i')[k']'q2 ∈ s.en i' := List.getElem_mem q2
    rw [en_at q2] at m
    obtain rfl : i' = w := one_owner h hx q1 hw m he ⟨q3, q4⟩ ⟨h1, h2⟩
    refine ⟨rfl, Decidable.byContradiction fun hne => ?_⟩
    have hle : (s.en i').countP (owsP x.id) ≤ 1 := by
      rw [all_count] at hc
      have hm : (s.en i').countP (owsP x.id) ∈ (List.range s.tables.length).map fun i => (s.en i).countP (owsP x.id) := List.mem_map.2 ⟨i', List.mem_range.2 q1, rfl⟩
      have := mem_sum hm
      omega
    have p1 : owsP x.id ((s.en i')[k]'hk) = true := by unfold owsP; rw [h1, h2]; simp
    have p2 : owsP x.id ((s.en i')[k']'q2) = true := by rw [en_at q2]; unfold owsP; rw [q3, q4]; simp
    rcases Nat.lt_or_gt_of_ne hne with q | q
    · have : 2 ≤ (s.en i').countP (owsP x.id) := two_count (l := s.en i') q hk p2 p1
      omega
    · have : 2 ≤ (s.en i').countP (owsP x.id) := two_count (l := s.en i') q q2 p1 p2
      omega
  have := ownV_some (s := s) (id := x.id) (i := w) (k := k) ⟨fun i' k' q => .inr ⟨(one i' k' q).1.symm, Nat.le_of_eq (one i' k' q).2.symm⟩⟩ (by omega) (by omega) (by rw [← en_at hk']; exact h1) (by rw [← en_at hk']; exact h2)
  rw [this, ← en_at hk']
theorem owner_is {s : Shelf} (h : s.H) {x : Thing} (hx : x ∈ s.things) : ∃ w e, w < s.tables.length ∧ e ∈ s.en w ∧ e.own = true ∧ e.id = x.id := by
  have hc := h.own x hx
  have : 0 < s.all.countP (owsP x.id) := by omega
  obtain ⟨e, he, hp⟩ := List.countP_pos_iff.1 this
  unfold Shelf.all at he
  obtain ⟨t, ht, he⟩ := List.mem_flatMap.1 he
  obtain ⟨w, hw, rfl⟩ := List.mem_iff_getElem.1 ht
  unfold owsP at hp
  rw [Bool.and_eq_true, decide_eq_true_eq] at hp
  refine ⟨w, e, hw, ?_, hp.1, hp.2⟩
  unfold Shelf.en
  rw [List.getD_eq_getElem?_getD, List.getElem?_eq_getElem hw]
  exact he
noncomputable def Shelf.ended (s : Shelf) (sc : Int) : Shelf := (s.keep (s.fixK (scK sc))).relend
theorem ended_good {s : Shelf} (h : s.good) (sc : Int) : (s.ended sc).good := end_good h fun i e ho => scK_own ho
theorem ended_things (s : Shelf) (sc : Int) : (s.ended sc).things = s.things := (relend_same _).th
theorem ended_len (s : Shelf) (sc : Int) : (s.ended sc).tables.length = s.tables.length := (relend_same _).len.trans keep_len
theorem ended_own {s : Shelf} (h : s.good) (sc : Int) {x : Thing} (hx : x ∈ s.things) : (s.ended sc).ownV x.id = s.ownV x.id ∧ (s.ownV x.id).2.2 = true := by
  have hH := (good_H h).1
  obtain ⟨w, e, hw, he, h1, h2⟩ := owner_is hH hx
  rw [ownV_of hH hx hw he h1 h2]
  refine ⟨?_, rfl⟩
  have hF : (⟨s.next, s.tables, s.things⟩ : Shelf).Fix (scK sc) (s.fixK (scK sc)) := fixK_fix s _
  have hK := fix_own hF hw he h1 (scK_own h1)
  have hS := relend_same (s.keep (s.fixK (scK sc)))
  have hw' : w < (s.keep (s.fixK (scK sc))).tables.length := by rw [keep_len]; exact hw
  have hm : e ∈ (s.keep (s.fixK (scK sc))).en w := by
    unfold Shelf.en
    rw [keep_tab]
    exact List.mem_filter.2 ⟨he, hK⟩
  have hm2 : lendE (leF (s.keep (s.fixK (scK sc))).all) w e ∈ (s.ended sc).en w := by
    unfold Shelf.ended
    rw [hS.en w hw']
    exact List.mem_map.2 ⟨e, hm, rfl⟩
  have q := hS.eq w e
  rw [ownV_of (good_H (ended_good h sc)).1 (by rw [ended_things]; exact hx) (by rw [ended_len]; exact hw) hm2 (by rw [q.2.2.1]; exact h1) (by rw [q.2.1]; exact h2), q.1]
theorem boF_none {sc : Int} : ∀ {l : List Entry}, (∀ e ∈ l, e.own = true ∨ ¬ e.scope = sc) → boF sc l = 0 := by
  intro l h
  have key : ∀ (l : List Entry), (∀ e ∈ l, e.own = true ∨ ¬ e.scope = sc) → l.foldl (boStep sc) 0 = 0 := by
    intro l
    induction l with
    | nil => intro _; rfl
    | cons e l ih =>
      intro h
      rw [List.foldl_cons]
      have : boStep sc 0 e = 0 := by
        unfold boStep
        split
        · rfl
        · rw [if_neg ((h e (List.mem_cons_self)).resolve_left ‹_›)]
      rw [this]
      exact ih fun e he => h e (List.mem_cons_of_mem _ he)
  exact key l h
theorem ended_bo {s : Shelf} (sc : Int) : boF sc (s.ended sc).all = 0 := boF_none fun e he => by
  unfold Shelf.all at he
  obtain ⟨t, ht, he⟩ := List.mem_flatMap.1 he
  obtain ⟨w, hw, rfl⟩ := List.mem_iff_getElem.1 ht
  have hS := relend_same (s.keep (s.fixK (scK sc)))
  have hw' : w < (s.keep (s.fixK (scK sc))).tables.length := hS.len ▸ hw
  have he' : e ∈ (s.ended sc).en w := by
    unfold Shelf.en
    rw [List.getD_eq_getElem?_getD, List.getElem?_eq_getElem hw]
    exact he
  unfold Shelf.ended at he'
  rw [hS.en w hw', List.mem_map] at he'
  obtain ⟨x, hx, rfl⟩ := he'
  have q := hS.eq w x
  unfold Shelf.en at hx
  rw [keep_tab] at hx
  have hk := (List.mem_filter.1 hx).2
  unfold Shelf.fixK at hk
  rw [Bool.and_eq_true] at hk
  have h0 := hk.1
  unfold scK at h0
  rw [q.2.2.1, q.2.2.2.1]
  rw [Bool.or_eq_true] at h0
  rcases h0 with h0 | h0
  · exact .inl h0
  · exact .inr (by simpa using h0)
def notIn (R : List Int) (e : Entry) : Bool := !(R.contains e.num)
def inM (M : Entry → Bool) (l : List Entry) (j : Nat) : List Entry := (l.take j).filter M ++ l.drop ((l.take j).filter M).length
def delRun (q : List Entry → Entry → Bool) (l : List Entry) : Nat → List Int
  | 0 => []
  | j + 1 => if q (inM (notIn (delRun q l j)) l j) (l.getD j default) = true then (l.getD j default).num :: delRun q l j else delRun q l j
def dK (q : List Entry → Entry → Bool) (l : List Entry) (j : Nat) : List Entry := (l.take j).filter (notIn (delRun q l j))
def dM (q : List Entry → Entry → Bool) (l : List Entry) (j : Nat) : List Entry := inM (notIn (delRun q l j)) l j
theorem filt_len {M : Entry → Bool} {l : List Entry} {j : Nat} : ((l.take j).filter M).length ≤ j ∧ ((l.take j).filter M).length ≤ l.length := by
  have h1 := List.length_filter_le M (l.take j)
  rw [List.length_take] at h1
  omega
theorem inM_len {M : Entry → Bool} {l : List Entry} {j : Nat} : (inM M l j).length = l.length := by
  have := (filt_len (M := M) (l := l) (j := j)).2
  unfold inM
  rw [List.length_append, List.length_drop]
  omega
theorem inM_at {M : Entry → Bool} {l : List Entry} {j k : Nat} (hk : ((l.take j).filter M).length ≤ k) : (inM M l j).getD k default = l.getD k default := by
  unfold inM
  rw [List.getD_eq_getElem?_getD, List.getElem?_append_right hk, List.getElem?_drop, List.getD_eq_getElem?_getD, show ((l.take j).filter M).length + (k - ((l.take j).filter M).length) = k by omega]
theorem run_sub {q : List Entry → Entry → Bool} {l : List Entry} : ∀ {j : Nat} {n : Int}, n ∈ delRun q l j → ∃ k, k < j ∧ n = (l.getD k default).num
  | 0, n, h => by cases h
  | j + 1, n, h => by
    unfold delRun at h
    split at h
    · rcases List.mem_cons.1 h with rfl | h
      · exact ⟨j, by omega, rfl⟩
      · obtain ⟨k, hk, e⟩ := run_sub h
        exact ⟨k, by omega, e⟩
    · obtain ⟨k, hk, e⟩ := run_sub h
      exact ⟨k, by omega, e⟩
theorem mem_take' {l : List Entry} {j : Nat} {e : Entry} (h : e ∈ l.take j) : ∃ k, k < j ∧ k < l.length ∧ l.getD k default = e := by
  obtain ⟨k, hk⟩ := List.getElem?_of_mem h
  rw [List.getElem?_take] at hk
  split at hk
  · exact ⟨k, by assumption, (List.getElem?_eq_some_iff.1 hk).1, by rw [List.getD_eq_getElem?_getD, hk]; rfl⟩
  · cases hk
theorem notIn_self {l : List Entry} (hu : uniq l) {q : List Entry → Entry → Bool} {j : Nat} (hj : j < l.length) : notIn (delRun q l j) (l.getD j default) = true := by
  unfold notIn
  rw [Bool.not_eq_true', ← Bool.not_eq_true, List.contains_iff_mem]
  intro h
  obtain ⟨k, hk, e⟩ := run_sub h
  have := hu j k hj (by omega) e
  omega
theorem dK_hit {q : List Entry → Entry → Bool} {l : List Entry} (hu : uniq l) {j : Nat} (hj : j < l.length) (h : q (dM q l j) (l.getD j default) = true) : dK q l (j + 1) = dK q l j := by
  have hr : delRun q l (j + 1) = (l.getD j default).num :: delRun q l j := by
    rw [delRun]
    exact if_pos h
  unfold dK
  rw [hr, take_snoc hj, List.filter_append]
  have h1 : ([l.getD j default] : List Entry).filter (notIn ((l.getD j default).num :: delRun q l j)) = [] := by
    refine List.filter_eq_nil_iff.2 fun e he => ?_
    obtain rfl := List.mem_singleton.1 he
    unfold notIn
    simp only [List.contains_cons, beq_self_eq_true, Bool.true_or, Bool.not_true, Bool.false_eq_true, not_false_eq_true]
  rw [h1, List.append_nil]
  refine List.filter_congr fun e he => ?_
  obtain ⟨k, hk, hkl, rfl⟩ := mem_take' he
  unfold notIn
  rw [List.contains_cons]
  have : ((l.getD k default).num == (l.getD j default).num) = false := by
    rw [beq_eq_false_iff_ne]
    intro e
    have := hu k j hkl hj e
    omega
  rw [this, Bool.false_or]
theorem dK_miss {q : List Entry → Entry → Bool} {l : List Entry} (hu : uniq l) {j : Nat} (hj : j < l.length) (h : q (dM q l j) (l.getD j default) = false) : dK q l (j + 1) = dK q l j ++ [l.getD j default] := by
  have hr : delRun q l (j + 1) = delRun q l j := by
    rw [delRun, if_neg (by unfold dM at h; rw [h]; decide)]
  unfold dK
  rw [hr, take_snoc hj, List.filter_append]
  congr 1
  refine List.filter_eq_self.2 fun e he => ?_
  obtain rfl := List.mem_singleton.1 he
  exact notIn_self hu hj
theorem dM_eq {q : List Entry → Entry → Bool} {l : List Entry} {j : Nat} : dM q l j = dK q l j ++ l.drop (dK q l j).length := rfl
theorem dM_len {q : List Entry → Entry → Bool} {l : List Entry} {j : Nat} : (dM q l j).length = l.length := inM_len
theorem dK_le {q : List Entry → Entry → Bool} {l : List Entry} {j : Nat} : (dK q l j).length ≤ j ∧ (dK q l j).length ≤ l.length := filt_len
theorem dM_at {q : List Entry → Entry → Bool} {l : List Entry} {j k : Nat} (hk : (dK q l j).length ≤ k) : (dM q l j).getD k default = l.getD k default := inM_at hk
theorem dM_hit {q : List Entry → Entry → Bool} {l : List Entry} (hu : uniq l) {j : Nat} (hj : j < l.length) (h : q (dM q l j) (l.getD j default) = true) : dM q l (j + 1) = dM q l j := by
  rw [dM_eq, dM_eq, dK_hit hu hj h]
theorem dM_miss {q : List Entry → Entry → Bool} {l : List Entry} (hu : uniq l) {j : Nat} (hj : j < l.length) (h : q (dM q l j) (l.getD j default) = false) : dM q l (j + 1) = (dM q l j).set (dK q l j).length (l.getD j default) := by
  have hle := dK_le (q := q) (l := l) (j := j)
  rw [dM_eq, dM_eq, dK_miss hu hj h, List.set_append_right _ _ (Nat.le_refl _), Nat.sub_self, List.length_append, List.length_singleton]
  have : l.drop (dK q l j).length = l[(dK q l j).length]'(by omega) :: l.drop ((dK q l j).length + 1) := List.drop_eq_getElem_cons _
  rw [this, List.set_cons_zero, List.append_assoc, List.singleton_append]
theorem run_nil {q : List Entry → Entry → Bool} {l : List Entry} : ∀ {j : Nat}, j ≤ l.length → (∀ k, k < j → q l (l.getD k default) = false) → delRun q l j = [] ∧ dK q l j = l.take j ∧ dM q l j = l
  | 0, _, _ => ⟨rfl, rfl, by rw [dM_eq]; rfl⟩
  | j + 1, hj, h => by
    obtain ⟨h1, h2, h3⟩ := run_nil (j := j) (by omega) fun k hk => h k (by omega)
    have hr : delRun q l (j + 1) = [] := by
      rw [delRun, if_neg, h1]
      have : inM (notIn (delRun q l j)) l j = l := h3
      rw [this, h j (by omega)]
      decide
    have hk : dK q l (j + 1) = l.take (j + 1) := by
      unfold dK
      rw [hr]
      exact List.filter_eq_self.2 fun e _ => rfl
    refine ⟨hr, hk, ?_⟩
    rw [dM_eq, hk, List.length_take, show min (j + 1) l.length = j + 1 by omega]
    exact List.take_append_drop _ _
theorem run_start {q : List Entry → Entry → Bool} {l : List Entry} (hu : uniq l) {j : Nat} (hj : j < l.length) (h : ∀ k, k < j → q l (l.getD k default) = false) (h1 : q l (l.getD j default) = true) : dM q l (j + 1) = l ∧ (dK q l (j + 1)).length = j := by
  obtain ⟨_, h2, h3⟩ := run_nil (q := q) (Nat.le_of_lt hj) h
  have hh : q (dM q l j) (l.getD j default) = true := by rw [h3]; exact h1
  refine ⟨by rw [dM_hit hu hj hh]; exact h3, ?_⟩
  rw [dK_hit hu hj hh, h2, List.length_take]
  omega
def cutC (L : List Entry) : Nat → Nat → AV := fun i j => if i < L.length then elE Entry.cs L i j else [AV.i .i64 0, AV.i .i64 0, AV.kb false, AV.i .i64 0, AV.i .i64 0, AV.i .i64 0, AV.i .i64 0].getD j .any
theorem cutC_pl {L : List Entry} {i j : Nat} : pl1 (cutC L i j) = true := by
  unfold cutC
  split
  · exact pl1_getD rfl j
  · exact pl1_getD rfl j
theorem cutC_idf {L : List Entry} {i j : Nat} : (cutC L i j).idfO := by
  unfold cutC
  split
  · exact HoldC.h _ j
  · exact (holdC_plain (c := fun _ : Unit => [AV.i .i64 0, AV.i .i64 0, AV.kb false, AV.i .i64 0, AV.i .i64 0, AV.i .i64 0, AV.i .i64 0]) fun _ => rfl).h () j
theorem cutC_in {L : List Entry} {i j : Nat} (h : i < L.length) : cutC L i j = elE Entry.cs L i j := if_pos h
theorem cutC_row {L : List Entry} {n : Nat} : RowPl ⟨7, n, cutC L, .arr⟩ := ⟨fun i j _ _ => cutC_pl⟩
theorem low_box {m : Nat} {cs : List AV} (h : cs.all (low2 m) = true) : ∀ i j, i < (boxRow cs).cap → j < (boxRow cs).sz → low2 m ((boxRow cs).es i j) = true := fun i j hi hj => by
  have hj' : j < cs.length := hj
  show low2 m (cs.getD j .any) = true
  rw [List.getD_eq_getElem?_getD, List.getElem?_eq_getElem hj']
  exact List.all_eq_true.1 h _ (List.getElem_mem hj')
theorem back_box {σ : Nat → Nat} {m : Nat} {cs ds : List AV} (h : cs.map (ren1 σ) = ds) (hf : cs.all flat1 = true) (hl : cs.all (low2 m) = true) : RowBack σ m (boxRow cs) (boxRow ds) := back_ren (ren_box h hf) (.refl _) (low_box hl)
theorem lok_c {σ : Nat → Nat} {x y : Row} {H' L : Hp} (h : RowRen σ x y) (t : LOk σ H' L) : LOk σ (some x :: H') (some y :: L) := ⟨by simp [t.len], fun k hk => by
  cases k with
  | zero => exact .inr ⟨_, _, rfl, rfl, h⟩
  | succ k => exact t.row k (by simpa using hk)⟩
def Shelf.rowW (s : Shelf) (w id n : Nat) : Row := ⟨2, s.tables.length, upd (elE Table.csO s.tables) w 1 [.row id n], .arr⟩
def Shelf.csT (s : Shelf) (id : Nat) : List AV := [.i .i64 s.next, .row id s.tables.length, owL 3 Thing.cs s.things]
theorem ren_W {σ : Nat → Nat} {s : Shelf} {w id n : Nat} : RowRen σ (s.rowW w id n) (s.rowW w (σ id) n) := by
  refine ⟨rfl, rfl, .refl _, fun i j hi hj => ?_⟩
  show upd _ w 1 [.row (σ id) _] i j = ren1 σ (upd _ w 1 [.row id _] i j) ∧ _
  rw [upd_one]
  show _ ∧ flat1 (upd _ w 1 [.row id _] i j) = true
  rw [upd_one]
  split
  · exact ⟨rfl, rfl⟩
  · have := pl1_ren (σ := σ) (csO_pl s i j)
    exact ⟨this.1.symm, this.2⟩
theorem low_W {s : Shelf} {w id n m : Nat} (h : id < m) : ∀ i j, i < (s.rowW w id n).cap → j < (s.rowW w id n).sz → low2 m ((s.rowW w id n).es i j) = true := fun i j hi hj => by
  show low2 m (upd _ w 1 [.row id _] i j) = true
  rw [upd_one]
  split
  · exact Nat.ble_eq_true_of_le h
  · exact pl1_low2 (csO_pl s i j)
theorem back_W {σ : Nat → Nat} {m : Nat} {s : Shelf} {w id id' n : Nat} (e : σ id = id') (h : id < m) : RowBack σ m (s.rowW w id n) (s.rowW w id' n) := by
  subst e
  exact back_ren ren_W (.refl _) (low_W h)
theorem ren_W' {σ : Nat → Nat} {s : Shelf} {w id id' n : Nat} (e : σ id = id') : RowRen σ (s.rowW w id n) (s.rowW w id' n) := by
  subst e
  exact ren_W
theorem wk_tr {x y z : AV} (h : Wk x y) (k : Wk y z) : Wk x z := ⟨fun q => k.idf (h.idf q), fun w S u hc => k.c w S u (h.c w S u hc)⟩
theorem shr_tblV {k n w m id cap : Nat} {kd : RK} {H : Hp} {s : Shelf} {l : List Entry} {es : Nat → Nat → AV} (hw : w < s.tables.length) (hn : n = s.tables.length) (hr : H[id]? = some (some ⟨7, cap, es, kd⟩)) (hm : m = l.length) (he : ∀ i j, i < m → j < 7 → es i j = elE Entry.cs l i j) :
    Wk (.sl 2 n fun i j => shrC (k + 2) H (upd (elE Table.csO s.tables) w 1 [.row id m] i j)) (slL 2 Table.cs (s.setE w l).tables) := by
  have h0 := shr_tblU (k := k) (n := n) (w := w) (m := m) (id := id) (cap := cap) (kd := kd) (H := H) (l := (s.setE w l).tables) (es := es) (by rw [hn, setE_len]) hr (by rw [setE_at hw, if_pos rfl]; exact hm) (fun i j hi hj => by rw [setE_at hw, if_pos rfl]; exact he i j hi hj)
  have e : (fun i j => shrC (k + 2) H (upd (elE Table.csO (s.setE w l).tables) w 1 [.row id m] i j)) = fun i j => shrC (k + 2) H (if j < 2 then upd (elE Table.csO s.tables) w 1 [.row id m] i j else upd (elE Table.csO (s.setE w l).tables) w 1 [.row id m] i j) := by
    funext i j
    congr 1
    split
    · rename_i hj
      rw [upd_one, upd_one]
      split
      · rfl
      · rename_i hne
        unfold elE
        rw [setE_at hw]
        split
        · rename_i e
          subst e
          rcases (show j = 0 ∨ j = 1 by omega) with rfl | rfl
          · rfl
          · exact absurd ⟨rfl, rfl⟩ hne
        · rfl
    · rfl
  rw [e] at h0
  have h1 : Wk (.sl 2 n fun i j => shrC (k + 2) H (upd (elE Table.csO s.tables) w 1 [.row id m] i j)) (.sl 2 n fun i j => shrC (k + 2) H (if j < 2 then upd (elE Table.csO s.tables) w 1 [.row id m] i j else upd (elE Table.csO (s.setE w l).tables) w 1 [.row id m] i j)) := Wk.sl fun i j hi hj => by
    rw [if_pos hj]
    exact .refl _
  exact wk_tr h1 h0
end Go.Proofs.Ytmglpojnoadgeaa
