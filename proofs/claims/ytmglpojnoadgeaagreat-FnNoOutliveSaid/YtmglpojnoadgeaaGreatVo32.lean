/- Texts for VHandlesOneP. -/
import Derived.Test.YtmglpojnoadgeaaGreatVo31
namespace Go.Proofs.YtmglpojnoadgeaaGreat
open Go Go.RowKit
set_option linter.unusedVariables false
set_option linter.unusedSimpArgs false
def scK (sc : Int) : Nat → Entry → Bool := fun _ e => e.own || !decide (e.scope = sc)
theorem scK_own {sc : Int} {i : Nat} {e : Entry} (h : e.own = true) : scK sc i e = true := by unfold scK; rw [h]; rfl
theorem scK_far {sc : Int} {i : Nat} {e : Entry} (h : ¬ e.scope = sc) : scK sc i e = true := by unfold scK; rw [decide_eq_false h]; cases e.own <;> rfl
theorem scK_not {sc : Int} {i : Nat} {e : Entry} (h : e.own = false) (h2 : e.scope = sc) : scK sc i e = false := by unfold scK; rw [h, h2, decide_eq_true rfl]; rfl
set_option maxRecDepth 8000 in
set_option maxHeartbeats 8000000 in
theorem l19End_ok (s : Shelf) (h : s.ok) (hg : s.good) (sc : Int) (S : Shelf) (hL : RetM env.P 96 [some (boxRow (s.keep (scK sc)).csO)] [.ptr 0 0 0] (fun r H => r = .tup [] ∧ H = [some (boxRow S.csO)])) : RetM env.P 74 [some (boxRow (s.keep (untilK (scK sc) 0)).csO)] [.ptr 0 0 0, .i .i64 sc] (fun r H => r = .tup [] ∧ H = [some (boxRow S.csO)]) := by
 have hl : s.tables.length ≤ 1048576 := h.1.1
 have h7 := hg.2.1.2
 refine ret_ofM (nt := 64) (rvs := []) Tryz.func74 rfl rfl rfl rfl (fun X hX => ?_)
 repeat' (first | exact aa | ((conv => whnf) <;> (first | (refine loopTF 4 (fun i : Nat => [(4, .i .i64 i)]) (fun i => [some (.box (s.keep (untilK (scK sc) i)).csO)]) (fun i => i ≤ s.tables.length) (fun i => s.tables.length - i) 0 rfl ⟨Nat.zero_le _, ?_⟩) | refine And.intro ?_ ?_ | (intro _h; first | contradiction | (try simp only [dd] at _h)) | (refine dt_go ?_) | exact rfl | exact True.intro | exact dkk | exact dks | (refine wrap_succ ?_; omega))))
 ·rename_i i _
  have hTl := keep_len (s := s) (K := untilK (scK sc) i)
  have hi : i < s.tables.length := by omega
  conv => whnf
  ·have hik : i < (s.keep (untilK (scK sc) i)).tables.length := by omega
   have he : ((s.keep (untilK (scK sc) i)).tables.getD i default).entries.length ≤ 1048576 := entLe (keep_ok h) i
   refine lw_turn _ (turn_close (id := 0) (i := 0) (j := 1) (id' := 1) rfl (show 0 < 1 by decide) (show 1 < 3 by decide) rfl rfl (show 0 ≠ 1 by decide) rfl (rowO_le (Nat.le_refl _))) ?_
   refine lw_turn _ (turn_box (id := 0) (ds := ((s.keep (untilK (scK sc) i))).csO) rfl rfl rfl (.cons (.refl _) (.cons (.refl _) (.cons (.refl _) .nil)))) ?_
   refine lw_del 17 ?_
   refine loopFT (fun k : Nat => [(6, .i .i64 k), (5, .row 2 ((((s.keep (untilK (scK sc) i)).tables.getD i default).entries.take k).filter (scK sc i)).length)]) (fun k => [none, none, some (.arr ⟨7, ((((s.keep (untilK (scK sc) i)).tables.getD i default).entries.take k).filter (scK sc i)).length, elE Entry.cs ((((s.keep (untilK (scK sc) i)).tables.getD i default).entries.take k).filter (scK sc i)), .arr⟩)]) (fun k => k ≤ ((s.keep (untilK (scK sc) i)).tables.getD i default).entries.length) (fun k => ((s.keep (untilK (scK sc) i)).tables.getD i default).entries.length - k) 0 ⟨Nat.zero_le _, ?_⟩
   repeat' (first | exact aa | ((conv => whnf) <;> (first | exact arr_zero rfl rfl | exact low_cells rfl | exact rho_keep hX _h | exact capB2 (Nat.le_trans filt_le he) (by decide) | exact capN2 (Nat.le_trans filt_le he) | (refine ld_skip rfl rfl rfl rfl upd_self ?_) | (refine bool_skip any_self ?_) | (first | rw [ld_self rfl] | rw [ld_selfA rfl]) | (refine roundET_turn (turn_close (id := 3) (i := i) (j := 1) (id' := 4) rfl hik (show 1 < 2 by decide) (by first | exact upd_self | exact rfl | (simp only [upd, Nat.beq_refl]; rfl)) rfl (show 3 ≠ 4 by decide) rfl (rowO_le (Nat.le_refl _))) ?_; refine roundET_turn (turn_eq (id := 3) (x := rowL 2 Table.csO ((s.keep (untilK (scK sc) i)).setE i ((s.keep (untilK (scK sc) i)).tables.getD i default).entries).tables) rfl rfl setE_len rfl rfl (setE_rows (l := ((s.keep (untilK (scK sc) i)).tables.getD i default).entries) hik rfl (fun i j _ _ => .refl _))) ?_; refine roundET_turn (turn_close (id := 0) (i := 0) (j := 1) (id' := 3) rfl (show 0 < 1 by decide) (show 1 < 3 by decide) rfl rfl (show 0 ≠ 3 by decide) rfl (rowO_le (Nat.le_of_eq setE_len.symm))) ?_; refine roundET_turn (turn_box (id := 0) (ds := ((s.keep (untilK (scK sc) i))).csO) rfl rfl rfl (.cons (.refl _) (.cons (OwEq.len rfl (fun i j _ _ => HoldC.h _ j) (fun i j _ _ => by rw [setE_self]; exact .refl _)) (.cons (.refl _) .nil)))) ?_; refine roundET_end ?_) | refine And.intro ?_ ?_ | (intro _h; first | contradiction | (try simp only [dd] at _h)) | (refine dt_go ?_) | exact rfl | exact True.intro | exact dkk | exact dks | (refine wrap_succ ?_; omega))))
   ·rename_i k _ hlt ho
    have hk : k < ((s.keep (untilK (scK sc) i)).tables.getD i default).entries.length := Int.ofNat_lt.1 hlt
    have hc := filt_yes (p := scK sc i) hk (scK_far _h)
    have hlen : ((((s.keep (untilK (scK sc) i)).tables.getD i default).entries.take (k + 1)).filter (scK sc i)).length = ((((s.keep (untilK (scK sc) i)).tables.getD i default).entries.take k).filter (scK sc i)).length + 1 := by rw [hc, List.length_append]; rfl
    refine ⟨k + 1, [0, 1, 7], hk, (show ((s.keep (untilK (scK sc) i)).tables.getD i default).entries.length - (k + 1) < ((s.keep (untilK (scK sc) i)).tables.getD i default).entries.length - k by omega), ?_⟩
    repeat' (first | exact aa | ((conv => whnf) <;> (first | exact arr_zero rfl rfl | exact low_cells rfl | exact rho_keep hX _h | exact capB2 (Nat.le_trans filt_le he) (by decide) | exact capN2 (Nat.le_trans filt_le he) | (refine ld_skip rfl rfl rfl rfl upd_self ?_) | (refine bool_skip any_self ?_) | (first | rw [ld_self rfl] | rw [ld_selfA rfl]) | exact hlen | exact hlen.symm | exact arr_snoc hc rfl hlen.symm hlen (fun a j => low_cells rfl) (fun j hj => rfl) | refine And.intro ?_ ?_ | (intro _h; first | contradiction | (try simp only [dd] at _h)) | (refine dt_go ?_) | exact rfl | exact True.intro | exact dkk | exact dks | (refine wrap_succ ?_; omega))))
   ·rename_i k _ hlt ho
    have hk : k < ((s.keep (untilK (scK sc) i)).tables.getD i default).entries.length := Int.ofNat_lt.1 hlt
    have hc := filt_no (p := scK sc i) hk (scK_not ho _h)
    have hlen : ((((s.keep (untilK (scK sc) i)).tables.getD i default).entries.take (k + 1)).filter (scK sc i)).length = ((((s.keep (untilK (scK sc) i)).tables.getD i default).entries.take k).filter (scK sc i)).length := by rw [hc]
    refine ⟨k + 1, [], hk, (show ((s.keep (untilK (scK sc) i)).tables.getD i default).entries.length - (k + 1) < ((s.keep (untilK (scK sc) i)).tables.getD i default).entries.length - k by omega), ?_⟩
    repeat' (first | exact aa | ((conv => whnf) <;> (first | exact arr_zero rfl rfl | exact low_cells rfl | exact rho_keep hX _h | exact capB2 (Nat.le_trans filt_le he) (by decide) | exact capN2 (Nat.le_trans filt_le he) | (refine ld_skip rfl rfl rfl rfl upd_self ?_) | (refine bool_skip any_self ?_) | (first | rw [ld_self rfl] | rw [ld_selfA rfl]) | exact hlen | exact hlen.symm | exact arr_same hc hlen.symm (fun a j => low_cells rfl) | refine And.intro ?_ ?_ | (intro _h; first | contradiction | (try simp only [dd] at _h)) | (refine dt_go ?_) | exact rfl | exact True.intro | exact dkk | exact dks | (refine wrap_succ ?_; omega))))
   ·rename_i k _ hlt
    have hk : k < ((s.keep (untilK (scK sc) i)).tables.getD i default).entries.length := Int.ofNat_lt.1 hlt
    have hc := filt_yes (p := scK sc i) hk (scK_own _h)
    have hlen : ((((s.keep (untilK (scK sc) i)).tables.getD i default).entries.take (k + 1)).filter (scK sc i)).length = ((((s.keep (untilK (scK sc) i)).tables.getD i default).entries.take k).filter (scK sc i)).length + 1 := by rw [hc, List.length_append]; rfl
    refine ⟨k + 1, [0, 1, 7], hk, (show ((s.keep (untilK (scK sc) i)).tables.getD i default).entries.length - (k + 1) < ((s.keep (untilK (scK sc) i)).tables.getD i default).entries.length - k by omega), ?_⟩
    repeat' (first | exact aa | ((conv => whnf) <;> (first | exact arr_zero rfl rfl | exact low_cells rfl | exact rho_keep hX _h | exact capB2 (Nat.le_trans filt_le he) (by decide) | exact capN2 (Nat.le_trans filt_le he) | (refine ld_skip rfl rfl rfl rfl upd_self ?_) | (refine bool_skip any_self ?_) | (first | rw [ld_self rfl] | rw [ld_selfA rfl]) | exact hlen | exact hlen.symm | exact arr_snoc hc rfl hlen.symm hlen (fun a j => low_cells rfl) (fun j hj => rfl) | refine And.intro ?_ ?_ | (intro _h; first | contradiction | (try simp only [dd] at _h)) | (refine dt_go ?_) | exact rfl | exact True.intro | exact dkk | exact dks | (refine wrap_succ ?_; omega))))
   ·conv => whnf
    rename_i k _
    have hk : ¬ k < ((s.keep (untilK (scK sc) i)).tables.getD i default).entries.length := fun q => _h (Int.ofNat_lt.2 q)
    have hU : (s.keep (untilK (scK sc) i)).setE i ((((s.keep (untilK (scK sc) i)).tables.getD i default).entries.take k).filter (scK sc i)) = (s.keep (untilK (scK sc) (i + 1))) := by
     rw [List.take_of_length_le (Nat.le_of_not_lt hk), show (s.keep (untilK (scK sc) i)).tables.getD i default = s.tables.getD i default from until_at (Nat.le_refl _)]
     exact until_succ hi
    refine roundET_turn (turn_close (id := 3) (i := i) (j := 1) (id' := 2) rfl hik (show 1 < 2 by decide) (by first | exact upd_self | exact rfl | (simp only [upd, Nat.beq_refl]; rfl)) rfl (show 3 ≠ 2 by decide) rfl (rowO_le (Nat.le_refl _))) ?_
    refine roundET_turn (turn_eq (id := 3) (x := rowL 2 Table.csO ((s.keep (untilK (scK sc) i)).setE i ((((s.keep (untilK (scK sc) i)).tables.getD i default).entries.take k).filter (scK sc i))).tables) rfl rfl setE_len rfl rfl (setE_rows3 (l := ((((s.keep (untilK (scK sc) i)).tables.getD i default).entries.take k).filter (scK sc i))) hik rfl (fun i j _ _ => .refl _))) ?_
    refine roundET_turn (turn_close (id := 0) (i := 0) (j := 1) (id' := 3) rfl (show 0 < 1 by decide) (show 1 < 3 by decide) rfl rfl (show 0 ≠ 3 by decide) rfl (rowO_le (Nat.le_of_eq setE_len.symm))) ?_
    refine roundET_turn (turn_box (id := 0) (ds := (s.keep (untilK (scK sc) (i + 1))).csO) rfl rfl rfl (by rw [← hU]; exact (.cons (.refl _) (.cons (OwEq.len setE_len.symm (fun i j _ _ => HoldC.h _ j) (fun i j _ _ => .refl _)) (.cons (.refl _) .nil))))) ?_
    refine roundET_end ?_
    refine ⟨i + 1, [], hi, (show s.tables.length - (i + 1) < s.tables.length - i by omega), ?_⟩
    repeat' (first | exact aa | ((conv => whnf) <;> (first | exact arr_zero rfl rfl | exact low_cells rfl | exact rho_keep hX _h | exact capB2 (Nat.le_trans filt_le he) (by decide) | exact capN2 (Nat.le_trans filt_le he) | (refine ld_skip rfl rfl rfl rfl upd_self ?_) | (refine bool_skip any_self ?_) | (first | rw [ld_self rfl] | rw [ld_selfA rfl]) | refine And.intro ?_ ?_ | (intro _h; first | contradiction | (try simp only [dd] at _h)) | (refine dt_go ?_) | exact rfl | exact True.intro | exact dkk | exact dks | (refine wrap_succ ?_; omega))))
 ·rename_i i _
  have hTl := keep_len (s := s) (K := untilK (scK sc) i)
  have hn : ¬ i < s.tables.length := by omega
  rw [← until_end (K := scK sc) hn] at hL
  repeat' (first | exact aa | ((conv => whnf) <;> (first | (refine .inr (.inr ⟨[some (boxRow (s.keep (untilK (scK sc) i)).csO), none], (by intro X; refine Turn.trans (turn_close (id := 0) (i := 0) (j := 1) (id' := 1) rfl (show 0 < 1 by decide) (show 1 < 3 by decide) rfl rfl (show 0 ≠ 1 by decide) rfl (rowO_le (Nat.le_refl _))) ?_; exact turn_box (id := 0) (ds := ((s.keep (untilK (scK sc) i))).csO) rfl rfl rfl (.cons (.refl _) (.cons (.refl _) (.cons (.refl _) .nil)))), (fun i _ q => (by cases q)), .inl ⟨[0], _, _, _, hL, (view_of rfl (.cons rfl (.self (rowPl_box rfl)) .nil)), ⟨rfl, rfl⟩, ?_⟩⟩); rintro _ _ ⟨rfl, rfl⟩; refine ⟨rfl, _, (lok_pl (.cons (rowPl_box rfl) .nil)), ?_⟩) | refine And.intro ?_ ?_ | (intro _h; first | contradiction | (try simp only [dd] at _h)) | (refine dt_go ?_) | exact rfl | exact True.intro | exact dkk | exact dks | (refine wrap_succ ?_; omega))))
  conv => whnf
  exact endM_pick [0] [some (boxRow S.csO)] (.tup []) (view_of rfl (.cons rfl (.self (rowPl_box rfl)) .nil)) rfl rfl (by rw [hX]; exact keepK (n := 1) rfl rfl) ⟨rfl, rfl⟩
theorem mem_sum : ∀ {l : List Nat} {n : Nat}, n ∈ l → n ≤ l.sum
 | [], _, h => by cases h
 | a :: l, n, h => by
  rw [List.sum_cons]
  rcases List.mem_cons.1 h with h | h
  ·omega
  ·have := mem_sum h; omega
theorem two_count {α : Type} {p : α → Bool} {l : List α} {i j : Nat} (hij : i < j) (hj : j < l.length) (h1 : p (l[i]'(by omega)) = true) (h2 : p l[j] = true) : 2 ≤ l.countP p := by
 have e : l = l.take j ++ l.drop j := (List.take_append_drop j l).symm
 have c1 : 0 < (l.take j).countP p := List.countP_pos_iff.2 ⟨l[i], by
  rw [List.mem_iff_getElem]
  exact ⟨i, by rw [List.length_take]; omega, by rw [List.getElem_take]⟩, h1⟩
 have c2 : 0 < (l.drop j).countP p := List.countP_pos_iff.2 ⟨l[j], by
  rw [List.mem_iff_getElem]
  exact ⟨0, by rw [List.length_drop]; omega, by rw [List.getElem_drop]; rfl⟩, h2⟩
 rw [e, List.countP_append]
 omega
theorem en_at {s : Shelf} {i k : Nat} (hk : k < (s.tables.getD i default).entries.length) : (s.en i)[k]'hk = (s.tables.getD i default).entries.getD k default := by
 rw [List.getD_eq_getElem?_getD, List.getElem?_eq_getElem hk]; rfl
theorem ownV_of {s : Shelf} (h : s.H) {x : Thing} (hx : x ∈ s.things) {w : Nat} (hw : w < s.tables.length) {e : Entry} (he : e ∈ s.en w) (h1 : e.own = true) (h2 : e.id = x.id) : s.ownV x.id = ((w : Int), e.num, true) := by
 obtain ⟨k, hk, rfl⟩ := List.mem_iff_getElem.1 he
 have hk' : k < (s.tables.getD w default).entries.length := hk
 have hc := h.own x hx
 have one : ∀ i' k', s.isOwn x.id i' k' → i' = w ∧ k' = k := by
  rintro i' k' ⟨q1, q2, q3, q4⟩
  have m : (s.en i')[k']'q2 ∈ s.en i' := List.getElem_mem q2
  rw [en_at q2] at m
  obtain rfl : i' = w := one_owner h hx q1 hw m he ⟨q3, q4⟩ ⟨h1, h2⟩
  refine ⟨rfl, Decidable.byContradiction fun hne => ?_⟩
  have hle : (s.en i').countP (owsP x.id) ≤ 1 := by
   rw [all_count] at hc
   have hm : (s.en i').countP (owsP x.id) ∈ (List.range s.tables.length).map fun i => (s.en i).countP (owsP x.id) := List.mem_map.2 ⟨i', List.mem_range.2 q1, rfl⟩
   have := mem_sum hm
   omega
  have p1 : owsP x.id ((s.en i')[k]'hk) = true := by unfold owsP; rw [h1, h2]; simp
  have p2 : owsP x.id ((s.en i')[k']'q2) = true := by rw [en_at q2]; unfold owsP; rw [q3, q4]; simp
  rcases Nat.lt_or_gt_of_ne hne with q | q
  ·have : 2 ≤ (s.en i').countP (owsP x.id) := two_count (l := s.en i') q hk p2 p1
   omega
  ·have : 2 ≤ (s.en i').countP (owsP x.id) := two_count (l := s.en i') q q2 p1 p2
   omega
 have := ownV_some (s := s) (id := x.id) (i := w) (k := k) ⟨fun i' k' q => .inr ⟨(one i' k' q).1.symm, Nat.le_of_eq (one i' k' q).2.symm⟩⟩ (by omega) (by omega) (by rw [← en_at hk']; exact h1) (by rw [← en_at hk']; exact h2)
 rw [this, ← en_at hk']
theorem owner_is {s : Shelf} (h : s.H) {x : Thing} (hx : x ∈ s.things) : ∃ w e, w < s.tables.length ∧ e ∈ s.en w ∧ e.own = true ∧ e.id = x.id := by
 have hc := h.own x hx
 have : 0 < s.all.countP (owsP x.id) := by omega
 obtain ⟨e, he, hp⟩ := List.countP_pos_iff.1 this
 unfold Shelf.all at he
 obtain ⟨t, ht, he⟩ := List.mem_flatMap.1 he
 obtain ⟨w, hw, rfl⟩ := List.mem_iff_getElem.1 ht
 unfold owsP at hp
 rw [Bool.and_eq_true, decide_eq_true_eq] at hp
 refine ⟨w, e, hw, ?_, hp.1, hp.2⟩
 unfold Shelf.en
 rw [List.getD_eq_getElem?_getD, List.getElem?_eq_getElem hw]
 exact he
theorem self_not {s : Shelf} {e : Entry} (ho : e.own = false) (h : s.orig e = some e) : ∀ n, s.sEnds n e = false
 | 0 => rfl
 | n + 1 => by
  rw [Shelf.sEnds_on ho h rfl]
  exact self_not ho h n
theorem orig_some {s : Shelf} (h : s.good) {who num : Int} {e : Entry} (he : s.at_ who num = some e) (ho : e.own = false) : (∃ x, s.orig e = some x) ∧ ¬ (e.from_.toNat = who.toNat ∧ e.fromNum = num) := by
 obtain ⟨h1, h2, k, h3, h4⟩ := at_in he
 obtain ⟨n, hn⟩ := shelf_ends h.tidy _ k h1 h3
 rw [h4] at hn
 have hx : ∃ x, s.orig e = some x := by
  cases n with
  | zero => cases hn
  | succ n =>
   cases hx : s.orig e with
   | none => rw [Shelf.sEnds_none ho hx] at hn; cases hn
   | some x => exact ⟨x, rfl⟩
 refine ⟨hx, fun ⟨q1, q2⟩ => ?_⟩
 obtain ⟨x, hx⟩ := hx
 have : x = e := by
  have hx' := hx
  unfold Shelf.orig at hx'
  rw [at_eq] at hx' he
  split at hx'
  ·split at he
   ·rw [q1, q2, he] at hx'
    exact (Option.some.inj hx').symm
   ·cases he
  ·cases hx'
 subst this
 rw [self_not ho hx] at hn
 cases hn
theorem find_ne {num m : Int} (hne : ¬ m = num) : ∀ l : List Entry, (cutL num l).find? (numP m) = l.find? (numP m)
 | [] => rfl
 | a :: l => by
  unfold cutL
  rw [List.filter_cons, List.find?_cons]
  have ih := find_ne hne l
  unfold cutL at ih
  by_cases e : a.num = num
  ·have e1 : (!numP num a) = false := by simp [numP, e]
   have e2 : numP m a = false := by simp only [numP, e, decide_eq_false_iff_not]; exact fun q => hne q.symm
   rw [e1, e2]
   exact ih
  ·have e1 : (!numP num a) = true := by simp [numP, e]
   rw [e1, if_pos rfl, List.find?_cons, ih]
theorem cut_at_other {s : Shelf} {w : Nat} {num who m : Int} (hw : w < s.tables.length) (hne : ¬ (who.toNat = w ∧ m = num)) : (s.cut w num).at_ who m = s.at_ who m := by
 have hT : (s.cut w num).isT who = s.isT who := by unfold Shelf.isT Shelf.cut; rw [setE_len]
 rw [at_eq, at_eq, hT]
 unfold Shelf.cut
 rw [setE_at hw]
 split
 ·split
  ·rename_i e
   rw [e, find_ne fun q => hne ⟨e, q⟩]
  ·rfl
 ·rfl
theorem at_posD {s : Shelf} {who m : Int} {x : Entry} (h : s.at_ who m = some x) : (0 ≤ who ∧ who < (s.tables.length : Int)) ∧ ∃ p, (s.tables.getD who.toNat default).find m = some p ∧ (s.tables.getD who.toNat default).entries.getD p default = x := by
 by_cases hw : 0 ≤ who ∧ who < (s.tables.length : Int)
 ·refine ⟨hw, ?_⟩
  rw [at_find hw] at h
  obtain ⟨p, h1, h2⟩ := Option.map_eq_some_iff.1 h
  exact ⟨p, h1, h2⟩
 ·rw [at_out hw] at h
  cases h
theorem last_none {id : Int} : ∀ {l : List Thing} {o : Thing}, (∀ x ∈ l, ¬ x.id = id) → l.foldl (fun o x => if x.id = id then x else o) o = o
 | [], _, _ => rfl
 | a :: l, o, h => by
  rw [List.foldl_cons, if_neg (h a (by simp))]
  exact last_none fun x hx => h x (by simp [hx])
def uniqX (l : List Thing) : Prop := ∀ i j, i < l.length → j < l.length → (l.getD i default).id = (l.getD j default).id → i = j
theorem cutX_none {id : Int} {l : List Thing} (h : ∀ x ∈ l, ¬ x.id = id) : cutX id l = l := List.filter_eq_self.2 fun x hx => by simp [idP, h x hx]
theorem cutX_erase {id : Int} : ∀ {l : List Thing} {q : Nat}, uniqX l → l.findIdx? (idP id) = some q → cutX id l = l.eraseIdx q ∧ lastX id l = l.getD q default ∧ q < l.length
 | [], q, _, h => by cases h
 | a :: l, q, hu, h => by
  have hu2 : uniqX l := fun i j hi hj e => by
   have := hu (i + 1) (j + 1) (by simpa using hi) (by simpa using hj) (by simpa using e)
   omega
  rw [List.findIdx?_cons] at h
  by_cases e : a.id = id
  ·have ea : idP id a = true := by simp [idP, e]
   rw [ea, if_pos rfl] at h
   cases h
   have hn : ∀ x ∈ l, ¬ x.id = id := fun x hx e2 => by
    obtain ⟨k, hk⟩ := List.getElem?_of_mem hx
    have := hu (k + 1) 0 (by simpa using (List.getElem?_eq_some_iff.1 hk).1) (by simp) (by
     rw [List.getD_eq_getElem?_getD]
     simp only [List.getElem?_cons_succ, hk, Option.getD_some]
     exact e2.trans e.symm)
    omega
   refine ⟨?_, ?_, by simp⟩
   ·have : cutX id (a :: l) = cutX id l := by
     unfold cutX
     rw [List.filter_cons, ea]
     rfl
    rw [this, cutX_none hn]
    rfl
   ·unfold lastX
    rw [List.foldl_cons, if_pos e, last_none hn]
    rfl
  ·have ea : idP id a = false := by simp [idP, e]
   rw [ea] at h
   simp only [Bool.false_eq_true, if_false] at h
   obtain ⟨q', hq', rfl⟩ := Option.map_eq_some_iff.1 h
   obtain ⟨h1, h2, h3⟩ := cutX_erase hu2 hq'
   refine ⟨?_, ?_, by simpa using h3⟩
   ·have : cutX id (a :: l) = a :: cutX id l := by
     unfold cutX
     rw [List.filter_cons, ea]
     rfl
    rw [this, h1]
    rfl
   ·unfold lastX at h2 ⊢
    rw [List.foldl_cons, if_neg e, h2]
    simp
theorem good_ltX {s : Shelf} (h : s.goodT) : ∀ {i j : Nat}, i < j → j < s.things.length → (s.things.getD i default).id < (s.things.getD j default).id := by
 intro i j hij hj
 induction j with
 | zero => omega
 | succ j ih =>
  have h1 := (h.1 (j + 1) hj).1
  unfold prevId at h1
  rw [if_neg (by omega), Nat.add_sub_cancel] at h1
  rcases Nat.lt_or_eq_of_le (Nat.le_of_lt_succ hij) with q | rfl
  ·have := ih q (by omega); omega
  ·exact h1
theorem good_uniqX {s : Shelf} (h : s.goodT) : uniqX s.things := fun i j hi hj e => by
 rcases Nat.lt_trichotomy i j with q | q | q
 ·have := good_ltX h q hj; omega
 ·exact q
 ·have := good_ltX h q hi; omega
theorem killed_things (s : Shelf) (w : Nat) : (s.killed w).things = cutXs (s.dead w) s.things := (relend_same _).th
theorem killed_none {s : Shelf} (h : s.good) {w : Nat} (hw : w < s.tables.length) {x : Thing} (hx : x ∈ s.dead w) {k : Nat} (hk : k < (s.killed w).tables.length) {e : Entry} (he : e ∈ (s.killed w).en k) : ¬ e.id = x.id := by
 obtain ⟨t, ht, he2⟩ := (good_H (killed_good h hw)).1.thing k hk e he
 rw [killed_things] at ht
 exact fun q => (mem_left.1 ht).2 x hx (he2.trans q)
theorem killed_len (s : Shelf) (w : Nat) : (s.killed w).tables.length = s.tables.length := (relend_same _).len.trans keep_len
theorem killed_bare (s : Shelf) {w : Nat} (hw : w < s.tables.length) : (s.killed w).en w = [] := by
 have hF : (⟨s.next, s.tables, cutXs (s.dead w) s.things⟩ : Shelf).Fix (kiK w) ((s.bared w).fixK (kiK w)) := fixK_fix (s.bared w) _
 have hS := relend_same ((s.bared w).keep ((s.bared w).fixK (kiK w)))
 have hw' : w < ((s.bared w).keep ((s.bared w).fixK (kiK w))).tables.length := by rw [keep_len]; exact hw
 have h1 : ((s.bared w).keep ((s.bared w).fixK (kiK w))).en w = [] := by
  unfold Shelf.en
  rw [keep_tab]
  refine List.filter_eq_nil_iff.2 fun e _ hq => ?_
  have := hF.cut.sub w e hq
  simp [kiK] at this
 unfold Shelf.killed
 rw [hS.en w hw', h1]
 rfl
theorem own_none {s : Shelf} (h : s.good) {id : Int} (hi : ∀ t ∈ s.things, ¬ t.id = id) : s.ownV id = (0, 0, false) := by
 refine ownV_none (i := s.tables.length) ⟨fun i' k' q => ?_⟩ (by omega)
 obtain ⟨q1, q2, q3, q4⟩ := q
 obtain ⟨t, ht, he⟩ := (good_H h).1.thing i' q1 _ (getD_mem (l := s.en i') q2)
 exact absurd (he.trans q4) (hi t ht)
theorem cutX_none' {id : Int} {l : List Thing} : ∀ t ∈ cutX id l, ¬ t.id = id := fun t ht => by
 have := (List.mem_filter.1 ht).2
 simpa [idP] using this
theorem dropped_own {s : Shelf} (h : s.good) {w : Nat} (hw : w < s.tables.length) {e : Entry} (he : e ∈ s.en w) (ho : e.own = true) (h0 : e.lends = 0) : ((s.cut w e.num).cutT e.id).ownV e.id = (0, 0, false) := own_none (dropped_good h hw he ho h0) cutX_none'
theorem own_at {s : Shelf} (h : s.good) {x : Thing} (hx : x ∈ s.things) : (s.ownV x.id).2.2 = true ∧ ∃ e, s.at_ (s.ownV x.id).1 (s.ownV x.id).2.1 = some e ∧ e.own = true ∧ e.id = x.id := by
 have hH := (good_H h).1
 obtain ⟨w, e, hw, he, h1, h2⟩ := owner_is hH hx
 rw [ownV_of hH hx hw he h1 h2]
 exact ⟨rfl, e, at_one hH.h0 (who := (w : Int)) ⟨by omega, by omega⟩ he, h1, h2⟩
set_option maxRecDepth 8000
set_option maxHeartbeats 4000000 in
theorem do_make (s s' : Shelf) (h : s.ok) (who num res to scope n c : Int) (z L : List Thing) (z1 : Thing) (hw : 0 ≤ who ∧ who < (s.tables.length : Int)) (hto : 0 ≤ to ∧ to < (s.tables.length : Int)) (hC : RetM env.P 71 [some (boxRow s.csO)] [.ptr 0 0 0, .i .i64 who, .i .i64 res, .i .i64 s.next] (fun r H => r = .tup [.i .i64 n, .i .i64 c] ∧ H = [some (boxRow s'.csO)])) : RetM env.P 33 [some (boxRow s.csO)] [.ptr 0 0 0, .agg (⟨1, who, num, res, to, scope⟩ : ShelfAct).cs] (fun r H => r = .i .i64 c ∧ H = [some (boxRow s'.csO)]) := by
 have hl : s.tables.length ≤ 1048576 := h.1.1
 refine ret_ofM (nt := 89) (rvs := [.tmp 4]) Tryz.func33 rfl rfl rfl rfl (fun X hX => ?_)
 repeat' (first | exact aa | ((conv => whnf) <;> (first | (refine dt_goC [0] ?_) | refine And.intro ?_ ?_ | (intro _h; first | contradiction | (try simp only [dd] at _h)) | (refine dt_go ?_) | exact rfl | exact True.intro | exact dkk | exact dks | ((first | refine .inl ⟨_, Ret.wka (l19Who_ok s h _), ?_⟩ | refine ⟨_, Ret.wka (l19Who_ok s h _), ?_⟩); (try rintro _ rfl)) | (refine .inr (.inl (.inl ⟨[0], _, _, _, hC, viewA, ⟨rfl, rfl⟩, ?_⟩)); rintro _ _ ⟨rfl, rfl⟩; refine ⟨rfl, _, lokA, ?_⟩) | (refine wrap_succ ?_; omega))))
 all_goals (conv => whnf)
 all_goals exact endM_pick [0] [some (boxRow s'.csO)] (.i .i64 c) (view_of rfl (.cons rfl (.self (rowPl_box rfl)) .nil)) rfl rfl (by rw [hX]; exact keepK (n := 1) rfl rfl) ⟨rfl, rfl⟩
set_option maxHeartbeats 4000000 in
theorem do_move (s s' : Shelf) (h : s.ok) (who num res to scope n c : Int) (z L : List Thing) (z1 : Thing) (hw : 0 ≤ who ∧ who < (s.tables.length : Int)) (hto : 0 ≤ to ∧ to < (s.tables.length : Int)) (hC : RetM env.P 72 [some (boxRow s.csO)] [.ptr 0 0 0, .i .i64 who, .i .i64 num, .i .i64 res, .i .i64 to] (fun r H => r = .tup [.i .i64 n, .i .i64 c] ∧ H = [some (boxRow s'.csO)])) : RetM env.P 33 [some (boxRow s.csO)] [.ptr 0 0 0, .agg (⟨2, who, num, res, to, scope⟩ : ShelfAct).cs] (fun r H => r = .i .i64 c ∧ H = [some (boxRow s'.csO)]) := by
 have hl : s.tables.length ≤ 1048576 := h.1.1
 refine ret_ofM (nt := 89) (rvs := [.tmp 4]) Tryz.func33 rfl rfl rfl rfl (fun X hX => ?_)
 repeat' (first | exact aa | ((conv => whnf) <;> (first | (refine dt_goC [0] ?_) | refine And.intro ?_ ?_ | (intro _h; first | contradiction | (try simp only [dd] at _h)) | (refine dt_go ?_) | exact rfl | exact True.intro | exact dkk | exact dks | ((first | refine .inl ⟨_, Ret.wka (l19Who_ok s h _), ?_⟩ | refine ⟨_, Ret.wka (l19Who_ok s h _), ?_⟩); (try rintro _ rfl)) | (refine .inr (.inl (.inl ⟨[0], _, _, _, hC, viewA, ⟨rfl, rfl⟩, ?_⟩)); rintro _ _ ⟨rfl, rfl⟩; refine ⟨rfl, _, lokA, ?_⟩) | (refine wrap_succ ?_; omega))))
 all_goals (conv => whnf)
 all_goals exact endM_pick [0] [some (boxRow s'.csO)] (.i .i64 c) (view_of rfl (.cons rfl (.self (rowPl_box rfl)) .nil)) rfl rfl (by rw [hX]; exact keepK (n := 1) rfl rfl) ⟨rfl, rfl⟩
set_option maxHeartbeats 4000000 in
theorem do_lend (s s' : Shelf) (h : s.ok) (who num res to scope n c : Int) (z L : List Thing) (z1 : Thing) (hw : 0 ≤ who ∧ who < (s.tables.length : Int)) (hto : 0 ≤ to ∧ to < (s.tables.length : Int)) (hC : RetM env.P 73 [some (boxRow s.csO)] [.ptr 0 0 0, .i .i64 who, .i .i64 num, .i .i64 res, .i .i64 to, .i .i64 scope] (fun r H => r = .tup [.i .i64 n, .i .i64 c] ∧ H = [some (boxRow s'.csO)])) : RetM env.P 33 [some (boxRow s.csO)] [.ptr 0 0 0, .agg (⟨3, who, num, res, to, scope⟩ : ShelfAct).cs] (fun r H => r = .i .i64 c ∧ H = [some (boxRow s'.csO)]) := by
 have hl : s.tables.length ≤ 1048576 := h.1.1
 refine ret_ofM (nt := 89) (rvs := [.tmp 4]) Tryz.func33 rfl rfl rfl rfl (fun X hX => ?_)
 repeat' (first | exact aa | ((conv => whnf) <;> (first | (refine dt_goC [0] ?_) | refine And.intro ?_ ?_ | (intro _h; first | contradiction | (try simp only [dd] at _h)) | (refine dt_go ?_) | exact rfl | exact True.intro | exact dkk | exact dks | ((first | refine .inl ⟨_, Ret.wka (l19Who_ok s h _), ?_⟩ | refine ⟨_, Ret.wka (l19Who_ok s h _), ?_⟩); (try rintro _ rfl)) | (refine .inr (.inl (.inl ⟨[0], _, _, _, hC, viewA, ⟨rfl, rfl⟩, ?_⟩)); rintro _ _ ⟨rfl, rfl⟩; refine ⟨rfl, _, lokA, ?_⟩) | (refine wrap_succ ?_; omega))))
 all_goals (conv => whnf)
 all_goals exact endM_pick [0] [some (boxRow s'.csO)] (.i .i64 c) (view_of rfl (.cons rfl (.self (rowPl_box rfl)) .nil)) rfl rfl (by rw [hX]; exact keepK (n := 1) rfl rfl) ⟨rfl, rfl⟩
set_option maxHeartbeats 4000000 in
theorem do_drop (s s' : Shelf) (h : s.ok) (who num res to scope n c : Int) (z L : List Thing) (z1 : Thing) (hw : 0 ≤ who ∧ who < (s.tables.length : Int)) (hto : 0 ≤ to ∧ to < (s.tables.length : Int)) (hC : RetM env.P 48 [some (boxRow s.csO)] [.ptr 0 0 0, .i .i64 who, .i .i64 num] (fun r H => r = .tup [.agg z1.cs, .i .i64 c] ∧ H = [some (boxRow s'.csO)])) : RetM env.P 33 [some (boxRow s.csO)] [.ptr 0 0 0, .agg (⟨4, who, num, res, to, scope⟩ : ShelfAct).cs] (fun r H => r = .i .i64 c ∧ H = [some (boxRow s'.csO)]) := by
 have hl : s.tables.length ≤ 1048576 := h.1.1
 refine ret_ofM (nt := 89) (rvs := [.tmp 4]) Tryz.func33 rfl rfl rfl rfl (fun X hX => ?_)
 repeat' (first | exact aa | ((conv => whnf) <;> (first | (refine dt_goC [0] ?_) | refine And.intro ?_ ?_ | (intro _h; first | contradiction | (try simp only [dd] at _h)) | (refine dt_go ?_) | exact rfl | exact True.intro | exact dkk | exact dks | ((first | refine .inl ⟨_, Ret.wka (l19Who_ok s h _), ?_⟩ | refine ⟨_, Ret.wka (l19Who_ok s h _), ?_⟩); (try rintro _ rfl)) | (refine .inr (.inl (.inl ⟨[0], _, _, _, hC, viewA, ⟨rfl, rfl⟩, ?_⟩)); rintro _ _ ⟨rfl, rfl⟩; refine ⟨rfl, _, lokA, ?_⟩) | (refine wrap_succ ?_; omega))))
 all_goals (conv => whnf)
 all_goals exact endM_pick [0] [some (boxRow s'.csO)] (.i .i64 c) (view_of rfl (.cons rfl (.self (rowPl_box rfl)) .nil)) rfl rfl (by rw [hX]; exact keepK (n := 1) rfl rfl) ⟨rfl, rfl⟩
set_option maxHeartbeats 4000000 in
theorem do_end (s s' : Shelf) (h : s.ok) (who num res to scope n c : Int) (z L : List Thing) (z1 : Thing) (hw : 0 ≤ who ∧ who < (s.tables.length : Int)) (hto : 0 ≤ to ∧ to < (s.tables.length : Int)) (hC : RetM env.P 74 [some (boxRow s.csO)] [.ptr 0 0 0, .i .i64 scope] (fun r H => r = .tup [] ∧ H = [some (boxRow s'.csO)])) : RetM env.P 33 [some (boxRow s.csO)] [.ptr 0 0 0, .agg (⟨5, who, num, res, to, scope⟩ : ShelfAct).cs] (fun r H => r = .i .i64 0 ∧ H = [some (boxRow s'.csO)]) := by
 have hl : s.tables.length ≤ 1048576 := h.1.1
 refine ret_ofM (nt := 89) (rvs := [.tmp 4]) Tryz.func33 rfl rfl rfl rfl (fun X hX => ?_)
 repeat' (first | exact aa | ((conv => whnf) <;> (first | (refine dt_goC [0] ?_) | refine And.intro ?_ ?_ | (intro _h; first | contradiction | (try simp only [dd] at _h)) | (refine dt_go ?_) | exact rfl | exact True.intro | exact dkk | exact dks | ((first | refine .inl ⟨_, Ret.wka (l19Who_ok s h _), ?_⟩ | refine ⟨_, Ret.wka (l19Who_ok s h _), ?_⟩); (try rintro _ rfl)) | (refine .inr (.inl (.inl ⟨[0], _, _, _, hC, viewA, ⟨rfl, rfl⟩, ?_⟩)); rintro _ _ ⟨rfl, rfl⟩; refine ⟨rfl, _, lokA, ?_⟩) | (refine wrap_succ ?_; omega))))
 all_goals (conv => whnf)
 all_goals exact endM_pick [0] [some (boxRow s'.csO)] (.i .i64 0) (view_of rfl (.cons rfl (.self (rowPl_box rfl)) .nil)) rfl rfl (by rw [hX]; exact keepK (n := 1) rfl rfl) ⟨rfl, rfl⟩
set_option maxHeartbeats 4000000 in
theorem do_kill (s s' : Shelf) (h : s.ok) (who num res to scope n c : Int) (z L : List Thing) (z1 : Thing) (hw : 0 ≤ who ∧ who < (s.tables.length : Int)) (hto : 0 ≤ to ∧ to < (s.tables.length : Int)) (hC : RetM env.P 51 [some (boxRow s.csO)] [.ptr 0 0 0, .i .i64 who] (fun r H => r = .row 1 L.length ∧ H = [some (boxRow s'.csO), some (rowL 3 Thing.cs L)])) : RetM env.P 33 [some (boxRow s.csO)] [.ptr 0 0 0, .agg (⟨6, who, num, res, to, scope⟩ : ShelfAct).cs] (fun r H => r = .i .i64 0 ∧ H = [some (boxRow s'.csO)]) := by
 have hl : s.tables.length ≤ 1048576 := h.1.1
 refine ret_ofM (nt := 89) (rvs := [.tmp 4]) Tryz.func33 rfl rfl rfl rfl (fun X hX => ?_)
 repeat' (first | exact aa | ((conv => whnf) <;> (first | (refine dt_goC [0] ?_) | refine And.intro ?_ ?_ | (intro _h; first | contradiction | (try simp only [dd] at _h)) | (refine dt_go ?_) | exact rfl | exact True.intro | exact dkk | exact dks | ((first | refine .inl ⟨_, Ret.wka (l19Who_ok s h _), ?_⟩ | refine ⟨_, Ret.wka (l19Who_ok s h _), ?_⟩); (try rintro _ rfl)) | (refine .inr (.inl (.inl ⟨[0], _, _, _, hC, viewA, ⟨rfl, rfl⟩, ?_⟩)); rintro _ _ ⟨rfl, rfl⟩; refine ⟨rfl, _, lokA, ?_⟩) | (refine wrap_succ ?_; omega))))
 all_goals (conv => whnf)
 all_goals exact endM_pick [0] [some (boxRow s'.csO)] (.i .i64 0) (view_of rfl (.cons rfl (.self (rowPl_box rfl)) .nil)) rfl rfl (by rw [hX]; exact keepK (n := 1) rfl rfl) ⟨rfl, rfl⟩
set_option maxHeartbeats 4000000 in
theorem do_out (s : Shelf) (h : s.ok) (a : ShelfAct) (ho : ¬ ((0 ≤ a.who ∧ a.who < (s.tables.length : Int)) ∧ (0 ≤ a.to ∧ a.to < (s.tables.length : Int)))) : RetM env.P 33 [some (boxRow s.csO)] [.ptr 0 0 0, .agg a.cs] (fun r H => r = .i .i64 1 ∧ H = [some (boxRow s.csO)]) := by
 have hl : s.tables.length ≤ 1048576 := h.1.1
 refine ret_ofM (nt := 89) (rvs := [.tmp 4]) Tryz.func33 rfl rfl rfl rfl (fun X hX => ?_)
 repeat' (first | exact aa | ((conv => whnf) <;> (first | refine And.intro ?_ ?_ | (intro _h; first | contradiction | (try simp only [dd] at _h)) | (refine dt_go ?_) | exact rfl | exact True.intro | exact dkk | exact dks | ((first | refine .inl ⟨_, Ret.wka (l19Who_ok s h _), ?_⟩ | refine ⟨_, Ret.wka (l19Who_ok s h _), ?_⟩); (try rintro _ rfl)) | (refine wrap_succ ?_; omega))))
 all_goals first
  | (exfalso; exact ho ⟨Classical.not_not.1 ‹_›, Classical.not_not.1 ‹_›⟩)
  | (exfalso; exact ho ⟨‹_›, ‹_›⟩)
  | skip
 all_goals (conv => whnf)
 all_goals exact endM_pick [0] [some (boxRow s.csO)] (.i .i64 1) (view_of rfl (.cons rfl (.self (rowPl_box rfl)) .nil)) rfl rfl (by rw [hX]; exact keepK (n := 1) rfl rfl) ⟨rfl, rfl⟩
set_option maxHeartbeats 4000000 in
theorem act_make (s s' : Shelf) (h : s.ok) (who num res to scope n c : Int) (z L : List Thing) (z1 : Thing) (hw : 0 ≤ who ∧ who < (s.tables.length : Int)) (hto : 0 ≤ to ∧ to < (s.tables.length : Int)) (hC : RetM env.P 61 [some (boxRow s.csO)] [.ptr 0 0 0, .i .i64 who, .i .i64 res, .i .i64 s.next] (fun r H => r = .tup [.i .i64 n, .i .i64 c] ∧ H = [some (boxRow s'.csO)])) : RetM env.P 29 [some (boxRow s.csO)] [.ptr 0 0 0, .agg (⟨1, who, num, res, to, scope⟩ : ShelfAct).cs] (fun r H => r = .i .i64 c ∧ H = [some (boxRow s'.csO)]) := by
 have hl : s.tables.length ≤ 1048576 := h.1.1
 refine ret_ofM (nt := 92) (rvs := [.tmp 4]) Tryz.func29 rfl rfl rfl rfl (fun X hX => ?_)
 repeat' (first | exact aa | ((conv => whnf) <;> (first | (refine dt_goC [0] ?_) | refine And.intro ?_ ?_ | (intro _h; first | contradiction | (try simp only [dd] at _h)) | (refine dt_go ?_) | exact rfl | exact True.intro | exact dkk | exact dks | ((first | refine .inl ⟨_, Ret.wka (isTable_ok s h _), ?_⟩ | refine ⟨_, Ret.wka (isTable_ok s h _), ?_⟩); (try rintro _ rfl)) | (refine .inr (.inl (.inl ⟨[0], _, _, _, hC, viewA, ⟨rfl, rfl⟩, ?_⟩)); rintro _ _ ⟨rfl, rfl⟩; refine ⟨rfl, _, lokA, ?_⟩) | (refine wrap_succ ?_; omega))))
 all_goals (conv => whnf)
 all_goals exact endM_pick [0] [some (boxRow s'.csO)] (.i .i64 c) (view_of rfl (.cons rfl (.self (rowPl_box rfl)) .nil)) rfl rfl (by rw [hX]; exact keepK (n := 1) rfl rfl) ⟨rfl, rfl⟩
set_option maxHeartbeats 4000000 in
theorem act_move (s s' : Shelf) (h : s.ok) (who num res to scope n c : Int) (z L : List Thing) (z1 : Thing) (hw : 0 ≤ who ∧ who < (s.tables.length : Int)) (hto : 0 ≤ to ∧ to < (s.tables.length : Int)) (hC : RetM env.P 62 [some (boxRow s.csO)] [.ptr 0 0 0, .i .i64 who, .i .i64 num, .i .i64 res, .i .i64 to] (fun r H => r = .tup [.i .i64 n, .i .i64 c] ∧ H = [some (boxRow s'.csO)])) : RetM env.P 29 [some (boxRow s.csO)] [.ptr 0 0 0, .agg (⟨2, who, num, res, to, scope⟩ : ShelfAct).cs] (fun r H => r = .i .i64 c ∧ H = [some (boxRow s'.csO)]) := by
 have hl : s.tables.length ≤ 1048576 := h.1.1
 refine ret_ofM (nt := 92) (rvs := [.tmp 4]) Tryz.func29 rfl rfl rfl rfl (fun X hX => ?_)
 repeat' (first | exact aa | ((conv => whnf) <;> (first | (refine dt_goC [0] ?_) | refine And.intro ?_ ?_ | (intro _h; first | contradiction | (try simp only [dd] at _h)) | (refine dt_go ?_) | exact rfl | exact True.intro | exact dkk | exact dks | ((first | refine .inl ⟨_, Ret.wka (isTable_ok s h _), ?_⟩ | refine ⟨_, Ret.wka (isTable_ok s h _), ?_⟩); (try rintro _ rfl)) | (refine .inr (.inl (.inl ⟨[0], _, _, _, hC, viewA, ⟨rfl, rfl⟩, ?_⟩)); rintro _ _ ⟨rfl, rfl⟩; refine ⟨rfl, _, lokA, ?_⟩) | (refine wrap_succ ?_; omega))))
 all_goals (conv => whnf)
 all_goals exact endM_pick [0] [some (boxRow s'.csO)] (.i .i64 c) (view_of rfl (.cons rfl (.self (rowPl_box rfl)) .nil)) rfl rfl (by rw [hX]; exact keepK (n := 1) rfl rfl) ⟨rfl, rfl⟩
set_option maxHeartbeats 4000000 in
theorem act_lend (s s' : Shelf) (h : s.ok) (who num res to scope n c : Int) (z L : List Thing) (z1 : Thing) (hw : 0 ≤ who ∧ who < (s.tables.length : Int)) (hto : 0 ≤ to ∧ to < (s.tables.length : Int)) (hC : RetM env.P 63 [some (boxRow s.csO)] [.ptr 0 0 0, .i .i64 who, .i .i64 num, .i .i64 res, .i .i64 to, .i .i64 scope] (fun r H => r = .tup [.i .i64 n, .i .i64 c] ∧ H = [some (boxRow s'.csO)])) : RetM env.P 29 [some (boxRow s.csO)] [.ptr 0 0 0, .agg (⟨3, who, num, res, to, scope⟩ : ShelfAct).cs] (fun r H => r = .i .i64 c ∧ H = [some (boxRow s'.csO)]) := by
 have hl : s.tables.length ≤ 1048576 := h.1.1
 refine ret_ofM (nt := 92) (rvs := [.tmp 4]) Tryz.func29 rfl rfl rfl rfl (fun X hX => ?_)
 repeat' (first | exact aa | ((conv => whnf) <;> (first | (refine dt_goC [0] ?_) | refine And.intro ?_ ?_ | (intro _h; first | contradiction | (try simp only [dd] at _h)) | (refine dt_go ?_) | exact rfl | exact True.intro | exact dkk | exact dks | ((first | refine .inl ⟨_, Ret.wka (isTable_ok s h _), ?_⟩ | refine ⟨_, Ret.wka (isTable_ok s h _), ?_⟩); (try rintro _ rfl)) | (refine .inr (.inl (.inl ⟨[0], _, _, _, hC, viewA, ⟨rfl, rfl⟩, ?_⟩)); rintro _ _ ⟨rfl, rfl⟩; refine ⟨rfl, _, lokA, ?_⟩) | (refine wrap_succ ?_; omega))))
 all_goals (conv => whnf)
 all_goals exact endM_pick [0] [some (boxRow s'.csO)] (.i .i64 c) (view_of rfl (.cons rfl (.self (rowPl_box rfl)) .nil)) rfl rfl (by rw [hX]; exact keepK (n := 1) rfl rfl) ⟨rfl, rfl⟩
set_option maxHeartbeats 4000000 in
theorem act_drop (s s' : Shelf) (h : s.ok) (who num res to scope n c : Int) (z L : List Thing) (z1 : Thing) (hw : 0 ≤ who ∧ who < (s.tables.length : Int)) (hto : 0 ≤ to ∧ to < (s.tables.length : Int)) (hC : RetM env.P 45 [some (boxRow s.csO)] [.ptr 0 0 0, .i .i64 who, .i .i64 num] (fun r H => r = .tup [.agg z1.cs, .i .i64 c] ∧ H = [some (boxRow s'.csO)])) : RetM env.P 29 [some (boxRow s.csO)] [.ptr 0 0 0, .agg (⟨4, who, num, res, to, scope⟩ : ShelfAct).cs] (fun r H => r = .i .i64 c ∧ H = [some (boxRow s'.csO)]) := by
 have hl : s.tables.length ≤ 1048576 := h.1.1
 refine ret_ofM (nt := 92) (rvs := [.tmp 4]) Tryz.func29 rfl rfl rfl rfl (fun X hX => ?_)
 repeat' (first | exact aa | ((conv => whnf) <;> (first | (refine dt_goC [0] ?_) | refine And.intro ?_ ?_ | (intro _h; first | contradiction | (try simp only [dd] at _h)) | (refine dt_go ?_) | exact rfl | exact True.intro | exact dkk | exact dks | ((first | refine .inl ⟨_, Ret.wka (isTable_ok s h _), ?_⟩ | refine ⟨_, Ret.wka (isTable_ok s h _), ?_⟩); (try rintro _ rfl)) | (refine .inr (.inl (.inl ⟨[0], _, _, _, hC, viewA, ⟨rfl, rfl⟩, ?_⟩)); rintro _ _ ⟨rfl, rfl⟩; refine ⟨rfl, _, lokA, ?_⟩) | (refine wrap_succ ?_; omega))))
 all_goals (conv => whnf)
 all_goals exact endM_pick [0] [some (boxRow s'.csO)] (.i .i64 c) (view_of rfl (.cons rfl (.self (rowPl_box rfl)) .nil)) rfl rfl (by rw [hX]; exact keepK (n := 1) rfl rfl) ⟨rfl, rfl⟩
set_option maxHeartbeats 4000000 in
theorem act_end (s s' : Shelf) (h : s.ok) (who num res to scope n c : Int) (z L : List Thing) (z1 : Thing) (hw : 0 ≤ who ∧ who < (s.tables.length : Int)) (hto : 0 ≤ to ∧ to < (s.tables.length : Int)) (hC : RetM env.P 64 [some (boxRow s.csO)] [.ptr 0 0 0, .i .i64 scope] (fun r H => r = .tup [] ∧ H = [some (boxRow s'.csO)])) : RetM env.P 29 [some (boxRow s.csO)] [.ptr 0 0 0, .agg (⟨5, who, num, res, to, scope⟩ : ShelfAct).cs] (fun r H => r = .i .i64 0 ∧ H = [some (boxRow s'.csO)]) := by
 have hl : s.tables.length ≤ 1048576 := h.1.1
 refine ret_ofM (nt := 92) (rvs := [.tmp 4]) Tryz.func29 rfl rfl rfl rfl (fun X hX => ?_)
 repeat' (first | exact aa | ((conv => whnf) <;> (first | (refine dt_goC [0] ?_) | refine And.intro ?_ ?_ | (intro _h; first | contradiction | (try simp only [dd] at _h)) | (refine dt_go ?_) | exact rfl | exact True.intro | exact dkk | exact dks | ((first | refine .inl ⟨_, Ret.wka (isTable_ok s h _), ?_⟩ | refine ⟨_, Ret.wka (isTable_ok s h _), ?_⟩); (try rintro _ rfl)) | (refine .inr (.inl (.inl ⟨[0], _, _, _, hC, viewA, ⟨rfl, rfl⟩, ?_⟩)); rintro _ _ ⟨rfl, rfl⟩; refine ⟨rfl, _, lokA, ?_⟩) | (refine wrap_succ ?_; omega))))
 all_goals (conv => whnf)
 all_goals exact endM_pick [0] [some (boxRow s'.csO)] (.i .i64 0) (view_of rfl (.cons rfl (.self (rowPl_box rfl)) .nil)) rfl rfl (by rw [hX]; exact keepK (n := 1) rfl rfl) ⟨rfl, rfl⟩
set_option maxHeartbeats 4000000 in
theorem act_kill (s s' : Shelf) (h : s.ok) (who num res to scope n c : Int) (z L : List Thing) (z1 : Thing) (hw : 0 ≤ who ∧ who < (s.tables.length : Int)) (hto : 0 ≤ to ∧ to < (s.tables.length : Int)) (hC : RetM env.P 50 [some (boxRow s.csO)] [.ptr 0 0 0, .i .i64 who] (fun r H => r = .row 1 L.length ∧ H = [some (boxRow s'.csO), some (rowL 3 Thing.cs L)])) : RetM env.P 29 [some (boxRow s.csO)] [.ptr 0 0 0, .agg (⟨6, who, num, res, to, scope⟩ : ShelfAct).cs] (fun r H => r = .i .i64 0 ∧ H = [some (boxRow s'.csO)]) := by
 have hl : s.tables.length ≤ 1048576 := h.1.1
 refine ret_ofM (nt := 92) (rvs := [.tmp 4]) Tryz.func29 rfl rfl rfl rfl (fun X hX => ?_)
 repeat' (first | exact aa | ((conv => whnf) <;> (first | (refine dt_goC [0] ?_) | refine And.intro ?_ ?_ | (intro _h; first | contradiction | (try simp only [dd] at _h)) | (refine dt_go ?_) | exact rfl | exact True.intro | exact dkk | exact dks | ((first | refine .inl ⟨_, Ret.wka (isTable_ok s h _), ?_⟩ | refine ⟨_, Ret.wka (isTable_ok s h _), ?_⟩); (try rintro _ rfl)) | (refine .inr (.inl (.inl ⟨[0], _, _, _, hC, viewA, ⟨rfl, rfl⟩, ?_⟩)); rintro _ _ ⟨rfl, rfl⟩; refine ⟨rfl, _, lokA, ?_⟩) | (refine wrap_succ ?_; omega))))
 all_goals (conv => whnf)
 all_goals exact endM_pick [0] [some (boxRow s'.csO)] (.i .i64 0) (view_of rfl (.cons rfl (.self (rowPl_box rfl)) .nil)) rfl rfl (by rw [hX]; exact keepK (n := 1) rfl rfl) ⟨rfl, rfl⟩
set_option maxHeartbeats 4000000 in
theorem act_out (s : Shelf) (h : s.ok) (a : ShelfAct) (ho : ¬ ((0 ≤ a.who ∧ a.who < (s.tables.length : Int)) ∧ (0 ≤ a.to ∧ a.to < (s.tables.length : Int)))) : RetM env.P 29 [some (boxRow s.csO)] [.ptr 0 0 0, .agg a.cs] (fun r H => r = .i .i64 2 ∧ H = [some (boxRow s.csO)]) := by
 have hl : s.tables.length ≤ 1048576 := h.1.1
 refine ret_ofM (nt := 92) (rvs := [.tmp 4]) Tryz.func29 rfl rfl rfl rfl (fun X hX => ?_)
 repeat' (first | exact aa | ((conv => whnf) <;> (first | refine And.intro ?_ ?_ | (intro _h; first | contradiction | (try simp only [dd] at _h)) | (refine dt_go ?_) | exact rfl | exact True.intro | exact dkk | exact dks | ((first | refine .inl ⟨_, Ret.wka (isTable_ok s h _), ?_⟩ | refine ⟨_, Ret.wka (isTable_ok s h _), ?_⟩); (try rintro _ rfl)) | (refine wrap_succ ?_; omega))))
 all_goals first
  | (exfalso; exact ho ⟨Classical.not_not.1 ‹_›, Classical.not_not.1 ‹_›⟩)
  | (exfalso; exact ho ⟨‹_›, ‹_›⟩)
  | skip
 all_goals (conv => whnf)
 all_goals exact endM_pick [0] [some (boxRow s.csO)] (.i .i64 2) (view_of rfl (.cons rfl (.self (rowPl_box rfl)) .nil)) rfl rfl (by rw [hX]; exact keepK (n := 1) rfl rfl) ⟨rfl, rfl⟩
end Go.Proofs.YtmglpojnoadgeaaGreat
