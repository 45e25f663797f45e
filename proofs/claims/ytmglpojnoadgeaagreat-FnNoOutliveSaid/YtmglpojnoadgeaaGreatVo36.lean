/- Texts for VHandlesOneP. -/
import Derived.Test.YtmglpojnoadgeaaGreatVo29
namespace Go.Proofs.YtmglpojnoadgeaaGreat
open Go Go.RowKit
set_option linter.unusedVariables false
set_option linter.unusedSimpArgs false
theorem l19At_or (s : Shelf) (h : s.ok) (who num : Int) : Ret env.P 85 [rfL s.cs, .i .i64 who, .i .i64 num] (fun r => (∃ x, s.at_ who num = some x ∧ r = .tup [.agg x.cs, .b true]) ∨ (s.at_ who num = none ∧ r = .tup [.agg (Entry.cs ⟨0, 0, false, 0, 0, 0, 0⟩), .b false])) :=
 (l19At_ok s h who num).mono fun r hr => by
  cases hE : s.at_ who num with
  | none => exact .inr ⟨rfl, by rw [hr, hE]; rfl⟩
  | some x => exact .inl ⟨x, rfl, by rw [hr, hE]; rfl⟩
def Shelf.closedT (s : Shelf) (K : Nat → Entry → Bool) (i : Nat) : Prop := ∀ k, k < (s.tables.getD i default).entries.length → K i ((s.tables.getD i default).entries.getD k default) = true → ((s.tables.getD i default).entries.getD k default).own = true ∨ ¬ (s.keep K).orig ((s.tables.getD i default).entries.getD k default) = none
structure LoA (s : Shelf) (K0 : Nat → Entry → Bool) (x : Bool × (Nat → Entry → Bool)) : Prop where
 cut : s.Cut K0 x.2
 fin : x.1 = false → ∀ i, i < s.tables.length → s.closedT x.2 i
structure LoB (s : Shelf) (K0 K : Nat → Entry → Bool) (y : Nat × Bool × (Nat → Entry → Bool)) : Prop where
 le : y.1 ≤ s.tables.length
 cut : s.Cut K0 y.2.2
 same : y.2.1 = false → y.2.2 = K ∧ ∀ j, j < y.1 → s.closedT K j
 less : y.2.1 = true → (s.keep y.2.2).cnt < (s.keep K).cnt
structure LoC (S : Shelf) (i k : Nat) : Prop where
 le : k ≤ (S.tables.getD i default).entries.length
 h : ∀ j, j < k → ((S.tables.getD i default).entries.getD j default).own = true ∨ ¬ S.orig ((S.tables.getD i default).entries.getD j default) = none
def muA (s : Shelf) (x : Bool × (Nat → Entry → Bool)) : Nat := 2 * (s.keep x.2).cnt + (if x.1 = true then 1 else 0)
theorem loA_start {s : Shelf} {K0 : Nat → Entry → Bool} : LoA s K0 (true, K0) := ⟨.start s K0, fun h => by cases h⟩
theorem loB_start {s : Shelf} {K0 : Nat → Entry → Bool} {x : Bool × (Nat → Entry → Bool)} (h : LoA s K0 x) : LoB s K0 x.2 (0, false, x.2) := ⟨Nat.zero_le _, h.cut, fun _ => ⟨rfl, fun j hj => absurd hj (Nat.not_lt_zero _)⟩, fun h => by cases h⟩
theorem loC_start (S : Shelf) (i : Nat) : LoC S i 0 := ⟨Nat.zero_le _, fun j hj => absurd hj (Nat.not_lt_zero _)⟩
theorem LoC.own {S : Shelf} {i k : Nat} (h : LoC S i k) (hk : k < (S.tables.getD i default).entries.length) (ho : ((S.tables.getD i default).entries.getD k default).own = true ∨ ¬ S.orig ((S.tables.getD i default).entries.getD k default) = none) : LoC S i (k + 1) := ⟨hk, fun j hj => by
 rcases Nat.lt_or_eq_of_le (Nat.le_of_lt_succ hj) with q | rfl
 ·exact h.h j q
 ·exact ho⟩
theorem LoC.closed {s : Shelf} {K : Nat → Entry → Bool} {i k : Nat} (h : LoC (s.keep K) i k) (hn : ¬ k < ((s.keep K).tables.getD i default).entries.length) : s.closedT K i := fun j hj hK => by
 have hm : (s.tables.getD i default).entries.getD j default ∈ ((s.keep K).tables.getD i default).entries := by
  rw [keep_tab]
  exact List.mem_filter.2 ⟨getD_mem hj, hK⟩
 obtain ⟨q, hq⟩ := List.getElem?_of_mem hm
 have := h.h q (by have := (List.getElem?_eq_some_iff.1 hq).1; omega)
 rw [List.getD_eq_getElem?_getD, hq] at this
 exact this
theorem LoB.next {s : Shelf} {K0 K : Nat → Entry → Bool} {y : Nat × Bool × (Nat → Entry → Bool)} (h : LoB s K0 K y) (hi : y.1 < s.tables.length) (hc : s.closedT y.2.2 y.1) : LoB s K0 K (y.1 + 1, y.2.1, y.2.2) := ⟨hi, h.cut, fun q => ⟨(h.same q).1, fun j hj => by
 rcases Nat.lt_or_eq_of_le (Nat.le_of_lt_succ hj) with r | rfl
 ·exact (h.same q).2 j r
 ·rw [← (h.same q).1]; exact hc⟩, h.less⟩
theorem LoB.cutS {s : Shelf} {K0 K : Nat → Entry → Bool} {y : Nat × Bool × (Nat → Entry → Bool)} (hu : ∀ i, uniq (s.tables.getD i default).entries) (h : LoB s K0 K y) (hi : y.1 < s.tables.length) {k : Nat} (hk : k < ((s.keep y.2.2).tables.getD y.1 default).entries.length)
  (ho : (((s.keep y.2.2).tables.getD y.1 default).entries.getD k default).own = false) (hn : (s.keep y.2.2).orig (((s.keep y.2.2).tables.getD y.1 default).entries.getD k default) = none) : LoB s K0 K (y.1 + 1, true, delE y.2.2 y.1 (((s.keep y.2.2).tables.getD y.1 default).entries.getD k default).num) := by
 have hm := getD_mem hk
 refine ⟨hi, ?_, fun q => (by cases q), fun _ => ?_⟩
 ·generalize ((s.keep y.2.2).tables.getD y.1 default).entries.getD k default = e at hm ho hn
  rw [keep_tab] at hm
  exact h.cut.del hu (List.mem_filter.1 hm).1 (h.cut.dead hu ho hn)
 ·have h1 : (s.keep (delE y.2.2 y.1 (((s.keep y.2.2).tables.getD y.1 default).entries.getD k default).num)).cnt < (s.keep y.2.2).cnt := by
   rw [← keep_cut hi]
   exact cnt_setE (by rw [keep_len]; exact hi) (cutL_lt hk rfl)
  refine Nat.lt_of_lt_of_le h1 ?_
  cases hb : y.2.1 with
  | true => exact Nat.le_of_lt (h.less hb)
  | false => rw [← (h.same hb).1]; exact Nat.le_refl _
theorem LoB.done {s : Shelf} {K0 : Nat → Entry → Bool} {x : Bool × (Nat → Entry → Bool)} {y : Nat × Bool × (Nat → Entry → Bool)} (h : LoB s K0 x.2 y) (hn : ¬ y.1 < s.tables.length) (hx : x.1 = true) : LoA s K0 (y.2.1, y.2.2) ∧ muA s (y.2.1, y.2.2) < muA s x := by
 refine ⟨⟨h.cut, fun q i hi => ?_⟩, ?_⟩
 ·have hle := h.le
  rw [show (y.2.1, y.2.2).2 = x.2 from (h.same q).1]
  exact (h.same q).2 i (by omega)
 ·unfold muA
  rw [if_pos hx]
  dsimp only
  cases hb : y.2.1 with
  | true => have := h.less hb; rw [if_pos rfl]; omega
  | false => rw [(h.same hb).1, if_neg (by decide)]; omega
theorem LoA.fixed {s : Shelf} {K0 : Nat → Entry → Bool} {x : Bool × (Nat → Entry → Bool)} (hg : s.Tidy) (h : LoA s K0 x) (hx : x.1 = false) : s.keep x.2 = s.keep (s.fixK K0) :=
 (h.cut.done (shelf_uniq hg) (shelf_ends hg) fun i k hi hk hK => h.fin hx i hi k hk hK).one (fixK_fix s K0)
set_option maxRecDepth 8000 in
set_option maxHeartbeats 80000000 in
theorem l19Loose_ok (s : Shelf) (h : s.ok) (hg : s.Tidy) (K0 : Nat → Entry → Bool) : RetM env.P 96 [some (boxRow (s.keep K0).csO)] [.ptr 0 0 0] (fun r H => r = .tup [] ∧ H = [some (boxRow ((s.keep (s.fixK K0)).relend).csO)]) := by
 have hl : s.tables.length ≤ 1048576 := h.1.1
 have h7 := hg.seven
 refine ret_ofM (nt := 117) (rvs := []) Tryz.func96 rfl rfl rfl rfl (fun X hX => ?_)
 repeat' (first | exact aa | ((conv => whnf) <;> (first | (refine loopTF 11 (fun x : Bool × (Nat → Entry → Bool) => [(2, .b x.1)]) (fun x => [some (.box (s.keep x.2).csO)]) (LoA s K0) (muA s) (true, K0) rfl ⟨loA_start, ?_⟩) | (rename_i x hx; refine loopTF 12 (fun y : Nat × Bool × (Nat → Entry → Bool) => [(3, .i .i64 (y.1 : Nat)), (2, .b y.2.1)]) (fun y => [some (.box (s.keep y.2.2).csO)]) (LoB s K0 x.2) (fun y => s.tables.length - y.1) (0, false, x.2) rfl ⟨loB_start hx, ?_⟩) | refine And.intro ?_ ?_ | (intro _h; first | contradiction | (try simp only [dd] at _h)) | (refine dt_go ?_) | exact rfl | exact True.intro | exact dkk | exact dks | (refine wrap_succ ?_; omega))))
 ·rename_i hx1 y hy
  have hTl := keep_len (s := s) (K := y.2.2)
  have hi : y.1 < s.tables.length := by omega
  have hik : y.1 < (s.keep y.2.2).tables.length := by omega
  have he := entLe (keep_ok h (K := y.2.2)) y.1
  conv => whnf
  refine loopTF 29 (fun k : Nat => [(5, .i .i64 k), (2, .b y.2.1)]) (fun k => []) (LoC (s.keep y.2.2) y.1) (fun k => ((s.keep y.2.2).tables.getD y.1 default).entries.length - k) 0 rfl ⟨loC_start _ _, ?_⟩
  repeat' (first | exact aa | ((conv => whnf) <;> (first | exact fx_T (show 2 < 3 by decide) | exact low_cells rfl | exact keeps0_nil _ _ | (refine ld_skip rfl rfl rfl rfl upd_self ?_) | (refine bool_skip any_self ?_) | (first | rw [ld_self rfl] | rw [ld_selfA rfl]) | ((first | refine .inl ⟨_, Ret.wku (l19At_or (s.keep y.2.2) (keep_ok h) _ _), ?_⟩ | refine ⟨_, Ret.wku (l19At_or (s.keep y.2.2) (keep_ok h) _ _), ?_⟩); rintro _ (⟨xe, hE, rfl⟩ | ⟨hE, rfl⟩)) | (refine .inr (.inr ⟨[some (boxRow (s.keep y.2.2).csO), none, none, _], (by intro X; refine Turn.trans (turn_close (id := 1) (i := y.1) (j := 1) (id' := 2) rfl hik (show 1 < 2 by decide) (by first | exact upd_self | exact rfl | (simp only [upd, Nat.beq_refl]; rfl) | (simp only [upd, Int.toNat_natCast, Nat.beq_refl]; rfl)) rfl (show 1 ≠ 2 by decide) rfl (rowO_le (Nat.le_refl _))) ?_; refine Turn.trans (turn_eq (id := 1) (x := rowL 2 Table.csO ((s.keep y.2.2).setE y.1 ((s.keep y.2.2).tables.getD y.1 default).entries).tables) rfl rfl setE_len rfl rfl (setE_rows (l := ((s.keep y.2.2).tables.getD y.1 default).entries) hik rfl (fun i j _ _ => .refl _))) ?_; refine Turn.trans (turn_close (id := 0) (i := 0) (j := 1) (id' := 1) rfl (show 0 < 1 by decide) (show 1 < 3 by decide) rfl rfl (show 0 ≠ 1 by decide) rfl (rowO_le (Nat.le_of_eq setE_len.symm))) ?_; exact turn_box (id := 0) (ds := ((s.keep y.2.2)).csO) rfl rfl rfl (.cons (.refl _) (.cons (OwEq.len rfl (fun i j _ _ => HoldC.h _ j) (fun i j _ _ => by rw [setE_self]; exact .refl _)) (.cons (.refl _) .nil)))), (fun i _ q => (by cases q)), .inl ⟨[0], _, _, _, l19Cut_ok (s.keep y.2.2) (keep_ok h) (y.1 : Nat) _ ⟨by omega, by omega⟩ (by omega), (view_of rfl (.cons rfl (.self (rowPl_box rfl)) .nil)), ⟨rfl, rfl⟩, ?_⟩⟩); rintro _ _ ⟨rfl, rfl⟩; refine ⟨rfl, _, (lok_pl (.cons (rowPl_box rfl) .nil)), ?_⟩) | refine And.intro ?_ ?_ | (intro _h; first | contradiction | (try simp only [dd] at _h)) | (refine dt_go ?_) | exact rfl | exact True.intro | exact dkk | exact dks | (refine wrap_succ ?_; omega))))
  all_goals first
   | (rename_i k hC hlt ho
      have hk : k < ((s.keep y.2.2).tables.getD y.1 default).entries.length := Int.ofNat_lt.1 hlt
      have hC' := hC.own hk (.inr (fun q => by have q' := hE.symm.trans q; cases q'))
      conv => whnf
      refine roundET_end ?_
      refine ⟨k + 1, [], hC', (show ((s.keep y.2.2).tables.getD y.1 default).entries.length - (k + 1) < ((s.keep y.2.2).tables.getD y.1 default).entries.length - k by omega), ?_⟩
      repeat' (first | exact aa | ((conv => whnf) <;> (first | exact fx_T (show 2 < 3 by decide) | exact low_cells rfl | exact keeps0_nil _ _ | (refine ld_skip rfl rfl rfl rfl upd_self ?_) | (refine bool_skip any_self ?_) | (first | rw [ld_self rfl] | rw [ld_selfA rfl]) | refine And.intro ?_ ?_ | (intro _h; first | contradiction | (try simp only [dd] at _h)) | (refine dt_go ?_) | exact rfl | exact True.intro | exact dkk | exact dks | (refine wrap_succ ?_; omega)))))
   | (rename_i k hC hlt
      have hk : k < ((s.keep y.2.2).tables.getD y.1 default).entries.length := Int.ofNat_lt.1 hlt
      have ho : (((s.keep y.2.2).tables.getD y.1 default).entries.getD k default).own = true := by simpa using _h
      have hC' := hC.own hk (.inl ho)
      conv => whnf
      refine roundET_end ?_
      refine ⟨k + 1, [], hC', (show ((s.keep y.2.2).tables.getD y.1 default).entries.length - (k + 1) < ((s.keep y.2.2).tables.getD y.1 default).entries.length - k by omega), ?_⟩
      repeat' (first | exact aa | ((conv => whnf) <;> (first | exact fx_T (show 2 < 3 by decide) | exact low_cells rfl | exact keeps0_nil _ _ | (refine ld_skip rfl rfl rfl rfl upd_self ?_) | (refine bool_skip any_self ?_) | (first | rw [ld_self rfl] | rw [ld_selfA rfl]) | refine And.intro ?_ ?_ | (intro _h; first | contradiction | (try simp only [dd] at _h)) | (refine dt_go ?_) | exact rfl | exact True.intro | exact dkk | exact dks | (refine wrap_succ ?_; omega)))))
   | (rename_i k hC hlt ho
      have hk : k < ((s.keep y.2.2).tables.getD y.1 default).entries.length := Int.ofNat_lt.1 hlt
      have hS := hy.cutS (shelf_uniq hg) hi hk ho hE
      conv => whnf
      refine roundET_turn (turn_box (id := 0) (ds := (s.keep (delE y.2.2 y.1 (((s.keep y.2.2).tables.getD y.1 default).entries.getD k default).num)).csO) rfl rfl rfl (by rw [← keep_cut hi]; exact .cons (.refl _) (.cons (.refl _) (.cons (.refl _) .nil)))) ?_
      refine roundET_end ?_
      refine ⟨(y.1 + 1, true, delE y.2.2 y.1 (((s.keep y.2.2).tables.getD y.1 default).entries.getD k default).num), [], hS, (show s.tables.length - (y.1 + 1) < s.tables.length - y.1 by omega), ?_⟩
      repeat' (first | exact aa | ((conv => whnf) <;> (first | exact fx_T (show 2 < 3 by decide) | exact low_cells rfl | exact keeps0_nil _ _ | (refine ld_skip rfl rfl rfl rfl upd_self ?_) | (refine bool_skip any_self ?_) | (first | rw [ld_self rfl] | rw [ld_selfA rfl]) | refine And.intro ?_ ?_ | (intro _h; first | contradiction | (try simp only [dd] at _h)) | (refine dt_go ?_) | exact rfl | exact True.intro | exact dkk | exact dks | (refine wrap_succ ?_; omega)))))
   | (rename_i k hC
      have hk : ¬ k < ((s.keep y.2.2).tables.getD y.1 default).entries.length := fun q => _h (Int.ofNat_lt.2 q)
      have hS := hy.next hi (hC.closed hk)
      conv => whnf
      refine roundET_turn (turn_close (id := 1) (i := y.1) (j := 1) (id' := 2) rfl hik (show 1 < 2 by decide) (by first | exact upd_self | exact rfl | (simp only [upd, Nat.beq_refl]; rfl) | (simp only [upd, Int.toNat_natCast, Nat.beq_refl]; rfl)) rfl (show 1 ≠ 2 by decide) rfl (rowO_le (Nat.le_refl _))) ?_
      refine roundET_turn (turn_eq (id := 1) (x := rowL 2 Table.csO ((s.keep y.2.2).setE y.1 ((s.keep y.2.2).tables.getD y.1 default).entries).tables) rfl rfl setE_len rfl rfl (setE_rows (l := ((s.keep y.2.2).tables.getD y.1 default).entries) hik rfl (fun i j _ _ => .refl _))) ?_
      refine roundET_turn (turn_close (id := 0) (i := 0) (j := 1) (id' := 1) rfl (show 0 < 1 by decide) (show 1 < 3 by decide) rfl rfl (show 0 ≠ 1 by decide) rfl (rowO_le (Nat.le_of_eq setE_len.symm))) ?_
      refine roundET_turn (turn_box (id := 0) (ds := ((s.keep y.2.2)).csO) rfl rfl rfl (.cons (.refl _) (.cons (OwEq.len rfl (fun i j _ _ => HoldC.h _ j) (fun i j _ _ => by rw [setE_self]; exact .refl _)) (.cons (.refl _) .nil)))) ?_
      refine roundET_end ?_
      refine ⟨(y.1 + 1, y.2.1, y.2.2), [], hS, (show s.tables.length - (y.1 + 1) < s.tables.length - y.1 by omega), ?_⟩
      repeat' (first | exact aa | ((conv => whnf) <;> (first | exact fx_T (show 2 < 3 by decide) | exact low_cells rfl | exact keeps0_nil _ _ | (refine ld_skip rfl rfl rfl rfl upd_self ?_) | (refine bool_skip any_self ?_) | (first | rw [ld_self rfl] | rw [ld_selfA rfl]) | refine And.intro ?_ ?_ | (intro _h; first | contradiction | (try simp only [dd] at _h)) | (refine dt_go ?_) | exact rfl | exact True.intro | exact dkk | exact dks | (refine wrap_succ ?_; omega)))))
   | skip
 ·rename_i hx1 y hy
  have hTl := keep_len (s := s) (K := y.2.2)
  have hA := hy.done (by omega) hx1
  conv => whnf
  refine roundET_turn (turn_close (id := 0) (i := 0) (j := 1) (id' := 1) rfl (show 0 < 1 by decide) (show 1 < 3 by decide) rfl rfl (show 0 ≠ 1 by decide) rfl (rowO_le (Nat.le_refl _))) ?_
  refine roundET_turn (turn_box (id := 0) (ds := ((s.keep y.2.2)).csO) rfl rfl rfl (.cons (.refl _) (.cons (.refl _) (.cons (.refl _) .nil)))) ?_
  refine roundET_end ?_
  refine ⟨(y.2.1, y.2.2), [], hA.1, hA.2, ?_⟩
  repeat' (first | exact aa | ((conv => whnf) <;> (first | exact fx_T (show 2 < 3 by decide) | exact low_cells rfl | exact keeps0_nil _ _ | (refine ld_skip rfl rfl rfl rfl upd_self ?_) | (refine bool_skip any_self ?_) | (first | rw [ld_self rfl] | rw [ld_selfA rfl]) | refine And.intro ?_ ?_ | (intro _h; first | contradiction | (try simp only [dd] at _h)) | (refine dt_go ?_) | exact rfl | exact True.intro | exact dkk | exact dks | (refine wrap_succ ?_; omega))))
  all_goals trace_state
 ·rename_i x hx
  have hF := hx.fixed hg _h
  rw [hF]
  generalize hS : s.keep (s.fixK K0) = S
  have hSl : S.tables.length = s.tables.length := by rw [← hS]; exact keep_len
  have hSo : S.ok := by rw [← hS]; exact keep_ok h
  repeat' (first | exact aa | ((conv => whnf) <;> (first | (refine lw_turn [some (boxRow (lendU (leF S.all) S 0 0).csO)] (by rw [lendU_zero]; exact Turn.refl) ?_; refine loopTF 68 (fun i : Nat => [(8, .i .i64 i)]) (fun i => [some (.box (lendU (leF S.all) S i 0).csO)]) (fun i => i ≤ S.tables.length) (fun i => S.tables.length - i) 0 rfl ⟨Nat.zero_le _, ?_⟩) | refine And.intro ?_ ?_ | (intro _h; first | contradiction | (try simp only [dd] at _h)) | (refine dt_go ?_) | exact rfl | exact True.intro | exact dkk | exact dks | (refine wrap_succ ?_; omega))))
  ·rename_i i _
   have hTl : (lendU (leF S.all) S i 0).tables.length = S.tables.length := lendU_len
   have hi : i < S.tables.length := by omega
   conv => whnf
   ·have hikA : ∀ j, i < ((lendU (leF S.all) S i j)).tables.length := fun j => by rw [lendU_len]; exact hi
    have hik := hikA 0
    refine lw_turn _ (turn_close (id := 0) (i := 0) (j := 1) (id' := 1) rfl (show 0 < 1 by decide) (show 1 < 3 by decide) rfl rfl (show 0 ≠ 1 by decide) rfl (rowO_le (Nat.le_refl _))) ?_
    refine lw_turn _ (turn_box (id := 0) (ds := ((lendU (leF S.all) S i 0)).csO) rfl rfl rfl (.cons (.refl _) (.cons (.refl _) (.cons (.refl _) .nil)))) ?_
    refine loopTF 77 (fun j : Nat => [(9, .i .i64 j)]) (fun j => [some (.box (lendU (leF S.all) S i j).csO), none]) (fun j => j ≤ (S.tables.getD i default).entries.length) (fun j => (S.tables.getD i default).entries.length - j) 0 rfl ⟨Nat.zero_le _, ?_⟩
    repeat' (first | exact aa | ((conv => whnf) <;> (first | exact fx_T (show 2 < 3 by decide) | exact low_cells rfl | exact keeps0_nil _ _ | (refine ld_skip rfl rfl rfl rfl upd_self ?_) | (refine bool_skip any_self ?_) | (first | rw [ld_self rfl] | rw [ld_selfA rfl]) | (rename_i j _; ((first | refine .inl ⟨_, Ret.wku (l19Lent_ok (lendU (leF S.all) S i j) (lendU_ok hSo) _ _), ?_⟩ | refine ⟨_, Ret.wku (l19Lent_ok (lendU (leF S.all) S i j) (lendU_ok hSo) _ _), ?_⟩); (try rintro _ rfl))) | exact Int.ofNat_lt.2 (hikA _) | refine And.intro ?_ ?_ | (intro _h; first | contradiction | (try simp only [dd] at _h)) | (refine dt_go ?_) | exact rfl | exact True.intro | exact dkk | exact dks | (refine wrap_succ ?_; omega))))
    ·rename_i j _
     have hj : j < (S.tables.getD i default).entries.length := by have := lendU_elen (f := leF S.all) (s := S) (i := i) (k := j) (j := i); have hl0 := Int.ofNat_lt.1 _h; exact Nat.lt_of_lt_of_eq hl0 this
     have hik : i < (lendU (leF S.all) S i j).tables.length := by rw [lendU_len]; exact hi
     have hlt : j < ((lendU (leF S.all) S i j).tables.getD i default).entries.length := by rw [lendU_elen]; exact hj
     have hU : (lendU (leF S.all) S i j).setE i (setLd ((lendU (leF S.all) S i j).tables.getD i default).entries j (leF (lendU (leF S.all) S i j).all [((i : Nat) : Int), (((lendU (leF S.all) S i j).tables.getD i default).entries.getD j default).num])) = (lendU (leF S.all) S i (j + 1)) := lendU_step hi hj (by rw [lendU_le, lendU_ent hj, if_neg (by omega)])
     conv => whnf
     refine roundET_turn (turn_close (id := 2) (i := i) (j := 1) (id' := 3) rfl hik (show 1 < 2 by decide) (by first | exact upd_self | exact rfl | (simp only [upd, Nat.beq_refl]; rfl) | (simp only [upd, Int.toNat_natCast, Nat.beq_refl]; rfl)) rfl (show 2 ≠ 3 by decide) rfl (by exact setLd_rowO (Nat.le_refl _))) ?_
     refine roundET_turn (turn_eq (id := 2) (x := rowL 2 Table.csO ((lendU (leF S.all) S i j).setE i (setLd ((lendU (leF S.all) S i j).tables.getD i default).entries j (leF (lendU (leF S.all) S i j).all [((i : Nat) : Int), (((lendU (leF S.all) S i j).tables.getD i default).entries.getD j default).num]))).tables) rfl rfl setE_len rfl rfl (setE_rows (l := (setLd ((lendU (leF S.all) S i j).tables.getD i default).entries j (leF (lendU (leF S.all) S i j).all [((i : Nat) : Int), (((lendU (leF S.all) S i j).tables.getD i default).entries.getD j default).num]))) hik setLd_len.symm (setLd_rows hlt))) ?_
     refine roundET_turn (turn_close (id := 0) (i := 0) (j := 1) (id' := 2) rfl (show 0 < 1 by decide) (show 1 < 3 by decide) rfl rfl (show 0 ≠ 2 by decide) rfl (rowO_le (Nat.le_of_eq setE_len.symm))) ?_
     refine roundET_turn (turn_box (id := 0) (ds := (lendU (leF S.all) S i (j + 1)).csO) rfl rfl rfl (by rw [← hU]; exact (.cons (.refl _) (.cons (OwEq.len setE_len.symm (fun i j _ _ => HoldC.h _ j) (fun i j _ _ => .refl _)) (.cons (.refl _) .nil))))) ?_
     refine roundET_end ?_
     refine ⟨j + 1, [], hj, (show (S.tables.getD i default).entries.length - (j + 1) < (S.tables.getD i default).entries.length - j by omega), ?_⟩
     repeat' (first | exact aa | ((conv => whnf) <;> (first | exact fx_T (show 2 < 3 by decide) | exact low_cells rfl | exact keeps0_nil _ _ | (refine ld_skip rfl rfl rfl rfl upd_self ?_) | (refine bool_skip any_self ?_) | (first | rw [ld_self rfl] | rw [ld_selfA rfl]) | (refine wrap_succ ?_; have := entLe hSo i; omega) | refine And.intro ?_ ?_ | (intro _h; first | contradiction | (try simp only [dd] at _h)) | (refine dt_go ?_) | exact rfl | exact True.intro | exact dkk | exact dks | (refine wrap_succ ?_; omega))))
    ·rename_i j _
     have hj : ¬ j < (S.tables.getD i default).entries.length := fun q => _h (Int.ofNat_lt.2 (Nat.lt_of_lt_of_eq q (lendU_elen (f := leF S.all) (s := S) (i := i) (k := j) (j := i)).symm))
     have hik : i < (lendU (leF S.all) S i j).tables.length := by rw [lendU_len]; exact hi
     conv => whnf
     refine roundET_turn (turn_close (id := 2) (i := i) (j := 1) (id' := 3) rfl hik (show 1 < 2 by decide) (by first | exact upd_self | exact rfl | (simp only [upd, Nat.beq_refl]; rfl) | (simp only [upd, Int.toNat_natCast, Nat.beq_refl]; rfl)) rfl (show 2 ≠ 3 by decide) rfl (rowO_le (Nat.le_refl _))) ?_
     refine roundET_turn (turn_eq (id := 2) (x := rowL 2 Table.csO ((lendU (leF S.all) S i j).setE i ((lendU (leF S.all) S i j).tables.getD i default).entries).tables) rfl rfl setE_len rfl rfl (setE_rows (l := ((lendU (leF S.all) S i j).tables.getD i default).entries) hik rfl (fun i j _ _ => .refl _))) ?_
     refine roundET_turn (turn_close (id := 0) (i := 0) (j := 1) (id' := 2) rfl (show 0 < 1 by decide) (show 1 < 3 by decide) rfl rfl (show 0 ≠ 2 by decide) rfl (rowO_le (Nat.le_of_eq setE_len.symm))) ?_
     refine roundET_turn (turn_box (id := 0) (ds := (lendU (leF S.all) S (i + 1) 0).csO) rfl rfl rfl (by rw [← lendU_next hj]; exact (.cons (.refl _) (.cons (OwEq.len rfl (fun i j _ _ => HoldC.h _ j) (fun i j _ _ => by rw [setE_self]; exact .refl _)) (.cons (.refl _) .nil))))) ?_
     refine roundET_end ?_
     refine ⟨i + 1, [], hi, (show S.tables.length - (i + 1) < S.tables.length - i by omega), ?_⟩
     repeat' (first | exact aa | ((conv => whnf) <;> (first | exact fx_T (show 2 < 3 by decide) | exact low_cells rfl | exact keeps0_nil _ _ | (refine ld_skip rfl rfl rfl rfl upd_self ?_) | (refine bool_skip any_self ?_) | (first | rw [ld_self rfl] | rw [ld_selfA rfl]) | refine And.intro ?_ ?_ | (intro _h; first | contradiction | (try simp only [dd] at _h)) | (refine dt_go ?_) | exact rfl | exact True.intro | exact dkk | exact dks | (refine wrap_succ ?_; omega))))
  ·rename_i i _
   have hTl : (lendU (leF S.all) S i 0).tables.length = S.tables.length := lendU_len
   have hi : ¬ i < S.tables.length := by omega
   conv => whnf
   refine endM_turn (turn_close (id := 0) (i := 0) (j := 1) (id' := 1) rfl (show 0 < 1 by decide) (show 1 < 3 by decide) rfl rfl (show 0 ≠ 1 by decide) rfl (rowO_le (Nat.le_refl _))) ?_
   refine endM_turn (turn_box (id := 0) (ds := S.relend.csO) rfl rfl rfl (by unfold Shelf.relend; rw [← lendU_end hi]; exact (.cons (.refl _) (.cons (.refl _) (.cons (.refl _) .nil))))) ?_
   exact endM_pick [0] [some (boxRow S.relend.csO)] (.tup []) (view_of rfl (.cons rfl (.self (rowPl_box rfl)) .nil)) rfl rfl (by rw [hX]; exact keepK (n := 1) rfl rfl) ⟨rfl, rfl⟩
end Go.Proofs.YtmglpojnoadgeaaGreat
