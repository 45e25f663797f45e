/-
  Shelves that are changed: entries are removed that were lent from none.
  Shelves that are changed: the entries of a scope end.
-/
import Derived.Test.YtfjciadhanfhpaaVEsB
namespace Go.Proofs.Ytfjciadhanfhpaa
open Go Go.RowKit
set_option linter.unusedVariables false
set_option linter.unusedSimpArgs false

theorem l19At_or (s : Shelf) (h : s.ok) (who num : Int) : Ret env.P 77 [rfL s.cs, .i .i64 who, .i .i64 num] (fun r => (∃ x, s.at_ who num = some x ∧ r = .tup [.agg x.cs, .b true]) ∨ (s.at_ who num = none ∧ r = .tup [.agg (Entry.cs ⟨0, 0, false, 0, 0, 0, 0⟩), .b false])) :=
  (l19At_ok s h who num).mono fun r hr => by
    cases hE : s.at_ who num with
    | none => exact .inr ⟨rfl, by rw [hr, hE]; rfl⟩
    | some x => exact .inl ⟨x, rfl, by rw [hr, hE]; rfl⟩

/-- Each entry of a table that is left is an owner, or what it was lent from is there. -/
def Shelf.closedT (s : Shelf) (K : Nat → Entry → Bool) (i : Nat) : Prop := ∀ k, k < (s.tables.getD i default).entries.length → K i ((s.tables.getD i default).entries.getD k default) = true → ((s.tables.getD i default).entries.getD k default).own = true ∨ ¬ (s.keep K).orig ((s.tables.getD i default).entries.getD k default) = none
structure LoA (s : Shelf) (K0 : Nat → Entry → Bool) (x : Bool × (Nat → Entry → Bool)) : Prop where
  cut : s.Cut K0 x.2
  fin : x.1 = false → ∀ i, i < s.tables.length → s.closedT x.2 i
structure LoB (s : Shelf) (K0 K : Nat → Entry → Bool) (y : Nat × Bool × (Nat → Entry → Bool)) : Prop where
  le : y.1 ≤ s.tables.length
  cut : s.Cut K0 y.2.2
  same : y.2.1 = false → y.2.2 = K ∧ ∀ j, j < y.1 → s.closedT K j
  less : y.2.1 = true → (s.keep y.2.2).cnt < (s.keep K).cnt
structure LoC (S : Shelf) (i k : Nat) : Prop where
  le : k ≤ (S.tables.getD i default).entries.length
  h : ∀ j, j < k → ((S.tables.getD i default).entries.getD j default).own = true ∨ ¬ S.orig ((S.tables.getD i default).entries.getD j default) = none
def muA (s : Shelf) (x : Bool × (Nat → Entry → Bool)) : Nat := 2 * (s.keep x.2).cnt + (if x.1 = true then 1 else 0)
theorem loA_start {s : Shelf} {K0 : Nat → Entry → Bool} : LoA s K0 (true, K0) := ⟨.start s K0, fun h => by cases h⟩
theorem loB_start {s : Shelf} {K0 : Nat → Entry → Bool} {x : Bool × (Nat → Entry → Bool)} (h : LoA s K0 x) : LoB s K0 x.2 (0, false, x.2) := ⟨Nat.zero_le _, h.cut, fun _ => ⟨rfl, fun j hj => absurd hj (Nat.not_lt_zero _)⟩, fun h => by cases h⟩
theorem loC_start (S : Shelf) (i : Nat) : LoC S i 0 := ⟨Nat.zero_le _, fun j hj => absurd hj (Nat.not_lt_zero _)⟩
theorem LoC.own {S : Shelf} {i k : Nat} (h : LoC S i k) (hk : k < (S.tables.getD i default).entries.length) (ho : ((S.tables.getD i default).entries.getD k default).own = true ∨ ¬ S.orig ((S.tables.getD i default).entries.getD k default) = none) : LoC S i (k + 1) := ⟨hk, fun j hj => by
  rcases Nat.lt_or_eq_of_le (Nat.le_of_lt_succ hj) with q | rfl
  · exact h.h j q
  · exact ho⟩
theorem LoC.closed {s : Shelf} {K : Nat → Entry → Bool} {i k : Nat} (h : LoC (s.keep K) i k) (hn : ¬ k < ((s.keep K).tables.getD i default).entries.length) : s.closedT K i := fun j hj hK => by
  have hm : (s.tables.getD i default).entries.getD j default ∈ ((s.keep K).tables.getD i default).entries := by
    rw [keep_tab]
    exact List.mem_filter.2 ⟨getD_mem hj, hK⟩
  obtain ⟨q, hq⟩ := List.getElem?_of_mem hm
  have := h.h q (by have := (List.getElem?_eq_some_iff.1 hq).1; omega)
  rw [List.getD_eq_getElem?_getD, hq] at this
  exact this
theorem LoB.next {s : Shelf} {K0 K : Nat → Entry → Bool} {y : Nat × Bool × (Nat → Entry → Bool)} (h : LoB s K0 K y) (hi : y.1 < s.tables.length) (hc : s.closedT y.2.2 y.1) : LoB s K0 K (y.1 + 1, y.2.1, y.2.2) := ⟨hi, h.cut, fun q => ⟨(h.same q).1, fun j hj => by
  rcases Nat.lt_or_eq_of_le (Nat.le_of_lt_succ hj) with r | rfl
  · exact (h.same q).2 j r
  · rw [← (h.same q).1]; exact hc⟩, h.less⟩
theorem LoB.cutS {s : Shelf} {K0 K : Nat → Entry → Bool} {y : Nat × Bool × (Nat → Entry → Bool)} (hu : ∀ i, uniq (s.tables.getD i default).entries) (h : LoB s K0 K y) (hi : y.1 < s.tables.length) {k : Nat} (hk : k < ((s.keep y.2.2).tables.getD y.1 default).entries.length)
    (ho : (((s.keep y.2.2).tables.getD y.1 default).entries.getD k default).own = false) (hn : (s.keep y.2.2).orig (((s.keep y.2.2).tables.getD y.1 default).entries.getD k default) = none) : LoB s K0 K (y.1 + 1, true, delE y.2.2 y.1 (((s.keep y.2.2).tables.getD y.1 default).entries.getD k default).num) := by
  have hm := getD_mem hk
  refine ⟨hi, ?_, fun q => (by cases q), fun _ => ?_⟩
  · generalize ((s.keep y.2.2).tables.getD y.1 default).entries.getD k default = e at hm ho hn
    rw [keep_tab] at hm
    exact h.cut.del hu (List.mem_filter.1 hm).1 (h.cut.dead hu ho hn)
  · have h1 : (s.keep (delE y.2.2 y.1 (((s.keep y.2.2).tables.getD y.1 default).entries.getD k default).num)).cnt < (s.keep y.2.2).cnt := by
      rw [← keep_cut hi]
      exact cnt_setE (by rw [keep_len]; exact hi) (cutL_lt hk rfl)
    refine Nat.lt_of_lt_of_le h1 ?_
    cases hb : y.2.1 with
    | true => exact Nat.le_of_lt (h.less hb)
    | false => rw [← (h.same hb).1]; exact Nat.le_refl _
theorem LoB.done {s : Shelf} {K0 : Nat → Entry → Bool} {x : Bool × (Nat → Entry → Bool)} {y : Nat × Bool × (Nat → Entry → Bool)} (h : LoB s K0 x.2 y) (hn : ¬ y.1 < s.tables.length) (hx : x.1 = true) : LoA s K0 (y.2.1, y.2.2) ∧ muA s (y.2.1, y.2.2) < muA s x := by
  refine ⟨⟨h.cut, fun q i hi => ?_⟩, ?_⟩
  · have hle := h.le
    rw [show (y.2.1, y.2.2).2 = x.2 from (h.same q).1]
    exact (h.same q).2 i (by omega)
  · unfold muA
    rw [if_pos hx]
    dsimp only
    cases hb : y.2.1 with
    | true => have := h.less hb; rw [if_pos rfl]; omega
    | false => rw [(h.same hb).1, if_neg (by decide)]; omega
theorem LoA.fixed {s : Shelf} {K0 : Nat → Entry → Bool} {x : Bool × (Nat → Entry → Bool)} (hg : s.good) (h : LoA s K0 x) (hx : x.1 = false) : s.keep x.2 = s.keep (s.fixK K0) :=
  (h.cut.done (shelf_uniq hg) (shelf_ends hg) fun i k hi hk hK => h.fin hx i hi k hk hK).one (fixK_fix s K0)

set_option maxRecDepth 8000 in
set_option maxHeartbeats 80000000 in
theorem l19Loose_ok (s : Shelf) (h : s.ok) (hg : s.good) (K0 : Nat → Entry → Bool) : RetM env.P 60 [some (boxRow (s.keep K0).csO)] [.ptr 0 0 0] (fun r H => r = .tup [] ∧ H = [some (boxRow ((s.keep (s.fixK K0)).relend).csO)]) := by
  have hl : s.tables.length ≤ 1048576 := h.1.1
  have h7 := hg.2.1.2
  refine ret_ofM (nt := 117) (rvs := []) Try.func60 rfl rfl rfl rfl (fun X hX => ?_)
  repeat' (first | exact aa | ((conv => whnf) <;> (first | (refine loopTF 11 (fun x : Bool × (Nat → Entry → Bool) => [(2, .b x.1)]) (fun x => [some (.box (s.keep x.2).csO)]) (LoA s K0) (muA s) (true, K0) rfl ⟨loA_start, ?_⟩) | (rename_i x hx; refine loopTF 12 (fun y : Nat × Bool × (Nat → Entry → Bool) => [(3, .i .i64 (y.1 : Nat)), (2, .b y.2.1)]) (fun y => [some (.box (s.keep y.2.2).csO)]) (LoB s K0 x.2) (fun y => s.tables.length - y.1) (0, false, x.2) rfl ⟨loB_start hx, ?_⟩) | refine And.intro ?_ ?_ | (intro _h; first | contradiction | (try simp only [dd] at _h)) | (refine dt_go ?_) | exact rfl | exact True.intro | exact dkk | exact dks | (refine wrap_succ ?_; omega))))
  · rename_i hx1 y hy
    have hTl := keep_len (s := s) (K := y.2.2)
    have hi : y.1 < s.tables.length := by omega
    have hik : y.1 < (s.keep y.2.2).tables.length := by omega
    have he := entLe (keep_ok h (K := y.2.2)) y.1
    conv => whnf
    refine loopTF 29 (fun k : Nat => [(5, .i .i64 k), (2, .b y.2.1)]) (fun k => []) (LoC (s.keep y.2.2) y.1) (fun k => ((s.keep y.2.2).tables.getD y.1 default).entries.length - k) 0 rfl ⟨loC_start _ _, ?_⟩
    repeat' (first | exact aa | ((conv => whnf) <;> (first | exact fx_T (show 2 < 3 by decide) | exact low_cells rfl | exact keeps0_nil _ _ | ((first | refine .inl ⟨_, Ret.wk (by ((repeat (first | exact WkL.nil | refine WkL.cons ?_ ?_ | exact Wk.refl _ | exact Wk.rfc rfl | refine Wk.fn ?_ | exact Wk.nilS0 | exact shr_L (d := 0) (k := 4) rfl | exact shr_L (d := 1) (k := 3) rfl | exact shr_L (d := 2) (k := 2) rfl | exact shr_L (d := 0) (k := 4) (by simp only [markL_len]) | exact shr_L (d := 1) (k := 3) (by simp only [markL_len]) | refine Wk.agg ?_ | exact shr_L (d := 0) (k := 3) rfl | exact shr_L (d := 1) (k := 2) rfl | exact shr_tblU (k := 1) rfl rfl rfl (fun _ _ _ _ => rfl) | exact shr_ow (d := 1) (k := 2) | exact shr_ow (d := 0) (k := 3) | refine Wk.rfLo ?_)); first | done | fail)) (l19At_or (s.keep y.2.2) (keep_ok h) _ _), ?_⟩ | refine ⟨_, Ret.wk (by ((repeat (first | exact WkL.nil | refine WkL.cons ?_ ?_ | exact Wk.refl _ | exact Wk.rfc rfl | refine Wk.fn ?_ | exact Wk.nilS0 | exact shr_L (d := 0) (k := 4) rfl | exact shr_L (d := 1) (k := 3) rfl | exact shr_L (d := 2) (k := 2) rfl | exact shr_L (d := 0) (k := 4) (by simp only [markL_len]) | exact shr_L (d := 1) (k := 3) (by simp only [markL_len]) | refine Wk.agg ?_ | exact shr_L (d := 0) (k := 3) rfl | exact shr_L (d := 1) (k := 2) rfl | exact shr_tblU (k := 1) rfl rfl rfl (fun _ _ _ _ => rfl) | exact shr_ow (d := 1) (k := 2) | exact shr_ow (d := 0) (k := 3) | refine Wk.rfLo ?_)); first | done | fail)) (l19At_or (s.keep y.2.2) (keep_ok h) _ _), ?_⟩); rintro _ (⟨xe, hE, rfl⟩ | ⟨hE, rfl⟩)) | (refine .inr (.inr ⟨[some (boxRow (s.keep y.2.2).csO), none, none, _], (by intro X; refine Turn.trans (turn_close (id := 1) (i := y.1) (j := 1) (id' := 2) rfl hik (show 1 < 2 by decide) (by first | exact rfl | (simp only [upd, Nat.beq_refl]; rfl) | (simp only [upd, Int.toNat_natCast, Nat.beq_refl]; rfl)) rfl (show 1 ≠ 2 by decide) rfl (rowO_le (Nat.le_refl _))) ?_; refine Turn.trans (turn_eq (id := 1) (x := rowL 2 Table.csO ((s.keep y.2.2).setE y.1 ((s.keep y.2.2).tables.getD y.1 default).entries).tables) rfl rfl setE_len rfl rfl (setE_rows (l := ((s.keep y.2.2).tables.getD y.1 default).entries) hik rfl (fun i j _ _ => .refl _))) ?_; refine Turn.trans (turn_close (id := 0) (i := 0) (j := 1) (id' := 1) rfl (show 0 < 1 by decide) (show 1 < 3 by decide) rfl rfl (show 0 ≠ 1 by decide) rfl (rowO_le (Nat.le_of_eq setE_len.symm))) ?_; exact turn_box (id := 0) (ds := ((s.keep y.2.2)).csO) rfl rfl rfl (.cons (.refl _) (.cons (OwEq.len rfl (fun i j _ _ => HoldC.h _ j) (fun i j _ _ => by rw [setE_self]; exact .refl _)) (.cons (.refl _) .nil)))), (fun i _ q => (by cases q)), .inl ⟨[0], _, _, _, l19Cut_ok (s.keep y.2.2) (keep_ok h) (y.1 : Nat) _ ⟨by omega, by omega⟩ (by omega), (view_of rfl (.cons rfl (.self (rowPl_box rfl)) .nil)), ⟨rfl, rfl⟩, ?_⟩⟩); rintro _ _ ⟨rfl, rfl⟩; refine ⟨rfl, _, (lok_pl (.cons (rowPl_box rfl) .nil)), ?_⟩) | refine And.intro ?_ ?_ | (intro _h; first | contradiction | (try simp only [dd] at _h)) | (refine dt_go ?_) | exact rfl | exact True.intro | exact dkk | exact dks | (refine wrap_succ ?_; omega))))
    all_goals first
      | (rename_i k hC hlt ho
         have hk : k < ((s.keep y.2.2).tables.getD y.1 default).entries.length := Int.ofNat_lt.1 hlt
         have hC' := hC.own hk (.inr (fun q => by have q' := hE.symm.trans q; cases q'))
         conv => whnf
         refine roundET_end ?_
         refine ⟨k + 1, [], hC', (show ((s.keep y.2.2).tables.getD y.1 default).entries.length - (k + 1) < ((s.keep y.2.2).tables.getD y.1 default).entries.length - k by omega), ?_⟩
         repeat' (first | exact aa | ((conv => whnf) <;> (first | exact fx_T (show 2 < 3 by decide) | exact low_cells rfl | exact keeps0_nil _ _ | refine And.intro ?_ ?_ | (intro _h; first | contradiction | (try simp only [dd] at _h)) | (refine dt_go ?_) | exact rfl | exact True.intro | exact dkk | exact dks | (refine wrap_succ ?_; omega)))))
      | (rename_i k hC hlt
         have hk : k < ((s.keep y.2.2).tables.getD y.1 default).entries.length := Int.ofNat_lt.1 hlt
         have ho : (((s.keep y.2.2).tables.getD y.1 default).entries.getD k default).own = true := by simpa using _h
         have hC' := hC.own hk (.inl ho)
         conv => whnf
         refine roundET_end ?_
         refine ⟨k + 1, [], hC', (show ((s.keep y.2.2).tables.getD y.1 default).entries.length - (k + 1) < ((s.keep y.2.2).tables.getD y.1 default).entries.length - k by omega), ?_⟩
         repeat' (first | exact aa | ((conv => whnf) <;> (first | exact fx_T (show 2 < 3 by decide) | exact low_cells rfl | exact keeps0_nil _ _ | refine And.intro ?_ ?_ | (intro _h; first | contradiction | (try simp only [dd] at _h)) | (refine dt_go ?_) | exact rfl | exact True.intro | exact dkk | exact dks | (refine wrap_succ ?_; omega)))))
      | (rename_i k hC hlt ho
         have hk : k < ((s.keep y.2.2).tables.getD y.1 default).entries.length := Int.ofNat_lt.1 hlt
         have hS := hy.cutS (shelf_uniq hg) hi hk ho hE
         conv => whnf
         refine roundET_turn (turn_box (id := 0) (ds := (s.keep (delE y.2.2 y.1 (((s.keep y.2.2).tables.getD y.1 default).entries.getD k default).num)).csO) rfl rfl rfl (by rw [← keep_cut hi]; exact .cons (.refl _) (.cons (.refl _) (.cons (.refl _) .nil)))) ?_
         refine roundET_end ?_
         refine ⟨(y.1 + 1, true, delE y.2.2 y.1 (((s.keep y.2.2).tables.getD y.1 default).entries.getD k default).num), [], hS, (show s.tables.length - (y.1 + 1) < s.tables.length - y.1 by omega), ?_⟩
         repeat' (first | exact aa | ((conv => whnf) <;> (first | exact fx_T (show 2 < 3 by decide) | exact low_cells rfl | exact keeps0_nil _ _ | refine And.intro ?_ ?_ | (intro _h; first | contradiction | (try simp only [dd] at _h)) | (refine dt_go ?_) | exact rfl | exact True.intro | exact dkk | exact dks | (refine wrap_succ ?_; omega)))))
      | (rename_i k hC
         have hk : ¬ k < ((s.keep y.2.2).tables.getD y.1 default).entries.length := fun q => _h (Int.ofNat_lt.2 q)
         have hS := hy.next hi (hC.closed hk)
         conv => whnf
         refine roundET_turn (turn_close (id := 1) (i := y.1) (j := 1) (id' := 2) rfl hik (show 1 < 2 by decide) (by first | exact rfl | (simp only [upd, Nat.beq_refl]; rfl) | (simp only [upd, Int.toNat_natCast, Nat.beq_refl]; rfl)) rfl (show 1 ≠ 2 by decide) rfl (rowO_le (Nat.le_refl _))) ?_
         refine roundET_turn (turn_eq (id := 1) (x := rowL 2 Table.csO ((s.keep y.2.2).setE y.1 ((s.keep y.2.2).tables.getD y.1 default).entries).tables) rfl rfl setE_len rfl rfl (setE_rows (l := ((s.keep y.2.2).tables.getD y.1 default).entries) hik rfl (fun i j _ _ => .refl _))) ?_
         refine roundET_turn (turn_close (id := 0) (i := 0) (j := 1) (id' := 1) rfl (show 0 < 1 by decide) (show 1 < 3 by decide) rfl rfl (show 0 ≠ 1 by decide) rfl (rowO_le (Nat.le_of_eq setE_len.symm))) ?_
         refine roundET_turn (turn_box (id := 0) (ds := ((s.keep y.2.2)).csO) rfl rfl rfl (.cons (.refl _) (.cons (OwEq.len rfl (fun i j _ _ => HoldC.h _ j) (fun i j _ _ => by rw [setE_self]; exact .refl _)) (.cons (.refl _) .nil)))) ?_
         refine roundET_end ?_
         refine ⟨(y.1 + 1, y.2.1, y.2.2), [], hS, (show s.tables.length - (y.1 + 1) < s.tables.length - y.1 by omega), ?_⟩
         repeat' (first | exact aa | ((conv => whnf) <;> (first | exact fx_T (show 2 < 3 by decide) | exact low_cells rfl | exact keeps0_nil _ _ | refine And.intro ?_ ?_ | (intro _h; first | contradiction | (try simp only [dd] at _h)) | (refine dt_go ?_) | exact rfl | exact True.intro | exact dkk | exact dks | (refine wrap_succ ?_; omega)))))
      | skip
  · rename_i hx1 y hy
    have hTl := keep_len (s := s) (K := y.2.2)
    have hA := hy.done (by omega) hx1
    conv => whnf
    refine roundET_turn (turn_close (id := 0) (i := 0) (j := 1) (id' := 1) rfl (show 0 < 1 by decide) (show 1 < 3 by decide) rfl rfl (show 0 ≠ 1 by decide) rfl (rowO_le (Nat.le_refl _))) ?_
    refine roundET_turn (turn_box (id := 0) (ds := ((s.keep y.2.2)).csO) rfl rfl rfl (.cons (.refl _) (.cons (.refl _) (.cons (.refl _) .nil)))) ?_
    refine roundET_end ?_
    refine ⟨(y.2.1, y.2.2), [], hA.1, hA.2, ?_⟩
    repeat' (first | exact aa | ((conv => whnf) <;> (first | exact fx_T (show 2 < 3 by decide) | exact low_cells rfl | exact keeps0_nil _ _ | refine And.intro ?_ ?_ | (intro _h; first | contradiction | (try simp only [dd] at _h)) | (refine dt_go ?_) | exact rfl | exact True.intro | exact dkk | exact dks | (refine wrap_succ ?_; omega))))
    all_goals trace_state
  · rename_i x hx
    have hF := hx.fixed hg _h
    rw [hF]
    generalize hS : s.keep (s.fixK K0) = S
    have hSl : S.tables.length = s.tables.length := by rw [← hS]; exact keep_len
    have hSo : S.ok := by rw [← hS]; exact keep_ok h
    repeat' (first | exact aa | ((conv => whnf) <;> (first | (refine lw_turn [some (boxRow (lendU (leF S.all) S 0 0).csO)] (by rw [lendU_zero]; exact Turn.refl) ?_; refine loopTF 68 (fun i : Nat => [(8, .i .i64 i)]) (fun i => [some (.box (lendU (leF S.all) S i 0).csO)]) (fun i => i ≤ S.tables.length) (fun i => S.tables.length - i) 0 rfl ⟨Nat.zero_le _, ?_⟩) | refine And.intro ?_ ?_ | (intro _h; first | contradiction | (try simp only [dd] at _h)) | (refine dt_go ?_) | exact rfl | exact True.intro | exact dkk | exact dks | (refine wrap_succ ?_; omega))))
    · rename_i i _
      have hTl : (lendU (leF S.all) S i 0).tables.length = S.tables.length := lendU_len
      have hi : i < S.tables.length := by omega
      conv => whnf
      rcases (show i = 0 ∨ i = 1 ∨ i = 2 ∨ i = 3 ∨ i = 4 ∨ i = 5 ∨ i = 6 by omega) with rfl | rfl | rfl | rfl | rfl | rfl | rfl
      · have hikA : ∀ j, 0 < ((lendU (leF S.all) S 0 j)).tables.length := fun j => by rw [lendU_len]; exact hi
        have hik := hikA 0
        refine lw_turn _ (turn_close (id := 0) (i := 0) (j := 1) (id' := 1) rfl (show 0 < 1 by decide) (show 1 < 3 by decide) rfl rfl (show 0 ≠ 1 by decide) rfl (rowO_le (Nat.le_refl _))) ?_
        refine lw_turn _ (turn_box (id := 0) (ds := ((lendU (leF S.all) S 0 0)).csO) rfl rfl rfl (.cons (.refl _) (.cons (.refl _) (.cons (.refl _) .nil)))) ?_
        refine loopTF 77 (fun j : Nat => [(9, .i .i64 j)]) (fun j => [some (.box (lendU (leF S.all) S 0 j).csO), none]) (fun j => j ≤ (S.tables.getD 0 default).entries.length) (fun j => (S.tables.getD 0 default).entries.length - j) 0 rfl ⟨Nat.zero_le _, ?_⟩
        repeat' (first | exact aa | ((conv => whnf) <;> (first | exact fx_T (show 2 < 3 by decide) | exact low_cells rfl | exact keeps0_nil _ _ | (rename_i j _; ((first | refine .inl ⟨_, Ret.wk (by ((repeat (first | exact WkL.nil | refine WkL.cons ?_ ?_ | exact Wk.refl _ | exact Wk.rfc rfl | refine Wk.fn ?_ | exact Wk.nilS0 | exact shr_L (d := 0) (k := 4) rfl | exact shr_L (d := 1) (k := 3) rfl | exact shr_L (d := 2) (k := 2) rfl | exact shr_L (d := 0) (k := 4) (by simp only [markL_len]) | exact shr_L (d := 1) (k := 3) (by simp only [markL_len]) | refine Wk.agg ?_ | exact shr_L (d := 0) (k := 3) rfl | exact shr_L (d := 1) (k := 2) rfl | exact shr_tblU (k := 1) rfl rfl rfl (fun _ _ _ _ => rfl) | exact shr_ow (d := 1) (k := 2) | exact shr_ow (d := 0) (k := 3) | refine Wk.rfLo ?_)); first | done | fail)) (l19Lent_ok (lendU (leF S.all) S 0 j) (lendU_ok hSo) _ _), ?_⟩ | refine ⟨_, Ret.wk (by ((repeat (first | exact WkL.nil | refine WkL.cons ?_ ?_ | exact Wk.refl _ | exact Wk.rfc rfl | refine Wk.fn ?_ | exact Wk.nilS0 | exact shr_L (d := 0) (k := 4) rfl | exact shr_L (d := 1) (k := 3) rfl | exact shr_L (d := 2) (k := 2) rfl | exact shr_L (d := 0) (k := 4) (by simp only [markL_len]) | exact shr_L (d := 1) (k := 3) (by simp only [markL_len]) | refine Wk.agg ?_ | exact shr_L (d := 0) (k := 3) rfl | exact shr_L (d := 1) (k := 2) rfl | exact shr_tblU (k := 1) rfl rfl rfl (fun _ _ _ _ => rfl) | exact shr_ow (d := 1) (k := 2) | exact shr_ow (d := 0) (k := 3) | refine Wk.rfLo ?_)); first | done | fail)) (l19Lent_ok (lendU (leF S.all) S 0 j) (lendU_ok hSo) _ _), ?_⟩); (try rintro _ rfl))) | exact Int.ofNat_lt.2 (hikA _) | refine And.intro ?_ ?_ | (intro _h; first | contradiction | (try simp only [dd] at _h)) | (refine dt_go ?_) | exact rfl | exact True.intro | exact dkk | exact dks | (refine wrap_succ ?_; omega))))
        · rename_i j _
          have hj : j < (S.tables.getD 0 default).entries.length := by have := lendU_elen (f := leF S.all) (s := S) (i := 0) (k := j) (j := 0); have hl0 := Int.ofNat_lt.1 _h; exact Nat.lt_of_lt_of_eq hl0 this
          have hik : 0 < (lendU (leF S.all) S 0 j).tables.length := by rw [lendU_len]; exact hi
          have hlt : j < ((lendU (leF S.all) S 0 j).tables.getD 0 default).entries.length := by rw [lendU_elen]; exact hj
          have hU : (lendU (leF S.all) S 0 j).setE 0 (setLd ((lendU (leF S.all) S 0 j).tables.getD 0 default).entries j (leF (lendU (leF S.all) S 0 j).all [((0 : Nat) : Int), (((lendU (leF S.all) S 0 j).tables.getD 0 default).entries.getD j default).num])) = (lendU (leF S.all) S 0 (j + 1)) := lendU_step hi hj (by rw [lendU_le, lendU_ent hj, if_neg (by omega)])
          conv => whnf
          refine roundET_turn (turn_close (id := 2) (i := 0) (j := 1) (id' := 3) rfl hik (show 1 < 2 by decide) (by first | exact rfl | (simp only [upd, Nat.beq_refl]; rfl) | (simp only [upd, Int.toNat_natCast, Nat.beq_refl]; rfl)) rfl (show 2 ≠ 3 by decide) rfl (by exact setLd_rowO (Nat.le_refl _))) ?_
          refine roundET_turn (turn_eq (id := 2) (x := rowL 2 Table.csO ((lendU (leF S.all) S 0 j).setE 0 (setLd ((lendU (leF S.all) S 0 j).tables.getD 0 default).entries j (leF (lendU (leF S.all) S 0 j).all [((0 : Nat) : Int), (((lendU (leF S.all) S 0 j).tables.getD 0 default).entries.getD j default).num]))).tables) rfl rfl setE_len rfl rfl (setE_rows (l := (setLd ((lendU (leF S.all) S 0 j).tables.getD 0 default).entries j (leF (lendU (leF S.all) S 0 j).all [((0 : Nat) : Int), (((lendU (leF S.all) S 0 j).tables.getD 0 default).entries.getD j default).num]))) hik setLd_len.symm (setLd_rows hlt))) ?_
          refine roundET_turn (turn_close (id := 0) (i := 0) (j := 1) (id' := 2) rfl (show 0 < 1 by decide) (show 1 < 3 by decide) rfl rfl (show 0 ≠ 2 by decide) rfl (rowO_le (Nat.le_of_eq setE_len.symm))) ?_
          refine roundET_turn (turn_box (id := 0) (ds := (lendU (leF S.all) S 0 (j + 1)).csO) rfl rfl rfl (by rw [← hU]; exact (.cons (.refl _) (.cons (OwEq.len setE_len.symm (fun i j _ _ => HoldC.h _ j) (fun i j _ _ => .refl _)) (.cons (.refl _) .nil))))) ?_
          refine roundET_end ?_
          refine ⟨j + 1, [], hj, (show (S.tables.getD 0 default).entries.length - (j + 1) < (S.tables.getD 0 default).entries.length - j by omega), ?_⟩
          repeat' (first | exact aa | ((conv => whnf) <;> (first | exact fx_T (show 2 < 3 by decide) | exact low_cells rfl | exact keeps0_nil _ _ | (refine wrap_succ ?_; have := entLe hSo 0; omega) | refine And.intro ?_ ?_ | (intro _h; first | contradiction | (try simp only [dd] at _h)) | (refine dt_go ?_) | exact rfl | exact True.intro | exact dkk | exact dks | (refine wrap_succ ?_; omega))))
        · rename_i j _
          have hj : ¬ j < (S.tables.getD 0 default).entries.length := fun q => _h (Int.ofNat_lt.2 (Nat.lt_of_lt_of_eq q (lendU_elen (f := leF S.all) (s := S) (i := 0) (k := j) (j := 0)).symm))
          have hik : 0 < (lendU (leF S.all) S 0 j).tables.length := by rw [lendU_len]; exact hi
          conv => whnf
          refine roundET_turn (turn_close (id := 2) (i := 0) (j := 1) (id' := 3) rfl hik (show 1 < 2 by decide) (by first | exact rfl | (simp only [upd, Nat.beq_refl]; rfl) | (simp only [upd, Int.toNat_natCast, Nat.beq_refl]; rfl)) rfl (show 2 ≠ 3 by decide) rfl (rowO_le (Nat.le_refl _))) ?_
          refine roundET_turn (turn_eq (id := 2) (x := rowL 2 Table.csO ((lendU (leF S.all) S 0 j).setE 0 ((lendU (leF S.all) S 0 j).tables.getD 0 default).entries).tables) rfl rfl setE_len rfl rfl (setE_rows (l := ((lendU (leF S.all) S 0 j).tables.getD 0 default).entries) hik rfl (fun i j _ _ => .refl _))) ?_
          refine roundET_turn (turn_close (id := 0) (i := 0) (j := 1) (id' := 2) rfl (show 0 < 1 by decide) (show 1 < 3 by decide) rfl rfl (show 0 ≠ 2 by decide) rfl (rowO_le (Nat.le_of_eq setE_len.symm))) ?_
          refine roundET_turn (turn_box (id := 0) (ds := (lendU (leF S.all) S (0 + 1) 0).csO) rfl rfl rfl (by rw [← lendU_next hj]; exact (.cons (.refl _) (.cons (OwEq.len rfl (fun i j _ _ => HoldC.h _ j) (fun i j _ _ => by rw [setE_self]; exact .refl _)) (.cons (.refl _) .nil))))) ?_
          refine roundET_end ?_
          refine ⟨0 + 1, [], hi, (show S.tables.length - (0 + 1) < S.tables.length - 0 by omega), ?_⟩
          repeat' (first | exact aa | ((conv => whnf) <;> (first | exact fx_T (show 2 < 3 by decide) | exact low_cells rfl | exact keeps0_nil _ _ | refine And.intro ?_ ?_ | (intro _h; first | contradiction | (try simp only [dd] at _h)) | (refine dt_go ?_) | exact rfl | exact True.intro | exact dkk | exact dks | (refine wrap_succ ?_; omega))))
      · have hikA : ∀ j, 1 < ((lendU (leF S.all) S 1 j)).tables.length := fun j => by rw [lendU_len]; exact hi
        have hik := hikA 0
        refine lw_turn _ (turn_close (id := 0) (i := 0) (j := 1) (id' := 1) rfl (show 0 < 1 by decide) (show 1 < 3 by decide) rfl rfl (show 0 ≠ 1 by decide) rfl (rowO_le (Nat.le_refl _))) ?_
        refine lw_turn _ (turn_box (id := 0) (ds := ((lendU (leF S.all) S 1 0)).csO) rfl rfl rfl (.cons (.refl _) (.cons (.refl _) (.cons (.refl _) .nil)))) ?_
        refine loopTF 77 (fun j : Nat => [(9, .i .i64 j)]) (fun j => [some (.box (lendU (leF S.all) S 1 j).csO), none]) (fun j => j ≤ (S.tables.getD 1 default).entries.length) (fun j => (S.tables.getD 1 default).entries.length - j) 0 rfl ⟨Nat.zero_le _, ?_⟩
        repeat' (first | exact aa | ((conv => whnf) <;> (first | exact fx_T (show 2 < 3 by decide) | exact low_cells rfl | exact keeps0_nil _ _ | (rename_i j _; ((first | refine .inl ⟨_, Ret.wk (by ((repeat (first | exact WkL.nil | refine WkL.cons ?_ ?_ | exact Wk.refl _ | exact Wk.rfc rfl | refine Wk.fn ?_ | exact Wk.nilS0 | exact shr_L (d := 0) (k := 4) rfl | exact shr_L (d := 1) (k := 3) rfl | exact shr_L (d := 2) (k := 2) rfl | exact shr_L (d := 0) (k := 4) (by simp only [markL_len]) | exact shr_L (d := 1) (k := 3) (by simp only [markL_len]) | refine Wk.agg ?_ | exact shr_L (d := 0) (k := 3) rfl | exact shr_L (d := 1) (k := 2) rfl | exact shr_tblU (k := 1) rfl rfl rfl (fun _ _ _ _ => rfl) | exact shr_ow (d := 1) (k := 2) | exact shr_ow (d := 0) (k := 3) | refine Wk.rfLo ?_)); first | done | fail)) (l19Lent_ok (lendU (leF S.all) S 1 j) (lendU_ok hSo) _ _), ?_⟩ | refine ⟨_, Ret.wk (by ((repeat (first | exact WkL.nil | refine WkL.cons ?_ ?_ | exact Wk.refl _ | exact Wk.rfc rfl | refine Wk.fn ?_ | exact Wk.nilS0 | exact shr_L (d := 0) (k := 4) rfl | exact shr_L (d := 1) (k := 3) rfl | exact shr_L (d := 2) (k := 2) rfl | exact shr_L (d := 0) (k := 4) (by simp only [markL_len]) | exact shr_L (d := 1) (k := 3) (by simp only [markL_len]) | refine Wk.agg ?_ | exact shr_L (d := 0) (k := 3) rfl | exact shr_L (d := 1) (k := 2) rfl | exact shr_tblU (k := 1) rfl rfl rfl (fun _ _ _ _ => rfl) | exact shr_ow (d := 1) (k := 2) | exact shr_ow (d := 0) (k := 3) | refine Wk.rfLo ?_)); first | done | fail)) (l19Lent_ok (lendU (leF S.all) S 1 j) (lendU_ok hSo) _ _), ?_⟩); (try rintro _ rfl))) | exact Int.ofNat_lt.2 (hikA _) | refine And.intro ?_ ?_ | (intro _h; first | contradiction | (try simp only [dd] at _h)) | (refine dt_go ?_) | exact rfl | exact True.intro | exact dkk | exact dks | (refine wrap_succ ?_; omega))))
        · rename_i j _
          have hj : j < (S.tables.getD 1 default).entries.length := by have := lendU_elen (f := leF S.all) (s := S) (i := 1) (k := j) (j := 1); have hl0 := Int.ofNat_lt.1 _h; exact Nat.lt_of_lt_of_eq hl0 this
          have hik : 1 < (lendU (leF S.all) S 1 j).tables.length := by rw [lendU_len]; exact hi
          have hlt : j < ((lendU (leF S.all) S 1 j).tables.getD 1 default).entries.length := by rw [lendU_elen]; exact hj
          have hU : (lendU (leF S.all) S 1 j).setE 1 (setLd ((lendU (leF S.all) S 1 j).tables.getD 1 default).entries j (leF (lendU (leF S.all) S 1 j).all [((1 : Nat) : Int), (((lendU (leF S.all) S 1 j).tables.getD 1 default).entries.getD j default).num])) = (lendU (leF S.all) S 1 (j + 1)) := lendU_step hi hj (by rw [lendU_le, lendU_ent hj, if_neg (by omega)])
          conv => whnf
          refine roundET_turn (turn_close (id := 2) (i := 1) (j := 1) (id' := 3) rfl hik (show 1 < 2 by decide) (by first | exact rfl | (simp only [upd, Nat.beq_refl]; rfl) | (simp only [upd, Int.toNat_natCast, Nat.beq_refl]; rfl)) rfl (show 2 ≠ 3 by decide) rfl (by exact setLd_rowO (Nat.le_refl _))) ?_
          refine roundET_turn (turn_eq (id := 2) (x := rowL 2 Table.csO ((lendU (leF S.all) S 1 j).setE 1 (setLd ((lendU (leF S.all) S 1 j).tables.getD 1 default).entries j (leF (lendU (leF S.all) S 1 j).all [((1 : Nat) : Int), (((lendU (leF S.all) S 1 j).tables.getD 1 default).entries.getD j default).num]))).tables) rfl rfl setE_len rfl rfl (setE_rows (l := (setLd ((lendU (leF S.all) S 1 j).tables.getD 1 default).entries j (leF (lendU (leF S.all) S 1 j).all [((1 : Nat) : Int), (((lendU (leF S.all) S 1 j).tables.getD 1 default).entries.getD j default).num]))) hik setLd_len.symm (setLd_rows hlt))) ?_
          refine roundET_turn (turn_close (id := 0) (i := 0) (j := 1) (id' := 2) rfl (show 0 < 1 by decide) (show 1 < 3 by decide) rfl rfl (show 0 ≠ 2 by decide) rfl (rowO_le (Nat.le_of_eq setE_len.symm))) ?_
          refine roundET_turn (turn_box (id := 0) (ds := (lendU (leF S.all) S 1 (j + 1)).csO) rfl rfl rfl (by rw [← hU]; exact (.cons (.refl _) (.cons (OwEq.len setE_len.symm (fun i j _ _ => HoldC.h _ j) (fun i j _ _ => .refl _)) (.cons (.refl _) .nil))))) ?_
          refine roundET_end ?_
          refine ⟨j + 1, [], hj, (show (S.tables.getD 1 default).entries.length - (j + 1) < (S.tables.getD 1 default).entries.length - j by omega), ?_⟩
          repeat' (first | exact aa | ((conv => whnf) <;> (first | exact fx_T (show 2 < 3 by decide) | exact low_cells rfl | exact keeps0_nil _ _ | (refine wrap_succ ?_; have := entLe hSo 1; omega) | refine And.intro ?_ ?_ | (intro _h; first | contradiction | (try simp only [dd] at _h)) | (refine dt_go ?_) | exact rfl | exact True.intro | exact dkk | exact dks | (refine wrap_succ ?_; omega))))
        · rename_i j _
          have hj : ¬ j < (S.tables.getD 1 default).entries.length := fun q => _h (Int.ofNat_lt.2 (Nat.lt_of_lt_of_eq q (lendU_elen (f := leF S.all) (s := S) (i := 1) (k := j) (j := 1)).symm))
          have hik : 1 < (lendU (leF S.all) S 1 j).tables.length := by rw [lendU_len]; exact hi
          conv => whnf
          refine roundET_turn (turn_close (id := 2) (i := 1) (j := 1) (id' := 3) rfl hik (show 1 < 2 by decide) (by first | exact rfl | (simp only [upd, Nat.beq_refl]; rfl) | (simp only [upd, Int.toNat_natCast, Nat.beq_refl]; rfl)) rfl (show 2 ≠ 3 by decide) rfl (rowO_le (Nat.le_refl _))) ?_
          refine roundET_turn (turn_eq (id := 2) (x := rowL 2 Table.csO ((lendU (leF S.all) S 1 j).setE 1 ((lendU (leF S.all) S 1 j).tables.getD 1 default).entries).tables) rfl rfl setE_len rfl rfl (setE_rows (l := ((lendU (leF S.all) S 1 j).tables.getD 1 default).entries) hik rfl (fun i j _ _ => .refl _))) ?_
          refine roundET_turn (turn_close (id := 0) (i := 0) (j := 1) (id' := 2) rfl (show 0 < 1 by decide) (show 1 < 3 by decide) rfl rfl (show 0 ≠ 2 by decide) rfl (rowO_le (Nat.le_of_eq setE_len.symm))) ?_
          refine roundET_turn (turn_box (id := 0) (ds := (lendU (leF S.all) S (1 + 1) 0).csO) rfl rfl rfl (by rw [← lendU_next hj]; exact (.cons (.refl _) (.cons (OwEq.len rfl (fun i j _ _ => HoldC.h _ j) (fun i j _ _ => by rw [setE_self]; exact .refl _)) (.cons (.refl _) .nil))))) ?_
          refine roundET_end ?_
          refine ⟨1 + 1, [], hi, (show S.tables.length - (1 + 1) < S.tables.length - 1 by omega), ?_⟩
          repeat' (first | exact aa | ((conv => whnf) <;> (first | exact fx_T (show 2 < 3 by decide) | exact low_cells rfl | exact keeps0_nil _ _ | refine And.intro ?_ ?_ | (intro _h; first | contradiction | (try simp only [dd] at _h)) | (refine dt_go ?_) | exact rfl | exact True.intro | exact dkk | exact dks | (refine wrap_succ ?_; omega))))
      · have hikA : ∀ j, 2 < ((lendU (leF S.all) S 2 j)).tables.length := fun j => by rw [lendU_len]; exact hi
        have hik := hikA 0
        refine lw_turn _ (turn_close (id := 0) (i := 0) (j := 1) (id' := 1) rfl (show 0 < 1 by decide) (show 1 < 3 by decide) rfl rfl (show 0 ≠ 1 by decide) rfl (rowO_le (Nat.le_refl _))) ?_
        refine lw_turn _ (turn_box (id := 0) (ds := ((lendU (leF S.all) S 2 0)).csO) rfl rfl rfl (.cons (.refl _) (.cons (.refl _) (.cons (.refl _) .nil)))) ?_
        refine loopTF 77 (fun j : Nat => [(9, .i .i64 j)]) (fun j => [some (.box (lendU (leF S.all) S 2 j).csO), none]) (fun j => j ≤ (S.tables.getD 2 default).entries.length) (fun j => (S.tables.getD 2 default).entries.length - j) 0 rfl ⟨Nat.zero_le _, ?_⟩
        repeat' (first | exact aa | ((conv => whnf) <;> (first | exact fx_T (show 2 < 3 by decide) | exact low_cells rfl | exact keeps0_nil _ _ | (rename_i j _; ((first | refine .inl ⟨_, Ret.wk (by ((repeat (first | exact WkL.nil | refine WkL.cons ?_ ?_ | exact Wk.refl _ | exact Wk.rfc rfl | refine Wk.fn ?_ | exact Wk.nilS0 | exact shr_L (d := 0) (k := 4) rfl | exact shr_L (d := 1) (k := 3) rfl | exact shr_L (d := 2) (k := 2) rfl | exact shr_L (d := 0) (k := 4) (by simp only [markL_len]) | exact shr_L (d := 1) (k := 3) (by simp only [markL_len]) | refine Wk.agg ?_ | exact shr_L (d := 0) (k := 3) rfl | exact shr_L (d := 1) (k := 2) rfl | exact shr_tblU (k := 1) rfl rfl rfl (fun _ _ _ _ => rfl) | exact shr_ow (d := 1) (k := 2) | exact shr_ow (d := 0) (k := 3) | refine Wk.rfLo ?_)); first | done | fail)) (l19Lent_ok (lendU (leF S.all) S 2 j) (lendU_ok hSo) _ _), ?_⟩ | refine ⟨_, Ret.wk (by ((repeat (first | exact WkL.nil | refine WkL.cons ?_ ?_ | exact Wk.refl _ | exact Wk.rfc rfl | refine Wk.fn ?_ | exact Wk.nilS0 | exact shr_L (d := 0) (k := 4) rfl | exact shr_L (d := 1) (k := 3) rfl | exact shr_L (d := 2) (k := 2) rfl | exact shr_L (d := 0) (k := 4) (by simp only [markL_len]) | exact shr_L (d := 1) (k := 3) (by simp only [markL_len]) | refine Wk.agg ?_ | exact shr_L (d := 0) (k := 3) rfl | exact shr_L (d := 1) (k := 2) rfl | exact shr_tblU (k := 1) rfl rfl rfl (fun _ _ _ _ => rfl) | exact shr_ow (d := 1) (k := 2) | exact shr_ow (d := 0) (k := 3) | refine Wk.rfLo ?_)); first | done | fail)) (l19Lent_ok (lendU (leF S.all) S 2 j) (lendU_ok hSo) _ _), ?_⟩); (try rintro _ rfl))) | exact Int.ofNat_lt.2 (hikA _) | refine And.intro ?_ ?_ | (intro _h; first | contradiction | (try simp only [dd] at _h)) | (refine dt_go ?_) | exact rfl | exact True.intro | exact dkk | exact dks | (refine wrap_succ ?_; omega))))
        · rename_i j _
          have hj : j < (S.tables.getD 2 default).entries.length := by have := lendU_elen (f := leF S.all) (s := S) (i := 2) (k := j) (j := 2); have hl0 := Int.ofNat_lt.1 _h; exact Nat.lt_of_lt_of_eq hl0 this
          have hik : 2 < (lendU (leF S.all) S 2 j).tables.length := by rw [lendU_len]; exact hi
          have hlt : j < ((lendU (leF S.all) S 2 j).tables.getD 2 default).entries.length := by rw [lendU_elen]; exact hj
          have hU : (lendU (leF S.all) S 2 j).setE 2 (setLd ((lendU (leF S.all) S 2 j).tables.getD 2 default).entries j (leF (lendU (leF S.all) S 2 j).all [((2 : Nat) : Int), (((lendU (leF S.all) S 2 j).tables.getD 2 default).entries.getD j default).num])) = (lendU (leF S.all) S 2 (j + 1)) := lendU_step hi hj (by rw [lendU_le, lendU_ent hj, if_neg (by omega)])
          conv => whnf
          refine roundET_turn (turn_close (id := 2) (i := 2) (j := 1) (id' := 3) rfl hik (show 1 < 2 by decide) (by first | exact rfl | (simp only [upd, Nat.beq_refl]; rfl) | (simp only [upd, Int.toNat_natCast, Nat.beq_refl]; rfl)) rfl (show 2 ≠ 3 by decide) rfl (by exact setLd_rowO (Nat.le_refl _))) ?_
          refine roundET_turn (turn_eq (id := 2) (x := rowL 2 Table.csO ((lendU (leF S.all) S 2 j).setE 2 (setLd ((lendU (leF S.all) S 2 j).tables.getD 2 default).entries j (leF (lendU (leF S.all) S 2 j).all [((2 : Nat) : Int), (((lendU (leF S.all) S 2 j).tables.getD 2 default).entries.getD j default).num]))).tables) rfl rfl setE_len rfl rfl (setE_rows (l := (setLd ((lendU (leF S.all) S 2 j).tables.getD 2 default).entries j (leF (lendU (leF S.all) S 2 j).all [((2 : Nat) : Int), (((lendU (leF S.all) S 2 j).tables.getD 2 default).entries.getD j default).num]))) hik setLd_len.symm (setLd_rows hlt))) ?_
          refine roundET_turn (turn_close (id := 0) (i := 0) (j := 1) (id' := 2) rfl (show 0 < 1 by decide) (show 1 < 3 by decide) rfl rfl (show 0 ≠ 2 by decide) rfl (rowO_le (Nat.le_of_eq setE_len.symm))) ?_
          refine roundET_turn (turn_box (id := 0) (ds := (lendU (leF S.all) S 2 (j + 1)).csO) rfl rfl rfl (by rw [← hU]; exact (.cons (.refl _) (.cons (OwEq.len setE_len.symm (fun i j _ _ => HoldC.h _ j) (fun i j _ _ => .refl _)) (.cons (.refl _) .nil))))) ?_
          refine roundET_end ?_
          refine ⟨j + 1, [], hj, (show (S.tables.getD 2 default).entries.length - (j + 1) < (S.tables.getD 2 default).entries.length - j by omega), ?_⟩
          repeat' (first | exact aa | ((conv => whnf) <;> (first | exact fx_T (show 2 < 3 by decide) | exact low_cells rfl | exact keeps0_nil _ _ | (refine wrap_succ ?_; have := entLe hSo 2; omega) | refine And.intro ?_ ?_ | (intro _h; first | contradiction | (try simp only [dd] at _h)) | (refine dt_go ?_) | exact rfl | exact True.intro | exact dkk | exact dks | (refine wrap_succ ?_; omega))))
        · rename_i j _
          have hj : ¬ j < (S.tables.getD 2 default).entries.length := fun q => _h (Int.ofNat_lt.2 (Nat.lt_of_lt_of_eq q (lendU_elen (f := leF S.all) (s := S) (i := 2) (k := j) (j := 2)).symm))
          have hik : 2 < (lendU (leF S.all) S 2 j).tables.length := by rw [lendU_len]; exact hi
          conv => whnf
          refine roundET_turn (turn_close (id := 2) (i := 2) (j := 1) (id' := 3) rfl hik (show 1 < 2 by decide) (by first | exact rfl | (simp only [upd, Nat.beq_refl]; rfl) | (simp only [upd, Int.toNat_natCast, Nat.beq_refl]; rfl)) rfl (show 2 ≠ 3 by decide) rfl (rowO_le (Nat.le_refl _))) ?_
          refine roundET_turn (turn_eq (id := 2) (x := rowL 2 Table.csO ((lendU (leF S.all) S 2 j).setE 2 ((lendU (leF S.all) S 2 j).tables.getD 2 default).entries).tables) rfl rfl setE_len rfl rfl (setE_rows (l := ((lendU (leF S.all) S 2 j).tables.getD 2 default).entries) hik rfl (fun i j _ _ => .refl _))) ?_
          refine roundET_turn (turn_close (id := 0) (i := 0) (j := 1) (id' := 2) rfl (show 0 < 1 by decide) (show 1 < 3 by decide) rfl rfl (show 0 ≠ 2 by decide) rfl (rowO_le (Nat.le_of_eq setE_len.symm))) ?_
          refine roundET_turn (turn_box (id := 0) (ds := (lendU (leF S.all) S (2 + 1) 0).csO) rfl rfl rfl (by rw [← lendU_next hj]; exact (.cons (.refl _) (.cons (OwEq.len rfl (fun i j _ _ => HoldC.h _ j) (fun i j _ _ => by rw [setE_self]; exact .refl _)) (.cons (.refl _) .nil))))) ?_
          refine roundET_end ?_
          refine ⟨2 + 1, [], hi, (show S.tables.length - (2 + 1) < S.tables.length - 2 by omega), ?_⟩
          repeat' (first | exact aa | ((conv => whnf) <;> (first | exact fx_T (show 2 < 3 by decide) | exact low_cells rfl | exact keeps0_nil _ _ | refine And.intro ?_ ?_ | (intro _h; first | contradiction | (try simp only [dd] at _h)) | (refine dt_go ?_) | exact rfl | exact True.intro | exact dkk | exact dks | (refine wrap_succ ?_; omega))))
      · have hikA : ∀ j, 3 < ((lendU (leF S.all) S 3 j)).tables.length := fun j => by rw [lendU_len]; exact hi
        have hik := hikA 0
        refine lw_turn _ (turn_close (id := 0) (i := 0) (j := 1) (id' := 1) rfl (show 0 < 1 by decide) (show 1 < 3 by decide) rfl rfl (show 0 ≠ 1 by decide) rfl (rowO_le (Nat.le_refl _))) ?_
        refine lw_turn _ (turn_box (id := 0) (ds := ((lendU (leF S.all) S 3 0)).csO) rfl rfl rfl (.cons (.refl _) (.cons (.refl _) (.cons (.refl _) .nil)))) ?_
        refine loopTF 77 (fun j : Nat => [(9, .i .i64 j)]) (fun j => [some (.box (lendU (leF S.all) S 3 j).csO), none]) (fun j => j ≤ (S.tables.getD 3 default).entries.length) (fun j => (S.tables.getD 3 default).entries.length - j) 0 rfl ⟨Nat.zero_le _, ?_⟩
        repeat' (first | exact aa | ((conv => whnf) <;> (first | exact fx_T (show 2 < 3 by decide) | exact low_cells rfl | exact keeps0_nil _ _ | (rename_i j _; ((first | refine .inl ⟨_, Ret.wk (by ((repeat (first | exact WkL.nil | refine WkL.cons ?_ ?_ | exact Wk.refl _ | exact Wk.rfc rfl | refine Wk.fn ?_ | exact Wk.nilS0 | exact shr_L (d := 0) (k := 4) rfl | exact shr_L (d := 1) (k := 3) rfl | exact shr_L (d := 2) (k := 2) rfl | exact shr_L (d := 0) (k := 4) (by simp only [markL_len]) | exact shr_L (d := 1) (k := 3) (by simp only [markL_len]) | refine Wk.agg ?_ | exact shr_L (d := 0) (k := 3) rfl | exact shr_L (d := 1) (k := 2) rfl | exact shr_tblU (k := 1) rfl rfl rfl (fun _ _ _ _ => rfl) | exact shr_ow (d := 1) (k := 2) | exact shr_ow (d := 0) (k := 3) | refine Wk.rfLo ?_)); first | done | fail)) (l19Lent_ok (lendU (leF S.all) S 3 j) (lendU_ok hSo) _ _), ?_⟩ | refine ⟨_, Ret.wk (by ((repeat (first | exact WkL.nil | refine WkL.cons ?_ ?_ | exact Wk.refl _ | exact Wk.rfc rfl | refine Wk.fn ?_ | exact Wk.nilS0 | exact shr_L (d := 0) (k := 4) rfl | exact shr_L (d := 1) (k := 3) rfl | exact shr_L (d := 2) (k := 2) rfl | exact shr_L (d := 0) (k := 4) (by simp only [markL_len]) | exact shr_L (d := 1) (k := 3) (by simp only [markL_len]) | refine Wk.agg ?_ | exact shr_L (d := 0) (k := 3) rfl | exact shr_L (d := 1) (k := 2) rfl | exact shr_tblU (k := 1) rfl rfl rfl (fun _ _ _ _ => rfl) | exact shr_ow (d := 1) (k := 2) | exact shr_ow (d := 0) (k := 3) | refine Wk.rfLo ?_)); first | done | fail)) (l19Lent_ok (lendU (leF S.all) S 3 j) (lendU_ok hSo) _ _), ?_⟩); (try rintro _ rfl))) | exact Int.ofNat_lt.2 (hikA _) | refine And.intro ?_ ?_ | (intro _h; first | contradiction | (try simp only [dd] at _h)) | (refine dt_go ?_) | exact rfl | exact True.intro | exact dkk | exact dks | (refine wrap_succ ?_; omega))))
        · rename_i j _
          have hj : j < (S.tables.getD 3 default).entries.length := by have := lendU_elen (f := leF S.all) (s := S) (i := 3) (k := j) (j := 3); have hl0 := Int.ofNat_lt.1 _h; exact Nat.lt_of_lt_of_eq hl0 this
          have hik : 3 < (lendU (leF S.all) S 3 j).tables.length := by rw [lendU_len]; exact hi
          have hlt : j < ((lendU (leF S.all) S 3 j).tables.getD 3 default).entries.length := by rw [lendU_elen]; exact hj
          have hU : (lendU (leF S.all) S 3 j).setE 3 (setLd ((lendU (leF S.all) S 3 j).tables.getD 3 default).entries j (leF (lendU (leF S.all) S 3 j).all [((3 : Nat) : Int), (((lendU (leF S.all) S 3 j).tables.getD 3 default).entries.getD j default).num])) = (lendU (leF S.all) S 3 (j + 1)) := lendU_step hi hj (by rw [lendU_le, lendU_ent hj, if_neg (by omega)])
          conv => whnf
          refine roundET_turn (turn_close (id := 2) (i := 3) (j := 1) (id' := 3) rfl hik (show 1 < 2 by decide) (by first | exact rfl | (simp only [upd, Nat.beq_refl]; rfl) | (simp only [upd, Int.toNat_natCast, Nat.beq_refl]; rfl)) rfl (show 2 ≠ 3 by decide) rfl (by exact setLd_rowO (Nat.le_refl _))) ?_
          refine roundET_turn (turn_eq (id := 2) (x := rowL 2 Table.csO ((lendU (leF S.all) S 3 j).setE 3 (setLd ((lendU (leF S.all) S 3 j).tables.getD 3 default).entries j (leF (lendU (leF S.all) S 3 j).all [((3 : Nat) : Int), (((lendU (leF S.all) S 3 j).tables.getD 3 default).entries.getD j default).num]))).tables) rfl rfl setE_len rfl rfl (setE_rows (l := (setLd ((lendU (leF S.all) S 3 j).tables.getD 3 default).entries j (leF (lendU (leF S.all) S 3 j).all [((3 : Nat) : Int), (((lendU (leF S.all) S 3 j).tables.getD 3 default).entries.getD j default).num]))) hik setLd_len.symm (setLd_rows hlt))) ?_
          refine roundET_turn (turn_close (id := 0) (i := 0) (j := 1) (id' := 2) rfl (show 0 < 1 by decide) (show 1 < 3 by decide) rfl rfl (show 0 ≠ 2 by decide) rfl (rowO_le (Nat.le_of_eq setE_len.symm))) ?_
          refine roundET_turn (turn_box (id := 0) (ds := (lendU (leF S.all) S 3 (j + 1)).csO) rfl rfl rfl (by rw [← hU]; exact (.cons (.refl _) (.cons (OwEq.len setE_len.symm (fun i j _ _ => HoldC.h _ j) (fun i j _ _ => .refl _)) (.cons (.refl _) .nil))))) ?_
          refine roundET_end ?_
          refine ⟨j + 1, [], hj, (show (S.tables.getD 3 default).entries.length - (j + 1) < (S.tables.getD 3 default).entries.length - j by omega), ?_⟩
          repeat' (first | exact aa | ((conv => whnf) <;> (first | exact fx_T (show 2 < 3 by decide) | exact low_cells rfl | exact keeps0_nil _ _ | (refine wrap_succ ?_; have := entLe hSo 3; omega) | refine And.intro ?_ ?_ | (intro _h; first | contradiction | (try simp only [dd] at _h)) | (refine dt_go ?_) | exact rfl | exact True.intro | exact dkk | exact dks | (refine wrap_succ ?_; omega))))
        · rename_i j _
          have hj : ¬ j < (S.tables.getD 3 default).entries.length := fun q => _h (Int.ofNat_lt.2 (Nat.lt_of_lt_of_eq q (lendU_elen (f := leF S.all) (s := S) (i := 3) (k := j) (j := 3)).symm))
          have hik : 3 < (lendU (leF S.all) S 3 j).tables.length := by rw [lendU_len]; exact hi
          conv => whnf
          refine roundET_turn (turn_close (id := 2) (i := 3) (j := 1) (id' := 3) rfl hik (show 1 < 2 by decide) (by first | exact rfl | (simp only [upd, Nat.beq_refl]; rfl) | (simp only [upd, Int.toNat_natCast, Nat.beq_refl]; rfl)) rfl (show 2 ≠ 3 by decide) rfl (rowO_le (Nat.le_refl _))) ?_
          refine roundET_turn (turn_eq (id := 2) (x := rowL 2 Table.csO ((lendU (leF S.all) S 3 j).setE 3 ((lendU (leF S.all) S 3 j).tables.getD 3 default).entries).tables) rfl rfl setE_len rfl rfl (setE_rows (l := ((lendU (leF S.all) S 3 j).tables.getD 3 default).entries) hik rfl (fun i j _ _ => .refl _))) ?_
          refine roundET_turn (turn_close (id := 0) (i := 0) (j := 1) (id' := 2) rfl (show 0 < 1 by decide) (show 1 < 3 by decide) rfl rfl (show 0 ≠ 2 by decide) rfl (rowO_le (Nat.le_of_eq setE_len.symm))) ?_
          refine roundET_turn (turn_box (id := 0) (ds := (lendU (leF S.all) S (3 + 1) 0).csO) rfl rfl rfl (by rw [← lendU_next hj]; exact (.cons (.refl _) (.cons (OwEq.len rfl (fun i j _ _ => HoldC.h _ j) (fun i j _ _ => by rw [setE_self]; exact .refl _)) (.cons (.refl _) .nil))))) ?_
          refine roundET_end ?_
          refine ⟨3 + 1, [], hi, (show S.tables.length - (3 + 1) < S.tables.length - 3 by omega), ?_⟩
          repeat' (first | exact aa | ((conv => whnf) <;> (first | exact fx_T (show 2 < 3 by decide) | exact low_cells rfl | exact keeps0_nil _ _ | refine And.intro ?_ ?_ | (intro _h; first | contradiction | (try simp only [dd] at _h)) | (refine dt_go ?_) | exact rfl | exact True.intro | exact dkk | exact dks | (refine wrap_succ ?_; omega))))
      · have hikA : ∀ j, 4 < ((lendU (leF S.all) S 4 j)).tables.length := fun j => by rw [lendU_len]; exact hi
        have hik := hikA 0
        refine lw_turn _ (turn_close (id := 0) (i := 0) (j := 1) (id' := 1) rfl (show 0 < 1 by decide) (show 1 < 3 by decide) rfl rfl (show 0 ≠ 1 by decide) rfl (rowO_le (Nat.le_refl _))) ?_
        refine lw_turn _ (turn_box (id := 0) (ds := ((lendU (leF S.all) S 4 0)).csO) rfl rfl rfl (.cons (.refl _) (.cons (.refl _) (.cons (.refl _) .nil)))) ?_
        refine loopTF 77 (fun j : Nat => [(9, .i .i64 j)]) (fun j => [some (.box (lendU (leF S.all) S 4 j).csO), none]) (fun j => j ≤ (S.tables.getD 4 default).entries.length) (fun j => (S.tables.getD 4 default).entries.length - j) 0 rfl ⟨Nat.zero_le _, ?_⟩
        repeat' (first | exact aa | ((conv => whnf) <;> (first | exact fx_T (show 2 < 3 by decide) | exact low_cells rfl | exact keeps0_nil _ _ | (rename_i j _; ((first | refine .inl ⟨_, Ret.wk (by ((repeat (first | exact WkL.nil | refine WkL.cons ?_ ?_ | exact Wk.refl _ | exact Wk.rfc rfl | refine Wk.fn ?_ | exact Wk.nilS0 | exact shr_L (d := 0) (k := 4) rfl | exact shr_L (d := 1) (k := 3) rfl | exact shr_L (d := 2) (k := 2) rfl | exact shr_L (d := 0) (k := 4) (by simp only [markL_len]) | exact shr_L (d := 1) (k := 3) (by simp only [markL_len]) | refine Wk.agg ?_ | exact shr_L (d := 0) (k := 3) rfl | exact shr_L (d := 1) (k := 2) rfl | exact shr_tblU (k := 1) rfl rfl rfl (fun _ _ _ _ => rfl) | exact shr_ow (d := 1) (k := 2) | exact shr_ow (d := 0) (k := 3) | refine Wk.rfLo ?_)); first | done | fail)) (l19Lent_ok (lendU (leF S.all) S 4 j) (lendU_ok hSo) _ _), ?_⟩ | refine ⟨_, Ret.wk (by ((repeat (first | exact WkL.nil | refine WkL.cons ?_ ?_ | exact Wk.refl _ | exact Wk.rfc rfl | refine Wk.fn ?_ | exact Wk.nilS0 | exact shr_L (d := 0) (k := 4) rfl | exact shr_L (d := 1) (k := 3) rfl | exact shr_L (d := 2) (k := 2) rfl | exact shr_L (d := 0) (k := 4) (by simp only [markL_len]) | exact shr_L (d := 1) (k := 3) (by simp only [markL_len]) | refine Wk.agg ?_ | exact shr_L (d := 0) (k := 3) rfl | exact shr_L (d := 1) (k := 2) rfl | exact shr_tblU (k := 1) rfl rfl rfl (fun _ _ _ _ => rfl) | exact shr_ow (d := 1) (k := 2) | exact shr_ow (d := 0) (k := 3) | refine Wk.rfLo ?_)); first | done | fail)) (l19Lent_ok (lendU (leF S.all) S 4 j) (lendU_ok hSo) _ _), ?_⟩); (try rintro _ rfl))) | exact Int.ofNat_lt.2 (hikA _) | refine And.intro ?_ ?_ | (intro _h; first | contradiction | (try simp only [dd] at _h)) | (refine dt_go ?_) | exact rfl | exact True.intro | exact dkk | exact dks | (refine wrap_succ ?_; omega))))
        · rename_i j _
          have hj : j < (S.tables.getD 4 default).entries.length := by have := lendU_elen (f := leF S.all) (s := S) (i := 4) (k := j) (j := 4); have hl0 := Int.ofNat_lt.1 _h; exact Nat.lt_of_lt_of_eq hl0 this
          have hik : 4 < (lendU (leF S.all) S 4 j).tables.length := by rw [lendU_len]; exact hi
          have hlt : j < ((lendU (leF S.all) S 4 j).tables.getD 4 default).entries.length := by rw [lendU_elen]; exact hj
          have hU : (lendU (leF S.all) S 4 j).setE 4 (setLd ((lendU (leF S.all) S 4 j).tables.getD 4 default).entries j (leF (lendU (leF S.all) S 4 j).all [((4 : Nat) : Int), (((lendU (leF S.all) S 4 j).tables.getD 4 default).entries.getD j default).num])) = (lendU (leF S.all) S 4 (j + 1)) := lendU_step hi hj (by rw [lendU_le, lendU_ent hj, if_neg (by omega)])
          conv => whnf
          refine roundET_turn (turn_close (id := 2) (i := 4) (j := 1) (id' := 3) rfl hik (show 1 < 2 by decide) (by first | exact rfl | (simp only [upd, Nat.beq_refl]; rfl) | (simp only [upd, Int.toNat_natCast, Nat.beq_refl]; rfl)) rfl (show 2 ≠ 3 by decide) rfl (by exact setLd_rowO (Nat.le_refl _))) ?_
          refine roundET_turn (turn_eq (id := 2) (x := rowL 2 Table.csO ((lendU (leF S.all) S 4 j).setE 4 (setLd ((lendU (leF S.all) S 4 j).tables.getD 4 default).entries j (leF (lendU (leF S.all) S 4 j).all [((4 : Nat) : Int), (((lendU (leF S.all) S 4 j).tables.getD 4 default).entries.getD j default).num]))).tables) rfl rfl setE_len rfl rfl (setE_rows (l := (setLd ((lendU (leF S.all) S 4 j).tables.getD 4 default).entries j (leF (lendU (leF S.all) S 4 j).all [((4 : Nat) : Int), (((lendU (leF S.all) S 4 j).tables.getD 4 default).entries.getD j default).num]))) hik setLd_len.symm (setLd_rows hlt))) ?_
          refine roundET_turn (turn_close (id := 0) (i := 0) (j := 1) (id' := 2) rfl (show 0 < 1 by decide) (show 1 < 3 by decide) rfl rfl (show 0 ≠ 2 by decide) rfl (rowO_le (Nat.le_of_eq setE_len.symm))) ?_
          refine roundET_turn (turn_box (id := 0) (ds := (lendU (leF S.all) S 4 (j + 1)).csO) rfl rfl rfl (by rw [← hU]; exact (.cons (.refl _) (.cons (OwEq.len setE_len.symm (fun i j _ _ => HoldC.h _ j) (fun i j _ _ => .refl _)) (.cons (.refl _) .nil))))) ?_
          refine roundET_end ?_
          refine ⟨j + 1, [], hj, (show (S.tables.getD 4 default).entries.length - (j + 1) < (S.tables.getD 4 default).entries.length - j by omega), ?_⟩
          repeat' (first | exact aa | ((conv => whnf) <;> (first | exact fx_T (show 2 < 3 by decide) | exact low_cells rfl | exact keeps0_nil _ _ | (refine wrap_succ ?_; have := entLe hSo 4; omega) | refine And.intro ?_ ?_ | (intro _h; first | contradiction | (try simp only [dd] at _h)) | (refine dt_go ?_) | exact rfl | exact True.intro | exact dkk | exact dks | (refine wrap_succ ?_; omega))))
        · rename_i j _
          have hj : ¬ j < (S.tables.getD 4 default).entries.length := fun q => _h (Int.ofNat_lt.2 (Nat.lt_of_lt_of_eq q (lendU_elen (f := leF S.all) (s := S) (i := 4) (k := j) (j := 4)).symm))
          have hik : 4 < (lendU (leF S.all) S 4 j).tables.length := by rw [lendU_len]; exact hi
          conv => whnf
          refine roundET_turn (turn_close (id := 2) (i := 4) (j := 1) (id' := 3) rfl hik (show 1 < 2 by decide) (by first | exact rfl | (simp only [upd, Nat.beq_refl]; rfl) | (simp only [upd, Int.toNat_natCast, Nat.beq_refl]; rfl)) rfl (show 2 ≠ 3 by decide) rfl (rowO_le (Nat.le_refl _))) ?_
          refine roundET_turn (turn_eq (id := 2) (x := rowL 2 Table.csO ((lendU (leF S.all) S 4 j).setE 4 ((lendU (leF S.all) S 4 j).tables.getD 4 default).entries).tables) rfl rfl setE_len rfl rfl (setE_rows (l := ((lendU (leF S.all) S 4 j).tables.getD 4 default).entries) hik rfl (fun i j _ _ => .refl _))) ?_
          refine roundET_turn (turn_close (id := 0) (i := 0) (j := 1) (id' := 2) rfl (show 0 < 1 by decide) (show 1 < 3 by decide) rfl rfl (show 0 ≠ 2 by decide) rfl (rowO_le (Nat.le_of_eq setE_len.symm))) ?_
          refine roundET_turn (turn_box (id := 0) (ds := (lendU (leF S.all) S (4 + 1) 0).csO) rfl rfl rfl (by rw [← lendU_next hj]; exact (.cons (.refl _) (.cons (OwEq.len rfl (fun i j _ _ => HoldC.h _ j) (fun i j _ _ => by rw [setE_self]; exact .refl _)) (.cons (.refl _) .nil))))) ?_
          refine roundET_end ?_
          refine ⟨4 + 1, [], hi, (show S.tables.length - (4 + 1) < S.tables.length - 4 by omega), ?_⟩
          repeat' (first | exact aa | ((conv => whnf) <;> (first | exact fx_T (show 2 < 3 by decide) | exact low_cells rfl | exact keeps0_nil _ _ | refine And.intro ?_ ?_ | (intro _h; first | contradiction | (try simp only [dd] at _h)) | (refine dt_go ?_) | exact rfl | exact True.intro | exact dkk | exact dks | (refine wrap_succ ?_; omega))))
      · have hikA : ∀ j, 5 < ((lendU (leF S.all) S 5 j)).tables.length := fun j => by rw [lendU_len]; exact hi
        have hik := hikA 0
        refine lw_turn _ (turn_close (id := 0) (i := 0) (j := 1) (id' := 1) rfl (show 0 < 1 by decide) (show 1 < 3 by decide) rfl rfl (show 0 ≠ 1 by decide) rfl (rowO_le (Nat.le_refl _))) ?_
        refine lw_turn _ (turn_box (id := 0) (ds := ((lendU (leF S.all) S 5 0)).csO) rfl rfl rfl (.cons (.refl _) (.cons (.refl _) (.cons (.refl _) .nil)))) ?_
        refine loopTF 77 (fun j : Nat => [(9, .i .i64 j)]) (fun j => [some (.box (lendU (leF S.all) S 5 j).csO), none]) (fun j => j ≤ (S.tables.getD 5 default).entries.length) (fun j => (S.tables.getD 5 default).entries.length - j) 0 rfl ⟨Nat.zero_le _, ?_⟩
        repeat' (first | exact aa | ((conv => whnf) <;> (first | exact fx_T (show 2 < 3 by decide) | exact low_cells rfl | exact keeps0_nil _ _ | (rename_i j _; ((first | refine .inl ⟨_, Ret.wk (by ((repeat (first | exact WkL.nil | refine WkL.cons ?_ ?_ | exact Wk.refl _ | exact Wk.rfc rfl | refine Wk.fn ?_ | exact Wk.nilS0 | exact shr_L (d := 0) (k := 4) rfl | exact shr_L (d := 1) (k := 3) rfl | exact shr_L (d := 2) (k := 2) rfl | exact shr_L (d := 0) (k := 4) (by simp only [markL_len]) | exact shr_L (d := 1) (k := 3) (by simp only [markL_len]) | refine Wk.agg ?_ | exact shr_L (d := 0) (k := 3) rfl | exact shr_L (d := 1) (k := 2) rfl | exact shr_tblU (k := 1) rfl rfl rfl (fun _ _ _ _ => rfl) | exact shr_ow (d := 1) (k := 2) | exact shr_ow (d := 0) (k := 3) | refine Wk.rfLo ?_)); first | done | fail)) (l19Lent_ok (lendU (leF S.all) S 5 j) (lendU_ok hSo) _ _), ?_⟩ | refine ⟨_, Ret.wk (by ((repeat (first | exact WkL.nil | refine WkL.cons ?_ ?_ | exact Wk.refl _ | exact Wk.rfc rfl | refine Wk.fn ?_ | exact Wk.nilS0 | exact shr_L (d := 0) (k := 4) rfl | exact shr_L (d := 1) (k := 3) rfl | exact shr_L (d := 2) (k := 2) rfl | exact shr_L (d := 0) (k := 4) (by simp only [markL_len]) | exact shr_L (d := 1) (k := 3) (by simp only [markL_len]) | refine Wk.agg ?_ | exact shr_L (d := 0) (k := 3) rfl | exact shr_L (d := 1) (k := 2) rfl | exact shr_tblU (k := 1) rfl rfl rfl (fun _ _ _ _ => rfl) | exact shr_ow (d := 1) (k := 2) | exact shr_ow (d := 0) (k := 3) | refine Wk.rfLo ?_)); first | done | fail)) (l19Lent_ok (lendU (leF S.all) S 5 j) (lendU_ok hSo) _ _), ?_⟩); (try rintro _ rfl))) | exact Int.ofNat_lt.2 (hikA _) | refine And.intro ?_ ?_ | (intro _h; first | contradiction | (try simp only [dd] at _h)) | (refine dt_go ?_) | exact rfl | exact True.intro | exact dkk | exact dks | (refine wrap_succ ?_; omega))))
        · rename_i j _
          have hj : j < (S.tables.getD 5 default).entries.length := by have := lendU_elen (f := leF S.all) (s := S) (i := 5) (k := j) (j := 5); have hl0 := Int.ofNat_lt.1 _h; exact Nat.lt_of_lt_of_eq hl0 this
          have hik : 5 < (lendU (leF S.all) S 5 j).tables.length := by rw [lendU_len]; exact hi
          have hlt : j < ((lendU (leF S.all) S 5 j).tables.getD 5 default).entries.length := by rw [lendU_elen]; exact hj
          have hU : (lendU (leF S.all) S 5 j).setE 5 (setLd ((lendU (leF S.all) S 5 j).tables.getD 5 default).entries j (leF (lendU (leF S.all) S 5 j).all [((5 : Nat) : Int), (((lendU (leF S.all) S 5 j).tables.getD 5 default).entries.getD j default).num])) = (lendU (leF S.all) S 5 (j + 1)) := lendU_step hi hj (by rw [lendU_le, lendU_ent hj, if_neg (by omega)])
          conv => whnf
          refine roundET_turn (turn_close (id := 2) (i := 5) (j := 1) (id' := 3) rfl hik (show 1 < 2 by decide) (by first | exact rfl | (simp only [upd, Nat.beq_refl]; rfl) | (simp only [upd, Int.toNat_natCast, Nat.beq_refl]; rfl)) rfl (show 2 ≠ 3 by decide) rfl (by exact setLd_rowO (Nat.le_refl _))) ?_
          refine roundET_turn (turn_eq (id := 2) (x := rowL 2 Table.csO ((lendU (leF S.all) S 5 j).setE 5 (setLd ((lendU (leF S.all) S 5 j).tables.getD 5 default).entries j (leF (lendU (leF S.all) S 5 j).all [((5 : Nat) : Int), (((lendU (leF S.all) S 5 j).tables.getD 5 default).entries.getD j default).num]))).tables) rfl rfl setE_len rfl rfl (setE_rows (l := (setLd ((lendU (leF S.all) S 5 j).tables.getD 5 default).entries j (leF (lendU (leF S.all) S 5 j).all [((5 : Nat) : Int), (((lendU (leF S.all) S 5 j).tables.getD 5 default).entries.getD j default).num]))) hik setLd_len.symm (setLd_rows hlt))) ?_
          refine roundET_turn (turn_close (id := 0) (i := 0) (j := 1) (id' := 2) rfl (show 0 < 1 by decide) (show 1 < 3 by decide) rfl rfl (show 0 ≠ 2 by decide) rfl (rowO_le (Nat.le_of_eq setE_len.symm))) ?_
          refine roundET_turn (turn_box (id := 0) (ds := (lendU (leF S.all) S 5 (j + 1)).csO) rfl rfl rfl (by rw [← hU]; exact (.cons (.refl _) (.cons (OwEq.len setE_len.symm (fun i j _ _ => HoldC.h _ j) (fun i j _ _ => .refl _)) (.cons (.refl _) .nil))))) ?_
          refine roundET_end ?_
          refine ⟨j + 1, [], hj, (show (S.tables.getD 5 default).entries.length - (j + 1) < (S.tables.getD 5 default).entries.length - j by omega), ?_⟩
          repeat' (first | exact aa | ((conv => whnf) <;> (first | exact fx_T (show 2 < 3 by decide) | exact low_cells rfl | exact keeps0_nil _ _ | (refine wrap_succ ?_; have := entLe hSo 5; omega) | refine And.intro ?_ ?_ | (intro _h; first | contradiction | (try simp only [dd] at _h)) | (refine dt_go ?_) | exact rfl | exact True.intro | exact dkk | exact dks | (refine wrap_succ ?_; omega))))
        · rename_i j _
          have hj : ¬ j < (S.tables.getD 5 default).entries.length := fun q => _h (Int.ofNat_lt.2 (Nat.lt_of_lt_of_eq q (lendU_elen (f := leF S.all) (s := S) (i := 5) (k := j) (j := 5)).symm))
          have hik : 5 < (lendU (leF S.all) S 5 j).tables.length := by rw [lendU_len]; exact hi
          conv => whnf
          refine roundET_turn (turn_close (id := 2) (i := 5) (j := 1) (id' := 3) rfl hik (show 1 < 2 by decide) (by first | exact rfl | (simp only [upd, Nat.beq_refl]; rfl) | (simp only [upd, Int.toNat_natCast, Nat.beq_refl]; rfl)) rfl (show 2 ≠ 3 by decide) rfl (rowO_le (Nat.le_refl _))) ?_
          refine roundET_turn (turn_eq (id := 2) (x := rowL 2 Table.csO ((lendU (leF S.all) S 5 j).setE 5 ((lendU (leF S.all) S 5 j).tables.getD 5 default).entries).tables) rfl rfl setE_len rfl rfl (setE_rows (l := ((lendU (leF S.all) S 5 j).tables.getD 5 default).entries) hik rfl (fun i j _ _ => .refl _))) ?_
          refine roundET_turn (turn_close (id := 0) (i := 0) (j := 1) (id' := 2) rfl (show 0 < 1 by decide) (show 1 < 3 by decide) rfl rfl (show 0 ≠ 2 by decide) rfl (rowO_le (Nat.le_of_eq setE_len.symm))) ?_
          refine roundET_turn (turn_box (id := 0) (ds := (lendU (leF S.all) S (5 + 1) 0).csO) rfl rfl rfl (by rw [← lendU_next hj]; exact (.cons (.refl _) (.cons (OwEq.len rfl (fun i j _ _ => HoldC.h _ j) (fun i j _ _ => by rw [setE_self]; exact .refl _)) (.cons (.refl _) .nil))))) ?_
          refine roundET_end ?_
          refine ⟨5 + 1, [], hi, (show S.tables.length - (5 + 1) < S.tables.length - 5 by omega), ?_⟩
          repeat' (first | exact aa | ((conv => whnf) <;> (first | exact fx_T (show 2 < 3 by decide) | exact low_cells rfl | exact keeps0_nil _ _ | refine And.intro ?_ ?_ | (intro _h; first | contradiction | (try simp only [dd] at _h)) | (refine dt_go ?_) | exact rfl | exact True.intro | exact dkk | exact dks | (refine wrap_succ ?_; omega))))
      · have hikA : ∀ j, 6 < ((lendU (leF S.all) S 6 j)).tables.length := fun j => by rw [lendU_len]; exact hi
        have hik := hikA 0
        refine lw_turn _ (turn_close (id := 0) (i := 0) (j := 1) (id' := 1) rfl (show 0 < 1 by decide) (show 1 < 3 by decide) rfl rfl (show 0 ≠ 1 by decide) rfl (rowO_le (Nat.le_refl _))) ?_
        refine lw_turn _ (turn_box (id := 0) (ds := ((lendU (leF S.all) S 6 0)).csO) rfl rfl rfl (.cons (.refl _) (.cons (.refl _) (.cons (.refl _) .nil)))) ?_
        refine loopTF 77 (fun j : Nat => [(9, .i .i64 j)]) (fun j => [some (.box (lendU (leF S.all) S 6 j).csO), none]) (fun j => j ≤ (S.tables.getD 6 default).entries.length) (fun j => (S.tables.getD 6 default).entries.length - j) 0 rfl ⟨Nat.zero_le _, ?_⟩
        repeat' (first | exact aa | ((conv => whnf) <;> (first | exact fx_T (show 2 < 3 by decide) | exact low_cells rfl | exact keeps0_nil _ _ | (rename_i j _; ((first | refine .inl ⟨_, Ret.wk (by ((repeat (first | exact WkL.nil | refine WkL.cons ?_ ?_ | exact Wk.refl _ | exact Wk.rfc rfl | refine Wk.fn ?_ | exact Wk.nilS0 | exact shr_L (d := 0) (k := 4) rfl | exact shr_L (d := 1) (k := 3) rfl | exact shr_L (d := 2) (k := 2) rfl | exact shr_L (d := 0) (k := 4) (by simp only [markL_len]) | exact shr_L (d := 1) (k := 3) (by simp only [markL_len]) | refine Wk.agg ?_ | exact shr_L (d := 0) (k := 3) rfl | exact shr_L (d := 1) (k := 2) rfl | exact shr_tblU (k := 1) rfl rfl rfl (fun _ _ _ _ => rfl) | exact shr_ow (d := 1) (k := 2) | exact shr_ow (d := 0) (k := 3) | refine Wk.rfLo ?_)); first | done | fail)) (l19Lent_ok (lendU (leF S.all) S 6 j) (lendU_ok hSo) _ _), ?_⟩ | refine ⟨_, Ret.wk (by ((repeat (first | exact WkL.nil | refine WkL.cons ?_ ?_ | exact Wk.refl _ | exact Wk.rfc rfl | refine Wk.fn ?_ | exact Wk.nilS0 | exact shr_L (d := 0) (k := 4) rfl | exact shr_L (d := 1) (k := 3) rfl | exact shr_L (d := 2) (k := 2) rfl | exact shr_L (d := 0) (k := 4) (by simp only [markL_len]) | exact shr_L (d := 1) (k := 3) (by simp only [markL_len]) | refine Wk.agg ?_ | exact shr_L (d := 0) (k := 3) rfl | exact shr_L (d := 1) (k := 2) rfl | exact shr_tblU (k := 1) rfl rfl rfl (fun _ _ _ _ => rfl) | exact shr_ow (d := 1) (k := 2) | exact shr_ow (d := 0) (k := 3) | refine Wk.rfLo ?_)); first | done | fail)) (l19Lent_ok (lendU (leF S.all) S 6 j) (lendU_ok hSo) _ _), ?_⟩); (try rintro _ rfl))) | exact Int.ofNat_lt.2 (hikA _) | refine And.intro ?_ ?_ | (intro _h; first | contradiction | (try simp only [dd] at _h)) | (refine dt_go ?_) | exact rfl | exact True.intro | exact dkk | exact dks | (refine wrap_succ ?_; omega))))
        · rename_i j _
          have hj : j < (S.tables.getD 6 default).entries.length := by have := lendU_elen (f := leF S.all) (s := S) (i := 6) (k := j) (j := 6); have hl0 := Int.ofNat_lt.1 _h; exact Nat.lt_of_lt_of_eq hl0 this
          have hik : 6 < (lendU (leF S.all) S 6 j).tables.length := by rw [lendU_len]; exact hi
          have hlt : j < ((lendU (leF S.all) S 6 j).tables.getD 6 default).entries.length := by rw [lendU_elen]; exact hj
          have hU : (lendU (leF S.all) S 6 j).setE 6 (setLd ((lendU (leF S.all) S 6 j).tables.getD 6 default).entries j (leF (lendU (leF S.all) S 6 j).all [((6 : Nat) : Int), (((lendU (leF S.all) S 6 j).tables.getD 6 default).entries.getD j default).num])) = (lendU (leF S.all) S 6 (j + 1)) := lendU_step hi hj (by rw [lendU_le, lendU_ent hj, if_neg (by omega)])
          conv => whnf
          refine roundET_turn (turn_close (id := 2) (i := 6) (j := 1) (id' := 3) rfl hik (show 1 < 2 by decide) (by first | exact rfl | (simp only [upd, Nat.beq_refl]; rfl) | (simp only [upd, Int.toNat_natCast, Nat.beq_refl]; rfl)) rfl (show 2 ≠ 3 by decide) rfl (by exact setLd_rowO (Nat.le_refl _))) ?_
          refine roundET_turn (turn_eq (id := 2) (x := rowL 2 Table.csO ((lendU (leF S.all) S 6 j).setE 6 (setLd ((lendU (leF S.all) S 6 j).tables.getD 6 default).entries j (leF (lendU (leF S.all) S 6 j).all [((6 : Nat) : Int), (((lendU (leF S.all) S 6 j).tables.getD 6 default).entries.getD j default).num]))).tables) rfl rfl setE_len rfl rfl (setE_rows (l := (setLd ((lendU (leF S.all) S 6 j).tables.getD 6 default).entries j (leF (lendU (leF S.all) S 6 j).all [((6 : Nat) : Int), (((lendU (leF S.all) S 6 j).tables.getD 6 default).entries.getD j default).num]))) hik setLd_len.symm (setLd_rows hlt))) ?_
          refine roundET_turn (turn_close (id := 0) (i := 0) (j := 1) (id' := 2) rfl (show 0 < 1 by decide) (show 1 < 3 by decide) rfl rfl (show 0 ≠ 2 by decide) rfl (rowO_le (Nat.le_of_eq setE_len.symm))) ?_
          refine roundET_turn (turn_box (id := 0) (ds := (lendU (leF S.all) S 6 (j + 1)).csO) rfl rfl rfl (by rw [← hU]; exact (.cons (.refl _) (.cons (OwEq.len setE_len.symm (fun i j _ _ => HoldC.h _ j) (fun i j _ _ => .refl _)) (.cons (.refl _) .nil))))) ?_
          refine roundET_end ?_
          refine ⟨j + 1, [], hj, (show (S.tables.getD 6 default).entries.length - (j + 1) < (S.tables.getD 6 default).entries.length - j by omega), ?_⟩
          repeat' (first | exact aa | ((conv => whnf) <;> (first | exact fx_T (show 2 < 3 by decide) | exact low_cells rfl | exact keeps0_nil _ _ | (refine wrap_succ ?_; have := entLe hSo 6; omega) | refine And.intro ?_ ?_ | (intro _h; first | contradiction | (try simp only [dd] at _h)) | (refine dt_go ?_) | exact rfl | exact True.intro | exact dkk | exact dks | (refine wrap_succ ?_; omega))))
        · rename_i j _
          have hj : ¬ j < (S.tables.getD 6 default).entries.length := fun q => _h (Int.ofNat_lt.2 (Nat.lt_of_lt_of_eq q (lendU_elen (f := leF S.all) (s := S) (i := 6) (k := j) (j := 6)).symm))
          have hik : 6 < (lendU (leF S.all) S 6 j).tables.length := by rw [lendU_len]; exact hi
          conv => whnf
          refine roundET_turn (turn_close (id := 2) (i := 6) (j := 1) (id' := 3) rfl hik (show 1 < 2 by decide) (by first | exact rfl | (simp only [upd, Nat.beq_refl]; rfl) | (simp only [upd, Int.toNat_natCast, Nat.beq_refl]; rfl)) rfl (show 2 ≠ 3 by decide) rfl (rowO_le (Nat.le_refl _))) ?_
          refine roundET_turn (turn_eq (id := 2) (x := rowL 2 Table.csO ((lendU (leF S.all) S 6 j).setE 6 ((lendU (leF S.all) S 6 j).tables.getD 6 default).entries).tables) rfl rfl setE_len rfl rfl (setE_rows (l := ((lendU (leF S.all) S 6 j).tables.getD 6 default).entries) hik rfl (fun i j _ _ => .refl _))) ?_
          refine roundET_turn (turn_close (id := 0) (i := 0) (j := 1) (id' := 2) rfl (show 0 < 1 by decide) (show 1 < 3 by decide) rfl rfl (show 0 ≠ 2 by decide) rfl (rowO_le (Nat.le_of_eq setE_len.symm))) ?_
          refine roundET_turn (turn_box (id := 0) (ds := (lendU (leF S.all) S (6 + 1) 0).csO) rfl rfl rfl (by rw [← lendU_next hj]; exact (.cons (.refl _) (.cons (OwEq.len rfl (fun i j _ _ => HoldC.h _ j) (fun i j _ _ => by rw [setE_self]; exact .refl _)) (.cons (.refl _) .nil))))) ?_
          refine roundET_end ?_
          refine ⟨6 + 1, [], hi, (show S.tables.length - (6 + 1) < S.tables.length - 6 by omega), ?_⟩
          repeat' (first | exact aa | ((conv => whnf) <;> (first | exact fx_T (show 2 < 3 by decide) | exact low_cells rfl | exact keeps0_nil _ _ | refine And.intro ?_ ?_ | (intro _h; first | contradiction | (try simp only [dd] at _h)) | (refine dt_go ?_) | exact rfl | exact True.intro | exact dkk | exact dks | (refine wrap_succ ?_; omega))))
    · rename_i i _
      have hTl : (lendU (leF S.all) S i 0).tables.length = S.tables.length := lendU_len
      have hi : ¬ i < S.tables.length := by omega
      conv => whnf
      refine endM_turn (turn_close (id := 0) (i := 0) (j := 1) (id' := 1) rfl (show 0 < 1 by decide) (show 1 < 3 by decide) rfl rfl (show 0 ≠ 1 by decide) rfl (rowO_le (Nat.le_refl _))) ?_
      refine endM_turn (turn_box (id := 0) (ds := S.relend.csO) rfl rfl rfl (by unfold Shelf.relend; rw [← lendU_end hi]; exact (.cons (.refl _) (.cons (.refl _) (.cons (.refl _) .nil))))) ?_
      exact endM_pick [0] [some (boxRow S.relend.csO)] (.tup []) (view_of rfl (.cons rfl (.self (rowPl_box rfl)) .nil)) rfl rfl (by rw [hX]; exact keepK (n := 1) rfl rfl) ⟨rfl, rfl⟩
end Go.Proofs.Ytfjciadhanfhpaa

namespace Go.Proofs.Ytfjciadhanfhpaa
open Go Go.RowKit
set_option linter.unusedVariables false
set_option linter.unusedSimpArgs false

/-- What stays when a scope ends. -/
def scK (sc : Int) : Nat → Entry → Bool := fun _ e => e.own || !decide (e.scope = sc)
theorem scK_own {sc : Int} {i : Nat} {e : Entry} (h : e.own = true) : scK sc i e = true := by unfold scK; rw [h]; rfl
theorem scK_far {sc : Int} {i : Nat} {e : Entry} (h : ¬ e.scope = sc) : scK sc i e = true := by unfold scK; rw [decide_eq_false h]; cases e.own <;> rfl
theorem scK_not {sc : Int} {i : Nat} {e : Entry} (h : e.own = false) (h2 : e.scope = sc) : scK sc i e = false := by unfold scK; rw [h, h2, decide_eq_true rfl]; rfl

set_option maxRecDepth 8000 in
set_option maxHeartbeats 8000000 in
theorem l19End_ok (s : Shelf) (h : s.ok) (hg : s.good) (sc : Int) (S : Shelf) (hL : RetM env.P 60 [some (boxRow (s.keep (scK sc)).csO)] [.ptr 0 0 0] (fun r H => r = .tup [] ∧ H = [some (boxRow S.csO)])) : RetM env.P 41 [some (boxRow (s.keep (untilK (scK sc) 0)).csO)] [.ptr 0 0 0, .i .i64 sc] (fun r H => r = .tup [] ∧ H = [some (boxRow S.csO)]) := by
  have hl : s.tables.length ≤ 1048576 := h.1.1
  have h7 := hg.2.1.2
  refine ret_ofM (nt := 64) (rvs := []) Try.func41 rfl rfl rfl rfl (fun X hX => ?_)
  repeat' (first | exact aa | ((conv => whnf) <;> (first | (refine loopTF 4 (fun i : Nat => [(4, .i .i64 i)]) (fun i => [some (.box (s.keep (untilK (scK sc) i)).csO)]) (fun i => i ≤ s.tables.length) (fun i => s.tables.length - i) 0 rfl ⟨Nat.zero_le _, ?_⟩) | refine And.intro ?_ ?_ | (intro _h; first | contradiction | (try simp only [dd] at _h)) | (refine dt_go ?_) | exact rfl | exact True.intro | exact dkk | exact dks | (refine wrap_succ ?_; omega))))
  · rename_i i _
    have hTl := keep_len (s := s) (K := untilK (scK sc) i)
    have hi : i < s.tables.length := by omega
    conv => whnf
    rcases (show i = 0 ∨ i = 1 ∨ i = 2 ∨ i = 3 ∨ i = 4 ∨ i = 5 ∨ i = 6 by omega) with rfl | rfl | rfl | rfl | rfl | rfl | rfl
    · have hik : 0 < (s.keep (untilK (scK sc) 0)).tables.length := by omega
      have he : ((s.keep (untilK (scK sc) 0)).tables.getD 0 default).entries.length ≤ 1048576 := entLe (keep_ok h) 0
      refine lw_turn _ (turn_close (id := 0) (i := 0) (j := 1) (id' := 1) rfl (show 0 < 1 by decide) (show 1 < 3 by decide) rfl rfl (show 0 ≠ 1 by decide) rfl (rowO_le (Nat.le_refl _))) ?_
      refine lw_turn _ (turn_box (id := 0) (ds := ((s.keep (untilK (scK sc) 0))).csO) rfl rfl rfl (.cons (.refl _) (.cons (.refl _) (.cons (.refl _) .nil)))) ?_
      refine lw_del 17 ?_
      refine loopFT (fun k : Nat => [(6, .i .i64 k), (5, .row 2 ((((s.keep (untilK (scK sc) 0)).tables.getD 0 default).entries.take k).filter (scK sc 0)).length)]) (fun k => [none, none, some (.arr ⟨7, ((((s.keep (untilK (scK sc) 0)).tables.getD 0 default).entries.take k).filter (scK sc 0)).length, elE Entry.cs ((((s.keep (untilK (scK sc) 0)).tables.getD 0 default).entries.take k).filter (scK sc 0)), .arr⟩)]) (fun k => k ≤ ((s.keep (untilK (scK sc) 0)).tables.getD 0 default).entries.length) (fun k => ((s.keep (untilK (scK sc) 0)).tables.getD 0 default).entries.length - k) 0 ⟨Nat.zero_le _, ?_⟩
      repeat' (first | exact aa | ((conv => whnf) <;> (first | exact arr_zero rfl rfl | exact low_cells rfl | exact rho_keep hX _h | exact capB2 (Nat.le_trans filt_le he) (by decide) | exact capN2 (Nat.le_trans filt_le he) | (refine roundET_turn (turn_close (id := 3) (i := 0) (j := 1) (id' := 4) rfl hik (show 1 < 2 by decide) (by first | exact rfl | (simp only [upd, Nat.beq_refl]; rfl)) rfl (show 3 ≠ 4 by decide) rfl (rowO_le (Nat.le_refl _))) ?_; refine roundET_turn (turn_eq (id := 3) (x := rowL 2 Table.csO ((s.keep (untilK (scK sc) 0)).setE 0 ((s.keep (untilK (scK sc) 0)).tables.getD 0 default).entries).tables) rfl rfl setE_len rfl rfl (setE_rows (l := ((s.keep (untilK (scK sc) 0)).tables.getD 0 default).entries) hik rfl (fun i j _ _ => .refl _))) ?_; refine roundET_turn (turn_close (id := 0) (i := 0) (j := 1) (id' := 3) rfl (show 0 < 1 by decide) (show 1 < 3 by decide) rfl rfl (show 0 ≠ 3 by decide) rfl (rowO_le (Nat.le_of_eq setE_len.symm))) ?_; refine roundET_turn (turn_box (id := 0) (ds := ((s.keep (untilK (scK sc) 0))).csO) rfl rfl rfl (.cons (.refl _) (.cons (OwEq.len rfl (fun i j _ _ => HoldC.h _ j) (fun i j _ _ => by rw [setE_self]; exact .refl _)) (.cons (.refl _) .nil)))) ?_; refine roundET_end ?_) | refine And.intro ?_ ?_ | (intro _h; first | contradiction | (try simp only [dd] at _h)) | (refine dt_go ?_) | exact rfl | exact True.intro | exact dkk | exact dks | (refine wrap_succ ?_; omega))))
      · rename_i k _ hlt ho
        have hk : k < ((s.keep (untilK (scK sc) 0)).tables.getD 0 default).entries.length := Int.ofNat_lt.1 hlt
        have hc := filt_yes (p := scK sc 0) hk (scK_far _h)
        have hlen : ((((s.keep (untilK (scK sc) 0)).tables.getD 0 default).entries.take (k + 1)).filter (scK sc 0)).length = ((((s.keep (untilK (scK sc) 0)).tables.getD 0 default).entries.take k).filter (scK sc 0)).length + 1 := by rw [hc, List.length_append]; rfl
        refine ⟨k + 1, [0, 1, 7], hk, (show ((s.keep (untilK (scK sc) 0)).tables.getD 0 default).entries.length - (k + 1) < ((s.keep (untilK (scK sc) 0)).tables.getD 0 default).entries.length - k by omega), ?_⟩
        repeat' (first | exact aa | ((conv => whnf) <;> (first | exact arr_zero rfl rfl | exact low_cells rfl | exact rho_keep hX _h | exact capB2 (Nat.le_trans filt_le he) (by decide) | exact capN2 (Nat.le_trans filt_le he) | exact hlen | exact hlen.symm | exact arr_snoc hc rfl hlen.symm hlen (fun a j => low_cells rfl) (fun j hj => rfl) | refine And.intro ?_ ?_ | (intro _h; first | contradiction | (try simp only [dd] at _h)) | (refine dt_go ?_) | exact rfl | exact True.intro | exact dkk | exact dks | (refine wrap_succ ?_; omega))))
      · rename_i k _ hlt ho
        have hk : k < ((s.keep (untilK (scK sc) 0)).tables.getD 0 default).entries.length := Int.ofNat_lt.1 hlt
        have hc := filt_no (p := scK sc 0) hk (scK_not ho _h)
        have hlen : ((((s.keep (untilK (scK sc) 0)).tables.getD 0 default).entries.take (k + 1)).filter (scK sc 0)).length = ((((s.keep (untilK (scK sc) 0)).tables.getD 0 default).entries.take k).filter (scK sc 0)).length := by rw [hc]
        refine ⟨k + 1, [], hk, (show ((s.keep (untilK (scK sc) 0)).tables.getD 0 default).entries.length - (k + 1) < ((s.keep (untilK (scK sc) 0)).tables.getD 0 default).entries.length - k by omega), ?_⟩
        repeat' (first | exact aa | ((conv => whnf) <;> (first | exact arr_zero rfl rfl | exact low_cells rfl | exact rho_keep hX _h | exact capB2 (Nat.le_trans filt_le he) (by decide) | exact capN2 (Nat.le_trans filt_le he) | exact hlen | exact hlen.symm | exact arr_same hc hlen.symm (fun a j => low_cells rfl) | refine And.intro ?_ ?_ | (intro _h; first | contradiction | (try simp only [dd] at _h)) | (refine dt_go ?_) | exact rfl | exact True.intro | exact dkk | exact dks | (refine wrap_succ ?_; omega))))
      · rename_i k _ hlt
        have hk : k < ((s.keep (untilK (scK sc) 0)).tables.getD 0 default).entries.length := Int.ofNat_lt.1 hlt
        have hc := filt_yes (p := scK sc 0) hk (scK_own _h)
        have hlen : ((((s.keep (untilK (scK sc) 0)).tables.getD 0 default).entries.take (k + 1)).filter (scK sc 0)).length = ((((s.keep (untilK (scK sc) 0)).tables.getD 0 default).entries.take k).filter (scK sc 0)).length + 1 := by rw [hc, List.length_append]; rfl
        refine ⟨k + 1, [0, 1, 7], hk, (show ((s.keep (untilK (scK sc) 0)).tables.getD 0 default).entries.length - (k + 1) < ((s.keep (untilK (scK sc) 0)).tables.getD 0 default).entries.length - k by omega), ?_⟩
        repeat' (first | exact aa | ((conv => whnf) <;> (first | exact arr_zero rfl rfl | exact low_cells rfl | exact rho_keep hX _h | exact capB2 (Nat.le_trans filt_le he) (by decide) | exact capN2 (Nat.le_trans filt_le he) | exact hlen | exact hlen.symm | exact arr_snoc hc rfl hlen.symm hlen (fun a j => low_cells rfl) (fun j hj => rfl) | refine And.intro ?_ ?_ | (intro _h; first | contradiction | (try simp only [dd] at _h)) | (refine dt_go ?_) | exact rfl | exact True.intro | exact dkk | exact dks | (refine wrap_succ ?_; omega))))
      · conv => whnf
        rename_i k _
        have hk : ¬ k < ((s.keep (untilK (scK sc) 0)).tables.getD 0 default).entries.length := fun q => _h (Int.ofNat_lt.2 q)
        have hU : (s.keep (untilK (scK sc) 0)).setE 0 ((((s.keep (untilK (scK sc) 0)).tables.getD 0 default).entries.take k).filter (scK sc 0)) = (s.keep (untilK (scK sc) (0 + 1))) := by
          rw [List.take_of_length_le (Nat.le_of_not_lt hk), show (s.keep (untilK (scK sc) 0)).tables.getD 0 default = s.tables.getD 0 default from until_at (Nat.le_refl _)]
          exact until_succ hi
        refine roundET_turn (turn_close (id := 3) (i := 0) (j := 1) (id' := 2) rfl hik (show 1 < 2 by decide) (by first | exact rfl | (simp only [upd, Nat.beq_refl]; rfl)) rfl (show 3 ≠ 2 by decide) rfl (rowO_le (Nat.le_refl _))) ?_
        refine roundET_turn (turn_eq (id := 3) (x := rowL 2 Table.csO ((s.keep (untilK (scK sc) 0)).setE 0 ((((s.keep (untilK (scK sc) 0)).tables.getD 0 default).entries.take k).filter (scK sc 0))).tables) rfl rfl setE_len rfl rfl (setE_rows3 (l := ((((s.keep (untilK (scK sc) 0)).tables.getD 0 default).entries.take k).filter (scK sc 0))) hik rfl (fun i j _ _ => .refl _))) ?_
        refine roundET_turn (turn_close (id := 0) (i := 0) (j := 1) (id' := 3) rfl (show 0 < 1 by decide) (show 1 < 3 by decide) rfl rfl (show 0 ≠ 3 by decide) rfl (rowO_le (Nat.le_of_eq setE_len.symm))) ?_
        refine roundET_turn (turn_box (id := 0) (ds := (s.keep (untilK (scK sc) (0 + 1))).csO) rfl rfl rfl (by rw [← hU]; exact (.cons (.refl _) (.cons (OwEq.len setE_len.symm (fun i j _ _ => HoldC.h _ j) (fun i j _ _ => .refl _)) (.cons (.refl _) .nil))))) ?_
        refine roundET_end ?_
        refine ⟨0 + 1, [], hi, (show s.tables.length - (0 + 1) < s.tables.length - 0 by omega), ?_⟩
        repeat' (first | exact aa | ((conv => whnf) <;> (first | exact arr_zero rfl rfl | exact low_cells rfl | exact rho_keep hX _h | exact capB2 (Nat.le_trans filt_le he) (by decide) | exact capN2 (Nat.le_trans filt_le he) | refine And.intro ?_ ?_ | (intro _h; first | contradiction | (try simp only [dd] at _h)) | (refine dt_go ?_) | exact rfl | exact True.intro | exact dkk | exact dks | (refine wrap_succ ?_; omega))))
    · have hik : 1 < (s.keep (untilK (scK sc) 1)).tables.length := by omega
      have he : ((s.keep (untilK (scK sc) 1)).tables.getD 1 default).entries.length ≤ 1048576 := entLe (keep_ok h) 1
      refine lw_turn _ (turn_close (id := 0) (i := 0) (j := 1) (id' := 1) rfl (show 0 < 1 by decide) (show 1 < 3 by decide) rfl rfl (show 0 ≠ 1 by decide) rfl (rowO_le (Nat.le_refl _))) ?_
      refine lw_turn _ (turn_box (id := 0) (ds := ((s.keep (untilK (scK sc) 1))).csO) rfl rfl rfl (.cons (.refl _) (.cons (.refl _) (.cons (.refl _) .nil)))) ?_
      refine lw_del 17 ?_
      refine loopFT (fun k : Nat => [(6, .i .i64 k), (5, .row 2 ((((s.keep (untilK (scK sc) 1)).tables.getD 1 default).entries.take k).filter (scK sc 1)).length)]) (fun k => [none, none, some (.arr ⟨7, ((((s.keep (untilK (scK sc) 1)).tables.getD 1 default).entries.take k).filter (scK sc 1)).length, elE Entry.cs ((((s.keep (untilK (scK sc) 1)).tables.getD 1 default).entries.take k).filter (scK sc 1)), .arr⟩)]) (fun k => k ≤ ((s.keep (untilK (scK sc) 1)).tables.getD 1 default).entries.length) (fun k => ((s.keep (untilK (scK sc) 1)).tables.getD 1 default).entries.length - k) 0 ⟨Nat.zero_le _, ?_⟩
      repeat' (first | exact aa | ((conv => whnf) <;> (first | exact arr_zero rfl rfl | exact low_cells rfl | exact rho_keep hX _h | exact capB2 (Nat.le_trans filt_le he) (by decide) | exact capN2 (Nat.le_trans filt_le he) | (refine roundET_turn (turn_close (id := 3) (i := 1) (j := 1) (id' := 4) rfl hik (show 1 < 2 by decide) (by first | exact rfl | (simp only [upd, Nat.beq_refl]; rfl)) rfl (show 3 ≠ 4 by decide) rfl (rowO_le (Nat.le_refl _))) ?_; refine roundET_turn (turn_eq (id := 3) (x := rowL 2 Table.csO ((s.keep (untilK (scK sc) 1)).setE 1 ((s.keep (untilK (scK sc) 1)).tables.getD 1 default).entries).tables) rfl rfl setE_len rfl rfl (setE_rows (l := ((s.keep (untilK (scK sc) 1)).tables.getD 1 default).entries) hik rfl (fun i j _ _ => .refl _))) ?_; refine roundET_turn (turn_close (id := 0) (i := 0) (j := 1) (id' := 3) rfl (show 0 < 1 by decide) (show 1 < 3 by decide) rfl rfl (show 0 ≠ 3 by decide) rfl (rowO_le (Nat.le_of_eq setE_len.symm))) ?_; refine roundET_turn (turn_box (id := 0) (ds := ((s.keep (untilK (scK sc) 1))).csO) rfl rfl rfl (.cons (.refl _) (.cons (OwEq.len rfl (fun i j _ _ => HoldC.h _ j) (fun i j _ _ => by rw [setE_self]; exact .refl _)) (.cons (.refl _) .nil)))) ?_; refine roundET_end ?_) | refine And.intro ?_ ?_ | (intro _h; first | contradiction | (try simp only [dd] at _h)) | (refine dt_go ?_) | exact rfl | exact True.intro | exact dkk | exact dks | (refine wrap_succ ?_; omega))))
      · rename_i k _ hlt ho
        have hk : k < ((s.keep (untilK (scK sc) 1)).tables.getD 1 default).entries.length := Int.ofNat_lt.1 hlt
        have hc := filt_yes (p := scK sc 1) hk (scK_far _h)
        have hlen : ((((s.keep (untilK (scK sc) 1)).tables.getD 1 default).entries.take (k + 1)).filter (scK sc 1)).length = ((((s.keep (untilK (scK sc) 1)).tables.getD 1 default).entries.take k).filter (scK sc 1)).length + 1 := by rw [hc, List.length_append]; rfl
        refine ⟨k + 1, [0, 1, 7], hk, (show ((s.keep (untilK (scK sc) 1)).tables.getD 1 default).entries.length - (k + 1) < ((s.keep (untilK (scK sc) 1)).tables.getD 1 default).entries.length - k by omega), ?_⟩
        repeat' (first | exact aa | ((conv => whnf) <;> (first | exact arr_zero rfl rfl | exact low_cells rfl | exact rho_keep hX _h | exact capB2 (Nat.le_trans filt_le he) (by decide) | exact capN2 (Nat.le_trans filt_le he) | exact hlen | exact hlen.symm | exact arr_snoc hc rfl hlen.symm hlen (fun a j => low_cells rfl) (fun j hj => rfl) | refine And.intro ?_ ?_ | (intro _h; first | contradiction | (try simp only [dd] at _h)) | (refine dt_go ?_) | exact rfl | exact True.intro | exact dkk | exact dks | (refine wrap_succ ?_; omega))))
      · rename_i k _ hlt ho
        have hk : k < ((s.keep (untilK (scK sc) 1)).tables.getD 1 default).entries.length := Int.ofNat_lt.1 hlt
        have hc := filt_no (p := scK sc 1) hk (scK_not ho _h)
        have hlen : ((((s.keep (untilK (scK sc) 1)).tables.getD 1 default).entries.take (k + 1)).filter (scK sc 1)).length = ((((s.keep (untilK (scK sc) 1)).tables.getD 1 default).entries.take k).filter (scK sc 1)).length := by rw [hc]
        refine ⟨k + 1, [], hk, (show ((s.keep (untilK (scK sc) 1)).tables.getD 1 default).entries.length - (k + 1) < ((s.keep (untilK (scK sc) 1)).tables.getD 1 default).entries.length - k by omega), ?_⟩
        repeat' (first | exact aa | ((conv => whnf) <;> (first | exact arr_zero rfl rfl | exact low_cells rfl | exact rho_keep hX _h | exact capB2 (Nat.le_trans filt_le he) (by decide) | exact capN2 (Nat.le_trans filt_le he) | exact hlen | exact hlen.symm | exact arr_same hc hlen.symm (fun a j => low_cells rfl) | refine And.intro ?_ ?_ | (intro _h; first | contradiction | (try simp only [dd] at _h)) | (refine dt_go ?_) | exact rfl | exact True.intro | exact dkk | exact dks | (refine wrap_succ ?_; omega))))
      · rename_i k _ hlt
        have hk : k < ((s.keep (untilK (scK sc) 1)).tables.getD 1 default).entries.length := Int.ofNat_lt.1 hlt
        have hc := filt_yes (p := scK sc 1) hk (scK_own _h)
        have hlen : ((((s.keep (untilK (scK sc) 1)).tables.getD 1 default).entries.take (k + 1)).filter (scK sc 1)).length = ((((s.keep (untilK (scK sc) 1)).tables.getD 1 default).entries.take k).filter (scK sc 1)).length + 1 := by rw [hc, List.length_append]; rfl
        refine ⟨k + 1, [0, 1, 7], hk, (show ((s.keep (untilK (scK sc) 1)).tables.getD 1 default).entries.length - (k + 1) < ((s.keep (untilK (scK sc) 1)).tables.getD 1 default).entries.length - k by omega), ?_⟩
        repeat' (first | exact aa | ((conv => whnf) <;> (first | exact arr_zero rfl rfl | exact low_cells rfl | exact rho_keep hX _h | exact capB2 (Nat.le_trans filt_le he) (by decide) | exact capN2 (Nat.le_trans filt_le he) | exact hlen | exact hlen.symm | exact arr_snoc hc rfl hlen.symm hlen (fun a j => low_cells rfl) (fun j hj => rfl) | refine And.intro ?_ ?_ | (intro _h; first | contradiction | (try simp only [dd] at _h)) | (refine dt_go ?_) | exact rfl | exact True.intro | exact dkk | exact dks | (refine wrap_succ ?_; omega))))
      · conv => whnf
        rename_i k _
        have hk : ¬ k < ((s.keep (untilK (scK sc) 1)).tables.getD 1 default).entries.length := fun q => _h (Int.ofNat_lt.2 q)
        have hU : (s.keep (untilK (scK sc) 1)).setE 1 ((((s.keep (untilK (scK sc) 1)).tables.getD 1 default).entries.take k).filter (scK sc 1)) = (s.keep (untilK (scK sc) (1 + 1))) := by
          rw [List.take_of_length_le (Nat.le_of_not_lt hk), show (s.keep (untilK (scK sc) 1)).tables.getD 1 default = s.tables.getD 1 default from until_at (Nat.le_refl _)]
          exact until_succ hi
        refine roundET_turn (turn_close (id := 3) (i := 1) (j := 1) (id' := 2) rfl hik (show 1 < 2 by decide) (by first | exact rfl | (simp only [upd, Nat.beq_refl]; rfl)) rfl (show 3 ≠ 2 by decide) rfl (rowO_le (Nat.le_refl _))) ?_
        refine roundET_turn (turn_eq (id := 3) (x := rowL 2 Table.csO ((s.keep (untilK (scK sc) 1)).setE 1 ((((s.keep (untilK (scK sc) 1)).tables.getD 1 default).entries.take k).filter (scK sc 1))).tables) rfl rfl setE_len rfl rfl (setE_rows3 (l := ((((s.keep (untilK (scK sc) 1)).tables.getD 1 default).entries.take k).filter (scK sc 1))) hik rfl (fun i j _ _ => .refl _))) ?_
        refine roundET_turn (turn_close (id := 0) (i := 0) (j := 1) (id' := 3) rfl (show 0 < 1 by decide) (show 1 < 3 by decide) rfl rfl (show 0 ≠ 3 by decide) rfl (rowO_le (Nat.le_of_eq setE_len.symm))) ?_
        refine roundET_turn (turn_box (id := 0) (ds := (s.keep (untilK (scK sc) (1 + 1))).csO) rfl rfl rfl (by rw [← hU]; exact (.cons (.refl _) (.cons (OwEq.len setE_len.symm (fun i j _ _ => HoldC.h _ j) (fun i j _ _ => .refl _)) (.cons (.refl _) .nil))))) ?_
        refine roundET_end ?_
        refine ⟨1 + 1, [], hi, (show s.tables.length - (1 + 1) < s.tables.length - 1 by omega), ?_⟩
        repeat' (first | exact aa | ((conv => whnf) <;> (first | exact arr_zero rfl rfl | exact low_cells rfl | exact rho_keep hX _h | exact capB2 (Nat.le_trans filt_le he) (by decide) | exact capN2 (Nat.le_trans filt_le he) | refine And.intro ?_ ?_ | (intro _h; first | contradiction | (try simp only [dd] at _h)) | (refine dt_go ?_) | exact rfl | exact True.intro | exact dkk | exact dks | (refine wrap_succ ?_; omega))))
    · have hik : 2 < (s.keep (untilK (scK sc) 2)).tables.length := by omega
      have he : ((s.keep (untilK (scK sc) 2)).tables.getD 2 default).entries.length ≤ 1048576 := entLe (keep_ok h) 2
      refine lw_turn _ (turn_close (id := 0) (i := 0) (j := 1) (id' := 1) rfl (show 0 < 1 by decide) (show 1 < 3 by decide) rfl rfl (show 0 ≠ 1 by decide) rfl (rowO_le (Nat.le_refl _))) ?_
      refine lw_turn _ (turn_box (id := 0) (ds := ((s.keep (untilK (scK sc) 2))).csO) rfl rfl rfl (.cons (.refl _) (.cons (.refl _) (.cons (.refl _) .nil)))) ?_
      refine lw_del 17 ?_
      refine loopFT (fun k : Nat => [(6, .i .i64 k), (5, .row 2 ((((s.keep (untilK (scK sc) 2)).tables.getD 2 default).entries.take k).filter (scK sc 2)).length)]) (fun k => [none, none, some (.arr ⟨7, ((((s.keep (untilK (scK sc) 2)).tables.getD 2 default).entries.take k).filter (scK sc 2)).length, elE Entry.cs ((((s.keep (untilK (scK sc) 2)).tables.getD 2 default).entries.take k).filter (scK sc 2)), .arr⟩)]) (fun k => k ≤ ((s.keep (untilK (scK sc) 2)).tables.getD 2 default).entries.length) (fun k => ((s.keep (untilK (scK sc) 2)).tables.getD 2 default).entries.length - k) 0 ⟨Nat.zero_le _, ?_⟩
      repeat' (first | exact aa | ((conv => whnf) <;> (first | exact arr_zero rfl rfl | exact low_cells rfl | exact rho_keep hX _h | exact capB2 (Nat.le_trans filt_le he) (by decide) | exact capN2 (Nat.le_trans filt_le he) | (refine roundET_turn (turn_close (id := 3) (i := 2) (j := 1) (id' := 4) rfl hik (show 1 < 2 by decide) (by first | exact rfl | (simp only [upd, Nat.beq_refl]; rfl)) rfl (show 3 ≠ 4 by decide) rfl (rowO_le (Nat.le_refl _))) ?_; refine roundET_turn (turn_eq (id := 3) (x := rowL 2 Table.csO ((s.keep (untilK (scK sc) 2)).setE 2 ((s.keep (untilK (scK sc) 2)).tables.getD 2 default).entries).tables) rfl rfl setE_len rfl rfl (setE_rows (l := ((s.keep (untilK (scK sc) 2)).tables.getD 2 default).entries) hik rfl (fun i j _ _ => .refl _))) ?_; refine roundET_turn (turn_close (id := 0) (i := 0) (j := 1) (id' := 3) rfl (show 0 < 1 by decide) (show 1 < 3 by decide) rfl rfl (show 0 ≠ 3 by decide) rfl (rowO_le (Nat.le_of_eq setE_len.symm))) ?_; refine roundET_turn (turn_box (id := 0) (ds := ((s.keep (untilK (scK sc) 2))).csO) rfl rfl rfl (.cons (.refl _) (.cons (OwEq.len rfl (fun i j _ _ => HoldC.h _ j) (fun i j _ _ => by rw [setE_self]; exact .refl _)) (.cons (.refl _) .nil)))) ?_; refine roundET_end ?_) | refine And.intro ?_ ?_ | (intro _h; first | contradiction | (try simp only [dd] at _h)) | (refine dt_go ?_) | exact rfl | exact True.intro | exact dkk | exact dks | (refine wrap_succ ?_; omega))))
      · rename_i k _ hlt ho
        have hk : k < ((s.keep (untilK (scK sc) 2)).tables.getD 2 default).entries.length := Int.ofNat_lt.1 hlt
        have hc := filt_yes (p := scK sc 2) hk (scK_far _h)
        have hlen : ((((s.keep (untilK (scK sc) 2)).tables.getD 2 default).entries.take (k + 1)).filter (scK sc 2)).length = ((((s.keep (untilK (scK sc) 2)).tables.getD 2 default).entries.take k).filter (scK sc 2)).length + 1 := by rw [hc, List.length_append]; rfl
        refine ⟨k + 1, [0, 1, 7], hk, (show ((s.keep (untilK (scK sc) 2)).tables.getD 2 default).entries.length - (k + 1) < ((s.keep (untilK (scK sc) 2)).tables.getD 2 default).entries.length - k by omega), ?_⟩
        repeat' (first | exact aa | ((conv => whnf) <;> (first | exact arr_zero rfl rfl | exact low_cells rfl | exact rho_keep hX _h | exact capB2 (Nat.le_trans filt_le he) (by decide) | exact capN2 (Nat.le_trans filt_le he) | exact hlen | exact hlen.symm | exact arr_snoc hc rfl hlen.symm hlen (fun a j => low_cells rfl) (fun j hj => rfl) | refine And.intro ?_ ?_ | (intro _h; first | contradiction | (try simp only [dd] at _h)) | (refine dt_go ?_) | exact rfl | exact True.intro | exact dkk | exact dks | (refine wrap_succ ?_; omega))))
      · rename_i k _ hlt ho
        have hk : k < ((s.keep (untilK (scK sc) 2)).tables.getD 2 default).entries.length := Int.ofNat_lt.1 hlt
        have hc := filt_no (p := scK sc 2) hk (scK_not ho _h)
        have hlen : ((((s.keep (untilK (scK sc) 2)).tables.getD 2 default).entries.take (k + 1)).filter (scK sc 2)).length = ((((s.keep (untilK (scK sc) 2)).tables.getD 2 default).entries.take k).filter (scK sc 2)).length := by rw [hc]
        refine ⟨k + 1, [], hk, (show ((s.keep (untilK (scK sc) 2)).tables.getD 2 default).entries.length - (k + 1) < ((s.keep (untilK (scK sc) 2)).tables.getD 2 default).entries.length - k by omega), ?_⟩
        repeat' (first | exact aa | ((conv => whnf) <;> (first | exact arr_zero rfl rfl | exact low_cells rfl | exact rho_keep hX _h | exact capB2 (Nat.le_trans filt_le he) (by decide) | exact capN2 (Nat.le_trans filt_le he) | exact hlen | exact hlen.symm | exact arr_same hc hlen.symm (fun a j => low_cells rfl) | refine And.intro ?_ ?_ | (intro _h; first | contradiction | (try simp only [dd] at _h)) | (refine dt_go ?_) | exact rfl | exact True.intro | exact dkk | exact dks | (refine wrap_succ ?_; omega))))
      · rename_i k _ hlt
        have hk : k < ((s.keep (untilK (scK sc) 2)).tables.getD 2 default).entries.length := Int.ofNat_lt.1 hlt
        have hc := filt_yes (p := scK sc 2) hk (scK_own _h)
        have hlen : ((((s.keep (untilK (scK sc) 2)).tables.getD 2 default).entries.take (k + 1)).filter (scK sc 2)).length = ((((s.keep (untilK (scK sc) 2)).tables.getD 2 default).entries.take k).filter (scK sc 2)).length + 1 := by rw [hc, List.length_append]; rfl
        refine ⟨k + 1, [0, 1, 7], hk, (show ((s.keep (untilK (scK sc) 2)).tables.getD 2 default).entries.length - (k + 1) < ((s.keep (untilK (scK sc) 2)).tables.getD 2 default).entries.length - k by omega), ?_⟩
        repeat' (first | exact aa | ((conv => whnf) <;> (first | exact arr_zero rfl rfl | exact low_cells rfl | exact rho_keep hX _h | exact capB2 (Nat.le_trans filt_le he) (by decide) | exact capN2 (Nat.le_trans filt_le he) | exact hlen | exact hlen.symm | exact arr_snoc hc rfl hlen.symm hlen (fun a j => low_cells rfl) (fun j hj => rfl) | refine And.intro ?_ ?_ | (intro _h; first | contradiction | (try simp only [dd] at _h)) | (refine dt_go ?_) | exact rfl | exact True.intro | exact dkk | exact dks | (refine wrap_succ ?_; omega))))
      · conv => whnf
        rename_i k _
        have hk : ¬ k < ((s.keep (untilK (scK sc) 2)).tables.getD 2 default).entries.length := fun q => _h (Int.ofNat_lt.2 q)
        have hU : (s.keep (untilK (scK sc) 2)).setE 2 ((((s.keep (untilK (scK sc) 2)).tables.getD 2 default).entries.take k).filter (scK sc 2)) = (s.keep (untilK (scK sc) (2 + 1))) := by
          rw [List.take_of_length_le (Nat.le_of_not_lt hk), show (s.keep (untilK (scK sc) 2)).tables.getD 2 default = s.tables.getD 2 default from until_at (Nat.le_refl _)]
          exact until_succ hi
        refine roundET_turn (turn_close (id := 3) (i := 2) (j := 1) (id' := 2) rfl hik (show 1 < 2 by decide) (by first | exact rfl | (simp only [upd, Nat.beq_refl]; rfl)) rfl (show 3 ≠ 2 by decide) rfl (rowO_le (Nat.le_refl _))) ?_
        refine roundET_turn (turn_eq (id := 3) (x := rowL 2 Table.csO ((s.keep (untilK (scK sc) 2)).setE 2 ((((s.keep (untilK (scK sc) 2)).tables.getD 2 default).entries.take k).filter (scK sc 2))).tables) rfl rfl setE_len rfl rfl (setE_rows3 (l := ((((s.keep (untilK (scK sc) 2)).tables.getD 2 default).entries.take k).filter (scK sc 2))) hik rfl (fun i j _ _ => .refl _))) ?_
        refine roundET_turn (turn_close (id := 0) (i := 0) (j := 1) (id' := 3) rfl (show 0 < 1 by decide) (show 1 < 3 by decide) rfl rfl (show 0 ≠ 3 by decide) rfl (rowO_le (Nat.le_of_eq setE_len.symm))) ?_
        refine roundET_turn (turn_box (id := 0) (ds := (s.keep (untilK (scK sc) (2 + 1))).csO) rfl rfl rfl (by rw [← hU]; exact (.cons (.refl _) (.cons (OwEq.len setE_len.symm (fun i j _ _ => HoldC.h _ j) (fun i j _ _ => .refl _)) (.cons (.refl _) .nil))))) ?_
        refine roundET_end ?_
        refine ⟨2 + 1, [], hi, (show s.tables.length - (2 + 1) < s.tables.length - 2 by omega), ?_⟩
        repeat' (first | exact aa | ((conv => whnf) <;> (first | exact arr_zero rfl rfl | exact low_cells rfl | exact rho_keep hX _h | exact capB2 (Nat.le_trans filt_le he) (by decide) | exact capN2 (Nat.le_trans filt_le he) | refine And.intro ?_ ?_ | (intro _h; first | contradiction | (try simp only [dd] at _h)) | (refine dt_go ?_) | exact rfl | exact True.intro | exact dkk | exact dks | (refine wrap_succ ?_; omega))))
    · have hik : 3 < (s.keep (untilK (scK sc) 3)).tables.length := by omega
      have he : ((s.keep (untilK (scK sc) 3)).tables.getD 3 default).entries.length ≤ 1048576 := entLe (keep_ok h) 3
      refine lw_turn _ (turn_close (id := 0) (i := 0) (j := 1) (id' := 1) rfl (show 0 < 1 by decide) (show 1 < 3 by decide) rfl rfl (show 0 ≠ 1 by decide) rfl (rowO_le (Nat.le_refl _))) ?_
      refine lw_turn _ (turn_box (id := 0) (ds := ((s.keep (untilK (scK sc) 3))).csO) rfl rfl rfl (.cons (.refl _) (.cons (.refl _) (.cons (.refl _) .nil)))) ?_
      refine lw_del 17 ?_
      refine loopFT (fun k : Nat => [(6, .i .i64 k), (5, .row 2 ((((s.keep (untilK (scK sc) 3)).tables.getD 3 default).entries.take k).filter (scK sc 3)).length)]) (fun k => [none, none, some (.arr ⟨7, ((((s.keep (untilK (scK sc) 3)).tables.getD 3 default).entries.take k).filter (scK sc 3)).length, elE Entry.cs ((((s.keep (untilK (scK sc) 3)).tables.getD 3 default).entries.take k).filter (scK sc 3)), .arr⟩)]) (fun k => k ≤ ((s.keep (untilK (scK sc) 3)).tables.getD 3 default).entries.length) (fun k => ((s.keep (untilK (scK sc) 3)).tables.getD 3 default).entries.length - k) 0 ⟨Nat.zero_le _, ?_⟩
      repeat' (first | exact aa | ((conv => whnf) <;> (first | exact arr_zero rfl rfl | exact low_cells rfl | exact rho_keep hX _h | exact capB2 (Nat.le_trans filt_le he) (by decide) | exact capN2 (Nat.le_trans filt_le he) | (refine roundET_turn (turn_close (id := 3) (i := 3) (j := 1) (id' := 4) rfl hik (show 1 < 2 by decide) (by first | exact rfl | (simp only [upd, Nat.beq_refl]; rfl)) rfl (show 3 ≠ 4 by decide) rfl (rowO_le (Nat.le_refl _))) ?_; refine roundET_turn (turn_eq (id := 3) (x := rowL 2 Table.csO ((s.keep (untilK (scK sc) 3)).setE 3 ((s.keep (untilK (scK sc) 3)).tables.getD 3 default).entries).tables) rfl rfl setE_len rfl rfl (setE_rows (l := ((s.keep (untilK (scK sc) 3)).tables.getD 3 default).entries) hik rfl (fun i j _ _ => .refl _))) ?_; refine roundET_turn (turn_close (id := 0) (i := 0) (j := 1) (id' := 3) rfl (show 0 < 1 by decide) (show 1 < 3 by decide) rfl rfl (show 0 ≠ 3 by decide) rfl (rowO_le (Nat.le_of_eq setE_len.symm))) ?_; refine roundET_turn (turn_box (id := 0) (ds := ((s.keep (untilK (scK sc) 3))).csO) rfl rfl rfl (.cons (.refl _) (.cons (OwEq.len rfl (fun i j _ _ => HoldC.h _ j) (fun i j _ _ => by rw [setE_self]; exact .refl _)) (.cons (.refl _) .nil)))) ?_; refine roundET_end ?_) | refine And.intro ?_ ?_ | (intro _h; first | contradiction | (try simp only [dd] at _h)) | (refine dt_go ?_) | exact rfl | exact True.intro | exact dkk | exact dks | (refine wrap_succ ?_; omega))))
      · rename_i k _ hlt ho
        have hk : k < ((s.keep (untilK (scK sc) 3)).tables.getD 3 default).entries.length := Int.ofNat_lt.1 hlt
        have hc := filt_yes (p := scK sc 3) hk (scK_far _h)
        have hlen : ((((s.keep (untilK (scK sc) 3)).tables.getD 3 default).entries.take (k + 1)).filter (scK sc 3)).length = ((((s.keep (untilK (scK sc) 3)).tables.getD 3 default).entries.take k).filter (scK sc 3)).length + 1 := by rw [hc, List.length_append]; rfl
        refine ⟨k + 1, [0, 1, 7], hk, (show ((s.keep (untilK (scK sc) 3)).tables.getD 3 default).entries.length - (k + 1) < ((s.keep (untilK (scK sc) 3)).tables.getD 3 default).entries.length - k by omega), ?_⟩
        repeat' (first | exact aa | ((conv => whnf) <;> (first | exact arr_zero rfl rfl | exact low_cells rfl | exact rho_keep hX _h | exact capB2 (Nat.le_trans filt_le he) (by decide) | exact capN2 (Nat.le_trans filt_le he) | exact hlen | exact hlen.symm | exact arr_snoc hc rfl hlen.symm hlen (fun a j => low_cells rfl) (fun j hj => rfl) | refine And.intro ?_ ?_ | (intro _h; first | contradiction | (try simp only [dd] at _h)) | (refine dt_go ?_) | exact rfl | exact True.intro | exact dkk | exact dks | (refine wrap_succ ?_; omega))))
      · rename_i k _ hlt ho
        have hk : k < ((s.keep (untilK (scK sc) 3)).tables.getD 3 default).entries.length := Int.ofNat_lt.1 hlt
        have hc := filt_no (p := scK sc 3) hk (scK_not ho _h)
        have hlen : ((((s.keep (untilK (scK sc) 3)).tables.getD 3 default).entries.take (k + 1)).filter (scK sc 3)).length = ((((s.keep (untilK (scK sc) 3)).tables.getD 3 default).entries.take k).filter (scK sc 3)).length := by rw [hc]
        refine ⟨k + 1, [], hk, (show ((s.keep (untilK (scK sc) 3)).tables.getD 3 default).entries.length - (k + 1) < ((s.keep (untilK (scK sc) 3)).tables.getD 3 default).entries.length - k by omega), ?_⟩
        repeat' (first | exact aa | ((conv => whnf) <;> (first | exact arr_zero rfl rfl | exact low_cells rfl | exact rho_keep hX _h | exact capB2 (Nat.le_trans filt_le he) (by decide) | exact capN2 (Nat.le_trans filt_le he) | exact hlen | exact hlen.symm | exact arr_same hc hlen.symm (fun a j => low_cells rfl) | refine And.intro ?_ ?_ | (intro _h; first | contradiction | (try simp only [dd] at _h)) | (refine dt_go ?_) | exact rfl | exact True.intro | exact dkk | exact dks | (refine wrap_succ ?_; omega))))
      · rename_i k _ hlt
        have hk : k < ((s.keep (untilK (scK sc) 3)).tables.getD 3 default).entries.length := Int.ofNat_lt.1 hlt
        have hc := filt_yes (p := scK sc 3) hk (scK_own _h)
        have hlen : ((((s.keep (untilK (scK sc) 3)).tables.getD 3 default).entries.take (k + 1)).filter (scK sc 3)).length = ((((s.keep (untilK (scK sc) 3)).tables.getD 3 default).entries.take k).filter (scK sc 3)).length + 1 := by rw [hc, List.length_append]; rfl
        refine ⟨k + 1, [0, 1, 7], hk, (show ((s.keep (untilK (scK sc) 3)).tables.getD 3 default).entries.length - (k + 1) < ((s.keep (untilK (scK sc) 3)).tables.getD 3 default).entries.length - k by omega), ?_⟩
        repeat' (first | exact aa | ((conv => whnf) <;> (first | exact arr_zero rfl rfl | exact low_cells rfl | exact rho_keep hX _h | exact capB2 (Nat.le_trans filt_le he) (by decide) | exact capN2 (Nat.le_trans filt_le he) | exact hlen | exact hlen.symm | exact arr_snoc hc rfl hlen.symm hlen (fun a j => low_cells rfl) (fun j hj => rfl) | refine And.intro ?_ ?_ | (intro _h; first | contradiction | (try simp only [dd] at _h)) | (refine dt_go ?_) | exact rfl | exact True.intro | exact dkk | exact dks | (refine wrap_succ ?_; omega))))
      · conv => whnf
        rename_i k _
        have hk : ¬ k < ((s.keep (untilK (scK sc) 3)).tables.getD 3 default).entries.length := fun q => _h (Int.ofNat_lt.2 q)
        have hU : (s.keep (untilK (scK sc) 3)).setE 3 ((((s.keep (untilK (scK sc) 3)).tables.getD 3 default).entries.take k).filter (scK sc 3)) = (s.keep (untilK (scK sc) (3 + 1))) := by
          rw [List.take_of_length_le (Nat.le_of_not_lt hk), show (s.keep (untilK (scK sc) 3)).tables.getD 3 default = s.tables.getD 3 default from until_at (Nat.le_refl _)]
          exact until_succ hi
        refine roundET_turn (turn_close (id := 3) (i := 3) (j := 1) (id' := 2) rfl hik (show 1 < 2 by decide) (by first | exact rfl | (simp only [upd, Nat.beq_refl]; rfl)) rfl (show 3 ≠ 2 by decide) rfl (rowO_le (Nat.le_refl _))) ?_
        refine roundET_turn (turn_eq (id := 3) (x := rowL 2 Table.csO ((s.keep (untilK (scK sc) 3)).setE 3 ((((s.keep (untilK (scK sc) 3)).tables.getD 3 default).entries.take k).filter (scK sc 3))).tables) rfl rfl setE_len rfl rfl (setE_rows3 (l := ((((s.keep (untilK (scK sc) 3)).tables.getD 3 default).entries.take k).filter (scK sc 3))) hik rfl (fun i j _ _ => .refl _))) ?_
        refine roundET_turn (turn_close (id := 0) (i := 0) (j := 1) (id' := 3) rfl (show 0 < 1 by decide) (show 1 < 3 by decide) rfl rfl (show 0 ≠ 3 by decide) rfl (rowO_le (Nat.le_of_eq setE_len.symm))) ?_
        refine roundET_turn (turn_box (id := 0) (ds := (s.keep (untilK (scK sc) (3 + 1))).csO) rfl rfl rfl (by rw [← hU]; exact (.cons (.refl _) (.cons (OwEq.len setE_len.symm (fun i j _ _ => HoldC.h _ j) (fun i j _ _ => .refl _)) (.cons (.refl _) .nil))))) ?_
        refine roundET_end ?_
        refine ⟨3 + 1, [], hi, (show s.tables.length - (3 + 1) < s.tables.length - 3 by omega), ?_⟩
        repeat' (first | exact aa | ((conv => whnf) <;> (first | exact arr_zero rfl rfl | exact low_cells rfl | exact rho_keep hX _h | exact capB2 (Nat.le_trans filt_le he) (by decide) | exact capN2 (Nat.le_trans filt_le he) | refine And.intro ?_ ?_ | (intro _h; first | contradiction | (try simp only [dd] at _h)) | (refine dt_go ?_) | exact rfl | exact True.intro | exact dkk | exact dks | (refine wrap_succ ?_; omega))))
    · have hik : 4 < (s.keep (untilK (scK sc) 4)).tables.length := by omega
      have he : ((s.keep (untilK (scK sc) 4)).tables.getD 4 default).entries.length ≤ 1048576 := entLe (keep_ok h) 4
      refine lw_turn _ (turn_close (id := 0) (i := 0) (j := 1) (id' := 1) rfl (show 0 < 1 by decide) (show 1 < 3 by decide) rfl rfl (show 0 ≠ 1 by decide) rfl (rowO_le (Nat.le_refl _))) ?_
      refine lw_turn _ (turn_box (id := 0) (ds := ((s.keep (untilK (scK sc) 4))).csO) rfl rfl rfl (.cons (.refl _) (.cons (.refl _) (.cons (.refl _) .nil)))) ?_
      refine lw_del 17 ?_
      refine loopFT (fun k : Nat => [(6, .i .i64 k), (5, .row 2 ((((s.keep (untilK (scK sc) 4)).tables.getD 4 default).entries.take k).filter (scK sc 4)).length)]) (fun k => [none, none, some (.arr ⟨7, ((((s.keep (untilK (scK sc) 4)).tables.getD 4 default).entries.take k).filter (scK sc 4)).length, elE Entry.cs ((((s.keep (untilK (scK sc) 4)).tables.getD 4 default).entries.take k).filter (scK sc 4)), .arr⟩)]) (fun k => k ≤ ((s.keep (untilK (scK sc) 4)).tables.getD 4 default).entries.length) (fun k => ((s.keep (untilK (scK sc) 4)).tables.getD 4 default).entries.length - k) 0 ⟨Nat.zero_le _, ?_⟩
      repeat' (first | exact aa | ((conv => whnf) <;> (first | exact arr_zero rfl rfl | exact low_cells rfl | exact rho_keep hX _h | exact capB2 (Nat.le_trans filt_le he) (by decide) | exact capN2 (Nat.le_trans filt_le he) | (refine roundET_turn (turn_close (id := 3) (i := 4) (j := 1) (id' := 4) rfl hik (show 1 < 2 by decide) (by first | exact rfl | (simp only [upd, Nat.beq_refl]; rfl)) rfl (show 3 ≠ 4 by decide) rfl (rowO_le (Nat.le_refl _))) ?_; refine roundET_turn (turn_eq (id := 3) (x := rowL 2 Table.csO ((s.keep (untilK (scK sc) 4)).setE 4 ((s.keep (untilK (scK sc) 4)).tables.getD 4 default).entries).tables) rfl rfl setE_len rfl rfl (setE_rows (l := ((s.keep (untilK (scK sc) 4)).tables.getD 4 default).entries) hik rfl (fun i j _ _ => .refl _))) ?_; refine roundET_turn (turn_close (id := 0) (i := 0) (j := 1) (id' := 3) rfl (show 0 < 1 by decide) (show 1 < 3 by decide) rfl rfl (show 0 ≠ 3 by decide) rfl (rowO_le (Nat.le_of_eq setE_len.symm))) ?_; refine roundET_turn (turn_box (id := 0) (ds := ((s.keep (untilK (scK sc) 4))).csO) rfl rfl rfl (.cons (.refl _) (.cons (OwEq.len rfl (fun i j _ _ => HoldC.h _ j) (fun i j _ _ => by rw [setE_self]; exact .refl _)) (.cons (.refl _) .nil)))) ?_; refine roundET_end ?_) | refine And.intro ?_ ?_ | (intro _h; first | contradiction | (try simp only [dd] at _h)) | (refine dt_go ?_) | exact rfl | exact True.intro | exact dkk | exact dks | (refine wrap_succ ?_; omega))))
      · rename_i k _ hlt ho
        have hk : k < ((s.keep (untilK (scK sc) 4)).tables.getD 4 default).entries.length := Int.ofNat_lt.1 hlt
        have hc := filt_yes (p := scK sc 4) hk (scK_far _h)
        have hlen : ((((s.keep (untilK (scK sc) 4)).tables.getD 4 default).entries.take (k + 1)).filter (scK sc 4)).length = ((((s.keep (untilK (scK sc) 4)).tables.getD 4 default).entries.take k).filter (scK sc 4)).length + 1 := by rw [hc, List.length_append]; rfl
        refine ⟨k + 1, [0, 1, 7], hk, (show ((s.keep (untilK (scK sc) 4)).tables.getD 4 default).entries.length - (k + 1) < ((s.keep (untilK (scK sc) 4)).tables.getD 4 default).entries.length - k by omega), ?_⟩
        repeat' (first | exact aa | ((conv => whnf) <;> (first | exact arr_zero rfl rfl | exact low_cells rfl | exact rho_keep hX _h | exact capB2 (Nat.le_trans filt_le he) (by decide) | exact capN2 (Nat.le_trans filt_le he) | exact hlen | exact hlen.symm | exact arr_snoc hc rfl hlen.symm hlen (fun a j => low_cells rfl) (fun j hj => rfl) | refine And.intro ?_ ?_ | (intro _h; first | contradiction | (try simp only [dd] at _h)) | (refine dt_go ?_) | exact rfl | exact True.intro | exact dkk | exact dks | (refine wrap_succ ?_; omega))))
      · rename_i k _ hlt ho
        have hk : k < ((s.keep (untilK (scK sc) 4)).tables.getD 4 default).entries.length := Int.ofNat_lt.1 hlt
        have hc := filt_no (p := scK sc 4) hk (scK_not ho _h)
        have hlen : ((((s.keep (untilK (scK sc) 4)).tables.getD 4 default).entries.take (k + 1)).filter (scK sc 4)).length = ((((s.keep (untilK (scK sc) 4)).tables.getD 4 default).entries.take k).filter (scK sc 4)).length := by rw [hc]
        refine ⟨k + 1, [], hk, (show ((s.keep (untilK (scK sc) 4)).tables.getD 4 default).entries.length - (k + 1) < ((s.keep (untilK (scK sc) 4)).tables.getD 4 default).entries.length - k by omega), ?_⟩
        repeat' (first | exact aa | ((conv => whnf) <;> (first | exact arr_zero rfl rfl | exact low_cells rfl | exact rho_keep hX _h | exact capB2 (Nat.le_trans filt_le he) (by decide) | exact capN2 (Nat.le_trans filt_le he) | exact hlen | exact hlen.symm | exact arr_same hc hlen.symm (fun a j => low_cells rfl) | refine And.intro ?_ ?_ | (intro _h; first | contradiction | (try simp only [dd] at _h)) | (refine dt_go ?_) | exact rfl | exact True.intro | exact dkk | exact dks | (refine wrap_succ ?_; omega))))
      · rename_i k _ hlt
        have hk : k < ((s.keep (untilK (scK sc) 4)).tables.getD 4 default).entries.length := Int.ofNat_lt.1 hlt
        have hc := filt_yes (p := scK sc 4) hk (scK_own _h)
        have hlen : ((((s.keep (untilK (scK sc) 4)).tables.getD 4 default).entries.take (k + 1)).filter (scK sc 4)).length = ((((s.keep (untilK (scK sc) 4)).tables.getD 4 default).entries.take k).filter (scK sc 4)).length + 1 := by rw [hc, List.length_append]; rfl
        refine ⟨k + 1, [0, 1, 7], hk, (show ((s.keep (untilK (scK sc) 4)).tables.getD 4 default).entries.length - (k + 1) < ((s.keep (untilK (scK sc) 4)).tables.getD 4 default).entries.length - k by omega), ?_⟩
        repeat' (first | exact aa | ((conv => whnf) <;> (first | exact arr_zero rfl rfl | exact low_cells rfl | exact rho_keep hX _h | exact capB2 (Nat.le_trans filt_le he) (by decide) | exact capN2 (Nat.le_trans filt_le he) | exact hlen | exact hlen.symm | exact arr_snoc hc rfl hlen.symm hlen (fun a j => low_cells rfl) (fun j hj => rfl) | refine And.intro ?_ ?_ | (intro _h; first | contradiction | (try simp only [dd] at _h)) | (refine dt_go ?_) | exact rfl | exact True.intro | exact dkk | exact dks | (refine wrap_succ ?_; omega))))
      · conv => whnf
        rename_i k _
        have hk : ¬ k < ((s.keep (untilK (scK sc) 4)).tables.getD 4 default).entries.length := fun q => _h (Int.ofNat_lt.2 q)
        have hU : (s.keep (untilK (scK sc) 4)).setE 4 ((((s.keep (untilK (scK sc) 4)).tables.getD 4 default).entries.take k).filter (scK sc 4)) = (s.keep (untilK (scK sc) (4 + 1))) := by
          rw [List.take_of_length_le (Nat.le_of_not_lt hk), show (s.keep (untilK (scK sc) 4)).tables.getD 4 default = s.tables.getD 4 default from until_at (Nat.le_refl _)]
          exact until_succ hi
        refine roundET_turn (turn_close (id := 3) (i := 4) (j := 1) (id' := 2) rfl hik (show 1 < 2 by decide) (by first | exact rfl | (simp only [upd, Nat.beq_refl]; rfl)) rfl (show 3 ≠ 2 by decide) rfl (rowO_le (Nat.le_refl _))) ?_
        refine roundET_turn (turn_eq (id := 3) (x := rowL 2 Table.csO ((s.keep (untilK (scK sc) 4)).setE 4 ((((s.keep (untilK (scK sc) 4)).tables.getD 4 default).entries.take k).filter (scK sc 4))).tables) rfl rfl setE_len rfl rfl (setE_rows3 (l := ((((s.keep (untilK (scK sc) 4)).tables.getD 4 default).entries.take k).filter (scK sc 4))) hik rfl (fun i j _ _ => .refl _))) ?_
        refine roundET_turn (turn_close (id := 0) (i := 0) (j := 1) (id' := 3) rfl (show 0 < 1 by decide) (show 1 < 3 by decide) rfl rfl (show 0 ≠ 3 by decide) rfl (rowO_le (Nat.le_of_eq setE_len.symm))) ?_
        refine roundET_turn (turn_box (id := 0) (ds := (s.keep (untilK (scK sc) (4 + 1))).csO) rfl rfl rfl (by rw [← hU]; exact (.cons (.refl _) (.cons (OwEq.len setE_len.symm (fun i j _ _ => HoldC.h _ j) (fun i j _ _ => .refl _)) (.cons (.refl _) .nil))))) ?_
        refine roundET_end ?_
        refine ⟨4 + 1, [], hi, (show s.tables.length - (4 + 1) < s.tables.length - 4 by omega), ?_⟩
        repeat' (first | exact aa | ((conv => whnf) <;> (first | exact arr_zero rfl rfl | exact low_cells rfl | exact rho_keep hX _h | exact capB2 (Nat.le_trans filt_le he) (by decide) | exact capN2 (Nat.le_trans filt_le he) | refine And.intro ?_ ?_ | (intro _h; first | contradiction | (try simp only [dd] at _h)) | (refine dt_go ?_) | exact rfl | exact True.intro | exact dkk | exact dks | (refine wrap_succ ?_; omega))))
    · have hik : 5 < (s.keep (untilK (scK sc) 5)).tables.length := by omega
      have he : ((s.keep (untilK (scK sc) 5)).tables.getD 5 default).entries.length ≤ 1048576 := entLe (keep_ok h) 5
      refine lw_turn _ (turn_close (id := 0) (i := 0) (j := 1) (id' := 1) rfl (show 0 < 1 by decide) (show 1 < 3 by decide) rfl rfl (show 0 ≠ 1 by decide) rfl (rowO_le (Nat.le_refl _))) ?_
      refine lw_turn _ (turn_box (id := 0) (ds := ((s.keep (untilK (scK sc) 5))).csO) rfl rfl rfl (.cons (.refl _) (.cons (.refl _) (.cons (.refl _) .nil)))) ?_
      refine lw_del 17 ?_
      refine loopFT (fun k : Nat => [(6, .i .i64 k), (5, .row 2 ((((s.keep (untilK (scK sc) 5)).tables.getD 5 default).entries.take k).filter (scK sc 5)).length)]) (fun k => [none, none, some (.arr ⟨7, ((((s.keep (untilK (scK sc) 5)).tables.getD 5 default).entries.take k).filter (scK sc 5)).length, elE Entry.cs ((((s.keep (untilK (scK sc) 5)).tables.getD 5 default).entries.take k).filter (scK sc 5)), .arr⟩)]) (fun k => k ≤ ((s.keep (untilK (scK sc) 5)).tables.getD 5 default).entries.length) (fun k => ((s.keep (untilK (scK sc) 5)).tables.getD 5 default).entries.length - k) 0 ⟨Nat.zero_le _, ?_⟩
      repeat' (first | exact aa | ((conv => whnf) <;> (first | exact arr_zero rfl rfl | exact low_cells rfl | exact rho_keep hX _h | exact capB2 (Nat.le_trans filt_le he) (by decide) | exact capN2 (Nat.le_trans filt_le he) | (refine roundET_turn (turn_close (id := 3) (i := 5) (j := 1) (id' := 4) rfl hik (show 1 < 2 by decide) (by first | exact rfl | (simp only [upd, Nat.beq_refl]; rfl)) rfl (show 3 ≠ 4 by decide) rfl (rowO_le (Nat.le_refl _))) ?_; refine roundET_turn (turn_eq (id := 3) (x := rowL 2 Table.csO ((s.keep (untilK (scK sc) 5)).setE 5 ((s.keep (untilK (scK sc) 5)).tables.getD 5 default).entries).tables) rfl rfl setE_len rfl rfl (setE_rows (l := ((s.keep (untilK (scK sc) 5)).tables.getD 5 default).entries) hik rfl (fun i j _ _ => .refl _))) ?_; refine roundET_turn (turn_close (id := 0) (i := 0) (j := 1) (id' := 3) rfl (show 0 < 1 by decide) (show 1 < 3 by decide) rfl rfl (show 0 ≠ 3 by decide) rfl (rowO_le (Nat.le_of_eq setE_len.symm))) ?_; refine roundET_turn (turn_box (id := 0) (ds := ((s.keep (untilK (scK sc) 5))).csO) rfl rfl rfl (.cons (.refl _) (.cons (OwEq.len rfl (fun i j _ _ => HoldC.h _ j) (fun i j _ _ => by rw [setE_self]; exact .refl _)) (.cons (.refl _) .nil)))) ?_; refine roundET_end ?_) | refine And.intro ?_ ?_ | (intro _h; first | contradiction | (try simp only [dd] at _h)) | (refine dt_go ?_) | exact rfl | exact True.intro | exact dkk | exact dks | (refine wrap_succ ?_; omega))))
      · rename_i k _ hlt ho
        have hk : k < ((s.keep (untilK (scK sc) 5)).tables.getD 5 default).entries.length := Int.ofNat_lt.1 hlt
        have hc := filt_yes (p := scK sc 5) hk (scK_far _h)
        have hlen : ((((s.keep (untilK (scK sc) 5)).tables.getD 5 default).entries.take (k + 1)).filter (scK sc 5)).length = ((((s.keep (untilK (scK sc) 5)).tables.getD 5 default).entries.take k).filter (scK sc 5)).length + 1 := by rw [hc, List.length_append]; rfl
        refine ⟨k + 1, [0, 1, 7], hk, (show ((s.keep (untilK (scK sc) 5)).tables.getD 5 default).entries.length - (k + 1) < ((s.keep (untilK (scK sc) 5)).tables.getD 5 default).entries.length - k by omega), ?_⟩
        repeat' (first | exact aa | ((conv => whnf) <;> (first | exact arr_zero rfl rfl | exact low_cells rfl | exact rho_keep hX _h | exact capB2 (Nat.le_trans filt_le he) (by decide) | exact capN2 (Nat.le_trans filt_le he) | exact hlen | exact hlen.symm | exact arr_snoc hc rfl hlen.symm hlen (fun a j => low_cells rfl) (fun j hj => rfl) | refine And.intro ?_ ?_ | (intro _h; first | contradiction | (try simp only [dd] at _h)) | (refine dt_go ?_) | exact rfl | exact True.intro | exact dkk | exact dks | (refine wrap_succ ?_; omega))))
      · rename_i k _ hlt ho
        have hk : k < ((s.keep (untilK (scK sc) 5)).tables.getD 5 default).entries.length := Int.ofNat_lt.1 hlt
        have hc := filt_no (p := scK sc 5) hk (scK_not ho _h)
        have hlen : ((((s.keep (untilK (scK sc) 5)).tables.getD 5 default).entries.take (k + 1)).filter (scK sc 5)).length = ((((s.keep (untilK (scK sc) 5)).tables.getD 5 default).entries.take k).filter (scK sc 5)).length := by rw [hc]
        refine ⟨k + 1, [], hk, (show ((s.keep (untilK (scK sc) 5)).tables.getD 5 default).entries.length - (k + 1) < ((s.keep (untilK (scK sc) 5)).tables.getD 5 default).entries.length - k by omega), ?_⟩
        repeat' (first | exact aa | ((conv => whnf) <;> (first | exact arr_zero rfl rfl | exact low_cells rfl | exact rho_keep hX _h | exact capB2 (Nat.le_trans filt_le he) (by decide) | exact capN2 (Nat.le_trans filt_le he) | exact hlen | exact hlen.symm | exact arr_same hc hlen.symm (fun a j => low_cells rfl) | refine And.intro ?_ ?_ | (intro _h; first | contradiction | (try simp only [dd] at _h)) | (refine dt_go ?_) | exact rfl | exact True.intro | exact dkk | exact dks | (refine wrap_succ ?_; omega))))
      · rename_i k _ hlt
        have hk : k < ((s.keep (untilK (scK sc) 5)).tables.getD 5 default).entries.length := Int.ofNat_lt.1 hlt
        have hc := filt_yes (p := scK sc 5) hk (scK_own _h)
        have hlen : ((((s.keep (untilK (scK sc) 5)).tables.getD 5 default).entries.take (k + 1)).filter (scK sc 5)).length = ((((s.keep (untilK (scK sc) 5)).tables.getD 5 default).entries.take k).filter (scK sc 5)).length + 1 := by rw [hc, List.length_append]; rfl
        refine ⟨k + 1, [0, 1, 7], hk, (show ((s.keep (untilK (scK sc) 5)).tables.getD 5 default).entries.length - (k + 1) < ((s.keep (untilK (scK sc) 5)).tables.getD 5 default).entries.length - k by omega), ?_⟩
        repeat' (first | exact aa | ((conv => whnf) <;> (first | exact arr_zero rfl rfl | exact low_cells rfl | exact rho_keep hX _h | exact capB2 (Nat.le_trans filt_le he) (by decide) | exact capN2 (Nat.le_trans filt_le he) | exact hlen | exact hlen.symm | exact arr_snoc hc rfl hlen.symm hlen (fun a j => low_cells rfl) (fun j hj => rfl) | refine And.intro ?_ ?_ | (intro _h; first | contradiction | (try simp only [dd] at _h)) | (refine dt_go ?_) | exact rfl | exact True.intro | exact dkk | exact dks | (refine wrap_succ ?_; omega))))
      · conv => whnf
        rename_i k _
        have hk : ¬ k < ((s.keep (untilK (scK sc) 5)).tables.getD 5 default).entries.length := fun q => _h (Int.ofNat_lt.2 q)
        have hU : (s.keep (untilK (scK sc) 5)).setE 5 ((((s.keep (untilK (scK sc) 5)).tables.getD 5 default).entries.take k).filter (scK sc 5)) = (s.keep (untilK (scK sc) (5 + 1))) := by
          rw [List.take_of_length_le (Nat.le_of_not_lt hk), show (s.keep (untilK (scK sc) 5)).tables.getD 5 default = s.tables.getD 5 default from until_at (Nat.le_refl _)]
          exact until_succ hi
        refine roundET_turn (turn_close (id := 3) (i := 5) (j := 1) (id' := 2) rfl hik (show 1 < 2 by decide) (by first | exact rfl | (simp only [upd, Nat.beq_refl]; rfl)) rfl (show 3 ≠ 2 by decide) rfl (rowO_le (Nat.le_refl _))) ?_
        refine roundET_turn (turn_eq (id := 3) (x := rowL 2 Table.csO ((s.keep (untilK (scK sc) 5)).setE 5 ((((s.keep (untilK (scK sc) 5)).tables.getD 5 default).entries.take k).filter (scK sc 5))).tables) rfl rfl setE_len rfl rfl (setE_rows3 (l := ((((s.keep (untilK (scK sc) 5)).tables.getD 5 default).entries.take k).filter (scK sc 5))) hik rfl (fun i j _ _ => .refl _))) ?_
        refine roundET_turn (turn_close (id := 0) (i := 0) (j := 1) (id' := 3) rfl (show 0 < 1 by decide) (show 1 < 3 by decide) rfl rfl (show 0 ≠ 3 by decide) rfl (rowO_le (Nat.le_of_eq setE_len.symm))) ?_
        refine roundET_turn (turn_box (id := 0) (ds := (s.keep (untilK (scK sc) (5 + 1))).csO) rfl rfl rfl (by rw [← hU]; exact (.cons (.refl _) (.cons (OwEq.len setE_len.symm (fun i j _ _ => HoldC.h _ j) (fun i j _ _ => .refl _)) (.cons (.refl _) .nil))))) ?_
        refine roundET_end ?_
        refine ⟨5 + 1, [], hi, (show s.tables.length - (5 + 1) < s.tables.length - 5 by omega), ?_⟩
        repeat' (first | exact aa | ((conv => whnf) <;> (first | exact arr_zero rfl rfl | exact low_cells rfl | exact rho_keep hX _h | exact capB2 (Nat.le_trans filt_le he) (by decide) | exact capN2 (Nat.le_trans filt_le he) | refine And.intro ?_ ?_ | (intro _h; first | contradiction | (try simp only [dd] at _h)) | (refine dt_go ?_) | exact rfl | exact True.intro | exact dkk | exact dks | (refine wrap_succ ?_; omega))))
    · have hik : 6 < (s.keep (untilK (scK sc) 6)).tables.length := by omega
      have he : ((s.keep (untilK (scK sc) 6)).tables.getD 6 default).entries.length ≤ 1048576 := entLe (keep_ok h) 6
      refine lw_turn _ (turn_close (id := 0) (i := 0) (j := 1) (id' := 1) rfl (show 0 < 1 by decide) (show 1 < 3 by decide) rfl rfl (show 0 ≠ 1 by decide) rfl (rowO_le (Nat.le_refl _))) ?_
      refine lw_turn _ (turn_box (id := 0) (ds := ((s.keep (untilK (scK sc) 6))).csO) rfl rfl rfl (.cons (.refl _) (.cons (.refl _) (.cons (.refl _) .nil)))) ?_
      refine lw_del 17 ?_
      refine loopFT (fun k : Nat => [(6, .i .i64 k), (5, .row 2 ((((s.keep (untilK (scK sc) 6)).tables.getD 6 default).entries.take k).filter (scK sc 6)).length)]) (fun k => [none, none, some (.arr ⟨7, ((((s.keep (untilK (scK sc) 6)).tables.getD 6 default).entries.take k).filter (scK sc 6)).length, elE Entry.cs ((((s.keep (untilK (scK sc) 6)).tables.getD 6 default).entries.take k).filter (scK sc 6)), .arr⟩)]) (fun k => k ≤ ((s.keep (untilK (scK sc) 6)).tables.getD 6 default).entries.length) (fun k => ((s.keep (untilK (scK sc) 6)).tables.getD 6 default).entries.length - k) 0 ⟨Nat.zero_le _, ?_⟩
      repeat' (first | exact aa | ((conv => whnf) <;> (first | exact arr_zero rfl rfl | exact low_cells rfl | exact rho_keep hX _h | exact capB2 (Nat.le_trans filt_le he) (by decide) | exact capN2 (Nat.le_trans filt_le he) | (refine roundET_turn (turn_close (id := 3) (i := 6) (j := 1) (id' := 4) rfl hik (show 1 < 2 by decide) (by first | exact rfl | (simp only [upd, Nat.beq_refl]; rfl)) rfl (show 3 ≠ 4 by decide) rfl (rowO_le (Nat.le_refl _))) ?_; refine roundET_turn (turn_eq (id := 3) (x := rowL 2 Table.csO ((s.keep (untilK (scK sc) 6)).setE 6 ((s.keep (untilK (scK sc) 6)).tables.getD 6 default).entries).tables) rfl rfl setE_len rfl rfl (setE_rows (l := ((s.keep (untilK (scK sc) 6)).tables.getD 6 default).entries) hik rfl (fun i j _ _ => .refl _))) ?_; refine roundET_turn (turn_close (id := 0) (i := 0) (j := 1) (id' := 3) rfl (show 0 < 1 by decide) (show 1 < 3 by decide) rfl rfl (show 0 ≠ 3 by decide) rfl (rowO_le (Nat.le_of_eq setE_len.symm))) ?_; refine roundET_turn (turn_box (id := 0) (ds := ((s.keep (untilK (scK sc) 6))).csO) rfl rfl rfl (.cons (.refl _) (.cons (OwEq.len rfl (fun i j _ _ => HoldC.h _ j) (fun i j _ _ => by rw [setE_self]; exact .refl _)) (.cons (.refl _) .nil)))) ?_; refine roundET_end ?_) | refine And.intro ?_ ?_ | (intro _h; first | contradiction | (try simp only [dd] at _h)) | (refine dt_go ?_) | exact rfl | exact True.intro | exact dkk | exact dks | (refine wrap_succ ?_; omega))))
      · rename_i k _ hlt ho
        have hk : k < ((s.keep (untilK (scK sc) 6)).tables.getD 6 default).entries.length := Int.ofNat_lt.1 hlt
        have hc := filt_yes (p := scK sc 6) hk (scK_far _h)
        have hlen : ((((s.keep (untilK (scK sc) 6)).tables.getD 6 default).entries.take (k + 1)).filter (scK sc 6)).length = ((((s.keep (untilK (scK sc) 6)).tables.getD 6 default).entries.take k).filter (scK sc 6)).length + 1 := by rw [hc, List.length_append]; rfl
        refine ⟨k + 1, [0, 1, 7], hk, (show ((s.keep (untilK (scK sc) 6)).tables.getD 6 default).entries.length - (k + 1) < ((s.keep (untilK (scK sc) 6)).tables.getD 6 default).entries.length - k by omega), ?_⟩
        repeat' (first | exact aa | ((conv => whnf) <;> (first | exact arr_zero rfl rfl | exact low_cells rfl | exact rho_keep hX _h | exact capB2 (Nat.le_trans filt_le he) (by decide) | exact capN2 (Nat.le_trans filt_le he) | exact hlen | exact hlen.symm | exact arr_snoc hc rfl hlen.symm hlen (fun a j => low_cells rfl) (fun j hj => rfl) | refine And.intro ?_ ?_ | (intro _h; first | contradiction | (try simp only [dd] at _h)) | (refine dt_go ?_) | exact rfl | exact True.intro | exact dkk | exact dks | (refine wrap_succ ?_; omega))))
      · rename_i k _ hlt ho
        have hk : k < ((s.keep (untilK (scK sc) 6)).tables.getD 6 default).entries.length := Int.ofNat_lt.1 hlt
        have hc := filt_no (p := scK sc 6) hk (scK_not ho _h)
        have hlen : ((((s.keep (untilK (scK sc) 6)).tables.getD 6 default).entries.take (k + 1)).filter (scK sc 6)).length = ((((s.keep (untilK (scK sc) 6)).tables.getD 6 default).entries.take k).filter (scK sc 6)).length := by rw [hc]
        refine ⟨k + 1, [], hk, (show ((s.keep (untilK (scK sc) 6)).tables.getD 6 default).entries.length - (k + 1) < ((s.keep (untilK (scK sc) 6)).tables.getD 6 default).entries.length - k by omega), ?_⟩
        repeat' (first | exact aa | ((conv => whnf) <;> (first | exact arr_zero rfl rfl | exact low_cells rfl | exact rho_keep hX _h | exact capB2 (Nat.le_trans filt_le he) (by decide) | exact capN2 (Nat.le_trans filt_le he) | exact hlen | exact hlen.symm | exact arr_same hc hlen.symm (fun a j => low_cells rfl) | refine And.intro ?_ ?_ | (intro _h; first | contradiction | (try simp only [dd] at _h)) | (refine dt_go ?_) | exact rfl | exact True.intro | exact dkk | exact dks | (refine wrap_succ ?_; omega))))
      · rename_i k _ hlt
        have hk : k < ((s.keep (untilK (scK sc) 6)).tables.getD 6 default).entries.length := Int.ofNat_lt.1 hlt
        have hc := filt_yes (p := scK sc 6) hk (scK_own _h)
        have hlen : ((((s.keep (untilK (scK sc) 6)).tables.getD 6 default).entries.take (k + 1)).filter (scK sc 6)).length = ((((s.keep (untilK (scK sc) 6)).tables.getD 6 default).entries.take k).filter (scK sc 6)).length + 1 := by rw [hc, List.length_append]; rfl
        refine ⟨k + 1, [0, 1, 7], hk, (show ((s.keep (untilK (scK sc) 6)).tables.getD 6 default).entries.length - (k + 1) < ((s.keep (untilK (scK sc) 6)).tables.getD 6 default).entries.length - k by omega), ?_⟩
        repeat' (first | exact aa | ((conv => whnf) <;> (first | exact arr_zero rfl rfl | exact low_cells rfl | exact rho_keep hX _h | exact capB2 (Nat.le_trans filt_le he) (by decide) | exact capN2 (Nat.le_trans filt_le he) | exact hlen | exact hlen.symm | exact arr_snoc hc rfl hlen.symm hlen (fun a j => low_cells rfl) (fun j hj => rfl) | refine And.intro ?_ ?_ | (intro _h; first | contradiction | (try simp only [dd] at _h)) | (refine dt_go ?_) | exact rfl | exact True.intro | exact dkk | exact dks | (refine wrap_succ ?_; omega))))
      · conv => whnf
        rename_i k _
        have hk : ¬ k < ((s.keep (untilK (scK sc) 6)).tables.getD 6 default).entries.length := fun q => _h (Int.ofNat_lt.2 q)
        have hU : (s.keep (untilK (scK sc) 6)).setE 6 ((((s.keep (untilK (scK sc) 6)).tables.getD 6 default).entries.take k).filter (scK sc 6)) = (s.keep (untilK (scK sc) (6 + 1))) := by
          rw [List.take_of_length_le (Nat.le_of_not_lt hk), show (s.keep (untilK (scK sc) 6)).tables.getD 6 default = s.tables.getD 6 default from until_at (Nat.le_refl _)]
          exact until_succ hi
        refine roundET_turn (turn_close (id := 3) (i := 6) (j := 1) (id' := 2) rfl hik (show 1 < 2 by decide) (by first | exact rfl | (simp only [upd, Nat.beq_refl]; rfl)) rfl (show 3 ≠ 2 by decide) rfl (rowO_le (Nat.le_refl _))) ?_
        refine roundET_turn (turn_eq (id := 3) (x := rowL 2 Table.csO ((s.keep (untilK (scK sc) 6)).setE 6 ((((s.keep (untilK (scK sc) 6)).tables.getD 6 default).entries.take k).filter (scK sc 6))).tables) rfl rfl setE_len rfl rfl (setE_rows3 (l := ((((s.keep (untilK (scK sc) 6)).tables.getD 6 default).entries.take k).filter (scK sc 6))) hik rfl (fun i j _ _ => .refl _))) ?_
        refine roundET_turn (turn_close (id := 0) (i := 0) (j := 1) (id' := 3) rfl (show 0 < 1 by decide) (show 1 < 3 by decide) rfl rfl (show 0 ≠ 3 by decide) rfl (rowO_le (Nat.le_of_eq setE_len.symm))) ?_
        refine roundET_turn (turn_box (id := 0) (ds := (s.keep (untilK (scK sc) (6 + 1))).csO) rfl rfl rfl (by rw [← hU]; exact (.cons (.refl _) (.cons (OwEq.len setE_len.symm (fun i j _ _ => HoldC.h _ j) (fun i j _ _ => .refl _)) (.cons (.refl _) .nil))))) ?_
        refine roundET_end ?_
        refine ⟨6 + 1, [], hi, (show s.tables.length - (6 + 1) < s.tables.length - 6 by omega), ?_⟩
        repeat' (first | exact aa | ((conv => whnf) <;> (first | exact arr_zero rfl rfl | exact low_cells rfl | exact rho_keep hX _h | exact capB2 (Nat.le_trans filt_le he) (by decide) | exact capN2 (Nat.le_trans filt_le he) | refine And.intro ?_ ?_ | (intro _h; first | contradiction | (try simp only [dd] at _h)) | (refine dt_go ?_) | exact rfl | exact True.intro | exact dkk | exact dks | (refine wrap_succ ?_; omega))))
  · rename_i i _
    have hTl := keep_len (s := s) (K := untilK (scK sc) i)
    have hn : ¬ i < s.tables.length := by omega
    rw [← until_end (K := scK sc) hn] at hL
    repeat' (first | exact aa | ((conv => whnf) <;> (first | (refine .inr (.inr ⟨[some (boxRow (s.keep (untilK (scK sc) i)).csO), none], (by intro X; refine Turn.trans (turn_close (id := 0) (i := 0) (j := 1) (id' := 1) rfl (show 0 < 1 by decide) (show 1 < 3 by decide) rfl rfl (show 0 ≠ 1 by decide) rfl (rowO_le (Nat.le_refl _))) ?_; exact turn_box (id := 0) (ds := ((s.keep (untilK (scK sc) i))).csO) rfl rfl rfl (.cons (.refl _) (.cons (.refl _) (.cons (.refl _) .nil)))), (fun i _ q => (by cases q)), .inl ⟨[0], _, _, _, hL, (view_of rfl (.cons rfl (.self (rowPl_box rfl)) .nil)), ⟨rfl, rfl⟩, ?_⟩⟩); rintro _ _ ⟨rfl, rfl⟩; refine ⟨rfl, _, (lok_pl (.cons (rowPl_box rfl) .nil)), ?_⟩) | refine And.intro ?_ ?_ | (intro _h; first | contradiction | (try simp only [dd] at _h)) | (refine dt_go ?_) | exact rfl | exact True.intro | exact dkk | exact dks | (refine wrap_succ ?_; omega))))
    conv => whnf
    exact endM_pick [0] [some (boxRow S.csO)] (.tup []) (view_of rfl (.cons rfl (.self (rowPl_box rfl)) .nil)) rfl rfl (by rw [hX]; exact keepK (n := 1) rfl rfl) ⟨rfl, rfl⟩
end Go.Proofs.Ytfjciadhanfhpaa

