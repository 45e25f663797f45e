/- Texts for VHandlesOneP. -/
import Derived.Test.YtmglpojnoadgeaaGreatVo35
import Derived.Test.YtmglpojnoadgeaaGreatVo37
namespace Go.Proofs.YtmglpojnoadgeaaGreat
open Go Go.RowKit
set_option linter.unusedVariables false
set_option linter.unusedSimpArgs false
theorem dK_pure {p : Entry → Bool} {l : List Entry} (hu : uniq l) : ∀ {j : Nat}, j ≤ l.length → dK (fun _ e => p e) l j = (l.take j).filter (fun e => !p e)
 | 0, _ => rfl
 | j + 1, hj => by
  have hj' : j < l.length := hj
  have ih := dK_pure (p := p) hu (Nat.le_of_lt hj')
  cases hp : p (l.getD j default) with
  | true => rw [dK_hit hu hj' hp, ih, filt_no hj' (by rw [hp]; rfl)]
  | false => rw [dK_miss hu hj' hp, ih, filt_yes hj' (by rw [hp]; rfl)]
theorem rowNs_mp (ak : Bool) (f : List Int → Int) (sts : List (Int × List Int)) : RowNs (mpRow ak f sts) := ⟨fun i j hi => absurd hi (Nat.not_lt_zero _)⟩
theorem back_1 {σ : Nat → Nat} {m : Nat} {es : Nat → Nat → AV} {x : AV} (h : es 0 0 = ren1 σ x) (hl : low2 m x = true) : RowBack σ m (boxRow [x]) ⟨1, 1, es, .box⟩ := ⟨rfl, rfl, .refl _, fun i j hi hj => by
 have hi' : i < 1 := hi
 have hj' : j < 1 := hj
 obtain rfl : i = 0 := by omega
 obtain rfl : j = 0 := by omega
 exact ⟨h, hl⟩⟩
theorem back_3 {σ : Nat → Nat} {m : Nat} {es : Nat → Nat → AV} {x y z : AV} (h : es 0 0 = ren1 σ x ∧ es 0 1 = ren1 σ y ∧ es 0 2 = ren1 σ z) (hl : low2 m x = true ∧ low2 m y = true ∧ low2 m z = true) : RowBack σ m (boxRow [x, y, z]) ⟨3, 1, es, .box⟩ := ⟨rfl, rfl, .refl _, fun i j hi hj => by
 have hi' : i < 1 := hi
 have hj' : j < 3 := hj
 obtain rfl : i = 0 := by omega
 rcases (show j = 0 ∨ j = 1 ∨ j = 2 by omega) with rfl | rfl | rfl
 ·exact ⟨h.1, hl.1⟩
 ·exact ⟨h.2.1, hl.2.1⟩
 ·exact ⟨h.2.2, hl.2.2⟩⟩
set_option maxRecDepth 8000 in
set_option maxHeartbeats 80000000 in
theorem removeAll_ok (s : Shelf) (h : s.ok) (hg : s.Tidy) (g : Nat) {fv} (hgf : env.F.get g = some fv) (c : Int) (p : Int → Entry → Bool) (hp : ∀ w e, Ret env.P g [.i .i64 w, .agg e.cs, rfL [.i .i64 c]] (fun r => r = .b (p w e))) (K0 : Nat → Entry → Bool) (hK : ∀ (i : Nat) e, K0 i e = !p i e) : RetM env.P 94 [some (boxRow s.csO), some (boxRow [.i .i64 c])] [.ptr 0 0 0, .fn g [.ptr 1 0 0]] (fun r H => r = .tup [] ∧ H = [some (boxRow ((s.keep (s.fixK K0)).relend).csO), some (boxRow [.i .i64 c])]) := by
 have hl : s.tables.length ≤ 1048576 := h.1.1
 have h7 := hg.seven
 refine ret_ofM (nt := 107) (rvs := []) Tryz.func94 rfl rfl rfl rfl (fun X hX => ?_)
 repeat' (first | exact aa | ((conv => whnf) <;> (first | (refine lw_turn [some (boxRow (s.keep (fun _ _ => true)).csO), some (boxRow [.i .i64 c]), some (boxRow [.ptr 0 0 0]), some (boxRow [.fn g [.ptr 1 0 0]])] (by rw [(loG_start (s := s) (K0 := K0)).fst rfl |>.2]; exact Turn.refl) ?_; refine loopTF 13 (fun x : Bool × Bool × (Nat → Entry → Bool) => [(4, .b x.2.1)]) (fun x => [some (.box (s.keep x.2.2).csO), none, none, some (.box [match x.1 with | true => .fn g [.ptr 1 0 0] | false => .fn 116 [.ptr 2 0 0]])]) (LoG s K0) (muG s) (true, true, fun _ _ => true) rfl ⟨loG_start, ?_⟩) | refine And.intro ?_ ?_ | (intro _h; first | contradiction | (try simp only [dd] at _h)) | (refine dt_go ?_) | exact rfl | exact True.intro | exact dkk | exact dks | (refine wrap_succ ?_; omega))))
 ·rename_i x hx
  obtain ⟨f, ag, K⟩ := x
  cases f with
  | true =>
  have hKs : s.keep K = s := (hx.fst rfl).2
  have hKl : (s.keep K).tables.length = s.tables.length := keep_len
  repeat' (first | exact aa | ((conv => whnf) <;> (first | refine And.intro ?_ ?_ | (intro _h; first | contradiction | (try simp only [dd] at _h)) | (refine dt_go ?_) | exact rfl | exact True.intro | exact dkk | exact dks | (refine wrap_succ ?_; omega))))
  conv => whnf
  refine lw_turn _ (turn_close (id := 0) (i := 0) (j := 1) (id' := 4) rfl (show 0 < 1 by decide) (show 1 < 3 by decide) rfl rfl (show 0 ≠ 4 by decide) rfl (rowO_le (Nat.le_refl _))) ?_
  refine lw_turn _ (turn_box (id := 0) (ds := (s.keep (untilK K0 0)).csO) rfl rfl rfl (by rw [until_zero, show s.csO = (s.keep K).csO by rw [hKs]]; exact (.cons (.refl _) (.cons (.refl _) (.cons (.refl _) .nil))))) ?_
  refine loopTF 21 (fun y : Nat × Bool => [(20, .i .i64 (y.1 : Nat)), (4, .b y.2)]) (fun y => [some (.box (s.keep (untilK K0 y.1)).csO), none, none, none, none]) (LoF s K0) (fun y => s.tables.length - y.1) (0, false) rfl ⟨loF_start, ?_⟩
  repeat' (first | exact aa | ((conv => whnf) <;> (first | (refine dt_turn (turn_open (id := 0) (i := 0) (j := 1) rfl (show 0 < 1 by decide) (show 1 < 3 by decide) rfl) ?_; refine dt_go ?_) | exact fx_T (show 2 < 3 by decide) | exact low_cells rfl | exact keeps0_nil _ _ | (refine ld_skip rfl rfl rfl rfl upd_self ?_) | (refine bool_skip any_self ?_) | (first | rw [ld_self rfl] | rw [ld_selfA rfl]) | refine And.intro ?_ ?_ | (intro _h; first | contradiction | (try simp only [dd] at _h)) | (refine dt_go ?_) | exact rfl | exact True.intro | exact dkk | exact dks | (refine wrap_succ ?_; omega))))
  ·rename_i y hy
   have e := keep_len (s := s) (K := untilK K0 y.1)
   omega
  ·rename_i y hy
   obtain ⟨i, b⟩ := y
   have hi : i < s.tables.length := by
    have e : (i : Int) < (s.keep K).tables.length := _h
    omega
   skip
   ·have hik : i < (s.keep (untilK K0 i)).tables.length := by rw [keep_len]; exact hi
    have he : ((s.keep (untilK K0 i)).tables.getD i default).entries.length ≤ 1048576 := entLe (keep_ok h) i
    have hek : (s.keep (untilK K0 i)).tables.getD i default = s.tables.getD i default := until_at (Nat.le_refl _)
    have hul : uniq ((s.keep (untilK K0 i)).tables.getD i default).entries := by rw [hek]; exact shelf_uniq hg i
    have hC := fun (l' : List Entry) (_ : l'.length = ((s.keep (untilK K0 i)).tables.getD i default).entries.length) (e : Entry) => removeAll1_1 l' g (i : Nat) c hgf p hp e
    have hD : (dK (fun _ e => p (i : Nat) e) ((s.keep (untilK K0 i)).tables.getD i default).entries ((s.keep (untilK K0 i)).tables.getD i default).entries.length) = (s.tables.getD i default).entries.filter (K0 i) := by
     rw [dK_pure hul (Nat.le_refl _), List.take_length, hek]
     exact List.filter_congr fun e _ => (hK i e).symm
    have hU : (s.keep (untilK K0 i)).setE i (dK (fun _ e => p (i : Nat) e) ((s.keep (untilK K0 i)).tables.getD i default).entries ((s.keep (untilK K0 i)).tables.getD i default).entries.length) = (s.keep (untilK K0 (i + 1))) := by rw [hD]; exact until_succ hi
    repeat' (first | exact aa | ((conv => whnf) <;> (first | (refine .inr (.inl (.inl ⟨[7, 3, 5, 1], _, _, _, delR1_ok ((s.keep (untilK K0 i)).tables.getD i default).entries he g (i : Nat) c (fun _ e => p (i : Nat) e) hC hul, (view_of rfl (.cons rfl (.self (rowPl_L fun _ => rfl)) (.cons rfl (back_box rfl rfl rfl) (.cons rfl (back_1 rfl rfl) (.cons rfl (.self (rowPl_box rfl)) .nil))))), ⟨rfl, rfl⟩, ?_⟩)); rintro _ _ ⟨rfl, rfl⟩; refine ⟨rfl, _, (lok_c (ren_pl cutC_row) (lok_c (ren_box rfl rfl) (lok_c (ren_pl (rowPl_box rfl)) (lok_c (ren_pl (rowPl_box rfl)) lok_nil)))), ?_⟩) | exact fx_T (show 2 < 3 by decide) | exact low_cells rfl | exact keeps0_nil _ _ | (refine ld_skip rfl rfl rfl rfl upd_self ?_) | (refine bool_skip any_self ?_) | (first | rw [ld_self rfl] | rw [ld_selfA rfl]) | refine And.intro ?_ ?_ | (intro _h; first | contradiction | (try simp only [dd] at _h)) | (refine dt_go ?_) | exact rfl | exact True.intro | exact dkk | exact dks | (refine wrap_succ ?_; omega))))
    ·conv => whnf
     refine roundET_turn (turn_close (id := 6) (i := i) (j := 1) (id' := 7) rfl hik (show 1 < 2 by decide) (by first | exact upd_self | exact rfl | (simp only [upd, Nat.beq_refl]; rfl) | (simp only [upd, Int.toNat_natCast, Nat.beq_refl]; rfl)) rfl (show 6 ≠ 7 by decide) rfl (by exact ⟨dK_le.2, fun i j _ _ => cutC_idf⟩)) ?_
     refine roundET_turn (turn_eq (id := 6) (x := rowL 2 Table.csO ((s.keep (untilK K0 i)).setE i (dK (fun _ e => p (i : Nat) e) ((s.keep (untilK K0 i)).tables.getD i default).entries ((s.keep (untilK K0 i)).tables.getD i default).entries.length)).tables) rfl rfl setE_len rfl rfl (setE_rows3 (l := (dK (fun _ e => p (i : Nat) e) ((s.keep (untilK K0 i)).tables.getD i default).entries ((s.keep (untilK K0 i)).tables.getD i default).entries.length)) hik rfl (fun i j hi _ => by dsimp only; rw [cutC_in hi]; exact .refl _))) ?_
     refine roundET_turn (turn_close (id := 0) (i := 0) (j := 1) (id' := 6) rfl (show 0 < 1 by decide) (show 1 < 3 by decide) rfl rfl (show 0 ≠ 6 by decide) rfl (rowO_le (Nat.le_of_eq setE_len.symm))) ?_
     refine roundET_turn (turn_box (id := 0) (ds := (s.keep (untilK K0 (i + 1))).csO) rfl rfl rfl (by rw [← hU]; exact (.cons (.refl _) (.cons (OwEq.len setE_len.symm (fun i j _ _ => HoldC.h _ j) (fun i j _ _ => .refl _)) (.cons (.refl _) .nil))))) ?_
     refine roundET_end ?_
     refine ⟨(i + 1, (decide (((dK (fun _ e => p (i : Nat) e) ((s.keep (untilK K0 i)).tables.getD i default).entries ((s.keep (untilK K0 i)).tables.getD i default).entries.length).length : Int) < (((s.keep (untilK K0 i)).tables.getD i default).entries.length : Int)))), [], hy.next hi (fun q => ⟨_h, by rw [decide_eq_false_iff_not, hD, hek] at q; exact fun r => q (Int.ofNat_lt.2 r)⟩), (show s.tables.length - (i + 1) < s.tables.length - i by omega), ?_⟩
     repeat' (first | exact aa | ((conv => whnf) <;> (first | exact fx_T (show 2 < 3 by decide) | exact low_cells rfl | exact keeps0_nil _ _ | (refine ld_skip rfl rfl rfl rfl upd_self ?_) | (refine bool_skip any_self ?_) | (first | rw [ld_self rfl] | rw [ld_selfA rfl]) | refine And.intro ?_ ?_ | (intro _h; first | contradiction | (try simp only [dd] at _h)) | (refine dt_go ?_) | exact rfl | exact True.intro | exact dkk | exact dks | (refine wrap_succ ?_; omega))))
    ·conv => whnf
     refine roundET_turn (turn_close (id := 6) (i := i) (j := 1) (id' := 7) rfl hik (show 1 < 2 by decide) (by first | exact upd_self | exact rfl | (simp only [upd, Nat.beq_refl]; rfl) | (simp only [upd, Int.toNat_natCast, Nat.beq_refl]; rfl)) rfl (show 6 ≠ 7 by decide) rfl (by exact ⟨dK_le.2, fun i j _ _ => cutC_idf⟩)) ?_
     refine roundET_turn (turn_eq (id := 6) (x := rowL 2 Table.csO ((s.keep (untilK K0 i)).setE i (dK (fun _ e => p (i : Nat) e) ((s.keep (untilK K0 i)).tables.getD i default).entries ((s.keep (untilK K0 i)).tables.getD i default).entries.length)).tables) rfl rfl setE_len rfl rfl (setE_rows3 (l := (dK (fun _ e => p (i : Nat) e) ((s.keep (untilK K0 i)).tables.getD i default).entries ((s.keep (untilK K0 i)).tables.getD i default).entries.length)) hik rfl (fun i j hi _ => by dsimp only; rw [cutC_in hi]; exact .refl _))) ?_
     refine roundET_turn (turn_close (id := 0) (i := 0) (j := 1) (id' := 6) rfl (show 0 < 1 by decide) (show 1 < 3 by decide) rfl rfl (show 0 ≠ 6 by decide) rfl (rowO_le (Nat.le_of_eq setE_len.symm))) ?_
     refine roundET_turn (turn_box (id := 0) (ds := (s.keep (untilK K0 (i + 1))).csO) rfl rfl rfl (by rw [← hU]; exact (.cons (.refl _) (.cons (OwEq.len setE_len.symm (fun i j _ _ => HoldC.h _ j) (fun i j _ _ => .refl _)) (.cons (.refl _) .nil))))) ?_
     refine roundET_end ?_
     refine ⟨(i + 1, true), [], hy.next hi (fun q => (by cases q)), (show s.tables.length - (i + 1) < s.tables.length - i by omega), ?_⟩
     repeat' (first | exact aa | ((conv => whnf) <;> (first | exact fx_T (show 2 < 3 by decide) | exact low_cells rfl | exact keeps0_nil _ _ | (refine ld_skip rfl rfl rfl rfl upd_self ?_) | (refine bool_skip any_self ?_) | (first | rw [ld_self rfl] | rw [ld_selfA rfl]) | refine And.intro ?_ ?_ | (intro _h; first | contradiction | (try simp only [dd] at _h)) | (refine dt_go ?_) | exact rfl | exact True.intro | exact dkk | exact dks | (refine wrap_succ ?_; omega))))
  ·rename_i y hy
   have hn : ¬ y.1 < s.tables.length := by
    have e : ¬ (y.1 : Int) < (s.keep K).tables.length := _h
    omega
   have hD := hy.done hg hn (x := (true, ag, K)) rfl
   repeat' (first | exact aa | ((conv => whnf) <;> (first | refine And.intro ?_ ?_ | (intro _h; first | contradiction | (try simp only [dd] at _h)) | (refine dt_go ?_) | exact rfl | exact True.intro | exact dkk | exact dks | (refine wrap_succ ?_; omega))))
   conv => whnf
   refine roundET_turn (turn_box (id := 0) (ds := (s.keep K0).csO) rfl rfl rfl (by rw [← until_end (K := K0) hn]; exact (.cons (.refl _) (.cons (.refl _) (.cons (.refl _) .nil))))) ?_
   refine roundET_end ?_
   refine ⟨(false, y.2, K0), [], hD.1, hD.2, ?_⟩
   repeat' (first | exact aa | ((conv => whnf) <;> (first | exact fx_T (show 2 < 3 by decide) | exact low_cells rfl | exact keeps0_nil _ _ | (refine ld_skip rfl rfl rfl rfl upd_self ?_) | (refine bool_skip any_self ?_) | (first | rw [ld_self rfl] | rw [ld_selfA rfl]) | refine And.intro ?_ ?_ | (intro _h; first | contradiction | (try simp only [dd] at _h)) | (refine dt_go ?_) | exact rfl | exact True.intro | exact dkk | exact dks | (refine wrap_succ ?_; omega))))
  | false =>
  have hA := hx.rest rfl
  have hKl : (s.keep K).tables.length = s.tables.length := keep_len
  repeat' (first | exact aa | ((conv => whnf) <;> (first | refine And.intro ?_ ?_ | (intro _h; first | contradiction | (try simp only [dd] at _h)) | (refine dt_go ?_) | exact rfl | exact True.intro | exact dkk | exact dks | (refine wrap_succ ?_; omega))))
  conv => whnf
  refine lw_turn _ (turn_close (id := 0) (i := 0) (j := 1) (id' := 4) rfl (show 0 < 1 by decide) (show 1 < 3 by decide) rfl rfl (show 0 ≠ 4 by decide) rfl (rowO_le (Nat.le_refl _))) ?_
  refine lw_turn _ (turn_box (id := 0) (ds := ((s.keep K)).csO) rfl rfl rfl (.cons (.refl _) (.cons (.refl _) (.cons (.refl _) .nil)))) ?_
  refine loopTF 21 (fun y : Nat × Bool × (Nat → Entry → Bool) => [(20, .i .i64 (y.1 : Nat)), (4, .b y.2.1)]) (fun y => [some (.box (s.keep y.2.2).csO), none, none, none, none]) (LoB s K0 K) (fun y => s.tables.length - y.1) (0, false, K) rfl ⟨loB_start hA, ?_⟩
  repeat' (first | exact aa | ((conv => whnf) <;> (first | (refine dt_turn (turn_open (id := 0) (i := 0) (j := 1) rfl (show 0 < 1 by decide) (show 1 < 3 by decide) rfl) ?_; refine dt_go ?_) | exact fx_T (show 2 < 3 by decide) | exact low_cells rfl | exact keeps0_nil _ _ | (refine ld_skip rfl rfl rfl rfl upd_self ?_) | (refine bool_skip any_self ?_) | (first | rw [ld_self rfl] | rw [ld_selfA rfl]) | refine And.intro ?_ ?_ | (intro _h; first | contradiction | (try simp only [dd] at _h)) | (refine dt_go ?_) | exact rfl | exact True.intro | exact dkk | exact dks | (refine wrap_succ ?_; omega))))
  ·rename_i y hy
   have e := keep_len (s := s) (K := y.2.2)
   omega
  ·rename_i y hy
   obtain ⟨i, b, K1⟩ := y
   have hi : i < s.tables.length := by
    have e : (i : Int) < (s.keep K).tables.length := _h
    omega
   skip
   ·have hik : i < (s.keep K1).tables.length := by rw [keep_len]; exact hi
    have he : ((s.keep K1).tables.getD i default).entries.length ≤ 1048576 := entLe (keep_ok h) i
    have hul : uniq ((s.keep K1).tables.getD i default).entries := keep_uniq (shelf_uniq hg) i
    have hC := fun (l' : List Entry) (hl' : l'.length = ((s.keep K1).tables.getD i default).entries.length) (e : Entry) => (hl' ▸ removeAll1_2 l' (s.keep K1) i (i : Nat) (keep_ok h) (by omega) hik e)
    have hU : (s.keep K1).setE i (dK (goQ (s.keep K1) i) ((s.keep K1).tables.getD i default).entries ((s.keep K1).tables.getD i default).entries.length) = (s.keep (stepK s (i, b, K1))) := step_keep (y := (i, b, K1)) hi
    repeat' (first | exact aa | ((conv => whnf) <;> (first | (refine .inr (.inl (.inl ⟨[7, 3, 5, 2, 0, 6], _, _, _, delR2_ok ((s.keep K1).tables.getD i default).entries he (s.keep K1) i (i : Nat) (goQ (s.keep K1) i) hC hul, (view_of rfl (.cons rfl (.self (rowPl_L fun _ => rfl)) (.cons rfl (back_box rfl rfl rfl) (.cons rfl (back_1 rfl rfl) (.cons rfl (back_box rfl rfl rfl) (.cons rfl (back_3 ⟨rfl, rfl, rfl⟩ ⟨rfl, rfl, rfl⟩) (.cons rfl (back_W rfl (show 0 < 6 by decide)) .nil))))))), ⟨rfl, rfl⟩, ?_⟩)); rintro _ _ ⟨rfl, rfl⟩; refine ⟨rfl, _, (lok_c (ren_pl cutC_row) (lok_c (ren_box rfl rfl) (lok_c (ren_pl (rowPl_box rfl)) (lok_c (ren_box rfl rfl) (lok_c (ren_box rfl rfl) (lok_c (ren_W' rfl) lok_nil)))))), ?_⟩) | exact fx_T (show 2 < 3 by decide) | exact low_cells rfl | exact keeps0_nil _ _ | (refine ld_skip rfl rfl rfl rfl upd_self ?_) | (refine bool_skip any_self ?_) | (first | rw [ld_self rfl] | rw [ld_selfA rfl]) | refine And.intro ?_ ?_ | (intro _h; first | contradiction | (try simp only [dd] at _h)) | (refine dt_go ?_) | exact rfl | exact True.intro | exact dkk | exact dks | (refine wrap_succ ?_; omega))))
    ·conv => whnf
     refine roundET_turn (turn_close (id := 6) (i := i) (j := 1) (id' := 7) rfl hik (show 1 < 2 by decide) (by first | exact upd_self | exact rfl | (simp only [upd, Nat.beq_refl]; rfl) | (simp only [upd, Int.toNat_natCast, Nat.beq_refl]; rfl)) rfl (show 6 ≠ 7 by decide) rfl (by exact ⟨dK_le.2, fun i j _ _ => cutC_idf⟩)) ?_
     refine roundET_turn (turn_eq (id := 6) (x := rowL 2 Table.csO ((s.keep K1).setE i (dK (goQ (s.keep K1) i) ((s.keep K1).tables.getD i default).entries ((s.keep K1).tables.getD i default).entries.length)).tables) rfl rfl setE_len rfl rfl (setE_rows3 (l := (dK (goQ (s.keep K1) i) ((s.keep K1).tables.getD i default).entries ((s.keep K1).tables.getD i default).entries.length)) hik rfl (fun i j hi _ => by dsimp only; rw [cutC_in hi]; exact .refl _))) ?_
     refine roundET_turn (turn_close (id := 0) (i := 0) (j := 1) (id' := 6) rfl (show 0 < 1 by decide) (show 1 < 3 by decide) rfl rfl (show 0 ≠ 6 by decide) rfl (rowO_le (Nat.le_of_eq setE_len.symm))) ?_
     refine roundET_turn (turn_box (id := 0) (ds := (s.keep (stepK s (i, b, K1))).csO) rfl rfl rfl (by rw [← hU]; exact (.cons (.refl _) (.cons (OwEq.len setE_len.symm (fun i j _ _ => HoldC.h _ j) (fun i j _ _ => .refl _)) (.cons (.refl _) .nil))))) ?_
     refine roundET_end ?_
     refine ⟨(i + 1, (decide (((dK (goQ (s.keep K1) i) ((s.keep K1).tables.getD i default).entries ((s.keep K1).tables.getD i default).entries.length).length : Int) < (((s.keep K1).tables.getD i default).entries.length : Int))), stepK s (i, b, K1)), [], .step (y := (i, b, K1)) (shelf_uniq hg) hy hi ⟨fun q => ⟨_h, by rw [decide_eq_false_iff_not] at q; exact fun r => q (Int.ofNat_lt.2 r)⟩, fun q => by rw [decide_eq_false_iff_not]; exact fun r => q.2 (Int.ofNat_lt.1 r)⟩, (show s.tables.length - (i + 1) < s.tables.length - i by omega), ?_⟩
     repeat' (first | exact aa | ((conv => whnf) <;> (first | exact fx_T (show 2 < 3 by decide) | exact low_cells rfl | exact keeps0_nil _ _ | (refine ld_skip rfl rfl rfl rfl upd_self ?_) | (refine bool_skip any_self ?_) | (first | rw [ld_self rfl] | rw [ld_selfA rfl]) | refine And.intro ?_ ?_ | (intro _h; first | contradiction | (try simp only [dd] at _h)) | (refine dt_go ?_) | exact rfl | exact True.intro | exact dkk | exact dks | (refine wrap_succ ?_; omega))))
    ·have hb2 : b = true := _h
     conv => whnf
     refine roundET_turn (turn_close (id := 6) (i := i) (j := 1) (id' := 7) rfl hik (show 1 < 2 by decide) (by first | exact upd_self | exact rfl | (simp only [upd, Nat.beq_refl]; rfl) | (simp only [upd, Int.toNat_natCast, Nat.beq_refl]; rfl)) rfl (show 6 ≠ 7 by decide) rfl (by exact ⟨dK_le.2, fun i j _ _ => cutC_idf⟩)) ?_
     refine roundET_turn (turn_eq (id := 6) (x := rowL 2 Table.csO ((s.keep K1).setE i (dK (goQ (s.keep K1) i) ((s.keep K1).tables.getD i default).entries ((s.keep K1).tables.getD i default).entries.length)).tables) rfl rfl setE_len rfl rfl (setE_rows3 (l := (dK (goQ (s.keep K1) i) ((s.keep K1).tables.getD i default).entries ((s.keep K1).tables.getD i default).entries.length)) hik rfl (fun i j hi _ => by dsimp only; rw [cutC_in hi]; exact .refl _))) ?_
     refine roundET_turn (turn_close (id := 0) (i := 0) (j := 1) (id' := 6) rfl (show 0 < 1 by decide) (show 1 < 3 by decide) rfl rfl (show 0 ≠ 6 by decide) rfl (rowO_le (Nat.le_of_eq setE_len.symm))) ?_
     refine roundET_turn (turn_box (id := 0) (ds := (s.keep (stepK s (i, b, K1))).csO) rfl rfl rfl (by rw [← hU]; exact (.cons (.refl _) (.cons (OwEq.len setE_len.symm (fun i j _ _ => HoldC.h _ j) (fun i j _ _ => .refl _)) (.cons (.refl _) .nil))))) ?_
     refine roundET_end ?_
     refine ⟨(i + 1, true, stepK s (i, b, K1)), [], .step (y := (i, b, K1)) (shelf_uniq hg) hy hi ⟨fun q => (by cases q), fun q => by have q1 := q.1; rw [show (i, b, K1).2.1 = b from rfl, hb2] at q1; cases q1⟩, (show s.tables.length - (i + 1) < s.tables.length - i by omega), ?_⟩
     repeat' (first | exact aa | ((conv => whnf) <;> (first | exact fx_T (show 2 < 3 by decide) | exact low_cells rfl | exact keeps0_nil _ _ | (refine ld_skip rfl rfl rfl rfl upd_self ?_) | (refine bool_skip any_self ?_) | (first | rw [ld_self rfl] | rw [ld_selfA rfl]) | refine And.intro ?_ ?_ | (intro _h; first | contradiction | (try simp only [dd] at _h)) | (refine dt_go ?_) | exact rfl | exact True.intro | exact dkk | exact dks | (refine wrap_succ ?_; omega))))
  ·rename_i y hy
   have hn : ¬ y.1 < s.tables.length := by
    have e : ¬ (y.1 : Int) < (s.keep K).tables.length := _h
    omega
   have hD := hy.done (x := (ag, K)) hn (by assumption)
   repeat' (first | exact aa | ((conv => whnf) <;> (first | refine And.intro ?_ ?_ | (intro _h; first | contradiction | (try simp only [dd] at _h)) | (refine dt_go ?_) | exact rfl | exact True.intro | exact dkk | exact dks | (refine wrap_succ ?_; omega))))
   conv => whnf
   refine roundET_end ?_
   refine ⟨(false, y.2.1, y.2.2), [], ⟨fun q => (by cases q), fun _ => hD.1⟩, hD.2, ?_⟩
   repeat' (first | exact aa | ((conv => whnf) <;> (first | exact fx_T (show 2 < 3 by decide) | exact low_cells rfl | exact keeps0_nil _ _ | (refine ld_skip rfl rfl rfl rfl upd_self ?_) | (refine bool_skip any_self ?_) | (first | rw [ld_self rfl] | rw [ld_selfA rfl]) | refine And.intro ?_ ?_ | (intro _h; first | contradiction | (try simp only [dd] at _h)) | (refine dt_go ?_) | exact rfl | exact True.intro | exact dkk | exact dks | (refine wrap_succ ?_; omega))))
 ·rename_i x hx
  have hf : x.1 = false := by
   cases hb : x.1 with
   | false => rfl
   | true => have q := (hx.fst hb).1; rw [_h] at q; cases q
  have hF := (hx.rest hf).fixed hg _h
  rw [hF, hf]
  generalize hS : s.keep (s.fixK K0) = S
  have hSl : S.tables.length = s.tables.length := by rw [← hS]; exact keep_len
  have hSo : S.ok := by rw [← hS]; exact keep_ok h
  repeat' (first | exact aa | ((conv => whnf) <;> (first | (refine .inr (.inl (.inr (.inl ⟨_, RetM.wka (counts_ok S hSo), ?_⟩))); rintro _ _ ⟨rfl, rfl⟩; refine ⟨⟨rfl, (rowsNs_cons (rowNs_mp _ _ _) (rowsNs_cons (rowNs_mp _ _ _) rowsNs_nil))⟩, _, lok_pl (.cons (rowPl_mp _ _ _) (.cons (rowPl_mp _ _ _) .nil)), ?_⟩) | refine And.intro ?_ ?_ | (intro _h; first | contradiction | (try simp only [dd] at _h)) | (refine dt_go ?_) | exact rfl | exact True.intro | exact dkk | exact dks | (refine wrap_succ ?_; omega))))
  conv => whnf
  refine lw_turn _ (turn_close (id := 0) (i := 0) (j := 1) (id' := 6) rfl (show 0 < 1 by decide) (show 1 < 3 by decide) rfl rfl (show 0 ≠ 6 by decide) rfl (rowO_le (Nat.le_refl _))) ?_
  refine lw_turn _ (turn_box (id := 0) (ds := (lendU (leF S.all) S 0 0).csO) rfl rfl rfl (by rw [lendU_zero]; exact (.cons (.refl _) (.cons (.refl _) (.cons (.refl _) .nil))))) ?_
  refine loopTF 68 (fun i : Nat => [(67, .i .i64 i)]) (fun i => [some (.box (lendU (leF S.all) S i 0).csO)]) (fun i => i ≤ S.tables.length) (fun i => S.tables.length - i) 0 rfl ⟨Nat.zero_le _, ?_⟩
  repeat' (first | exact aa | ((conv => whnf) <;> (first | exact fx_T (show 2 < 3 by decide) | exact low_cells rfl | exact keeps0_nil _ _ | (refine ld_skip rfl rfl rfl rfl upd_self ?_) | (refine bool_skip any_self ?_) | (first | rw [ld_self rfl] | rw [ld_selfA rfl]) | (rw [lendU_len]; assumption) | refine And.intro ?_ ?_ | (intro _h; first | contradiction | (try simp only [dd] at _h)) | (refine dt_go ?_) | exact rfl | exact True.intro | exact dkk | exact dks | (refine wrap_succ ?_; omega))))
  ·rename_i i _
   have hi : i < S.tables.length := Int.ofNat_lt.1 _h
   have hik : i < (lendU (leF S.all) S i 0).tables.length := by rw [lendU_len]; exact hi
   have hEl : ∀ k, ((lendU (leF S.all) S i k).tables.getD i default).entries.length = (S.tables.getD i default).entries.length := fun k => lendU_elen
   conv => whnf
   refine lw_turn _ (turn_close (id := 7) (i := i) (j := 1) (id' := 8) rfl hik (show 1 < 2 by decide) (by first | exact upd_self | exact rfl | (simp only [upd, Nat.beq_refl]; rfl) | (simp only [upd, Int.toNat_natCast, Nat.beq_refl]; rfl)) rfl (show 7 ≠ 8 by decide) rfl (rowO_le (Nat.le_refl _))) ?_
   refine lw_turn _ (turn_eq (id := 7) (x := rowL 2 Table.csO ((lendU (leF S.all) S i 0).setE i ((lendU (leF S.all) S i 0).tables.getD i default).entries).tables) rfl rfl setE_len rfl rfl (setE_rows (l := ((lendU (leF S.all) S i 0).tables.getD i default).entries) hik rfl (fun i j _ _ => .refl _))) ?_
   refine lw_turn _ (turn_close (id := 0) (i := 0) (j := 1) (id' := 7) rfl (show 0 < 1 by decide) (show 1 < 3 by decide) rfl rfl (show 0 ≠ 7 by decide) rfl (rowO_le (Nat.le_of_eq setE_len.symm))) ?_
   refine lw_turn _ (turn_box (id := 0) (ds := ((lendU (leF S.all) S i 0)).csO) rfl rfl rfl (.cons (.refl _) (.cons (OwEq.len rfl (fun i j _ _ => HoldC.h _ j) (fun i j _ _ => by rw [setE_self]; exact .refl _)) (.cons (.refl _) .nil)))) ?_
   refine loopTF 81 (fun k : Nat => [(80, .i .i64 k)]) (fun k => [some (.box (lendU (leF S.all) S i k).csO)]) (fun k => k ≤ (S.tables.getD i default).entries.length) (fun k => (S.tables.getD i default).entries.length - k) 0 rfl ⟨Nat.zero_le _, ?_⟩
   repeat' (first | exact aa | ((conv => whnf) <;> (first | exact fx_T (show 2 < 3 by decide) | exact low_cells rfl | exact keeps0_nil _ _ | (refine ld_skip rfl rfl rfl rfl upd_self ?_) | (refine bool_skip any_self ?_) | (first | rw [ld_self rfl] | rw [ld_selfA rfl]) | (rw [lendU_len]; assumption) | exact Int.ofNat_lt.2 (by rw [lendU_len]; exact hi) | exact Int.ofNat_lt.2 (Nat.lt_of_lt_of_eq (Nat.lt_of_lt_of_eq (Int.ofNat_lt.1 ‹_›) (hEl 0)) (hEl _).symm) | refine And.intro ?_ ?_ | (intro _h; first | contradiction | (try simp only [dd] at _h)) | (refine dt_go ?_) | exact rfl | exact True.intro | exact dkk | exact dks | (refine wrap_succ ?_; omega))))
   ·rename_i k _
    have hk : k < (S.tables.getD i default).entries.length := Nat.lt_of_lt_of_eq (Int.ofNat_lt.1 _h) (hEl 0)
    have hik : i < (lendU (leF S.all) S i k).tables.length := by rw [lendU_len]; exact hi
    have hlt : k < ((lendU (leF S.all) S i k).tables.getD i default).entries.length := by rw [lendU_elen]; exact hk
    have hU : (lendU (leF S.all) S i k).setE i (setLd ((lendU (leF S.all) S i k).tables.getD i default).entries k (leF S.all [((i : Nat) : Int), (((lendU (leF S.all) S i k).tables.getD i default).entries.getD k default).num])) = (lendU (leF S.all) S i (k + 1)) := lendU_step hi hk (by rw [lendU_ent hk, if_neg (by omega)])
    conv => whnf
    refine roundET_turn (turn_close (id := 9) (i := i) (j := 1) (id' := 10) rfl hik (show 1 < 2 by decide) (by first | exact upd_self | exact rfl | (simp only [upd, Nat.beq_refl]; rfl) | (simp only [upd, Int.toNat_natCast, Nat.beq_refl]; rfl)) rfl (show 9 ≠ 10 by decide) rfl (by exact setLd_rowO (Nat.le_refl _))) ?_
    refine roundET_turn (turn_eq (id := 9) (x := rowL 2 Table.csO ((lendU (leF S.all) S i k).setE i (setLd ((lendU (leF S.all) S i k).tables.getD i default).entries k (leF S.all [((i : Nat) : Int), (((lendU (leF S.all) S i k).tables.getD i default).entries.getD k default).num]))).tables) rfl rfl setE_len rfl rfl (setE_rows (l := (setLd ((lendU (leF S.all) S i k).tables.getD i default).entries k (leF S.all [((i : Nat) : Int), (((lendU (leF S.all) S i k).tables.getD i default).entries.getD k default).num]))) hik setLd_len.symm (setLd_rows hlt))) ?_
    refine roundET_turn (turn_close (id := 0) (i := 0) (j := 1) (id' := 9) rfl (show 0 < 1 by decide) (show 1 < 3 by decide) rfl rfl (show 0 ≠ 9 by decide) rfl (rowO_le (Nat.le_of_eq setE_len.symm))) ?_
    refine roundET_turn (turn_box (id := 0) (ds := (lendU (leF S.all) S i (k + 1)).csO) rfl rfl rfl (by rw [← hU]; exact (.cons (.refl _) (.cons (OwEq.len setE_len.symm (fun i j _ _ => HoldC.h _ j) (fun i j _ _ => .refl _)) (.cons (.refl _) .nil))))) ?_
    refine roundET_end ?_
    refine ⟨k + 1, [], hk, (show (S.tables.getD i default).entries.length - (k + 1) < (S.tables.getD i default).entries.length - k by omega), ?_⟩
    repeat' (first | exact aa | ((conv => whnf) <;> (first | exact fx_T (show 2 < 3 by decide) | exact low_cells rfl | exact keeps0_nil _ _ | (refine ld_skip rfl rfl rfl rfl upd_self ?_) | (refine bool_skip any_self ?_) | (first | rw [ld_self rfl] | rw [ld_selfA rfl]) | (refine wrap_succ ?_; have := entLe hSo i; omega) | refine And.intro ?_ ?_ | (intro _h; first | contradiction | (try simp only [dd] at _h)) | (refine dt_go ?_) | exact rfl | exact True.intro | exact dkk | exact dks | (refine wrap_succ ?_; omega))))
   ·rename_i k _
    have hk : ¬ k < (S.tables.getD i default).entries.length := fun q => _h (Int.ofNat_lt.2 (Nat.lt_of_lt_of_eq q (hEl 0).symm))
    conv => whnf
    refine roundET_turn (turn_box (id := 0) (ds := (lendU (leF S.all) S (i + 1) 0).csO) rfl rfl rfl (by rw [← lendU_next hk]; exact (.cons (.refl _) (.cons (.refl _) (.cons (.refl _) .nil))))) ?_
    refine roundET_end ?_
    refine ⟨i + 1, [], hi, (show S.tables.length - (i + 1) < S.tables.length - i by omega), ?_⟩
    repeat' (first | exact aa | ((conv => whnf) <;> (first | exact fx_T (show 2 < 3 by decide) | exact low_cells rfl | exact keeps0_nil _ _ | (refine ld_skip rfl rfl rfl rfl upd_self ?_) | (refine bool_skip any_self ?_) | (first | rw [ld_self rfl] | rw [ld_selfA rfl]) | refine And.intro ?_ ?_ | (intro _h; first | contradiction | (try simp only [dd] at _h)) | (refine dt_go ?_) | exact rfl | exact True.intro | exact dkk | exact dks | (refine wrap_succ ?_; omega))))
  ·rename_i i _
   have hn : ¬ i < S.tables.length := fun q => _h (Int.ofNat_lt.2 q)
   conv => whnf
   refine endM_turn (turn_box (id := 0) (ds := S.relend.csO) rfl rfl rfl (by unfold Shelf.relend; rw [← lendU_end hn]; exact (.cons (.refl _) (.cons (.refl _) (.cons (.refl _) .nil))))) ?_
   exact endM_pick [0, 1] [some (boxRow S.relend.csO), some (boxRow [.i .i64 c])] (.tup []) (view_of rfl (.cons rfl (.self (rowPl_box rfl)) (.cons rfl (.self (rowPl_box rfl)) .nil))) rfl rfl (by rw [hX]; exact keepK (n := 2) rfl rfl) ⟨rfl, rfl⟩
end Go.Proofs.YtmglpojnoadgeaaGreat
