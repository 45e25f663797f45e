/-
  Types that are drawn: l08Raw, enums and flags.
-/
import Derived.Test.YtfddakeigmpjkaaGreatDoorVSbS
import Derived.Test.YtfddakeigmpjkaaGreatDoorVSbR
import Derived.Test.YtfddakeigmpjkaaGreatDoorVTpD
namespace Go.Proofs.YtfddakeigmpjkaaGreatDoor
open Go Go.RowKit
set_option linter.unusedVariables false
set_option linter.unusedSimpArgs false
attribute [local irreducible] IntKind.wrap

set_option maxRecDepth 8000 in
set_option maxHeartbeats 4000000 in
theorem raw_enm (d : Nat) (s t t4 : Src) (hs : s.rm (chN (d + 1))) (D : Int) (hD : D = d + 1) (hd : 1 ≤ d) (hd3 : d ≤ 10) (ih : RawC d) (k : Int) (hk : k = 18 ∨ k = 19) (hr : RwH s t t4 k) : Raw1 (d + 1) s D := by
  have hs' := hs
  unfold Src.rm at hs'
  have h8 := chN_s d
  have hw : IntKind.i64.wrap (D - 1) = d := by rw [wrap_in (by omega) (by omega)]; omega
  obtain ⟨h1, h2, hb⟩ := hr
  unfold Raw1
  generalize hN : (chN (d + 1) : Int) = N at *
  have hC : 0 ≤ (chN d : Int) + 1 := by omega
  rcases hk with rfl | rfl
  · refine ret_ofM (nt := 118) (rvs := [.cell 4 26]) Tryz.func34 rfl rfl rfl rfl (fun X hX => ?_)
    repeat' (first | exact aa | ((conv => whnf) <;> (first | (exfalso; omega) | (refine Src.rm_i ?_ ?_ ?_) | ((refine .inr (.inl (.inl ⟨[0, 2], _, _, _, h2, (view_of rfl (.cons rfl (.self (rowPl_box rfl)) (.cons rfl (rowBack_lit rawL) .nil))), ⟨rfl, rfl⟩, ?_⟩))); rintro _ _ ⟨rfl, rfl⟩; refine ⟨rfl, _, lokA, ?_⟩) | exact ln_lo hv5 | exact ln_hi hv5 | exact abc_src (ln_nat hv5) | exact abc_cap (ln_nat hv5) | exact abc_max (ln_nat hv5) | refine And.intro ?_ ?_ | (intro _h; first | contradiction | (try simp only [dd] at _h)) | (refine dt_go ?_) | exact rfl | exact True.intro | exact dkk | exact dks | (refine .inr (.inl (.inl ⟨[0], _, _, _, h1, viewA, ⟨rfl, rfl⟩, ?_⟩)); rintro _ _ ⟨rfl, rfl⟩; refine ⟨rfl, _, lokA, ?_⟩) | (refine .inr (.inl (.inl ⟨[0], _, _, _, pick_ex _ ?_ 3 (by decide), viewA, ⟨rfl, rfl⟩, ?_⟩)); rotate_left 1; rintro _ _ ⟨v5, t5, hv5, ht5, rfl, rfl⟩; refine ⟨rfl, _, lokA, ?_⟩) | (refine wrap_succ ?_; omega))))
    conv => whnf
    have hm0 := ln_lo hv5
    have hm1 := ln_hi hv5
    have hlen := abc_len (ln_nat hv5)
    have hL10 : (abcL.take (IntKind.i64.wrap (1 + v5)).toNat).length ≤ 10 := by have := ln_nat hv5; omega
    refine lw_turn _ (turn_eq (id := 6) (x := rowL 1 strC (abcL.take (IntKind.i64.wrap (1 + v5)).toNat)) rfl rfl hlen rfl rfl (abc_eq (e := litE []) (ln_nat hv5))) ?_
    have hsz := @abc_sz (IntKind.i64.wrap (1 + v5)).toNat
    generalize abcL.take (IntKind.i64.wrap (1 + v5)).toNat = L at *
    generalize IntKind.i64.wrap (1 + v5) = m at *
    generalize 0 + m.toNat = p at *
    subst hlen
    refine lw_turn _ (turn_box (id := 3) (ds := [.i .i64 18, .s ByteArray.empty, .row 6 L.length, .nils]) rfl rfl rfl (.cons (.refl _) (.cons (.refl _) (.cons (.refl _) (.cons (.refl _) .nil))))) ?_
    refine loopFT (fun y : Unit => [(9, .i .i64 0)]) (fun y => [some (.box t5.cs), none, none, some (.box [.i .i64 18, .s ByteArray.empty, .row 6 L.length, .nils])]) (fun y => True) (fun y => 0) () ⟨trivial, ?_⟩
    repeat' (first | exact aa | ((conv => whnf) <;> (first | exact low_cells rfl | exact low_lit rfl | refine And.intro ?_ ?_ | (intro _h; first | contradiction | (try simp only [dd] at _h)) | (refine dt_go ?_) | exact rfl | exact True.intro | exact dkk | exact dks | (refine wrap_succ ?_; omega))))
    all_goals
      conv => whnf
      exact endM_nil (sz := 4) (g := elE (Typ.pN (d + 1)) []) 3 rfl (endO (a := ⟨18, ByteArray.empty, L, []⟩) (t := t5) 6 7 hX (view_of rfl (.cons rfl (.self (rowPl_box rfl)) (.cons rfl (.self (rowPl_L fun _ => rfl)) (.cons rfl (.self (rowPl_L fun _ => rfl)) .nil)))) rfl (dw_kids hL10 hsz (Nat.zero_le _) (fun j hj => absurd hj (Nat.not_lt_zero _))) (by omega))
  · refine ret_ofM (nt := 118) (rvs := [.cell 4 26]) Tryz.func34 rfl rfl rfl rfl (fun X hX => ?_)
    repeat' (first | exact aa | ((conv => whnf) <;> (first | (exfalso; omega) | (refine Src.rm_i ?_ ?_ ?_) | ((refine .inr (.inl (.inl ⟨[0, 2], _, _, _, h2, (view_of rfl (.cons rfl (.self (rowPl_box rfl)) (.cons rfl (rowBack_lit rawL) .nil))), ⟨rfl, rfl⟩, ?_⟩))); rintro _ _ ⟨rfl, rfl⟩; refine ⟨rfl, _, lokA, ?_⟩) | exact ln_lo hv5 | exact ln_hi hv5 | exact abc_src (ln_nat hv5) | exact abc_cap (ln_nat hv5) | exact abc_max (ln_nat hv5) | refine And.intro ?_ ?_ | (intro _h; first | contradiction | (try simp only [dd] at _h)) | (refine dt_go ?_) | exact rfl | exact True.intro | exact dkk | exact dks | (refine .inr (.inl (.inl ⟨[0], _, _, _, h1, viewA, ⟨rfl, rfl⟩, ?_⟩)); rintro _ _ ⟨rfl, rfl⟩; refine ⟨rfl, _, lokA, ?_⟩) | (refine .inr (.inl (.inl ⟨[0], _, _, _, pick_ex _ ?_ 3 (by decide), viewA, ⟨rfl, rfl⟩, ?_⟩)); rotate_left 1; rintro _ _ ⟨v5, t5, hv5, ht5, rfl, rfl⟩; refine ⟨rfl, _, lokA, ?_⟩) | (refine wrap_succ ?_; omega))))
    conv => whnf
    have hm0 := ln_lo hv5
    have hm1 := ln_hi hv5
    have hlen := abc_len (ln_nat hv5)
    have hL10 : (abcL.take (IntKind.i64.wrap (1 + v5)).toNat).length ≤ 10 := by have := ln_nat hv5; omega
    refine lw_turn _ (turn_eq (id := 6) (x := rowL 1 strC (abcL.take (IntKind.i64.wrap (1 + v5)).toNat)) rfl rfl hlen rfl rfl (abc_eq (e := litE []) (ln_nat hv5))) ?_
    have hsz := @abc_sz (IntKind.i64.wrap (1 + v5)).toNat
    generalize abcL.take (IntKind.i64.wrap (1 + v5)).toNat = L at *
    generalize IntKind.i64.wrap (1 + v5) = m at *
    generalize 0 + m.toNat = p at *
    subst hlen
    refine lw_turn _ (turn_box (id := 3) (ds := [.i .i64 19, .s ByteArray.empty, .row 6 L.length, .nils]) rfl rfl rfl (.cons (.refl _) (.cons (.refl _) (.cons (.refl _) (.cons (.refl _) .nil))))) ?_
    refine loopFT (fun y : Unit => [(9, .i .i64 0)]) (fun y => [some (.box t5.cs), none, none, some (.box [.i .i64 19, .s ByteArray.empty, .row 6 L.length, .nils])]) (fun y => True) (fun y => 0) () ⟨trivial, ?_⟩
    repeat' (first | exact aa | ((conv => whnf) <;> (first | exact low_cells rfl | exact low_lit rfl | refine And.intro ?_ ?_ | (intro _h; first | contradiction | (try simp only [dd] at _h)) | (refine dt_go ?_) | exact rfl | exact True.intro | exact dkk | exact dks | (refine wrap_succ ?_; omega))))
    all_goals
      conv => whnf
      exact endM_nil (sz := 4) (g := elE (Typ.pN (d + 1)) []) 3 rfl (endO (a := ⟨19, ByteArray.empty, L, []⟩) (t := t5) 6 7 hX (view_of rfl (.cons rfl (.self (rowPl_box rfl)) (.cons rfl (.self (rowPl_L fun _ => rfl)) (.cons rfl (.self (rowPl_L fun _ => rfl)) .nil)))) rfl (dw_kids hL10 hsz (Nat.zero_le _) (fun j hj => absurd hj (Nat.not_lt_zero _))) (by omega))
end Go.Proofs.YtfddakeigmpjkaaGreatDoor

namespace Go.Proofs.YtfddakeigmpjkaaGreatDoor
open Go Go.RowKit
set_option linter.unusedVariables false
set_option linter.unusedSimpArgs false
attribute [local irreducible] IntKind.wrap

def unT : Typ := ⟨1, ByteArray.empty, [], []⟩
set_option maxRecDepth 8000 in
set_option maxHeartbeats 4000000 in
theorem raw_res (d : Nat) (s t t4 : Src) (hs : s.rm (chN (d + 1))) (D : Int) (hD : D = d + 1) (hd : 1 ≤ d) (hd3 : d ≤ 10) (ih : RawC d) (hr : RwH s t t4 14) : Raw1 (d + 1) s D := by
  have hs' := hs
  unfold Src.rm at hs'
  have h8 := chN_s d
  have hw : IntKind.i64.wrap (D - 1) = d := by rw [wrap_in (by omega) (by omega)]; omega
  obtain ⟨h1, h2, hb⟩ := hr
  unfold Raw1
  generalize hN : (chN (d + 1) : Int) = N at *
  have hC : 0 ≤ (chN d : Int) + 1 := by omega
  refine ret_ofM (nt := 118) (rvs := [.cell 4 26]) Tryz.func34 rfl rfl rfl rfl (fun X hX => ?_)
  repeat' (first | exact aa | ((conv => whnf) <;> (first | (exfalso; omega) | (refine Src.rm_i ?_ ?_ ?_) | ((refine .inr (.inl (.inl ⟨[0, 2], _, _, _, h2, (view_of rfl (.cons rfl (.self (rowPl_box rfl)) (.cons rfl (rowBack_lit rawL) .nil))), ⟨rfl, rfl⟩, ?_⟩))); rintro _ _ ⟨rfl, rfl⟩; refine ⟨rfl, _, lokA, ?_⟩) | refine And.intro ?_ ?_ | (intro _h; first | contradiction | (try simp only [dd] at _h)) | (refine dt_go ?_) | exact rfl | exact True.intro | exact dkk | exact dks | (refine .inr (.inl (.inl ⟨[0], _, _, _, h1, viewA, ⟨rfl, rfl⟩, ?_⟩)); rintro _ _ ⟨rfl, rfl⟩; refine ⟨rfl, _, lokA, ?_⟩) | (refine .inr (.inl (.inl ⟨[0], _, _, _, pick_ex _ ?_ 3 (by decide), viewA, ⟨rfl, rfl⟩, ?_⟩)); rotate_left 1; rintro _ _ ⟨v5, t5, hv5, ht5, rfl, rfl⟩; refine ⟨rfl, _, lokA, ?_⟩) | (refine wrap_succ ?_; omega))))
  conv => whnf
  refine lw_turn _ (turn_box (id := 3) (ds := [.i .i64 14, .s ByteArray.empty, .nils, .ow 4 0 (elE (Typ.pN (d + 1)) [])]) rfl rfl rfl (.cons (.refl _) (.cons (.refl _) (.cons (.refl _) (.cons (.nil _ _) .nil))))) ?_
  refine loopFT (fun y : TpS => [(7, .i .i64 (y.l.length : Int))]) (fun y => [some (.box y.t.cs), none, none, some (.box [.i .i64 14, .s ByteArray.empty, .nils, .ow 4 y.l.length (elE (Typ.pN (d + 1)) y.l)])]) (fun y => DI d 2 (chN d + 1) t5 y) (fun y => y.i.toNat) ⟨2, [], t5⟩ ⟨DI.zero (by decide), ?_⟩
  have q3 := w_C (w := 2) (by decide) hC
  have hrm : ∀ y : TpS, DI d 2 (chN d + 1) t5 y → (y.l.length : Int) < 2 → y.t.rm (chN d + 1) := fun y hy hi => by
    have q0 := hy.il
    have q1 := hy.at (by omega) hC
    have q2 := hy.ex hC
    exact Src.rm_i (by omega) (by omega) (by omega)
  have hrm1 : ∀ y : TpS, DI d 2 (chN d + 1) t5 y → (y.l.length : Int) < 2 → y.t.rm 1 := fun y hy hi => by
    have q0 := hrm y hy hi
    unfold Src.rm at q0
    exact Src.rm_i (by omega) (by omega) (by omega)
  have hrm2 : ∀ (y : TpS) (t6 : Src), DI d 2 (chN d + 1) t5 y → (y.l.length : Int) < 2 → (y.t.at' ≤ t6.at' ∧ t6.at' ≤ y.t.at' + 1 ∧ t6.code.length = y.t.code.length) → t6.rm (chN d) := fun y t6 hy hi h6 => by
    have q0 := hrm y hy hi
    unfold Src.rm at q0
    exact Src.rm_i (by omega) (by omega) (by omega)
  have hln : ∀ y : TpS, DI d 2 (chN d + 1) t5 y → y.l.length ≤ 1000 := fun y hy => by
    have := hy.il
    have := hy.i0
    omega
  repeat' (first | exact aa | ((conv => whnf) <;> (first | exact hrm1 _ ‹_› ‹_› | exact hrm2 _ _ ‹_› ‹_› ht6 | (have _q := (‹b6 = false› : b6 = false); refine dt_turn (turn_open (id := 3) (i := 0) (j := 3) rfl (show 0 < 1 by decide) (show 3 < 4 by decide) rfl) ?_; refine dt_goH 0 [] rfl ?_) | exact lbz_capC (hln _ ‹_›) (show 72 ≤ 1000 by decide) | exact lbz_capM (hln _ ‹_›) | exact srcOk_1 rfl | exact low_cells rfl | refine And.intro ?_ ?_ | (intro _h; first | contradiction | (try simp only [dd] at _h)) | (refine dt_go ?_) | exact rfl | exact True.intro | exact dkk | exact dks | (refine .inr (.inl (.inl ⟨[0], _, _, _, one_ex _ ?_ 3 (by decide), viewA, ⟨rfl, rfl⟩, ?_⟩)); rotate_left 1; rintro _ _ ⟨b6, t6, ht6, rfl, rfl⟩; refine ⟨rfl, _, lokA, ?_⟩) | (refine .inr (.inl (.inl ⟨[0], _, _, _, ih _ ?_ _ hw, viewA, ⟨rfl, rfl⟩, ?_⟩)); rotate_left 1; rintro _ _ ⟨a, t7, ha, ht7, rfl, rfl⟩; refine ⟨rfl, _, lokA, ?_⟩) | (refine wrap_succ ?_; omega))))
  all_goals first
    | (have _q := (‹b6 = false› : b6 = false)
       rename TpS => y
       rename DI _ _ _ _ _ => hy
       have q4 := hy.il
       have hi : 0 < y.i := by
         have : (y.l.length : Int) < 2 := ‹_›
         omega
       have he : IntKind.i64.wrap ((y.l.length : Int) + 1) = ((y.l ++ [a]).length : Int) := by
         rw [wrap_in (by omega) (by omega), List.length_append]
         rfl
       conv => whnf
       refine roundET_turn (turn_close (id := 3) (i := 0) (j := 3) (id' := 6) rfl (show 0 < 1 by decide) (show 3 < 4 by decide) rfl rfl (show 3 ≠ 6 by decide) rfl ⟨Nat.le_refl _, snoc_idf rfl (fun j hj => pN_idfO d a j)⟩) ?_
       refine roundET_turn (turn_box (id := 3) (ds := [.i .i64 14, .s ByteArray.empty, .nils, .ow 4 (y.l ++ [a]).length (elE (Typ.pN (d + 1)) (y.l ++ [a]))]) rfl rfl rfl (.cons (.refl _) (.cons (.refl _) (.cons (.refl _) (.cons (OwEq.lenT lbz_len (fun i j _ _ => HoldC.h _ j) (snoc_eq rfl (fun j hj => .refl _))) .nil))))) ?_
       refine roundET_end ?_
       refine ⟨⟨y.i - 1, y.l ++ [a], t7⟩, [], hy.next hi ha (by omega), (by show (y.i - 1).toNat < y.i.toNat; omega), ?_⟩
       repeat' (first | exact aa | ((conv => whnf) <;> (first | exact he | exact low_cells rfl | refine And.intro ?_ ?_ | (intro _h; first | contradiction | (try simp only [dd] at _h)) | (refine dt_go ?_) | exact rfl | exact True.intro | exact dkk | exact dks | (refine wrap_succ ?_; omega)))))
    | (have _q := (‹b6 = true› : b6 = true)
       rename TpS => y
       rename DI _ _ _ _ _ => hy
       have q4 := hy.il
       have hi : 0 < y.i := by
         have : (y.l.length : Int) < 2 := ‹_›
         omega
       have he : IntKind.i64.wrap ((y.l.length : Int) + 1) = ((y.l ++ [unT]).length : Int) := by
         rw [wrap_in (by omega) (by omega), List.length_append]
         rfl
       conv => whnf
       refine roundET_turn (turn_eqG (id := 6) (x := rowL 4 (Typ.pN (d + 1)) (y.l ++ [unT])) rfl rfl lbz_len.symm rfl rfl (fun i j hi hj w S blk u fp h => snoc_own (l := y.l) (sz := 4) (a := unT) (c := Typ.pN (d + 1)) rfl (fun j hj h => by
         rcases (show j = 0 ∨ j = 1 ∨ j = 2 ∨ j = 3 by omega) with rfl | rfl | rfl | rfl
         · exact h
         · exact h
         · exact own_nils h
         · exact own_nils h) hi hj h)) ?_
       refine roundET_turn (turn_close (id := 3) (i := 0) (j := 3) (id' := 6) rfl (show 0 < 1 by decide) (show 3 < 4 by decide) rfl rfl (show 3 ≠ 6 by decide) rfl ⟨Nat.le_of_eq lbz_len, fun i j hi hj => pN_idfO d _ j⟩) ?_
       refine roundET_turn (turn_box (id := 3) (ds := [.i .i64 14, .s ByteArray.empty, .nils, .ow 4 (y.l ++ [unT]).length (elE (Typ.pN (d + 1)) (y.l ++ [unT]))]) rfl rfl rfl (.cons (.refl _) (.cons (.refl _) (.cons (.refl _) (.cons (OwEq.lenT lbz_len (fun i j _ _ => HoldC.h _ j) (fun i j _ _ => .refl _)) .nil))))) ?_
       refine roundET_end ?_
       refine ⟨⟨y.i - 1, y.l ++ [unT], t6⟩, [], hy.next hi (dw_k 1 hd) (by omega), (by show (y.i - 1).toNat < y.i.toNat; omega), ?_⟩
       repeat' (first | exact aa | ((conv => whnf) <;> (first | exact he | exact low_cells rfl | refine And.intro ?_ ?_ | (intro _h; first | contradiction | (try simp only [dd] at _h)) | (refine dt_go ?_) | exact rfl | exact True.intro | exact dkk | exact dks | (refine wrap_succ ?_; omega)))))
    | skip
  rename TpS => y
  rename DI _ _ _ _ _ => hy
  conv => whnf
  have q2 := hy.ex hC
  have q4 := hy.il
  have q5 := hy.i0
  have z0 : y.l.length ≤ 3 := by omega
  have z1 : s.at' ≤ y.t.at' := by omega
  have z2 : y.t.at' ≤ s.at' + N := by omega
  have z3 : y.t.code.length = s.code.length := by omega
  exact endM_nil (sz := 1) (g := elE strC []) 2 rfl (endO (a := ⟨14, ByteArray.empty, [], y.l⟩) (t := y.t) 5 4 hX (view_of rfl (.cons rfl (.self (rowPl_box rfl)) (.cons rfl (.self (rowPl_L fun _ => rfl)) (.cons rfl (.self (rowPl_L fun _ => rfl)) .nil)))) rfl (dw_kids (Nat.zero_le _) (fun j hj => absurd hj (Nat.not_lt_zero _)) z0 hy.al) ⟨z1, z2, z3⟩)
end Go.Proofs.YtfddakeigmpjkaaGreatDoor

namespace Go.Proofs.YtfddakeigmpjkaaGreatDoor
open Go Go.RowKit
set_option linter.unusedVariables false
set_option linter.unusedSimpArgs false
attribute [local irreducible] IntKind.wrap

theorem rawL_v {n : Nat} (h : n < 11) : rawL.getD n default = 12 ∨ rawL.getD n default = 13 ∨ rawL.getD n default = 14 ∨ rawL.getD n default = 15 ∨ rawL.getD n default = 16 ∨ rawL.getD n default = 17 ∨ rawL.getD n default = 18 ∨ rawL.getD n default = 19 ∨ rawL.getD n default = 22 := by
  rcases (show n = 0 ∨ n = 1 ∨ n = 2 ∨ n = 3 ∨ n = 4 ∨ n = 5 ∨ n = 6 ∨ n = 7 ∨ n = 8 ∨ n = 9 ∨ n = 10 by omega) with rfl | rfl | rfl | rfl | rfl | rfl | rfl | rfl | rfl | rfl | rfl <;> decide
theorem raw_step (d : Nat) (hd3 : d ≤ 10) (ih : 1 ≤ d → RawC d) (s : Src) (hs : s.rm (chN (d + 1))) (D : Int) (hD : D = d + 1) : Raw1 (d + 1) s D := by
  by_cases h1 : D ≤ 1 ∨ s.pickV 3 = 0
  · exact raw_leaf d s hs D hD h1
  have hd : 1 ≤ d := by omega
  have hs' := hs
  unfold Src.rm at hs'
  have h8 := chN_8 (d + 1)
  have hp := one_ok s ((Src.rm_i (n := 1) (by omega) (by omega) (by omega)).ok (by decide)) 3 (by decide)
  rw [pb_f.mpr (fun q => h1 (.inr q))] at hp
  have ht := pickS_at s 3
  have ha := among_rowk (s.pickS 3) (Src.rm_i (by omega) (by omega) (by omega)) rawL (by decide) (by decide)
  have ht2 := pickS_at (s.pickS 3) rawL.length
  have hq := pick_le' (s.pickS 3) rawL.length
  have hl : (rawL.length : Int) = 11 := rfl
  have hv := rawL_v (n := ((s.pickS 3).pickV rawL.length).toNat) (by omega)
  have hr : RwH s (s.pickS 3) ((s.pickS 3).pickS rawL.length) (rawL.getD ((s.pickS 3).pickV rawL.length).toNat default) := ⟨hp, ha, by omega⟩
  generalize rawL.getD ((s.pickS 3).pickV rawL.length).toNat default = k at hv hr
  by_cases q1 : k = 12 ∨ k = 13 ∨ k = 22
  · exact raw_one d s _ _ hs D hD hd hd3 (ih hd) k q1 hr
  by_cases q2 : k = 14
  · subst q2; exact raw_res d s _ _ hs D hD hd hd3 (ih hd) hr
  by_cases q3 : k = 15
  · subst q3; exact raw_tup d s _ _ hs D hD hd hd3 (ih hd) hr
  by_cases q4 : k = 16 ∨ k = 17
  · exact raw_lab d s _ _ hs D hD hd hd3 (ih hd) k q4 hr
  exact raw_enm d s _ _ hs D hD hd hd3 (ih hd) k (by omega) hr
theorem raw_C : ∀ d, d ≤ 9 → RawC (d + 1)
  | 0, _ => fun s hs D hD => (raw_step 0 (by decide) (fun h => absurd h (by decide)) s hs D (by omega)).frz
  | d + 1, h => fun s hs D hD => (raw_step (d + 1) (by omega) (fun _ => raw_C d (by omega)) s hs D (by omega)).frz
/-- A valid drawn type, at one level. -/
structure Gd (a : Typ) : Prop where
  o : Typ.oN 4 a
  g : a.good
theorem chN3 : (chN 3 : Int) = 764 := by decide
def txT : Typ := ⟨11, ByteArray.empty, [], []⟩
theorem tx_good : txT.good := by
  refine ⟨Typ.fN_get.2 fun k hk => absurd hk (Nat.not_lt_zero _), by rw [Typ.np_eq]; exact (show 1 ≤ 24 by decide), ?_⟩
  exact Typ.sh_eq.2 ⟨⟨fun h => absurd h (show ¬ ((11 : Int) = 20 ∨ (11 : Int) = 21) by decide), fun _ => rfl, fun h => absurd h (show ¬ ((16 : Int) ≤ 11 ∧ (11 : Int) ≤ 19) by decide), fun _ => rfl, ⟨fun h => absurd h (show ¬ ((11 : Int) = 12 ∨ (11 : Int) = 13) by decide), fun h => absurd h (show ¬ ((11 : Int) = 22 ∨ (11 : Int) = 23) by decide), fun h => absurd h (show ¬ ((11 : Int) = 14) by decide), fun h => absurd h (show ¬ ((11 : Int) = 15) by decide), fun h => absurd h (show ¬ ((11 : Int) = 16) by decide), fun h => absurd h (show ¬ ((11 : Int) = 17) by decide), fun _ => ⟨⟨show (1 : Int) ≤ 11 by decide, show (11 : Int) ≤ 23 by decide⟩, rfl⟩⟩⟩, fun k hk => absurd hk (Nat.not_lt_zero _)⟩
theorem tx_gd : Gd txT := ⟨⟨Nat.zero_le _, ⟨Nat.zero_le _, fun k hk => absurd hk (Nat.not_lt_zero _)⟩, ⟨Nat.zero_le _, fun k hk => absurd hk (Nat.not_lt_zero _)⟩⟩, tx_good⟩
set_option maxRecDepth 8000 in
theorem type_ok (s : Src) (hs : s.rm 1000) : RetM env.P 19 [some (boxRow s.cs)] [.ptr 0 0 0, .i .i64 3] (fun r H => ∃ (a : Typ) (t : Src), Gd a ∧ r = .agg (Typ.pN 4 a) ∧ H = [some (boxRow t.cs)]) := by
  have hs' := hs
  unfold Src.rm at hs'
  have h3 := chN3
  have hR := raw_C 2 (by decide) s (Src.rm_i (by omega) (by show s.at' + (chN 3 : Int) ≤ _; omega) (by omega)) 3 rfl
  refine RetM.frz [0] rfl (plainH_box (by rfl)) ?_
  refine ret_ofM (nt := 14) (rvs := [.cell 4 26]) Tryz.func19 rfl rfl rfl rfl (fun X hX => ?_)
  repeat' (first | exact aa | ((conv => whnf) <;> (first | refine And.intro ?_ ?_ | (intro _h; first | contradiction | (try simp only [dd] at _h)) | (refine dt_go ?_) | exact rfl | exact True.intro | exact dkk | exact dks | (refine .inr (.inl (.inl ⟨[0], _, _, _, hR, viewA, ⟨rfl, rfl⟩, ?_⟩)); rintro _ _ ⟨a, t, ha, ht, rfl, rfl⟩; refine ⟨rfl, _, lokA, ?_⟩) | ((first | refine .inl ⟨_, typeOk_spec (Typ.oN_up _ _ ha.o), ?_⟩ | refine ⟨_, typeOk_spec (Typ.oN_up _ _ ha.o), ?_⟩); (try rintro _ rfl)) | (refine wrap_succ ?_; omega))))
  all_goals (conv => whnf)
  all_goals first
    | exact endM_self ⟨[some (boxRow t.cs)], .agg (Typ.pN 4 a), view_of rfl (.cons rfl (.self (rowPl_box rfl)) .nil), frz_agg (.cons (.refl _) (.cons (.refl _) (.cons (.refl _) (.cons (.refl _) .nil)))), a, t, ⟨Typ.oN_up _ _ ha.o, Classical.not_not.1 ‹_›⟩, rfl, rfl⟩
    | exact endM_self ⟨[some (boxRow t.cs)], .agg (Typ.pN 4 txT), view_of rfl (.cons rfl (.self (rowPl_box rfl)) .nil), frz_agg (.cons (.refl _) (.cons (.refl _) (.cons Wk.nilS0 (.cons Wk.nilS0 .nil)))), txT, t, tx_gd, rfl, rfl⟩
    | trace_state
set_option maxRecDepth 8000 in
theorem a8Type_ok (l : List UInt8) (hl : l.length ≤ 2000000) : RetM env.P 6 [] [slL 1 byteC l] (fun r H => ∃ a : Typ, Gd a ∧ r = .agg (Typ.pN 4 a) ∧ H = []) := by
  refine RetM.frz [] rfl plainH_nil ?_
  refine ret_ofM (nt := 6) (rvs := [.cell 2 26]) Tryz.func6 rfl rfl rfl rfl (fun X hX => ?_)
  repeat' (first | exact aa | ((conv => whnf) <;> (first | refine And.intro ?_ ?_ | (intro _h; first | contradiction | (try simp only [dd] at _h)) | (refine dt_go ?_) | exact rfl | exact True.intro | exact dkk | exact dks | (refine .inr (.inl (.inl ⟨[], _, _, _, from_gen l (by omega), viewA, ⟨rfl, rfl⟩, ?_⟩)); rintro _ _ ⟨s, ⟨hs1, hs2⟩, rfl, rfl⟩; refine ⟨rfl, _, lokA, ?_⟩) | (refine .inr (.inl (.inl ⟨[1], _, _, _, type_ok s (Src.rm_i (by omega) (by omega) (by omega)), viewA, ⟨rfl, rfl⟩, ?_⟩)); rintro _ _ ⟨a, t, ha, rfl, rfl⟩; refine ⟨rfl, _, lokA, ?_⟩) | (refine wrap_succ ?_; omega))))
  all_goals (conv => whnf)
  all_goals first
    | exact endM_self ⟨[], .agg (Typ.pN 4 a), view_none, frz_agg (.cons (.refl _) (.cons (.refl _) (.cons (.refl _) (.cons (.refl _) .nil)))), a, ha, rfl, rfl⟩
    | trace_state
end Go.Proofs.YtfddakeigmpjkaaGreatDoor
