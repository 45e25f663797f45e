/-
  Types that are drawn: l08Raw, types with labels.
-/
import Derived.Test.YtfddakeigmpjkaaGreatDoorVSbR
namespace Go.Proofs.YtfddakeigmpjkaaGreatDoor
open Go Go.RowKit
set_option linter.unusedVariables false
set_option linter.unusedSimpArgs false
attribute [local irreducible] IntKind.wrap

def abcL : List ByteArray := [⟨#[97]⟩, ⟨#[98]⟩, ⟨#[99]⟩]
theorem ln_lo {v : Int} (h : 0 ≤ v ∧ (v = 0 ∨ v < 3)) : 0 ≤ IntKind.i64.wrap (1 + v) := by rw [wrap_in (by omega) (by omega)]; omega
theorem ln_hi {v : Int} (h : 0 ≤ v ∧ (v = 0 ∨ v < 3)) : IntKind.i64.wrap (1 + v) ≤ 3 := by rw [wrap_in (by omega) (by omega)]; omega
theorem abc_src {m : Nat} (hm : m ≤ 3) : SrcOk m 1 (litE [[AV.s ⟨#[97]⟩], [AV.s ⟨#[98]⟩], [AV.s ⟨#[99]⟩]]) := ⟨fun i j hi hj => by
  obtain rfl : j = 0 := by omega
  rcases (show i = 0 ∨ i = 1 ∨ i = 2 by omega) with rfl | rfl | rfl <;> rfl⟩
theorem abc_cap {m : Nat} (hm : m ≤ 3) : (0 + m) * 16 ≤ 140737488355328 := Nat.le_trans (Nat.mul_le_mul_right _ (show 0 + m ≤ 3 by omega)) (by decide)
theorem abc_max {m : Nat} (hm : m ≤ 3) : 0 + m ≤ 9223372036854775807 := by omega
theorem ln_nat {v : Int} (h : 0 ≤ v ∧ (v = 0 ∨ v < 3)) : (IntKind.i64.wrap (1 + v)).toNat ≤ 3 := by have := ln_hi h; omega
theorem abc_len {m : Nat} (hm : m ≤ 3) : (abcL.take m).length = 0 + m := by
  rw [List.length_take]
  show min m 3 = _
  omega
theorem abc_eq {m : Nat} {e : Nat → Nat → AV} (hm : m ≤ 3) : ∀ i j, i < 0 + m → j < 1 → OwEq (catE 0 e (litE [[AV.s ⟨#[97]⟩], [AV.s ⟨#[98]⟩], [AV.s ⟨#[99]⟩]]) i j) (elE strC (abcL.take m) i j) := fun i j hi hj => by
  obtain rfl : j = 0 := by omega
  rw [catE_at, if_neg (by omega), Nat.sub_zero]
  have e : elE strC (abcL.take m) i 0 = elE strC abcL i 0 := by
    unfold elE
    rw [List.getD_eq_getElem?_getD (l := abcL.take m), List.getElem?_take, if_pos (by omega), ← List.getD_eq_getElem?_getD]
  rw [e]
  rcases (show i = 0 ∨ i = 1 ∨ i = 2 by omega) with rfl | rfl | rfl <;> exact .refl _
theorem abc_sz {m : Nat} : ∀ j, j < (abcL.take m).length → ((abcL.take m).getD j default).size ≤ 8 := fun j hj => by
  rw [List.getD_eq_getElem?_getD, List.getElem?_eq_getElem hj]
  have h := List.mem_of_mem_take (List.getElem_mem hj)
  show ((abcL.take m)[j]).size ≤ 8
  generalize (abcL.take m)[j] = x at h
  unfold abcL at h
  simp only [List.mem_cons, List.not_mem_nil, or_false] at h
  rcases h with rfl | rfl | rfl <;> decide
set_option maxRecDepth 8000 in
set_option maxHeartbeats 4000000 in
theorem raw_lab (d : Nat) (s t t4 : Src) (hs : s.rm (chN (d + 1))) (D : Int) (hD : D = d + 1) (hd : 1 ≤ d) (hd3 : d ≤ 10) (ih : RawC d) (k : Int) (hk : k = 16 ∨ k = 17) (hr : RwH s t t4 k) : Raw1 (d + 1) s D := by
  have hs' := hs
  unfold Src.rm at hs'
  have h8 := chN_s d
  have hw : IntKind.i64.wrap (D - 1) = d := by rw [wrap_in (by omega) (by omega)]; omega
  obtain ⟨h1, h2, hb⟩ := hr
  unfold Raw1
  generalize hN : (chN (d + 1) : Int) = N at *
  have hC : 0 ≤ (chN d : Int) + 1 := by omega
  rcases hk with rfl | rfl
  · refine ret_ofM (nt := 118) (rvs := [.cell 4 26]) Tryz.func34 rfl rfl rfl rfl (fun X hX => ?_)
    repeat' (first | exact aa | ((conv => whnf) <;> (first | (exfalso; omega) | (refine Src.rm_i ?_ ?_ ?_) | ((refine .inr (.inl (.inl ⟨[0, 2], _, _, _, h2, (view_of rfl (.cons rfl (.self (rowPl_box rfl)) (.cons rfl (rowBack_lit rawL) .nil))), ⟨rfl, rfl⟩, ?_⟩))); rintro _ _ ⟨rfl, rfl⟩; refine ⟨rfl, _, lokA, ?_⟩) | exact ln_lo hv5 | exact ln_hi hv5 | exact abc_src (ln_nat hv5) | exact abc_cap (ln_nat hv5) | exact abc_max (ln_nat hv5) | refine And.intro ?_ ?_ | (intro _h; first | contradiction | (try simp only [dd] at _h)) | (refine dt_go ?_) | exact rfl | exact True.intro | exact dkk | exact dks | (refine .inr (.inl (.inl ⟨[0], _, _, _, h1, viewA, ⟨rfl, rfl⟩, ?_⟩)); rintro _ _ ⟨rfl, rfl⟩; refine ⟨rfl, _, lokA, ?_⟩) | (refine .inr (.inl (.inl ⟨[0], _, _, _, pick_ex _ ?_ 3 (by decide), viewA, ⟨rfl, rfl⟩, ?_⟩)); rotate_left 1; rintro _ _ ⟨v5, t5, hv5, ht5, rfl, rfl⟩; refine ⟨rfl, _, lokA, ?_⟩) | (refine wrap_succ ?_; omega))))
    conv => whnf
    have hm0 := ln_lo hv5
    have hm1 := ln_hi hv5
    have hlen := abc_len (ln_nat hv5)
    have hL10 : (abcL.take (IntKind.i64.wrap (1 + v5)).toNat).length ≤ 10 := by have := ln_nat hv5; omega
    refine lw_turn _ (turn_eq (id := 6) (x := rowL 1 strC (abcL.take (IntKind.i64.wrap (1 + v5)).toNat)) rfl rfl hlen rfl rfl (abc_eq (e := litE []) (ln_nat hv5))) ?_
    have hsz := @abc_sz (IntKind.i64.wrap (1 + v5)).toNat
    generalize abcL.take (IntKind.i64.wrap (1 + v5)).toNat = L at *
    generalize IntKind.i64.wrap (1 + v5) = m at *
    generalize 0 + m.toNat = p at *
    subst hlen
    refine lw_turn _ (turn_box (id := 3) (ds := [.i .i64 16, .s ByteArray.empty, .row 6 L.length, .ow 4 0 (elE (Typ.pN (d + 1)) [])]) rfl rfl rfl (.cons (.refl _) (.cons (.refl _) (.cons (.refl _) (.cons (.nil _ _) .nil))))) ?_
    refine loopFT (fun y : TpS => [(9, .i .i64 (y.l.length : Int))]) (fun y => [some (.box y.t.cs), none, none, some (.box [.i .i64 16, .s ByteArray.empty, .row 6 L.length, .ow 4 y.l.length (elE (Typ.pN (d + 1)) y.l)])]) (fun y => DI d m (chN d + 1) t5 y) (fun y => y.i.toNat) ⟨m, [], t5⟩ ⟨DI.zero hm0, ?_⟩
    have q3 := w_C hm1 hC
    have hrm : ∀ y : TpS, DI d m (chN d + 1) t5 y → (y.l.length : Int) < m → y.t.rm (chN d) := fun y hy hi => by
      have q0 := hy.il
      have q1 := hy.at (by omega) hC
      have q2 := hy.ex hC
      exact Src.rm_i (by omega) (by omega) (by omega)
    have hln : ∀ y : TpS, DI d m (chN d + 1) t5 y → y.l.length ≤ 1000 := fun y hy => by
      have := hy.il
      have := hy.i0
      omega
    repeat' (first | exact aa | ((conv => whnf) <;> (first | (refine dt_turn (turn_open (id := 3) (i := 0) (j := 3) rfl (show 0 < 1 by decide) (show 3 < 4 by decide) rfl) ?_; refine dt_goH 0 [] rfl ?_) | exact hrm _ ‹_› ‹_› | exact lbz_capC (hln _ ‹_›) (show 72 ≤ 1000 by decide) | exact lbz_capM (hln _ ‹_›) | exact srcOk_1 rfl | exact low_cells rfl | exact low_lit rfl | refine And.intro ?_ ?_ | (intro _h; first | contradiction | (try simp only [dd] at _h)) | (refine dt_go ?_) | exact rfl | exact True.intro | exact dkk | exact dks | (refine .inr (.inl (.inl ⟨[0], _, _, _, ih _ ?_ _ hw, viewA, ⟨rfl, rfl⟩, ?_⟩)); rotate_left 1; rintro _ _ ⟨a, t6, ha, ht6, rfl, rfl⟩; refine ⟨rfl, _, lokA, ?_⟩) | (refine wrap_succ ?_; omega))))
    all_goals first
      | (rename TpS => y
         rename DI _ _ _ _ _ => hy
         have q4 := hy.il
         have hi : 0 < y.i := by
           have : (y.l.length : Int) < m := ‹_›
           omega
         have he : IntKind.i64.wrap ((y.l.length : Int) + 1) = ((y.l ++ [a]).length : Int) := by
           rw [wrap_in (by omega) (by omega), List.length_append]
           rfl
         conv => whnf
         refine roundET_turn (turn_close (id := 3) (i := 0) (j := 3) (id' := 9) rfl (show 0 < 1 by decide) (show 3 < 4 by decide) rfl rfl (show 3 ≠ 9 by decide) rfl ⟨Nat.le_refl _, snoc_idf rfl (fun j hj => pN_idfO d a j)⟩) ?_
         refine roundET_turn (turn_box (id := 3) (ds := [.i .i64 16, .s ByteArray.empty, .row 6 L.length, .ow 4 (y.l ++ [a]).length (elE (Typ.pN (d + 1)) (y.l ++ [a]))]) rfl rfl rfl (.cons (.refl _) (.cons (.refl _) (.cons (.refl _) (.cons (OwEq.lenT lbz_len (fun i j _ _ => HoldC.h _ j) (snoc_eq rfl (fun j hj => .refl _))) .nil))))) ?_
         refine roundET_end ?_
         refine ⟨⟨y.i - 1, y.l ++ [a], t6⟩, [], hy.next hi ha (by omega), (by show (y.i - 1).toNat < y.i.toNat; omega), ?_⟩
         repeat' (first | exact aa | ((conv => whnf) <;> (first | exact he | exact low_cells rfl | exact low_lit rfl | refine And.intro ?_ ?_ | (intro _h; first | contradiction | (try simp only [dd] at _h)) | (refine dt_go ?_) | exact rfl | exact True.intro | exact dkk | exact dks | (refine wrap_succ ?_; omega)))))
      | skip
    all_goals
      rename TpS => y
      rename DI _ _ _ _ _ => hy
      conv => whnf
      have q2 := hy.ex hC
      have q4 := hy.il
      have q5 := hy.i0
      exact endO (a := ⟨16, ByteArray.empty, L, y.l⟩) (t := y.t) 6 7 hX (view_of rfl (.cons rfl (.self (rowPl_box rfl)) (.cons rfl (.self (rowPl_L fun _ => rfl)) (.cons rfl (.self (rowPl_L fun _ => rfl)) .nil)))) rfl (dw_kids hL10 hsz (by omega) hy.al) (by omega)
  · refine ret_ofM (nt := 118) (rvs := [.cell 4 26]) Tryz.func34 rfl rfl rfl rfl (fun X hX => ?_)
    repeat' (first | exact aa | ((conv => whnf) <;> (first | (exfalso; omega) | (refine Src.rm_i ?_ ?_ ?_) | ((refine .inr (.inl (.inl ⟨[0, 2], _, _, _, h2, (view_of rfl (.cons rfl (.self (rowPl_box rfl)) (.cons rfl (rowBack_lit rawL) .nil))), ⟨rfl, rfl⟩, ?_⟩))); rintro _ _ ⟨rfl, rfl⟩; refine ⟨rfl, _, lokA, ?_⟩) | exact ln_lo hv5 | exact ln_hi hv5 | exact abc_src (ln_nat hv5) | exact abc_cap (ln_nat hv5) | exact abc_max (ln_nat hv5) | refine And.intro ?_ ?_ | (intro _h; first | contradiction | (try simp only [dd] at _h)) | (refine dt_go ?_) | exact rfl | exact True.intro | exact dkk | exact dks | (refine .inr (.inl (.inl ⟨[0], _, _, _, h1, viewA, ⟨rfl, rfl⟩, ?_⟩)); rintro _ _ ⟨rfl, rfl⟩; refine ⟨rfl, _, lokA, ?_⟩) | (refine .inr (.inl (.inl ⟨[0], _, _, _, pick_ex _ ?_ 3 (by decide), viewA, ⟨rfl, rfl⟩, ?_⟩)); rotate_left 1; rintro _ _ ⟨v5, t5, hv5, ht5, rfl, rfl⟩; refine ⟨rfl, _, lokA, ?_⟩) | (refine wrap_succ ?_; omega))))
    conv => whnf
    have hm0 := ln_lo hv5
    have hm1 := ln_hi hv5
    have hlen := abc_len (ln_nat hv5)
    have hL10 : (abcL.take (IntKind.i64.wrap (1 + v5)).toNat).length ≤ 10 := by have := ln_nat hv5; omega
    refine lw_turn _ (turn_eq (id := 6) (x := rowL 1 strC (abcL.take (IntKind.i64.wrap (1 + v5)).toNat)) rfl rfl hlen rfl rfl (abc_eq (e := litE []) (ln_nat hv5))) ?_
    have hsz := @abc_sz (IntKind.i64.wrap (1 + v5)).toNat
    generalize abcL.take (IntKind.i64.wrap (1 + v5)).toNat = L at *
    generalize IntKind.i64.wrap (1 + v5) = m at *
    generalize 0 + m.toNat = p at *
    subst hlen
    refine lw_turn _ (turn_box (id := 3) (ds := [.i .i64 17, .s ByteArray.empty, .row 6 L.length, .ow 4 0 (elE (Typ.pN (d + 1)) [])]) rfl rfl rfl (.cons (.refl _) (.cons (.refl _) (.cons (.refl _) (.cons (.nil _ _) .nil))))) ?_
    refine loopFT (fun y : TpS => [(9, .i .i64 (y.l.length : Int))]) (fun y => [some (.box y.t.cs), none, none, some (.box [.i .i64 17, .s ByteArray.empty, .row 6 L.length, .ow 4 y.l.length (elE (Typ.pN (d + 1)) y.l)])]) (fun y => DI d m (chN d + 1) t5 y) (fun y => y.i.toNat) ⟨m, [], t5⟩ ⟨DI.zero hm0, ?_⟩
    have q3 := w_C hm1 hC
    have hrm : ∀ y : TpS, DI d m (chN d + 1) t5 y → (y.l.length : Int) < m → y.t.rm (chN d) := fun y hy hi => by
      have q0 := hy.il
      have q1 := hy.at (by omega) hC
      have q2 := hy.ex hC
      exact Src.rm_i (by omega) (by omega) (by omega)
    have hln : ∀ y : TpS, DI d m (chN d + 1) t5 y → y.l.length ≤ 1000 := fun y hy => by
      have := hy.il
      have := hy.i0
      omega
    repeat' (first | exact aa | ((conv => whnf) <;> (first | (refine dt_turn (turn_open (id := 3) (i := 0) (j := 3) rfl (show 0 < 1 by decide) (show 3 < 4 by decide) rfl) ?_; refine dt_goH 0 [] rfl ?_) | exact hrm _ ‹_› ‹_› | exact lbz_capC (hln _ ‹_›) (show 72 ≤ 1000 by decide) | exact lbz_capM (hln _ ‹_›) | exact srcOk_1 rfl | exact low_cells rfl | exact low_lit rfl | refine And.intro ?_ ?_ | (intro _h; first | contradiction | (try simp only [dd] at _h)) | (refine dt_go ?_) | exact rfl | exact True.intro | exact dkk | exact dks | (refine .inr (.inl (.inl ⟨[0], _, _, _, ih _ ?_ _ hw, viewA, ⟨rfl, rfl⟩, ?_⟩)); rotate_left 1; rintro _ _ ⟨a, t6, ha, ht6, rfl, rfl⟩; refine ⟨rfl, _, lokA, ?_⟩) | (refine wrap_succ ?_; omega))))
    all_goals first
      | (rename TpS => y
         rename DI _ _ _ _ _ => hy
         have q4 := hy.il
         have hi : 0 < y.i := by
           have : (y.l.length : Int) < m := ‹_›
           omega
         have he : IntKind.i64.wrap ((y.l.length : Int) + 1) = ((y.l ++ [a]).length : Int) := by
           rw [wrap_in (by omega) (by omega), List.length_append]
           rfl
         conv => whnf
         refine roundET_turn (turn_close (id := 3) (i := 0) (j := 3) (id' := 9) rfl (show 0 < 1 by decide) (show 3 < 4 by decide) rfl rfl (show 3 ≠ 9 by decide) rfl ⟨Nat.le_refl _, snoc_idf rfl (fun j hj => pN_idfO d a j)⟩) ?_
         refine roundET_turn (turn_box (id := 3) (ds := [.i .i64 17, .s ByteArray.empty, .row 6 L.length, .ow 4 (y.l ++ [a]).length (elE (Typ.pN (d + 1)) (y.l ++ [a]))]) rfl rfl rfl (.cons (.refl _) (.cons (.refl _) (.cons (.refl _) (.cons (OwEq.lenT lbz_len (fun i j _ _ => HoldC.h _ j) (snoc_eq rfl (fun j hj => .refl _))) .nil))))) ?_
         refine roundET_end ?_
         refine ⟨⟨y.i - 1, y.l ++ [a], t6⟩, [], hy.next hi ha (by omega), (by show (y.i - 1).toNat < y.i.toNat; omega), ?_⟩
         repeat' (first | exact aa | ((conv => whnf) <;> (first | exact he | exact low_cells rfl | exact low_lit rfl | refine And.intro ?_ ?_ | (intro _h; first | contradiction | (try simp only [dd] at _h)) | (refine dt_go ?_) | exact rfl | exact True.intro | exact dkk | exact dks | (refine wrap_succ ?_; omega)))))
      | skip
    all_goals
      rename TpS => y
      rename DI _ _ _ _ _ => hy
      conv => whnf
      have q2 := hy.ex hC
      have q4 := hy.il
      have q5 := hy.i0
      exact endO (a := ⟨17, ByteArray.empty, L, y.l⟩) (t := y.t) 6 7 hX (view_of rfl (.cons rfl (.self (rowPl_box rfl)) (.cons rfl (.self (rowPl_L fun _ => rfl)) (.cons rfl (.self (rowPl_L fun _ => rfl)) .nil)))) rfl (dw_kids hL10 hsz (by omega) hy.al) (by omega)
end Go.Proofs.YtfddakeigmpjkaaGreatDoor
