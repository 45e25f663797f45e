/-
  Types that are drawn: records.
-/
import Derived.Test.YtnppkgmodflkdaaGreatVTpJ
namespace Go.Proofs.YtnppkgmodflkdaaGreat
open Go Go.RowKit
set_option linter.unusedVariables false
set_option linter.unusedSimpArgs false
attribute [local irreducible] IntKind.wrap

set_option maxRecDepth 8000 in
set_option maxHeartbeats 8000000 in
theorem draw_rec (d : Nat) (s : Src) (hs : s.rm (chN (d + 1))) (D : Int) (hD : D = d + 1) (hd : 1 ≤ d) (hd3 : d ≤ 10) (ih : DrawC d) (hk : s.pickV 20 = 14 ∨ s.pickV 20 = 15) : Draw1 (d + 1) s D := by
  have hs' := hs
  unfold Src.rm at hs'
  have h8 := chN_s d
  have hw : IntKind.i64.wrap (D - 1) = d := by rw [wrap_in (by omega) (by omega)]; omega
  have hSo := some_of hd ih
  unfold Draw1
  generalize hN : (chN (d + 1) : Int) = N at *
  have hp := pick_k s (Src.rm_i (by omega) (by omega) (by omega)) _ rfl
  have ht := pickS_at s 20
  generalize s.pickS 20 = t at *
  generalize s.pickV 20 = v at *
  have hC : 0 ≤ (chN d : Int) + 1 := by omega
  rcases hk with rfl | rfl
  all_goals
    refine ret_ofM (nt := 181) (rvs := [.cell 8 32]) Tryz.func84 rfl rfl rfl rfl (fun X hX => ?_)
    repeat' (first | exact aa | ((conv => whnf) <;> (first | (refine Src.rm_i ?_ ?_ ?_) | exact w1_lo hv1 (by decide) | exact w1_hi hv1 (by decide) | refine And.intro ?_ ?_ | (intro _h; first | contradiction | (try simp only [dd] at _h)) | (refine dt_go ?_) | exact rfl | exact True.intro | exact dkk | exact dks | (refine .inr (.inl (.inl ⟨[0], _, _, _, hp, viewA, ⟨rfl, rfl⟩, ?_⟩)); rintro _ _ ⟨rfl, rfl⟩; refine ⟨rfl, _, lokA, ?_⟩) | (refine .inr (.inl (.inl ⟨[0], _, _, _, pick_ex _ ?_ 3 (by decide), viewA, ⟨rfl, rfl⟩, ?_⟩)); rotate_left 1; rintro _ _ ⟨v1, t1, hv1, ht1, rfl, rfl⟩; refine ⟨rfl, _, lokA, ?_⟩) | (refine .inr (.inl (.inl ⟨[0], _, _, _, l03Unlike_ok t1 ?_ _ ?_ ?_, viewA, ⟨rfl, rfl⟩, ?_⟩)); rotate_left 3; rintro _ _ ⟨p, t2, hp2, ht2, rfl, rfl⟩; refine ⟨rfl, _, lokA, ?_⟩) | (refine wrap_succ ?_; omega))))
    conv => whnf
    have hm := w1_hi hv1 (by decide)
    have hm1 : IntKind.i64.wrap (1 + v1) ≤ 3 := by rw [wrap_in (by omega) (by omega)]; omega
    have hlen := unL_len p (IntKind.i64.wrap (1 + v1)).toNat
    have hsz : ∀ j, j < (unL p (IntKind.i64.wrap (1 + v1)).toNat).length → ((unL p (IntKind.i64.wrap (1 + v1)).toNat).getD j default).size ≤ 8 := fun j hj => unL_sz _ _ _ (by rwa [hlen] at hj)
    generalize IntKind.i64.wrap (1 + v1) = m at *
    generalize unL p m.toNat = L at *
    refine lw_turn _ (turn_box (id := 3) (ds := [.i .i64 16, .s ByteArray.empty, .row 2 L.length, .ow 4 0 (elE (Typ.pN (d + 1)) [])]) rfl rfl rfl (.cons (.refl _) (.cons (.refl _) (.cons (.refl _) (.cons (.nil _ _) .nil))))) ?_
    refine loopFT (fun y : TpS => [(16, .i .i64 (y.l.length : Int))]) (fun y => [some (.box y.t.cs), none, none, some (.box [.i .i64 16, .s ByteArray.empty, .row 2 L.length, .ow 4 y.l.length (elE (Typ.pN (d + 1)) y.l)])]) (fun y => DI d (L.length : Int) (chN d + 1) t2 y) (fun y => y.i.toNat) ⟨(L.length : Int), [], t2⟩ ⟨DI.zero (by omega), ?_⟩
    have q3 := w_C (w := (L.length : Int)) (by omega) hC
    have hrm : ∀ y : TpS, DI d (L.length : Int) (chN d + 1) t2 y → (y.l.length : Int) < (L.length : Int) → y.t.rm (chN d) := fun y hy hi => by
      have q0 := hy.il
      have q1 := hy.at (by omega) hC
      have q2 := hy.ex hC
      exact Src.rm_i (by omega) (by omega) (by omega)
    have hln : ∀ y : TpS, DI d (L.length : Int) (chN d + 1) t2 y → y.l.length ≤ 1000 := fun y hy => by
      have := hy.il
      have := hy.i0
      omega
    repeat' (first | exact aa | ((conv => whnf) <;> (first | (refine dt_turn (turn_open (id := 3) (i := 0) (j := 3) rfl (show 0 < 1 by decide) (show 3 < 4 by decide) rfl) ?_; refine dt_goH 0 [] rfl ?_) | exact hrm _ ‹_› ‹_› | exact lbz_capC (hln _ ‹_›) (show 72 ≤ 1000 by decide) | exact lbz_capM (hln _ ‹_›) | exact srcOk_1 rfl | exact low_cells rfl | refine And.intro ?_ ?_ | (intro _h; first | contradiction | (try simp only [dd] at _h)) | (refine dt_go ?_) | exact rfl | exact True.intro | exact dkk | exact dks | (refine .inr (.inl (.inl ⟨[0], _, _, _, ih _ ?_ _ hw, viewA, ⟨rfl, rfl⟩, ?_⟩)); rotate_left 1; rintro _ _ ⟨a, t3, ha, ht3, rfl, rfl⟩; refine ⟨rfl, _, lokA, ?_⟩) | (refine wrap_succ ?_; omega))))
    all_goals first
      | (rename_i y hy
         have q4 := hy.il
         have hi : 0 < y.i := by
           have : (y.l.length : Int) < (L.length : Int) := ‹_›
           omega
         have he : IntKind.i64.wrap ((y.l.length : Int) + 1) = ((y.l ++ [a]).length : Int) := by
           rw [wrap_in (by omega) (by omega), List.length_append]
           rfl
         conv => whnf
         refine roundET_turn (turn_close (id := 3) (i := 0) (j := 3) (id' := 6) rfl (show 0 < 1 by decide) (show 3 < 4 by decide) rfl rfl (show 3 ≠ 6 by decide) rfl ⟨Nat.le_refl _, snoc_idf rfl (fun j hj => pN_idfO d a j)⟩) ?_
         refine roundET_turn (turn_box (id := 3) (ds := [.i .i64 16, .s ByteArray.empty, .row 2 L.length, .ow 4 (y.l ++ [a]).length (elE (Typ.pN (d + 1)) (y.l ++ [a]))]) rfl rfl rfl (.cons (.refl _) (.cons (.refl _) (.cons (.refl _) (.cons (OwEq.lenT lbz_len (fun i j _ _ => HoldC.h _ j) (snoc_eq rfl (fun j hj => .refl _))) .nil))))) ?_
         refine roundET_end ?_
         refine ⟨⟨y.i - 1, y.l ++ [a], t3⟩, [], hy.next hi ha (by omega), (by show (y.i - 1).toNat < y.i.toNat; omega), ?_⟩
         repeat' (first | exact aa | ((conv => whnf) <;> (first | exact he | exact low_cells rfl | refine And.intro ?_ ?_ | (intro _h; first | contradiction | (try simp only [dd] at _h)) | (refine dt_go ?_) | exact rfl | exact True.intro | exact dkk | exact dks | (refine wrap_succ ?_; omega)))))
      | skip
    rename_i y hy
    conv => whnf
    have q2 := hy.ex hC
    have q4 := hy.il
    have q5 := hy.i0
    exact endO (a := ⟨16, ByteArray.empty, L, y.l⟩) (t := y.t) 2 4 hX (view_of rfl (.cons rfl (.self (rowPl_box rfl)) (.cons rfl (.self (rowPl_L fun _ => rfl)) (.cons rfl (.self (rowPl_L fun _ => rfl)) .nil)))) rfl (dw_kids (by omega) hsz (by omega) hy.al) (by omega)
end Go.Proofs.YtnppkgmodflkdaaGreat
