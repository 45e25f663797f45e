/-
  Types that are drawn: tuples.
-/
import Derived.Test.YtnppkgmodflkdaaGreatVTpI
namespace Go.Proofs.YtnppkgmodflkdaaGreat
open Go Go.RowKit
set_option linter.unusedVariables false
set_option linter.unusedSimpArgs false
attribute [local irreducible] IntKind.wrap

theorem pN_idf : ∀ (n : Nat) (a : Typ) (j : Nat), ((Typ.pN n a).getD j .any).idf
  | 0, _, _ => trivial
  | n + 1, _, 0 => trivial
  | n + 1, _, 1 => trivial
  | n + 1, _, 2 => fun i j _ _ => match j with
    | 0 => trivial
    | _ + 1 => trivial
  | n + 1, a, 3 => fun i j _ _ => pN_idf n _ j
  | n + 1, _, _ + 4 => trivial
theorem pN_idfO (n : Nat) (a : Typ) (j : Nat) : ((Typ.pN (n + 1) a).getD j .any).idfO := match j with
  | 0 => trivial
  | 1 => trivial
  | 2 => pN_idf (n + 1) a 2
  | 3 => pN_idf (n + 1) a 3
  | _ + 4 => trivial
instance (n : Nat) : HoldC (Typ.pN (n + 1)) := ⟨pN_idfO n⟩
theorem OwEq.lenT {sz n m : Nat} {g g' : Nat → Nat → AV} (e : n = m) (hf : ∀ i j, i < n → j < sz → (g' i j).idfO) (h : ∀ i j, i < n → j < sz → OwEq (g i j) (g' i j)) : OwEq (.ow sz n g) (.ow sz m g') := by subst e; exact .ow hf h
/-- A loop that draws parts: how many are left, the parts, the source. -/
structure TpS where
  i : Int
  l : List Typ
  t : Src
structure DI (d : Nat) (w C : Int) (t1 : Src) (y : TpS) : Prop where
  al : ∀ j, j < y.l.length → Dw d (y.l.getD j default)
  i0 : 0 ≤ y.i
  il : y.i + y.l.length = w
  lo : t1.at' ≤ y.t.at'
  hi : y.t.at' + y.i * C ≤ t1.at' + w * C
  cd : y.t.code.length = t1.code.length
theorem DI.zero {d : Nat} {w C : Int} {t1 : Src} (h : 0 ≤ w) : DI d w C t1 ⟨w, [], t1⟩ := ⟨fun j hj => absurd hj (Nat.not_lt_zero _), h, by show w + ((0 : Nat) : Int) = w; omega, Int.le_refl _, Int.le_refl _, rfl⟩
theorem DI.next {d : Nat} {w C : Int} {t1 : Src} {y : TpS} (h : DI d w C t1 y) (hi : 0 < y.i) {a : Typ} {t2 : Src} (ha : Dw d a) (ht : y.t.at' ≤ t2.at' ∧ t2.at' ≤ y.t.at' + C ∧ t2.code.length = y.t.code.length) : DI d w C t1 ⟨y.i - 1, y.l ++ [a], t2⟩ := by
  refine ⟨fun j hj => ?_, by have := hi; show 0 ≤ y.i - 1; omega, ?_, by have := h.lo; show t1.at' ≤ t2.at'; omega, ?_, by have := h.cd; show t2.code.length = _; omega⟩
  · rw [List.getD_eq_getElem?_getD]
    show Dw d ((y.l ++ [a])[j]?.getD default)
    have hj' : j < (y.l ++ [a]).length := hj
    rw [List.length_append, List.length_singleton] at hj'
    by_cases q : j < y.l.length
    · rw [List.getElem?_append_left q, ← List.getD_eq_getElem?_getD]
      exact h.al j q
    · obtain rfl : j = y.l.length := by omega
      rw [List.getElem?_append_right (Nat.le_refl _), Nat.sub_self]
      exact ha
  · have := h.il
    show y.i - 1 + ((y.l ++ [a]).length : Int) = w
    rw [List.length_append, List.length_singleton]
    omega
  · have := h.hi
    have e : (y.i - 1) * C = y.i * C - C := by rw [Int.sub_mul, Int.one_mul]
    show t2.at' + (y.i - 1) * C ≤ _
    rw [e]
    omega
theorem DI.ex {d : Nat} {w C : Int} {t1 : Src} {y : TpS} (h : DI d w C t1 y) (hC : 0 ≤ C) : t1.at' ≤ y.t.at' ∧ y.t.at' ≤ t1.at' + w * C ∧ y.t.code.length = t1.code.length := ⟨h.lo, by have := h.hi; have := Int.mul_nonneg h.i0 hC; omega, h.cd⟩
theorem DI.at {d : Nat} {w C : Int} {t1 : Src} {y : TpS} (h : DI d w C t1 y) (hi : 0 < y.i) (hC : 0 ≤ C) : y.t.at' + C ≤ t1.at' + w * C := by
  have := h.hi
  have e : y.i * C = (y.i - 1) * C + C := by rw [Int.sub_mul, Int.one_mul]; omega
  have := Int.mul_nonneg (show 0 ≤ y.i - 1 by omega) hC
  omega
theorem w_C {w C : Int} (hw : w ≤ 3) (hC : 0 ≤ C) : w * C ≤ 3 * C := Int.mul_le_mul_of_nonneg_right hw hC
set_option maxRecDepth 8000 in
set_option maxHeartbeats 4000000 in
theorem draw_tup (d : Nat) (s : Src) (hs : s.rm (chN (d + 1))) (D : Int) (hD : D = d + 1) (hd : 1 ≤ d) (hd3 : d ≤ 10) (ih : DrawC d) (hk : s.pickV 20 = 13) : Draw1 (d + 1) s D := by
  have hs' := hs
  unfold Src.rm at hs'
  have h8 := chN_s d
  have hw : IntKind.i64.wrap (D - 1) = d := by rw [wrap_in (by omega) (by omega)]; omega
  unfold Draw1
  generalize hN : (chN (d + 1) : Int) = N at *
  have hp := pick_k s (Src.rm_i (by omega) (by omega) (by omega)) _ hk
  have ht := pickS_at s 20
  generalize s.pickS 20 = t at *
  refine ret_ofM (nt := 181) (rvs := [.cell 8 32]) Tryz.func84 rfl rfl rfl rfl (fun X hX => ?_)
  repeat' (first | exact aa | ((conv => whnf) <;> (first | (refine Src.rm_i ?_ ?_ ?_) | refine And.intro ?_ ?_ | (intro _h; first | contradiction | (try simp only [dd] at _h)) | (refine dt_go ?_) | exact rfl | exact True.intro | exact dkk | exact dks | (refine .inr (.inl (.inl ⟨[0], _, _, _, hp, viewA, ⟨rfl, rfl⟩, ?_⟩)); rintro _ _ ⟨rfl, rfl⟩; refine ⟨rfl, _, lokA, ?_⟩) | (refine .inr (.inl (.inl ⟨[0], _, _, _, pick_ex _ ?_ 3 (by decide), viewA, ⟨rfl, rfl⟩, ?_⟩)); rotate_left 1; rintro _ _ ⟨v1, t1, hv1, ht1, rfl, rfl⟩; refine ⟨rfl, _, lokA, ?_⟩) | (refine wrap_succ ?_; omega))))
  conv => whnf
  have hC : 0 ≤ (chN d : Int) + 1 := by omega
  refine lw_turn _ (turn_box (id := 2) (ds := [.i .i64 15, .s ByteArray.empty, .nils, .ow 4 0 (elE (Typ.pN (d + 1)) [])]) rfl rfl rfl (.cons (.refl _) (.cons (.refl _) (.cons (.refl _) (.cons (.nil _ _) .nil))))) ?_
  refine loopFT (fun y : TpS => [(14, .i .i64 y.i)]) (fun y => [some (.box y.t.cs), none, some (.box [.i .i64 15, .s ByteArray.empty, .nils, .ow 4 y.l.length (elE (Typ.pN (d + 1)) y.l)])]) (fun y => DI d (IntKind.i64.wrap (1 + v1)) (chN d + 1) t1 y) (fun y => y.i.toNat) ⟨IntKind.i64.wrap (1 + v1), [], t1⟩ ⟨DI.zero (w1_lo hv1 (by decide)), ?_⟩
  have q3 := w_C (w := IntKind.i64.wrap (1 + v1)) (by rw [wrap_in (by omega) (by omega)]; omega) hC
  have hrm : ∀ y : TpS, DI d (IntKind.i64.wrap (1 + v1)) (chN d + 1) t1 y → 0 < y.i → y.t.rm (chN d) := fun y hy hi => by
    have q1 := hy.at hi hC
    have q2 := hy.ex hC
    exact Src.rm_i (by omega) (by omega) (by omega)
  have hln : ∀ y : TpS, DI d (IntKind.i64.wrap (1 + v1)) (chN d + 1) t1 y → y.l.length ≤ 1000 := fun y hy => by
    have := hy.il
    have := hy.i0
    have := wrap_in (n := 1 + v1) (by omega) (by omega)
    omega
  repeat' (first | exact aa | ((conv => whnf) <;> (first | (refine dt_turn (turn_open (id := 2) (i := 0) (j := 3) rfl (show 0 < 1 by decide) (show 3 < 4 by decide) rfl) ?_; refine dt_goH 0 [] rfl ?_) | exact hrm _ ‹_› ‹_› | exact lbz_capC (hln _ ‹_›) (show 72 ≤ 1000 by decide) | exact lbz_capM (hln _ ‹_›) | exact srcOk_1 rfl | refine And.intro ?_ ?_ | (intro _h; first | contradiction | (try simp only [dd] at _h)) | (refine dt_go ?_) | exact rfl | exact True.intro | exact dkk | exact dks | (refine .inr (.inl (.inl ⟨[0], _, _, _, ih _ ?_ _ hw, viewA, ⟨rfl, rfl⟩, ?_⟩)); rotate_left 1; rintro _ _ ⟨a, t2, ha, ht2, rfl, rfl⟩; refine ⟨rfl, _, lokA, ?_⟩) | (refine wrap_succ ?_; omega))))
  all_goals first
    | (rename_i y hy
       have hi : 0 < y.i := ‹0 < y.i›
       have he : IntKind.i64.wrap (y.i - 1) = y.i - 1 := by
         have := hy.il
         have := wrap_in (n := 1 + v1) (by omega) (by omega)
         exact wrap_in (by omega) (by omega)
       conv => whnf
       refine roundET_turn (turn_close (id := 2) (i := 0) (j := 3) (id' := 5) rfl (show 0 < 1 by decide) (show 3 < 4 by decide) rfl rfl (show 2 ≠ 5 by decide) rfl ⟨Nat.le_refl _, snoc_idf rfl (fun j hj => pN_idfO d a j)⟩) ?_
       refine roundET_turn (turn_box (id := 2) (ds := [.i .i64 15, .s ByteArray.empty, .nils, .ow 4 (y.l ++ [a]).length (elE (Typ.pN (d + 1)) (y.l ++ [a]))]) rfl rfl rfl (.cons (.refl _) (.cons (.refl _) (.cons (.refl _) (.cons (OwEq.lenT lbz_len (fun i j _ _ => HoldC.h _ j) (snoc_eq rfl (fun j hj => .refl _))) .nil))))) ?_
       refine roundET_end ?_
       refine ⟨⟨y.i - 1, y.l ++ [a], t2⟩, [], hy.next hi ha (by omega), (by show (y.i - 1).toNat < y.i.toNat; omega), ?_⟩
       repeat' (first | exact aa | ((conv => whnf) <;> (first | exact he | refine And.intro ?_ ?_ | (intro _h; first | contradiction | (try simp only [dd] at _h)) | (refine dt_go ?_) | exact rfl | exact True.intro | exact dkk | exact dks | (refine wrap_succ ?_; omega)))))
    | skip
  rename_i y hy
  conv => whnf
  have q2 := hy.ex hC
  have q4 := hy.il
  have q5 := hy.i0
  have q6 := wrap_in (n := 1 + v1) (by omega) (by omega)
  exact endM_nil (sz := 1) (g := elE strC []) 2 rfl (endO (a := ⟨15, ByteArray.empty, [], y.l⟩) (t := y.t) 4 3 hX (view_of rfl (.cons rfl (.self (rowPl_box rfl)) (.cons rfl (.self (rowPl_L fun _ => rfl)) (.cons rfl (.self (rowPl_L fun _ => rfl)) .nil)))) rfl (dw_kids (Nat.zero_le _) (fun j hj => absurd hj (Nat.not_lt_zero _)) (by omega) hy.al) (by omega))
end Go.Proofs.YtnppkgmodflkdaaGreat
