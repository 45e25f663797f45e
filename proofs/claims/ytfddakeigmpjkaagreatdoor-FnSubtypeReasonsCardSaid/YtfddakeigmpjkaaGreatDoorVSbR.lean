/-
  Types that are drawn: l08Raw, types with parts.
-/
import Derived.Test.YtfddakeigmpjkaaGreatDoorVSbQ
namespace Go.Proofs.YtfddakeigmpjkaaGreatDoor
open Go Go.RowKit
set_option linter.unusedVariables false
set_option linter.unusedSimpArgs false
attribute [local irreducible] IntKind.wrap

set_option maxRecDepth 8000 in
theorem among_rowk (s : Src) (h : s.rm 1) (l : List Int) (h0 : 0 < l.length) (hn : l.length ≤ 200) : RetM env.P 55 [some (boxRow s.cs), some (rowL 1 intC l)] [.ptr 0 0 0, .row 1 l.length] (fun r H => r = .i .i64 (l.getD (s.pickV l.length).toNat default) ∧ H = [some (boxRow (s.pickS l.length).cs), some (rowL 1 intC l)]) := by
  have hl : (l.length : Int) ≤ 200 := by omega
  have hq := pick_le' s (l.length : Int)
  have hp := pick_ok s (h.ok (by decide)) (l.length : Int) hl
  generalize s.pickV (l.length : Int) = v at *
  generalize s.pickS (l.length : Int) = t at *
  refine ret_ofM (nt := 12) (rvs := [.tmp 4]) Tryz.func55 rfl rfl rfl rfl (fun X hX => ?_)
  repeat' (first | exact aa | ((conv => whnf) <;> (first | refine And.intro ?_ ?_ | (intro _h; first | contradiction | (try simp only [dd] at _h)) | (refine dt_go ?_) | exact rfl | exact True.intro | exact dkk | exact dks | (refine .inr (.inl (.inl ⟨[0], _, _, _, hp, viewA, ⟨rfl, rfl⟩, ?_⟩)); rintro _ _ ⟨rfl, rfl⟩; refine ⟨rfl, _, lokA, ?_⟩) | (refine wrap_succ ?_; omega))))
  all_goals (conv => whnf)
  exact endM_pick [0, 1] [some (boxRow t.cs), some (rowL 1 intC l)] (.i .i64 _) (view_of rfl (.cons rfl (.self (rowPl_box rfl)) (.cons rfl (.self (rowPl_L fun _ => rfl)) .nil))) rfl rfl (by rw [hX]; exact keepK (n := 2) rfl rfl) ⟨rfl, rfl⟩
/-- A type with parts: what is drawn first. -/
structure RwH (s t t4 : Src) (k : Int) : Prop where
  h1 : RetM env.P 38 [some (boxRow s.cs)] [.ptr 0 0 0, .i .i64 3] (fun r H => r = .b false ∧ H = [some (boxRow t.cs)])
  h2 : RetM env.P 55 [some (boxRow t.cs), some (rowL 1 intC rawL)] [.ptr 0 0 0, .row 1 rawL.length] (fun r H => r = .i .i64 k ∧ H = [some (boxRow t4.cs), some (rowL 1 intC rawL)])
  hb : s.at' ≤ t4.at' ∧ t4.at' ≤ s.at' + 2 ∧ t4.code.length = s.code.length
set_option maxRecDepth 8000 in
set_option maxHeartbeats 1000000 in
theorem raw_one (d : Nat) (s t t4 : Src) (hs : s.rm (chN (d + 1))) (D : Int) (hD : D = d + 1) (hd : 1 ≤ d) (hd3 : d ≤ 10) (ih : RawC d) (k : Int) (hk : k = 12 ∨ k = 13 ∨ k = 22) (hr : RwH s t t4 k) : Raw1 (d + 1) s D := by
  have hs' := hs
  unfold Src.rm at hs'
  have h8 := chN_s d
  have hw : IntKind.i64.wrap (D - 1) = d := by rw [wrap_in (by omega) (by omega)]; omega
  obtain ⟨h1, h2, hb⟩ := hr
  unfold Raw1
  generalize hN : (chN (d + 1) : Int) = N at *
  rcases hk with rfl | rfl | rfl
  all_goals
    refine ret_ofM (nt := 118) (rvs := [.cell 4 26]) Tryz.func34 rfl rfl rfl rfl (fun X hX => ?_)
    repeat' (first | exact aa | ((conv => whnf) <;> (first | (exfalso; omega) | (refine Src.rm_i ?_ ?_ ?_) | ((refine .inr (.inl (.inl ⟨[0, 2], _, _, _, h2, (view_of rfl (.cons rfl (.self (rowPl_box rfl)) (.cons rfl (rowBack_lit rawL) .nil))), ⟨rfl, rfl⟩, ?_⟩))); rintro _ _ ⟨rfl, rfl⟩; refine ⟨rfl, _, lokA, ?_⟩) | refine And.intro ?_ ?_ | (intro _h; first | contradiction | (try simp only [dd] at _h)) | (refine dt_go ?_) | exact rfl | exact True.intro | exact dkk | exact dks | (refine .inr (.inl (.inl ⟨[0], _, _, _, h1, viewA, ⟨rfl, rfl⟩, ?_⟩)); rintro _ _ ⟨rfl, rfl⟩; refine ⟨rfl, _, lokA, ?_⟩) | (refine .inr (.inl (.inl ⟨[0], _, _, _, pick_ex _ ?_ 3 (by decide), viewA, ⟨rfl, rfl⟩, ?_⟩)); rotate_left 1; rintro _ _ ⟨v5, t5, hv5, ht5, rfl, rfl⟩; refine ⟨rfl, _, lokA, ?_⟩) | (refine .inr (.inl (.inl ⟨[0], _, _, _, ih t5 (Src.rm_i (by omega) (by omega) (by omega)) _ hw, viewA, ⟨rfl, rfl⟩, ?_⟩)); rintro _ _ ⟨a, t6, ha, ht6, rfl, rfl⟩; refine ⟨rfl, _, lokA, ?_⟩) | (refine wrap_succ ?_; omega))))
    all_goals (conv => whnf)
    all_goals first
      | exact endM_nil (sz := 1) (g := elE strC []) 2 rfl (endO (a := ⟨12, ByteArray.empty, [], [a]⟩) (t := t6) 5 4 hX (view_of rfl (.cons rfl (.self (rowPl_box rfl)) (.cons rfl (.self (rowPl_L fun _ => rfl)) (.cons rfl (rowBack_litT [a] fun _ => rfl) .nil)))) rfl (dw_1 ha) (by omega))
      | exact endM_nil (sz := 1) (g := elE strC []) 2 rfl (endO (a := ⟨13, ByteArray.empty, [], [a]⟩) (t := t6) 5 4 hX (view_of rfl (.cons rfl (.self (rowPl_box rfl)) (.cons rfl (.self (rowPl_L fun _ => rfl)) (.cons rfl (rowBack_litT [a] fun _ => rfl) .nil)))) rfl (dw_1 ha) (by omega))
      | exact endM_nil (sz := 1) (g := elE strC []) 2 rfl (endO (a := ⟨22, ByteArray.empty, [], [a]⟩) (t := t6) 5 4 hX (view_of rfl (.cons rfl (.self (rowPl_box rfl)) (.cons rfl (.self (rowPl_L fun _ => rfl)) (.cons rfl (rowBack_litT [a] fun _ => rfl) .nil)))) rfl (dw_1 ha) (by omega))
      | trace_state
set_option maxRecDepth 8000 in
set_option maxHeartbeats 4000000 in
theorem raw_tup (d : Nat) (s t t4 : Src) (hs : s.rm (chN (d + 1))) (D : Int) (hD : D = d + 1) (hd : 1 ≤ d) (hd3 : d ≤ 10) (ih : RawC d) (hr : RwH s t t4 15) : Raw1 (d + 1) s D := by
  have hs' := hs
  unfold Src.rm at hs'
  have h8 := chN_s d
  have hw : IntKind.i64.wrap (D - 1) = d := by rw [wrap_in (by omega) (by omega)]; omega
  obtain ⟨h1, h2, hb⟩ := hr
  unfold Raw1
  generalize hN : (chN (d + 1) : Int) = N at *
  have hC : 0 ≤ (chN d : Int) + 1 := by omega
  refine ret_ofM (nt := 118) (rvs := [.cell 4 26]) Tryz.func34 rfl rfl rfl rfl (fun X hX => ?_)
  repeat' (first | exact aa | ((conv => whnf) <;> (first | (exfalso; omega) | (refine Src.rm_i ?_ ?_ ?_) | ((refine .inr (.inl (.inl ⟨[0, 2], _, _, _, h2, (view_of rfl (.cons rfl (.self (rowPl_box rfl)) (.cons rfl (rowBack_lit rawL) .nil))), ⟨rfl, rfl⟩, ?_⟩))); rintro _ _ ⟨rfl, rfl⟩; refine ⟨rfl, _, lokA, ?_⟩) | refine And.intro ?_ ?_ | (intro _h; first | contradiction | (try simp only [dd] at _h)) | (refine dt_go ?_) | exact rfl | exact True.intro | exact dkk | exact dks | (refine .inr (.inl (.inl ⟨[0], _, _, _, h1, viewA, ⟨rfl, rfl⟩, ?_⟩)); rintro _ _ ⟨rfl, rfl⟩; refine ⟨rfl, _, lokA, ?_⟩) | (refine .inr (.inl (.inl ⟨[0], _, _, _, pick_ex _ ?_ 3 (by decide), viewA, ⟨rfl, rfl⟩, ?_⟩)); rotate_left 1; rintro _ _ ⟨v5, t5, hv5, ht5, rfl, rfl⟩; refine ⟨rfl, _, lokA, ?_⟩) | (refine wrap_succ ?_; omega))))
  conv => whnf
  have hm0 := w1_lo hv5 (by decide)
  have hm1 : IntKind.i64.wrap (1 + v5) ≤ 3 := by rw [wrap_in (by omega) (by omega)]; omega
  generalize IntKind.i64.wrap (1 + v5) = m at *
  refine lw_turn _ (turn_box (id := 3) (ds := [.i .i64 15, .s ByteArray.empty, .nils, .ow 4 0 (elE (Typ.pN (d + 1)) [])]) rfl rfl rfl (.cons (.refl _) (.cons (.refl _) (.cons (.refl _) (.cons (.nil _ _) .nil))))) ?_
  refine loopFT (fun y : TpS => [(8, .i .i64 (y.l.length : Int))]) (fun y => [some (.box y.t.cs), none, none, some (.box [.i .i64 15, .s ByteArray.empty, .nils, .ow 4 y.l.length (elE (Typ.pN (d + 1)) y.l)])]) (fun y => DI d m (chN d + 1) t5 y) (fun y => y.i.toNat) ⟨m, [], t5⟩ ⟨DI.zero hm0, ?_⟩
  have q3 := w_C hm1 hC
  have hrm : ∀ y : TpS, DI d m (chN d + 1) t5 y → (y.l.length : Int) < m → y.t.rm (chN d) := fun y hy hi => by
    have q0 := hy.il
    have q1 := hy.at (by omega) hC
    have q2 := hy.ex hC
    exact Src.rm_i (by omega) (by omega) (by omega)
  have hln : ∀ y : TpS, DI d m (chN d + 1) t5 y → y.l.length ≤ 1000 := fun y hy => by
    have := hy.il
    have := hy.i0
    omega
  repeat' (first | exact aa | ((conv => whnf) <;> (first | (refine dt_turn (turn_open (id := 3) (i := 0) (j := 3) rfl (show 0 < 1 by decide) (show 3 < 4 by decide) rfl) ?_; refine dt_goH 0 [] rfl ?_) | exact hrm _ ‹_› ‹_› | exact lbz_capC (hln _ ‹_›) (show 72 ≤ 1000 by decide) | exact lbz_capM (hln _ ‹_›) | exact srcOk_1 rfl | exact low_cells rfl | refine And.intro ?_ ?_ | (intro _h; first | contradiction | (try simp only [dd] at _h)) | (refine dt_go ?_) | exact rfl | exact True.intro | exact dkk | exact dks | (refine .inr (.inl (.inl ⟨[0], _, _, _, ih _ ?_ _ hw, viewA, ⟨rfl, rfl⟩, ?_⟩)); rotate_left 1; rintro _ _ ⟨a, t6, ha, ht6, rfl, rfl⟩; refine ⟨rfl, _, lokA, ?_⟩) | (refine wrap_succ ?_; omega))))
  all_goals first
    | (rename_i y hy
       have q4 := hy.il
       have hi : 0 < y.i := by
         have : (y.l.length : Int) < m := ‹_›
         omega
       have he : IntKind.i64.wrap ((y.l.length : Int) + 1) = ((y.l ++ [a]).length : Int) := by
         rw [wrap_in (by omega) (by omega), List.length_append]
         rfl
       conv => whnf
       refine roundET_turn (turn_close (id := 3) (i := 0) (j := 3) (id' := 6) rfl (show 0 < 1 by decide) (show 3 < 4 by decide) rfl rfl (show 3 ≠ 6 by decide) rfl ⟨Nat.le_refl _, snoc_idf rfl (fun j hj => pN_idfO d a j)⟩) ?_
       refine roundET_turn (turn_box (id := 3) (ds := [.i .i64 15, .s ByteArray.empty, .nils, .ow 4 (y.l ++ [a]).length (elE (Typ.pN (d + 1)) (y.l ++ [a]))]) rfl rfl rfl (.cons (.refl _) (.cons (.refl _) (.cons (.refl _) (.cons (OwEq.lenT lbz_len (fun i j _ _ => HoldC.h _ j) (snoc_eq rfl (fun j hj => .refl _))) .nil))))) ?_
       refine roundET_end ?_
       refine ⟨⟨y.i - 1, y.l ++ [a], t6⟩, [], hy.next hi ha (by omega), (by show (y.i - 1).toNat < y.i.toNat; omega), ?_⟩
       repeat' (first | exact aa | ((conv => whnf) <;> (first | exact he | exact low_cells rfl | refine And.intro ?_ ?_ | (intro _h; first | contradiction | (try simp only [dd] at _h)) | (refine dt_go ?_) | exact rfl | exact True.intro | exact dkk | exact dks | (refine wrap_succ ?_; omega)))))
    | skip
  rename_i y hy
  conv => whnf
  have q2 := hy.ex hC
  have q4 := hy.il
  have q5 := hy.i0
  exact endM_nil (sz := 1) (g := elE strC []) 2 rfl (endO (a := ⟨15, ByteArray.empty, [], y.l⟩) (t := y.t) 5 4 hX (view_of rfl (.cons rfl (.self (rowPl_box rfl)) (.cons rfl (.self (rowPl_L fun _ => rfl)) (.cons rfl (.self (rowPl_L fun _ => rfl)) .nil)))) rfl (dw_kids (Nat.zero_le _) (fun j hj => absurd hj (Nat.not_lt_zero _)) (by omega) hy.al) (by omega))
end Go.Proofs.YtfddakeigmpjkaaGreatDoor
