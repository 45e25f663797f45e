/-
  Copies of types that the reference makes (frozen). Printed by gog.py.
-/
import Derived.Test.YtgjihfinbaopcaaVToF
namespace Go.Proofs.Ytgjihfinbaopcaa
open Go Go.RowKit
set_option linter.unusedVariables false
set_option linter.unusedSimpArgs false

theorem tcap0B {n b : Nat} (h : n ≤ 1048576) (hb : b ≤ 1000) : (0 + n) * b ≤ 140737488355328 := by
  rw [Nat.zero_add]
  exact Nat.le_trans (Nat.mul_le_mul h hb) (by decide)
theorem tcap0M {n : Nat} (h : n ≤ 1048576) : 0 + n ≤ 9223372036854775807 := by omega
theorem tN_idf : ∀ (n : Nat) (a : Typ) (j : Nat), ((Typ.pN n a).getD j .any).idf
  | 0, _, _ => trivial
  | n + 1, _, 0 => trivial
  | n + 1, _, 1 => trivial
  | n + 1, _, 2 => fun i j _ _ => match j with
    | 0 => trivial
    | _ + 1 => trivial
  | n + 1, a, 3 => fun i j _ _ => tN_idf n _ j
  | n + 1, _, _ + 4 => trivial
theorem tN_idfO (n : Nat) (a : Typ) (j : Nat) : ((Typ.pN n a).getD j .any).idfO := match n, j with
  | 0, _ => trivial
  | _ + 1, 0 => trivial
  | _ + 1, 1 => trivial
  | n + 1, 2 => tN_idf (n + 1) a 2
  | n + 1, 3 => tN_idf (n + 1) a 3
  | _ + 1, _ + 4 => trivial
instance tN_hold (n : Nat) : HoldC (Typ.pN n) := ⟨tN_idfO n⟩
theorem tow_len {sz n m : Nat} {g g' : Nat → Nat → AV} (e : n = m) (hf : ∀ i j, i < n → j < sz → (g' i j).idfO) (h : ∀ i j, i < n → j < sz → OwEq (g i j) (g' i j)) : OwEq (.ow sz n g) (.ow sz m g') := by subst e; exact .ow hf h
instance tN_shr (n : Nat) : Shr 0 (Typ.pN n) (Typ.pN n) := match n with
  | 0 => ⟨fun H k a => .nil⟩
  | _ + 1 => ⟨fun H k a => .cons (stay_shr rfl) (.cons (stay_shr rfl) (.cons (stay_shr rfl) (.cons (stay_shr rfl) .nil)))⟩
theorem tshr_take {d sz k : Nat} {H : Hp} {cO c : Typ → List AV} {l : List Typ} [h : Shr d cO c] : Wk (.sl sz l.length fun i j => shrC (k + d) H (elE cO (l.take l.length) i j)) (slL sz c l) := by
  rw [List.take_length]
  exact shr_L rfl
theorem ttake_snoc {l : List Typ} {k : Nat} (h : k < l.length) : l.take (k + 1) = l.take k ++ [l.getD k default] := by
  rw [List.take_add_one, List.getD_eq_getElem?_getD, List.getElem?_eq_getElem h]
  rfl
theorem ttake_eq {n k : Nat} {l : List Typ} {g : Nat → Nat → AV} (h : k < l.length) (hg : ∀ j, j < 4 → OwEq (g 0 j) ((Typ.pN n (l.getD k default)).getD j .any)) : ∀ i j, i < k + 1 → j < 4 → OwEq (catE k (elE (Typ.pN n) (l.take k)) g i j) (elE (Typ.pN n) (l.take (k + 1)) i j) := by
  rw [ttake_snoc h]
  exact snoc_eq (by rw [List.length_take]; omega) hg

set_option maxRecDepth 8000 in
set_option maxHeartbeats 40000000 in
theorem l03Own_g (m : Nat) (a : Typ) (hl : a.kids.length ≤ 1000) (hb : a.labels.length ≤ 1048576) (hq : ∀ k, k < a.kids.length → Ret env.P 19 [.agg (Typ.pN (m + 1) (a.kids.getD k default))] (fun r => r = .agg (Typ.pN (m + 1) (a.kids.getD k default)))) : Ret env.P 19 [.agg (Typ.pN (m + 2) a)] (fun r => r = .agg (Typ.pN (m + 2) a)) := by
  refine Ret.ofFrz ?_
  refine ret_ofM (nt := 33) (rvs := [.cell 2 29]) Try.func19 rfl rfl rfl rfl (fun X hX => ?_)
  repeat' (first | exact aa | ((conv => whnf) <;> (first | (refine dt_goH 2 [] rfl ?_) | exact tcap0B hb (by decide) | exact tcap0M hb | refine And.intro ?_ ?_ | (intro _h; first | contradiction | (try simp only [dd] at _h)) | (refine dt_go ?_) | exact rfl | exact True.intro | exact dkk | exact dks | (refine wrap_succ ?_; omega))))
  · conv => whnf
    have e := Nat.zero_add a.labels.length
    refine lw_turn _ (turn_eq (id := 3) (x := rowL 1 strC a.labels) rfl rfl e.symm rfl rfl (fun i j hi hj => by
      dsimp only
      rw [catE_at, if_neg (Nat.not_lt_zero _), Nat.sub_zero]
      exact .refl _)) ?_
    refine lw_turn _ (turn_close (id := 4) (i := 0) (j := 2) (id' := 3) rfl (show 0 < 1 by decide) (show 2 < 4 by decide) rfl rfl (show 4 ≠ 3 by decide) rfl (rowO_le (Nat.le_of_eq e))) ?_
    refine lw_turn _ (turn_box (id := 4) (ds := [.i .i64 a.kind, .s a.name, owL 1 strC a.labels, .ow 4 0 (elE (Typ.pN (m + 1)) [])]) rfl rfl rfl (.cons (.refl _) (.cons (.refl _) (.cons (tow_len e (fun i j _ _ => HoldC.h _ j) (fun _ _ _ _ => .refl _)) (.cons (.nil _ _) .nil))))) ?_
    refine loopFT (fun k : Nat => [(4, .i .i64 k)]) (fun k => [none, none, none, none, some (.box [.i .i64 a.kind, .s a.name, .ow 1 a.labels.length (elE strC a.labels), .ow 4 k (elE (Typ.pN (m + 1)) (a.kids.take k))])]) (fun k => k ≤ a.kids.length) (fun k => a.kids.length - k) 0 ⟨Nat.zero_le _, ?_⟩
    repeat' (first | exact aa | ((conv => whnf) <;> (first | (refine dt_turn (turn_open (id := 4) (i := 0) (j := 3) rfl (show 0 < 1 by decide) (show 3 < 4 by decide) rfl) ?_; refine dt_goH 2 [] rfl ?_) | exact srcOk_1 rfl | refine And.intro ?_ ?_ | (intro _h; first | contradiction | (try simp only [dd] at _h)) | (refine dt_go ?_) | exact rfl | exact True.intro | exact dkk | exact dks | ((first | refine .inl ⟨_, hq _ (by omega), ?_⟩ | refine ⟨_, hq _ (by omega), ?_⟩); (try rintro _ rfl)) | (refine wrap_succ ?_; omega))))
    all_goals (conv => whnf)
    all_goals first
      | (rename_i k hk
         have hkl : k < a.kids.length := by omega
         have hkt : k = (a.kids.take k).length := by rw [List.length_take]; omega
         have hle : (a.kids.take (k + 1)).length = k + 1 := by rw [List.length_take]; omega
         refine roundET_turn (turn_close (id := 4) (i := 0) (j := 3) (id' := 7) rfl (show 0 < 1 by decide) (show 3 < 4 by decide) rfl rfl (show 4 ≠ 7 by decide) rfl ⟨Nat.le_refl _, snoc_idf hkt (fun j hj => tN_idfO (m + 1) _ j)⟩) ?_
         refine roundET_turn (turn_box (id := 4) (ds := [.i .i64 a.kind, .s a.name, owL 1 strC a.labels, .ow 4 (k + 1) (elE (Typ.pN (m + 1)) (a.kids.take (k + 1)))]) rfl rfl rfl (.cons (.refl _) (.cons (.refl _) (.cons (.refl _) (.cons (tow_len rfl (fun i j _ _ => HoldC.h _ j) (ttake_eq hkl (fun j hj => .refl _))) .nil))))) ?_
         refine roundET_end ?_
         refine ⟨k + 1, [], by omega, (show a.kids.length - (k + 1) < a.kids.length - k by omega), ?_⟩
         repeat' (first | exact aa | ((conv => whnf) <;> (first | refine And.intro ?_ ?_ | (intro _h; first | contradiction | (try simp only [dd] at _h)) | (refine dt_go ?_) | exact rfl | exact True.intro | exact dkk | exact dks | (refine wrap_succ ?_; omega)))))
      | (rename_i k hk
         have e3 : k = a.kids.length := by omega
         subst e3
         refine endM_self (frz0 (r1 := .agg (Typ.pN (m + 2) a)) (frz_agg ?_) rfl)
         refine .cons (.refl _) ?_
         refine .cons (.refl _) ?_
         refine .cons (shr_L (d := 0) (k := 4) rfl) ?_
         exact .cons (tshr_take (d := 0) (k := 4)) .nil)
      | trace_state
  · conv => whnf
    have e := Nat.zero_add a.labels.length
    refine lw_turn _ (turn_eq (id := 3) (x := rowL 1 strC a.labels) rfl rfl e.symm rfl rfl (fun i j hi hj => by
      dsimp only
      rw [catE_at, if_neg (Nat.not_lt_zero _), Nat.sub_zero]
      exact .refl _)) ?_
    refine lw_turn _ (turn_close (id := 4) (i := 0) (j := 2) (id' := 3) rfl (show 0 < 1 by decide) (show 2 < 4 by decide) rfl rfl (show 4 ≠ 3 by decide) rfl (rowO_le (Nat.le_of_eq e))) ?_
    refine lw_turn _ (turn_box (id := 4) (ds := [.i .i64 a.kind, .s a.name, owL 1 strC a.labels, .ow 4 0 (elE (Typ.pN (m + 1)) [])]) rfl rfl rfl (.cons (.refl _) (.cons (.refl _) (.cons (tow_len e (fun i j _ _ => HoldC.h _ j) (fun _ _ _ _ => .refl _)) (.cons (.nil _ _) .nil))))) ?_
    refine loopFT (fun k : Nat => [(4, .i .i64 k)]) (fun k => [none, none, none, none, some (.box [.i .i64 a.kind, .s a.name, .ow 1 a.labels.length (elE strC a.labels), .ow 4 k (elE (Typ.pN (m + 1)) (a.kids.take k))])]) (fun k => k ≤ a.kids.length) (fun k => a.kids.length - k) 0 ⟨Nat.zero_le _, ?_⟩
    repeat' (first | exact aa | ((conv => whnf) <;> (first | (refine dt_turn (turn_open (id := 4) (i := 0) (j := 3) rfl (show 0 < 1 by decide) (show 3 < 4 by decide) rfl) ?_; refine dt_goH 2 [] rfl ?_) | exact srcOk_1 rfl | refine And.intro ?_ ?_ | (intro _h; first | contradiction | (try simp only [dd] at _h)) | (refine dt_go ?_) | exact rfl | exact True.intro | exact dkk | exact dks | ((first | refine .inl ⟨_, hq _ (by omega), ?_⟩ | refine ⟨_, hq _ (by omega), ?_⟩); (try rintro _ rfl)) | (refine wrap_succ ?_; omega))))
    all_goals (conv => whnf)
    all_goals first
      | (rename_i k hk
         have hkl : k < a.kids.length := by omega
         have hkt : k = (a.kids.take k).length := by rw [List.length_take]; omega
         have hle : (a.kids.take (k + 1)).length = k + 1 := by rw [List.length_take]; omega
         refine roundET_turn (turn_close (id := 4) (i := 0) (j := 3) (id' := 7) rfl (show 0 < 1 by decide) (show 3 < 4 by decide) rfl rfl (show 4 ≠ 7 by decide) rfl ⟨Nat.le_refl _, snoc_idf hkt (fun j hj => tN_idfO (m + 1) _ j)⟩) ?_
         refine roundET_turn (turn_box (id := 4) (ds := [.i .i64 a.kind, .s a.name, owL 1 strC a.labels, .ow 4 (k + 1) (elE (Typ.pN (m + 1)) (a.kids.take (k + 1)))]) rfl rfl rfl (.cons (.refl _) (.cons (.refl _) (.cons (.refl _) (.cons (tow_len rfl (fun i j _ _ => HoldC.h _ j) (ttake_eq hkl (fun j hj => .refl _))) .nil))))) ?_
         refine roundET_end ?_
         refine ⟨k + 1, [], by omega, (show a.kids.length - (k + 1) < a.kids.length - k by omega), ?_⟩
         repeat' (first | exact aa | ((conv => whnf) <;> (first | refine And.intro ?_ ?_ | (intro _h; first | contradiction | (try simp only [dd] at _h)) | (refine dt_go ?_) | exact rfl | exact True.intro | exact dkk | exact dks | (refine wrap_succ ?_; omega)))))
      | (rename_i k hk
         have e3 : k = a.kids.length := by omega
         subst e3
         refine endM_self (frz0 (r1 := .agg (Typ.pN (m + 2) a)) (frz_agg ?_) rfl)
         refine .cons (.refl _) ?_
         refine .cons (.refl _) ?_
         refine .cons (shr_L (d := 0) (k := 4) rfl) ?_
         exact .cons (tshr_take (d := 0) (k := 4)) .nil)
      | trace_state
  · conv => whnf
    have e := Nat.zero_add a.labels.length
    refine lw_turn _ (turn_eq (id := 4) (x := rowL 1 strC a.labels) rfl rfl e.symm rfl rfl (fun i j hi hj => by
      dsimp only
      rw [catE_at, if_neg (Nat.not_lt_zero _), Nat.sub_zero]
      exact .refl _)) ?_
    refine lw_turn _ (turn_close (id := 3) (i := 0) (j := 2) (id' := 4) rfl (show 0 < 1 by decide) (show 2 < 4 by decide) rfl rfl (show 3 ≠ 4 by decide) rfl (rowO_le (Nat.le_of_eq e))) ?_
    refine lw_turn _ (turn_box (id := 3) (ds := [.i .i64 a.kind, .s a.name, owL 1 strC a.labels, .ow 4 0 (elE (Typ.pN (m + 1)) [])]) rfl rfl rfl (.cons (.refl _) (.cons (.refl _) (.cons (tow_len e (fun i j _ _ => HoldC.h _ j) (fun _ _ _ _ => .refl _)) (.cons (.nil _ _) .nil))))) ?_
    refine loopFT (fun k : Nat => [(4, .i .i64 k)]) (fun k => [none, none, none, some (.box [.i .i64 a.kind, .s a.name, .ow 1 a.labels.length (elE strC a.labels), .ow 4 k (elE (Typ.pN (m + 1)) (a.kids.take k))])]) (fun k => k ≤ a.kids.length) (fun k => a.kids.length - k) 0 ⟨Nat.zero_le _, ?_⟩
    repeat' (first | exact aa | ((conv => whnf) <;> (first | (refine dt_turn (turn_open (id := 3) (i := 0) (j := 3) rfl (show 0 < 1 by decide) (show 3 < 4 by decide) rfl) ?_; refine dt_goH 2 [] rfl ?_) | exact srcOk_1 rfl | refine And.intro ?_ ?_ | (intro _h; first | contradiction | (try simp only [dd] at _h)) | (refine dt_go ?_) | exact rfl | exact True.intro | exact dkk | exact dks | ((first | refine .inl ⟨_, hq _ (by omega), ?_⟩ | refine ⟨_, hq _ (by omega), ?_⟩); (try rintro _ rfl)) | (refine wrap_succ ?_; omega))))
    all_goals (conv => whnf)
    all_goals first
      | (rename_i k hk
         have hkl : k < a.kids.length := by omega
         have hkt : k = (a.kids.take k).length := by rw [List.length_take]; omega
         have hle : (a.kids.take (k + 1)).length = k + 1 := by rw [List.length_take]; omega
         refine roundET_turn (turn_close (id := 3) (i := 0) (j := 3) (id' := 7) rfl (show 0 < 1 by decide) (show 3 < 4 by decide) rfl rfl (show 3 ≠ 7 by decide) rfl ⟨Nat.le_refl _, snoc_idf hkt (fun j hj => tN_idfO (m + 1) _ j)⟩) ?_
         refine roundET_turn (turn_box (id := 3) (ds := [.i .i64 a.kind, .s a.name, owL 1 strC a.labels, .ow 4 (k + 1) (elE (Typ.pN (m + 1)) (a.kids.take (k + 1)))]) rfl rfl rfl (.cons (.refl _) (.cons (.refl _) (.cons (.refl _) (.cons (tow_len rfl (fun i j _ _ => HoldC.h _ j) (ttake_eq hkl (fun j hj => .refl _))) .nil))))) ?_
         refine roundET_end ?_
         refine ⟨k + 1, [], by omega, (show a.kids.length - (k + 1) < a.kids.length - k by omega), ?_⟩
         repeat' (first | exact aa | ((conv => whnf) <;> (first | refine And.intro ?_ ?_ | (intro _h; first | contradiction | (try simp only [dd] at _h)) | (refine dt_go ?_) | exact rfl | exact True.intro | exact dkk | exact dks | (refine wrap_succ ?_; omega)))))
      | (rename_i k hk
         have e3 : k = a.kids.length := by omega
         subst e3
         refine endM_self (frz0 (r1 := .agg (Typ.pN (m + 2) a)) (frz_agg ?_) rfl)
         refine .cons (.refl _) ?_
         refine .cons (.refl _) ?_
         refine .cons (shr_L (d := 0) (k := 4) rfl) ?_
         exact .cons (tshr_take (d := 0) (k := 4)) .nil)
      | trace_state
  · conv => whnf
    have e := Nat.zero_add a.labels.length
    refine lw_turn _ (turn_eq (id := 4) (x := rowL 1 strC a.labels) rfl rfl e.symm rfl rfl (fun i j hi hj => by
      dsimp only
      rw [catE_at, if_neg (Nat.not_lt_zero _), Nat.sub_zero]
      exact .refl _)) ?_
    refine lw_turn _ (turn_close (id := 2) (i := 0) (j := 2) (id' := 4) rfl (show 0 < 1 by decide) (show 2 < 4 by decide) rfl rfl (show 2 ≠ 4 by decide) rfl (rowO_le (Nat.le_of_eq e))) ?_
    refine lw_turn _ (turn_box (id := 2) (ds := [.i .i64 a.kind, .s a.name, owL 1 strC a.labels, .ow 4 0 (elE (Typ.pN (m + 1)) [])]) rfl rfl rfl (.cons (.refl _) (.cons (.refl _) (.cons (tow_len e (fun i j _ _ => HoldC.h _ j) (fun _ _ _ _ => .refl _)) (.cons (.nil _ _) .nil))))) ?_
    refine loopFT (fun k : Nat => [(4, .i .i64 k)]) (fun k => [none, none, some (.box [.i .i64 a.kind, .s a.name, .ow 1 a.labels.length (elE strC a.labels), .ow 4 k (elE (Typ.pN (m + 1)) (a.kids.take k))])]) (fun k => k ≤ a.kids.length) (fun k => a.kids.length - k) 0 ⟨Nat.zero_le _, ?_⟩
    repeat' (first | exact aa | ((conv => whnf) <;> (first | (refine dt_turn (turn_open (id := 2) (i := 0) (j := 3) rfl (show 0 < 1 by decide) (show 3 < 4 by decide) rfl) ?_; refine dt_goH 2 [] rfl ?_) | exact srcOk_1 rfl | refine And.intro ?_ ?_ | (intro _h; first | contradiction | (try simp only [dd] at _h)) | (refine dt_go ?_) | exact rfl | exact True.intro | exact dkk | exact dks | ((first | refine .inl ⟨_, hq _ (by omega), ?_⟩ | refine ⟨_, hq _ (by omega), ?_⟩); (try rintro _ rfl)) | (refine wrap_succ ?_; omega))))
    all_goals (conv => whnf)
    all_goals first
      | (rename_i k hk
         have hkl : k < a.kids.length := by omega
         have hkt : k = (a.kids.take k).length := by rw [List.length_take]; omega
         have hle : (a.kids.take (k + 1)).length = k + 1 := by rw [List.length_take]; omega
         refine roundET_turn (turn_close (id := 2) (i := 0) (j := 3) (id' := 7) rfl (show 0 < 1 by decide) (show 3 < 4 by decide) rfl rfl (show 2 ≠ 7 by decide) rfl ⟨Nat.le_refl _, snoc_idf hkt (fun j hj => tN_idfO (m + 1) _ j)⟩) ?_
         refine roundET_turn (turn_box (id := 2) (ds := [.i .i64 a.kind, .s a.name, owL 1 strC a.labels, .ow 4 (k + 1) (elE (Typ.pN (m + 1)) (a.kids.take (k + 1)))]) rfl rfl rfl (.cons (.refl _) (.cons (.refl _) (.cons (.refl _) (.cons (tow_len rfl (fun i j _ _ => HoldC.h _ j) (ttake_eq hkl (fun j hj => .refl _))) .nil))))) ?_
         refine roundET_end ?_
         refine ⟨k + 1, [], by omega, (show a.kids.length - (k + 1) < a.kids.length - k by omega), ?_⟩
         repeat' (first | exact aa | ((conv => whnf) <;> (first | refine And.intro ?_ ?_ | (intro _h; first | contradiction | (try simp only [dd] at _h)) | (refine dt_go ?_) | exact rfl | exact True.intro | exact dkk | exact dks | (refine wrap_succ ?_; omega)))))
      | (rename_i k hk
         have e3 : k = a.kids.length := by omega
         subst e3
         refine endM_self (frz0 (r1 := .agg (Typ.pN (m + 2) a)) (frz_agg ?_) rfl)
         refine .cons (.refl _) ?_
         refine .cons (.refl _) ?_
         refine .cons (shr_L (d := 0) (k := 4) rfl) ?_
         exact .cons (tshr_take (d := 0) (k := 4)) .nil)
      | trace_state
/-- Types without parts are said one level deeper. -/
theorem l03Own_m : ∀ (m : Nat) (a : Typ), Typ.oN (m + 1) a → a.np ≤ 1000 → Ret env.P 19 [.agg (Typ.pN (m + 2) a)] (fun r => r = .agg (Typ.pN (m + 2) a))
  | 0, a, h, hp => by
    have hk := Typ.oN_nil h.2.2
    exact l03Own_g 0 a (by rw [hk]; exact Nat.zero_le _) h.2.1.1 (fun k q => by rw [hk] at q; exact absurd q (Nat.not_lt_zero _))
  | m + 1, a, h, hp => l03Own_g (m + 1) a (by have := tkids_np (a := a); omega) h.2.1.1 (fun k q => l03Own_m m _ (Typ.oN_kid h q) (by have := tnp_kid q; omega))
end Go.Proofs.Ytgjihfinbaopcaa
