/-
  Types that are drawn: lists, options, results, enums, flags.
-/
import Derived.Test.YtnppkgmodflkdaaGreatVTpH
namespace Go.Proofs.YtnppkgmodflkdaaGreat
open Go Go.RowKit
set_option linter.unusedVariables false
set_option linter.unusedSimpArgs false
attribute [local irreducible] IntKind.wrap

theorem nm6_sz (k : Nat) : (nm6.getD (k % 6) default).size ≤ 8 := by
  have h : k % 6 < 6 := Nat.mod_lt _ (by decide)
  generalize k % 6 = q at h
  rcases (show q = 0 ∨ q = 1 ∨ q = 2 ∨ q = 3 ∨ q = 4 ∨ q = 5 by omega) with rfl | rfl | rfl | rfl | rfl | rfl <;> decide
theorem unL_sz (p : Nat) : ∀ (n k : Nat), k < n → ((unL p n).getD k default).size ≤ 8
  | 0, k, h => absurd h (Nat.not_lt_zero _)
  | n + 1, k, h => by
    show ((unL p n ++ [nm6.getD ((p + n) % 6) default]).getD k default).size ≤ 8
    rw [List.getD_eq_getElem?_getD]
    rcases Nat.lt_or_eq_of_le (Nat.le_of_lt_succ h) with q | rfl
    · rw [List.getElem?_append_left (by rw [unL_len]; exact q), ← List.getD_eq_getElem?_getD]
      exact unL_sz p n k q
    · rw [List.getElem?_append_right (by rw [unL_len]; exact Nat.le_refl _), unL_len, Nat.sub_self]
      exact nm6_sz _
theorem sumK_le {d : Nat} {l : List Typ} (h : ∀ k, k < l.length → Dw d (l.getD k default)) : ∀ k, k ≤ l.length → sumK Typ.np l k ≤ k * 4 ^ d
  | 0, _ => by rw [sumK_zero]; exact Nat.zero_le _
  | k + 1, hk => by
    rw [sumK_succ _ hk, Nat.succ_mul]
    have := sumK_le h k (by omega)
    have := (h k hk).np
    omega
theorem dw_kids {d : Nat} {k : Int} {ls : List ByteArray} {l : List Typ} (h1 : ls.length ≤ 10) (h2 : ∀ j, j < ls.length → (ls.getD j default).size ≤ 8) (h3 : l.length ≤ 3) (h4 : ∀ j, j < l.length → Dw d (l.getD j default)) : Dw (d + 1) ⟨k, ByteArray.empty, ls, l⟩ := by
  refine ⟨⟨Nat.zero_le _, ⟨Nat.le_trans h1 (by decide), fun j hj => Nat.le_trans (h2 j hj) (by decide)⟩, ⟨Nat.le_trans h3 (by decide), fun j hj => (h4 j hj).o⟩⟩, ?_, h1⟩
  rw [Typ.np_eq]
  show 1 + sumK Typ.np l l.length ≤ _
  have h5 := sumK_le h4 _ (Nat.le_refl _)
  have h6 : l.length * 4 ^ d ≤ 3 * 4 ^ d := Nat.mul_le_mul_right _ h3
  have h7 : 1 ≤ 4 ^ d := Nat.one_le_pow _ _ (by decide)
  rw [Nat.pow_succ]
  omega
theorem w1_lo {v n : Int} (h : 0 ≤ v ∧ (v = 0 ∨ v < n)) (hn : n ≤ 9) : 0 ≤ IntKind.i64.wrap (1 + v) := by
  rw [wrap_in (by omega) (by omega)]; omega
theorem w1_hi {v n : Int} (h : 0 ≤ v ∧ (v = 0 ∨ v < n)) (hn : n ≤ 9) : IntKind.i64.wrap (1 + v) ≤ 10 := by
  rw [wrap_in (by omega) (by omega)]; omega
theorem dw_lab {d p : Nat} {k v n : Int} (h : 0 ≤ v ∧ (v = 0 ∨ v < n)) (hn : n ≤ 9) : Dw (d + 1) ⟨k, ByteArray.empty, unL p (IntKind.i64.wrap (1 + v)).toNat, []⟩ := by
  have := w1_hi h hn
  exact dw_kids (by rw [unL_len]; omega) (fun j hj => unL_sz _ _ _ (by rwa [unL_len] at hj)) (Nat.zero_le _) (fun j hj => absurd hj (Nat.not_lt_zero _))
theorem dw_1 {d : Nat} {k : Int} {a : Typ} (h : Dw d a) : Dw (d + 1) ⟨k, ByteArray.empty, [], [a]⟩ := dw_kids (Nat.zero_le _) (fun j hj => absurd hj (Nat.not_lt_zero _)) (show 1 ≤ 3 by decide) (fun j hj => by obtain rfl : j = 0 := Nat.lt_one_iff.1 hj; exact h)
theorem dw_2 {d : Nat} {k : Int} {a b : Typ} (h : Dw d a) (h' : Dw d b) : Dw (d + 1) ⟨k, ByteArray.empty, [], [a, b]⟩ := dw_kids (Nat.zero_le _) (fun j hj => absurd hj (Nat.not_lt_zero _)) (show 2 ≤ 3 by decide) (fun j hj => by
  have hj' : j < 2 := hj
  rcases (show j = 0 ∨ j = 1 by omega) with rfl | rfl
  · exact h
  · exact h')
set_option maxRecDepth 8000 in
set_option maxHeartbeats 4000000 in
theorem draw_lab (d : Nat) (s : Src) (hs : s.rm (chN (d + 1))) (D : Int) (hD : D = d + 1) (hd : 1 ≤ d) (hk : s.pickV 20 = 18 ∨ s.pickV 20 = 19) : Draw1 (d + 1) s D := by
  have hs' := hs
  unfold Src.rm at hs'
  have h8 := chN_8 (d + 1)
  unfold Draw1
  generalize hN : (chN (d + 1) : Int) = N at *
  have hp := pick_k s (Src.rm_i (by omega) (by omega) (by omega)) _ rfl
  have ht := pickS_at s 20
  generalize s.pickS 20 = t at *
  generalize s.pickV 20 = v at *
  rcases hk with rfl | rfl
  all_goals
    refine ret_ofM (nt := 181) (rvs := [.cell 8 32]) Tryz.func84 rfl rfl rfl rfl (fun X hX => ?_)
    repeat' (first | exact aa | ((conv => whnf) <;> (first | (refine Src.rm_i ?_ ?_ ?_) | exact w1_lo hv1 (by decide) | exact w1_hi hv1 (by decide) | refine And.intro ?_ ?_ | (intro _h; first | contradiction | (try simp only [dd] at _h)) | (refine dt_go ?_) | exact rfl | exact True.intro | exact dkk | exact dks | (refine .inr (.inl (.inl ⟨[0], _, _, _, hp, viewA, ⟨rfl, rfl⟩, ?_⟩)); rintro _ _ ⟨rfl, rfl⟩; refine ⟨rfl, _, lokA, ?_⟩) | (refine .inr (.inl (.inl ⟨[0], _, _, _, pick_ex _ ?_ 4 (by decide), viewA, ⟨rfl, rfl⟩, ?_⟩)); rotate_left 1; rintro _ _ ⟨v1, t1, hv1, ht1, rfl, rfl⟩; refine ⟨rfl, _, lokA, ?_⟩) | (refine .inr (.inl (.inl ⟨[0], _, _, _, l03Unlike_ok t1 ?_ _ ?_ ?_, viewA, ⟨rfl, rfl⟩, ?_⟩)); rotate_left 3; rintro _ _ ⟨p, t2, hp, ht2, rfl, rfl⟩; refine ⟨rfl, _, lokA, ?_⟩) | (refine wrap_succ ?_; omega))))
    all_goals (conv => whnf)
    all_goals first
      | exact endM_nil (sz := 4) (g := elE (Typ.pN (d + 1)) []) 3 rfl (endO (a := ⟨18, ByteArray.empty, unL p (IntKind.i64.wrap (1 + v1)).toNat, []⟩) (t := t2) 2 3 hX (view_of rfl (.cons rfl (.self (rowPl_box rfl)) (.cons rfl (.self (rowPl_L fun _ => rfl)) (.cons rfl (.self (rowPl_L fun _ => rfl)) .nil)))) rfl (dw_lab hv1 (by decide)) (by omega))
      | exact endM_nil (sz := 4) (g := elE (Typ.pN (d + 1)) []) 3 rfl (endO (a := ⟨19, ByteArray.empty, unL p (IntKind.i64.wrap (1 + v1)).toNat, []⟩) (t := t2) 2 3 hX (view_of rfl (.cons rfl (.self (rowPl_box rfl)) (.cons rfl (.self (rowPl_L fun _ => rfl)) (.cons rfl (.self (rowPl_L fun _ => rfl)) .nil)))) rfl (dw_lab hv1 (by decide)) (by omega))
      | trace_state
set_option maxRecDepth 8000 in
set_option maxHeartbeats 4000000 in
theorem draw_one (d : Nat) (s : Src) (hs : s.rm (chN (d + 1))) (D : Int) (hD : D = d + 1) (hd : 1 ≤ d) (hd3 : d ≤ 10) (ih : DrawC d) (hk : s.pickV 20 = 7 ∨ s.pickV 20 = 8 ∨ s.pickV 20 = 9 ∨ s.pickV 20 = 10) : Draw1 (d + 1) s D := by
  have hs' := hs
  unfold Src.rm at hs'
  have h8 := chN_s d
  have hw : IntKind.i64.wrap (D - 1) = d := by rw [wrap_in (by omega) (by omega)]; omega
  unfold Draw1
  generalize hN : (chN (d + 1) : Int) = N at *
  have hp := pick_k s (Src.rm_i (by omega) (by omega) (by omega)) _ rfl
  have ht := pickS_at s 20
  generalize s.pickS 20 = t at *
  generalize s.pickV 20 = v at *
  rcases hk with rfl | rfl | rfl | rfl
  all_goals
    refine ret_ofM (nt := 181) (rvs := [.cell 8 32]) Tryz.func84 rfl rfl rfl rfl (fun X hX => ?_)
    repeat' (first | exact aa | ((conv => whnf) <;> (first | (refine Src.rm_i ?_ ?_ ?_) | refine And.intro ?_ ?_ | (intro _h; first | contradiction | (try simp only [dd] at _h)) | (refine dt_go ?_) | exact rfl | exact True.intro | exact dkk | exact dks | (refine .inr (.inl (.inl ⟨[0], _, _, _, hp, viewA, ⟨rfl, rfl⟩, ?_⟩)); rintro _ _ ⟨rfl, rfl⟩; refine ⟨rfl, _, lokA, ?_⟩) | (refine .inr (.inl (.inl ⟨[0], _, _, _, ih t (Src.rm_i (by omega) (by omega) (by omega)) _ hw, viewA, ⟨rfl, rfl⟩, ?_⟩)); rintro _ _ ⟨a, t2, ha, ht2, rfl, rfl⟩; refine ⟨rfl, _, lokA, ?_⟩) | (refine wrap_succ ?_; omega))))
    all_goals (conv => whnf)
    all_goals first
      | exact endM_nil (sz := 1) (g := elE strC []) 2 rfl (endO (a := ⟨12, ByteArray.empty, [], [a]⟩) (t := t2) 3 2 hX (view_of rfl (.cons rfl (.self (rowPl_box rfl)) (.cons rfl (.self (rowPl_L fun _ => rfl)) (.cons rfl (rowBack_litT [a] fun _ => rfl) .nil)))) rfl (dw_1 ha) (by omega))
      | exact endM_nil (sz := 1) (g := elE strC []) 2 rfl (endO (a := ⟨13, ByteArray.empty, [], [a]⟩) (t := t2) 3 2 hX (view_of rfl (.cons rfl (.self (rowPl_box rfl)) (.cons rfl (.self (rowPl_L fun _ => rfl)) (.cons rfl (rowBack_litT [a] fun _ => rfl) .nil)))) rfl (dw_1 ha) (by omega))
      | trace_state
set_option maxRecDepth 8000 in
set_option maxHeartbeats 4000000 in
theorem draw_two (d : Nat) (s : Src) (hs : s.rm (chN (d + 1))) (D : Int) (hD : D = d + 1) (hd : 1 ≤ d) (hd3 : d ≤ 10) (ih : DrawC d) (hk : s.pickV 20 = 11 ∨ s.pickV 20 = 12) : Draw1 (d + 1) s D := by
  have hs' := hs
  unfold Src.rm at hs'
  have h8 := chN_s d
  have hw : IntKind.i64.wrap (D - 1) = d := by rw [wrap_in (by omega) (by omega)]; omega
  have hSo := some_of hd ih
  unfold Draw1
  generalize hN : (chN (d + 1) : Int) = N at *
  have hp := pick_k s (Src.rm_i (by omega) (by omega) (by omega)) _ rfl
  have ht := pickS_at s 20
  generalize s.pickS 20 = t at *
  generalize s.pickV 20 = v at *
  rcases hk with rfl | rfl
  all_goals
    refine ret_ofM (nt := 181) (rvs := [.cell 8 32]) Tryz.func84 rfl rfl rfl rfl (fun X hX => ?_)
    repeat' (first | exact aa | ((conv => whnf) <;> (first | (refine Src.rm_i ?_ ?_ ?_) | refine And.intro ?_ ?_ | (intro _h; first | contradiction | (try simp only [dd] at _h)) | (refine dt_go ?_) | exact rfl | exact True.intro | exact dkk | exact dks | (refine .inr (.inl (.inl ⟨[0], _, _, _, hp, viewA, ⟨rfl, rfl⟩, ?_⟩)); rintro _ _ ⟨rfl, rfl⟩; refine ⟨rfl, _, lokA, ?_⟩) | (refine .inr (.inl (.inl ⟨[0], _, _, _, hSo _ ?_ _ hw, viewA, ⟨rfl, rfl⟩, ?_⟩)); rotate_left 1; rintro _ _ ⟨b, t3, hb, ht3, rfl, rfl⟩; refine ⟨rfl, _, lokA, ?_⟩) | (refine wrap_succ ?_; omega))))
    all_goals (conv => whnf)
    all_goals first
      | rename_i a t2 ha ht2
        exact endM_nil (sz := 1) (g := elE strC []) 2 rfl (endO (a := ⟨14, ByteArray.empty, [], [a, b]⟩) (t := t3) 5 4 hX (view_of rfl (.cons rfl (.self (rowPl_box rfl)) (.cons rfl (.self (rowPl_L fun _ => rfl)) (.cons rfl (rowBack_litT [a, b] fun _ => rfl) .nil)))) rfl (dw_2 ha hb) (by omega))
      | trace_state
end Go.Proofs.YtnppkgmodflkdaaGreat
