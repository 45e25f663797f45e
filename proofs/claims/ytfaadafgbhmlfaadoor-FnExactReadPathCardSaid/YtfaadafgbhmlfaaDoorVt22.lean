/- Texts for VReadPathP. -/
import Derived.Test.YtfaadafgbhmlfaaDoorVt21
namespace Go.Proofs.YtfaadafgbhmlfaaDoor
open Go Go.RowKit
set_option linter.unusedVariables false
set_option linter.unusedSimpArgs false
set_option maxRecDepth 8000
section
attribute [local irreducible] IntKind.wrap
theorem l05Letter_ok (c : Int) : Ret env.P 22 [.i .u8 c] (fun r => r = .b (decide (97 ≤ c ∧ c ≤ 122))) := by
  refine ret_of (nt := 9) (rvs := [.tmp 2]) Tryd.func22 rfl rfl rfl rfl (fun X => ?_)
  repeat' (first | omega | (with_reducible show (_ : Int) < _; dsimp only; omega) | (with_reducible show (_ : Nat) ≤ _; dsimp only; omega) | ((with_reducible show SrcOk _ _ _) <;> (first | exact srcOk_1 rfl | exact srcOk_L (fun _ => ⟨rfl, rfl⟩) | exact srcOk_E (fun _ => ⟨rfl, rfl⟩))) | ((conv => whnf) <;> (first | refine And.intro ?_ ?_ | (intro _h; first | contradiction | (try simp only [dd] at _h)) | (refine dt_go ?_) | exact rfl | exact True.intro | exact dkk | exact dks | (refine wrap_succ ?_; omega))))
  all_goals (conv => whnf)
  all_goals first
    | exact leaf_b (by rw [decide_eq_decide]; omega)
    | exact leaf_b (by symm; rw [decide_eq_false_iff_not]; omega)
theorem l05Digit_ok (c : Int) : Ret env.P 24 [.i .u8 c] (fun r => r = .b (decide (48 ≤ c ∧ c ≤ 57))) := by
  refine ret_of (nt := 9) (rvs := [.tmp 2]) Tryd.func24 rfl rfl rfl rfl (fun X => ?_)
  repeat' (first | omega | (with_reducible show (_ : Int) < _; dsimp only; omega) | (with_reducible show (_ : Nat) ≤ _; dsimp only; omega) | ((with_reducible show SrcOk _ _ _) <;> (first | exact srcOk_1 rfl | exact srcOk_L (fun _ => ⟨rfl, rfl⟩) | exact srcOk_E (fun _ => ⟨rfl, rfl⟩))) | ((conv => whnf) <;> (first | refine And.intro ?_ ?_ | (intro _h; first | contradiction | (try simp only [dd] at _h)) | (refine dt_go ?_) | exact rfl | exact True.intro | exact dkk | exact dks | (refine wrap_succ ?_; omega))))
  all_goals (conv => whnf)
  all_goals first
    | exact leaf_b (by rw [decide_eq_decide]; omega)
    | exact leaf_b (by symm; rw [decide_eq_false_iff_not]; omega)
def sgB : ByteArray := ⟨#[123, 125, 40, 41, 60, 62, 44, 59, 58, 61, 46, 47, 64, 95]⟩
structure SgTo (c : Int) (k : Nat) : Prop where
  h : ∀ j, j < k → ¬ byI sgB j = c
theorem SgTo.zero (c : Int) : SgTo c 0 := ⟨fun j hj => absurd hj (Nat.not_lt_zero _)⟩
theorem SgTo.next {c : Int} {k : Nat} (h : SgTo c k) (hk : ¬ byI sgB k = c) : SgTo c (k + 1) := ⟨fun j hj => by
  by_cases e : j = k
  · subst e; exact hk
  · exact h.h j (by omega)⟩
theorem sg_in {k : Nat} (h : k < 14) : byI sgB k ∈ sgL := by
  rcases (show k = 0 ∨ k = 1 ∨ k = 2 ∨ k = 3 ∨ k = 4 ∨ k = 5 ∨ k = 6 ∨ k = 7 ∨ k = 8 ∨ k = 9 ∨ k = 10 ∨ k = 11 ∨ k = 12 ∨ k = 13 by omega) with rfl | rfl | rfl | rfl | rfl | rfl | rfl | rfl | rfl | rfl | rfl | rfl | rfl | rfl <;> decide
theorem sg_at {c : Int} (h : c ∈ sgL) : ∃ k, k < 14 ∧ byI sgB k = c := by
  have : ∀ z ∈ sgL, ∃ k, k < 14 ∧ byI sgB k = z := by decide
  exact this c h
theorem SgTo.all {c : Int} {k : Nat} (h : SgTo c k) (hk : 14 ≤ k) : ¬ c ∈ sgL := fun q => by
  obtain ⟨j, hj, e⟩ := sg_at q
  exact h.h j (by omega) e
theorem l05Sign_ok (c : Int) : Ret env.P 26 [.i .u8 c] (fun r => r = .b (pb (c ∈ sgL))) := by
  have h14 : ({ data := #[123, 125, 40, 41, 60, 62, 44, 59, 58, 61, 46, 47, 64, 95] } : ByteArray).size = 14 := rfl
  refine ret_of (nt := 16) (rvs := [.tmp 2]) Tryd.func26 rfl rfl rfl rfl (fun X => ?_)
  repeat' (first | omega | (with_reducible show (_ : Int) < _; dsimp only; omega) | (with_reducible show (_ : Nat) ≤ _; dsimp only; omega) | ((with_reducible show SrcOk _ _ _) <;> (first | exact srcOk_1 rfl | exact srcOk_L (fun _ => ⟨rfl, rfl⟩) | exact srcOk_E (fun _ => ⟨rfl, rfl⟩))) | ((conv => whnf) <;> (first | refine loopN 14 (fun i => [(4, .i .i64 i)]) (fun i => []) (fun i => SgTo c i) ⟨.zero c, ?_⟩ | refine And.intro ?_ ?_ | (intro _h; first | contradiction | (try simp only [dd] at _h)) | (refine dt_go ?_) | exact rfl | exact True.intro | exact dkk | exact dks | (refine wrap_succ ?_; omega))))
  all_goals (try simp only [Int.toNat_natCast] at *)
  all_goals first | omega | (conv => whnf) | skip
  all_goals first
    | (exfalso; omega)
    | exact SgTo.next ‹_› ‹_›
    | (rw [← ‹_ = c›]; exact leaf_t (sg_in (by omega)))
    | exact leaf_f (SgTo.all ‹_› (by omega))
    | trace_state
theorem byI_z {s : ByteArray} {j : Nat} : s.size ≤ j → byI s j = 0 := byI_out
theorem EndI.z {s : ByteArray} {P : Nat → Prop} {k j : Nat} (h : EndI P s.size k j) : s.size ≤ j + 1 → byI s (j + 1) = 0 := byI_out
theorem wd_no {s : ByteArray} {j : Nat} (h : ¬ ((97 ≤ byI s j ∧ byI s j ≤ 122) ∨ (48 ≤ byI s j ∧ byI s j ≤ 57) ∨ (byI s j = 45 ∧ ((97 ≤ byI s (j + 1) ∧ byI s (j + 1) ≤ 122) ∨ (48 ≤ byI s (j + 1) ∧ byI s (j + 1) ≤ 57))))) : ¬ wdP s j := h
theorem nb_no {s : ByteArray} {j : Nat} (h : ¬ ((48 ≤ byI s j ∧ byI s j ≤ 57) ∨ (byI s j = 46 ∧ (48 ≤ byI s (j + 1) ∧ byI s (j + 1) ≤ 57)))) : ¬ nbP s j := h
set_option maxHeartbeats 1000000 in
theorem l05Word_ok (s : ByteArray) (k : Nat) (hs : s.size ≤ 30000) (hk : k < s.size) : Ret env.P 23 [.s s, .i .i64 k] (fun r => r = .i .i64 (endF (wdP s) (s.size - k) k : Nat)) := by
  refine ret_of (nt := 53) (rvs := [.tmp 4]) Tryd.func23 rfl rfl rfl rfl (fun X => ?_)
  repeat' (first | omega | (with_reducible show (_ : Int) < _; dsimp only; omega) | (with_reducible show (_ : Nat) ≤ _; dsimp only; omega) | ((with_reducible show SrcOk _ _ _) <;> (first | exact srcOk_1 rfl | exact srcOk_L (fun _ => ⟨rfl, rfl⟩) | exact srcOk_E (fun _ => ⟨rfl, rfl⟩))) | ((conv => whnf) <;> (first | refine loopN s.size (fun i : Nat => [(1, .i .i64 ((k + i : Nat) : Int))]) (fun _ => []) (fun i => EndI (wdP s) s.size k (k + i)) ⟨EndI.self (Nat.le_of_lt hk), ?_⟩ | refine And.intro ?_ ?_ | (intro _h; first | contradiction | (try simp only [dd] at _h)) | (refine dt_go ?_) | exact rfl | exact True.intro | exact dkk | exact dks | ((first | refine .inl ⟨_, l05Letter_ok _, ?_⟩ | refine ⟨_, l05Letter_ok _, ?_⟩); (try rintro _ rfl)) | ((first | refine .inl ⟨_, l05Digit_ok _, ?_⟩ | refine ⟨_, l05Digit_ok _, ?_⟩); (try rintro _ rfl)) | (refine wrap_succ ?_; omega))))
  all_goals (try simp only [Int.toNat_natCast] at *)
  all_goals first | omega | (simp (disch := omega) only [wrap_in]; omega) | (conv => whnf) | skip
  all_goals first
    | (exfalso; omega)
    | (rename_i i hI _; have := hI.le; omega)
    | (have hI := ‹EndI _ _ _ _›
       have hle := hI.le
       have hz := EndI.z hI
       (try simp (disch := omega) only [tn1] at *)
       (try simp (disch := omega) only [wrap_in] at *)
       (try simp only [byI] at *)
       first
         | exact congrArg (AV.i .i64) (congrArg _ (hI.done (fun _ => wd_no (by (try simp only [byI] at *); omega))).symm)
         | exact hI.next (by omega) (wd_in (by (try simp only [byI] at *); omega)))
    | trace_state
set_option maxHeartbeats 1000000 in
theorem l05Number_ok (s : ByteArray) (k : Nat) (hs : s.size ≤ 30000) (hk : k < s.size) : Ret env.P 25 [.s s, .i .i64 k] (fun r => r = .i .i64 (endF (nbP s) (s.size - k) k : Nat)) := by
  refine ret_of (nt := 39) (rvs := [.tmp 4]) Tryd.func25 rfl rfl rfl rfl (fun X => ?_)
  repeat' (first | omega | (with_reducible show (_ : Int) < _; dsimp only; omega) | (with_reducible show (_ : Nat) ≤ _; dsimp only; omega) | ((with_reducible show SrcOk _ _ _) <;> (first | exact srcOk_1 rfl | exact srcOk_L (fun _ => ⟨rfl, rfl⟩) | exact srcOk_E (fun _ => ⟨rfl, rfl⟩))) | ((conv => whnf) <;> (first | refine loopN s.size (fun i : Nat => [(1, .i .i64 ((k + i : Nat) : Int))]) (fun _ => []) (fun i => EndI (nbP s) s.size k (k + i)) ⟨EndI.self (Nat.le_of_lt hk), ?_⟩ | refine And.intro ?_ ?_ | (intro _h; first | contradiction | (try simp only [dd] at _h)) | (refine dt_go ?_) | exact rfl | exact True.intro | exact dkk | exact dks | ((first | refine .inl ⟨_, l05Digit_ok _, ?_⟩ | refine ⟨_, l05Digit_ok _, ?_⟩); (try rintro _ rfl)) | (refine wrap_succ ?_; omega))))
  all_goals (try simp only [Int.toNat_natCast] at *)
  all_goals first | omega | (simp (disch := omega) only [wrap_in]; omega) | (conv => whnf) | skip
  all_goals first
    | (exfalso; omega)
    | (rename_i i hI _; have := hI.le; omega)
    | (have hI := ‹EndI _ _ _ _›
       have hle := hI.le
       have hz := EndI.z hI
       (try simp (disch := omega) only [tn1] at *)
       (try simp (disch := omega) only [wrap_in] at *)
       (try simp only [byI] at *)
       first
         | exact congrArg (AV.i .i64) (congrArg _ (hI.done (fun _ => nb_no (by (try simp only [byI] at *); omega))).symm)
         | exact hI.next (by omega) (nb_in (by (try simp only [byI] at *); omega)))
    | trace_state
end
end Go.Proofs.YtfaadafgbhmlfaaDoor
