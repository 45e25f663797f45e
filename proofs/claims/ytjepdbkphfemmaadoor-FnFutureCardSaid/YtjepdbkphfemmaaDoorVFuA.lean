/-
  The type of 64-bit numbers: what the program says of it.
-/
import Derived.Test.YtjepdbkphfemmaaDoorVTOwn
import Derived.Test.YtjepdbkphfemmaaDoorVX
import Derived.Test.YtjepdbkphfemmaaDoorVZ
namespace Go.Proofs.YtjepdbkphfemmaaDoor
open Go Go.RowKit
set_option linter.unusedVariables false
set_option linter.unusedSimpArgs false

/-- No element. -/
def nonC : Unit → List AV := fun _ => []
def kidC : AV := slL 4 nonC []
/-- The type. -/
def tC : List AV := [.i .i64 9, .s ByteArray.empty, .nils, kidC]
theorem within_ok (x lo hi : Int) : Ret env.P 27 [.i .i64 x, .i .i64 lo, .i .i64 hi] (fun r => r = .b (decide (lo ≤ x ∧ x ≤ hi))) := by
  refine ret_of (nt := 15) (rvs := [.tmp 6]) Tryd.func27 rfl rfl rfl rfl (fun X => ?_)
  repeat' (first | exact aa | ((conv => whnf) <;> (first | refine And.intro ?_ ?_ | (intro _h; first | contradiction | (try simp only [dd] at _h)) | (refine dt_go ?_) | exact rfl | exact True.intro | exact dkk | exact dks | (refine wrap_succ ?_; omega))))
  all_goals (refine leaf_b ?_; rw [Bool.eq_iff_iff]; simp at *; omega)
theorem within_t {x lo hi : Int} (h : lo ≤ x ∧ x ≤ hi) : Ret env.P 27 [.i .i64 x, .i .i64 lo, .i .i64 hi] (fun r => r = .b true) := (within_ok x lo hi).mono fun r e => by rw [e, decide_eq_true h]
theorem within_f {x lo hi : Int} (h : ¬ (lo ≤ x ∧ x ≤ hi)) : Ret env.P 27 [.i .i64 x, .i .i64 lo, .i .i64 hi] (fun r => r = .b false) := (within_ok x lo hi).mono fun r e => by rw [e, decide_eq_false h]
set_option maxRecDepth 8000 in
theorem deep_t : Ret env.P 36 [.agg tC, .i .i64 4] (fun r => r = .i .i64 1) := by
  refine ret_of (nt := 26) (rvs := [.tmp 4]) Tryd.func36 rfl rfl rfl rfl (fun X => ?_)
  repeat' (first | exact aa | ((conv => whnf) <;> (first | refine loopN 0 (fun k => [(13, .i .i64 k), (5, .i .i64 0)]) (fun k => []) (fun k => True) ⟨trivial, ?_⟩ | refine And.intro ?_ ?_ | (intro _h; first | contradiction | (try simp only [dd] at _h)) | (refine dt_go ?_) | exact rfl | exact True.intro | exact dkk | exact dks | (refine wrap_succ ?_; omega))))
  all_goals trace_state
set_option maxRecDepth 8000 in
theorem parts_t : Ret env.P 37 [.agg tC] (fun r => r = .i .i64 1) := by
  refine ret_of (nt := 19) (rvs := [.tmp 2]) Tryd.func37 rfl rfl rfl rfl (fun X => ?_)
  repeat' (first | exact aa | ((conv => whnf) <;> (first | refine loopN 0 (fun k => [(9, .i .i64 k), (3, .i .i64 1)]) (fun k => []) (fun k => True) ⟨trivial, ?_⟩ | refine And.intro ?_ ?_ | (intro _h; first | contradiction | (try simp only [dd] at _h)) | (refine dt_go ?_) | exact rfl | exact True.intro | exact dkk | exact dks | (refine wrap_succ ?_; omega))))
  all_goals trace_state
set_option maxRecDepth 8000 in
theorem indexT0_no (g : Nat) : Ret env.P 55 [kidC, .fn g []] (fun r => r = .i .i64 (-1)) := by
  refine ret_of (nt := 19) (rvs := [.tmp 4]) Tryd.func55 rfl rfl rfl rfl (fun X => ?_)
  repeat' (first | exact aa | ((conv => whnf) <;> (first | refine loopN 0 (fun k => [(8, .i .i64 k)]) (fun k => []) (fun k => True) ⟨trivial, ?_⟩ | refine And.intro ?_ ?_ | (intro _h; first | contradiction | (try simp only [dd] at _h)) | (refine dt_go ?_) | exact rfl | exact True.intro | exact dkk | exact dks | (refine wrap_succ ?_; omega))))
set_option maxRecDepth 8000 in
theorem containsT0_no (g : Nat) : Ret env.P 40 [kidC, .fn g []] (fun r => r = .b false) := by
  refine ret_of (nt := 9) (rvs := [.tmp 4]) Tryd.func40 rfl rfl rfl rfl (fun X => ?_)
  repeat' (first | exact aa | ((conv => whnf) <;> (first | refine And.intro ?_ ?_ | (intro _h; first | contradiction | (try simp only [dd] at _h)) | (refine dt_go ?_) | exact rfl | exact True.intro | exact dkk | exact dks | ((first | refine .inl ⟨_, indexT0_no g, ?_⟩ | refine ⟨_, indexT0_no g, ?_⟩); (try rintro _ rfl)) | (refine wrap_succ ?_; omega))))
set_option maxRecDepth 8000 in
theorem indexT1_no (g : Nat) (c : List AV) : Ret env.P 55 [kidC, .fn g [rfL c]] (fun r => r = .i .i64 (-1)) := by
  refine ret_of (nt := 19) (rvs := [.tmp 4]) Tryd.func55 rfl rfl rfl rfl (fun X => ?_)
  repeat' (first | exact aa | ((conv => whnf) <;> (first | refine loopN 0 (fun k => [(8, .i .i64 k)]) (fun k => []) (fun k => True) ⟨trivial, ?_⟩ | refine And.intro ?_ ?_ | (intro _h; first | contradiction | (try simp only [dd] at _h)) | (refine dt_go ?_) | exact rfl | exact True.intro | exact dkk | exact dks | (refine wrap_succ ?_; omega))))
set_option maxRecDepth 8000 in
theorem containsT1_no (g : Nat) (c : List AV) : Ret env.P 40 [kidC, .fn g [rfL c]] (fun r => r = .b false) := by
  refine ret_of (nt := 9) (rvs := [.tmp 4]) Tryd.func40 rfl rfl rfl rfl (fun X => ?_)
  repeat' (first | exact aa | ((conv => whnf) <;> (first | refine And.intro ?_ ?_ | (intro _h; first | contradiction | (try simp only [dd] at _h)) | (refine dt_go ?_) | exact rfl | exact True.intro | exact dkk | exact dks | ((first | refine .inl ⟨_, indexT1_no g c, ?_⟩ | refine ⟨_, indexT1_no g c, ?_⟩); (try rintro _ rfl)) | (refine wrap_succ ?_; omega))))
set_option maxRecDepth 8000 in
set_option maxHeartbeats 4000000 in
theorem shapeOk_t : Ret env.P 38 [.agg tC] (fun r => r = .b true) := by
  refine ret_of (nt := 121) (rvs := [.tmp 2]) Tryd.func38 rfl rfl rfl rfl (fun X => ?_)
  repeat' (first | exact aa | ((conv => whnf) <;> (first | refine And.intro ?_ ?_ | (intro _h; first | contradiction | (try simp only [dd] at _h)) | (refine dt_go ?_) | exact rfl | exact True.intro | exact dkk | exact dks | ((first | refine .inl ⟨_, containsT0_no _, ?_⟩ | refine ⟨_, containsT0_no _, ?_⟩); (try rintro _ rfl)) | ((first | refine .inl ⟨_, within_ok _ _ _, ?_⟩ | refine ⟨_, within_ok _ _ _, ?_⟩); (try rintro _ rfl)) | (refine wrap_succ ?_; omega))))
  all_goals trace_state
set_option maxRecDepth 8000 in
theorem typeOk_t : Ret env.P 22 [.agg tC] (fun r => r = .b true) := by
  refine ret_of (nt := 15) (rvs := [.tmp 2]) Tryd.func22 rfl rfl rfl rfl (fun X => ?_)
  repeat' (first | exact aa | ((conv => whnf) <;> (first | refine And.intro ?_ ?_ | (intro _h; first | contradiction | (try simp only [dd] at _h)) | (refine dt_go ?_) | exact rfl | exact True.intro | exact dkk | exact dks | ((first | refine .inl ⟨_, deep_t, ?_⟩ | refine ⟨_, deep_t, ?_⟩); (try rintro _ rfl)) | ((first | refine .inl ⟨_, parts_t, ?_⟩ | refine ⟨_, parts_t, ?_⟩); (try rintro _ rfl)) | ((first | refine .inl ⟨_, shapeOk_t, ?_⟩ | refine ⟨_, shapeOk_t, ?_⟩); (try rintro _ rfl)) | (refine wrap_succ ?_; omega))))
  all_goals trace_state
set_option maxRecDepth 8000 in
theorem isUnit_t : Ret env.P 23 [.agg tC] (fun r => r = .b false) := by
  refine ret_of (nt := 6) (rvs := [.tmp 2]) Tryd.func23 rfl rfl rfl rfl (fun X => ?_)
  repeat' (first | exact aa | ((conv => whnf) <;> (first | refine And.intro ?_ ?_ | (intro _h; first | contradiction | (try simp only [dd] at _h)) | (refine dt_go ?_) | exact rfl | exact True.intro | exact dkk | exact dks | (refine wrap_succ ?_; omega))))
  all_goals trace_state
def kindsL : List Int := [20, 21, 22, 23]
theorem kindsL_len : kindsL.length = 4 := rfl
theorem kindsL_no {k : Nat} (h : k < kindsL.length) : ¬ (9 = kindsL.getD (Int.toNat (k : Int)) default) := by
  rw [Int.toNat_natCast]
  rw [kindsL_len] at h
  have : k = 0 ∨ k = 1 ∨ k = 2 ∨ k = 3 := by omega
  rcases this with rfl | rfl | rfl | rfl <;> decide
set_option maxRecDepth 8000 in
theorem indexK_no : Ret env.P 54 [slL 1 intC kindsL, .i .i64 9] (fun r => r = .i .i64 (-1)) := by
  refine ret_of (nt := 19) (rvs := [.tmp 4]) Tryd.func54 rfl rfl rfl rfl (fun X => ?_)
  repeat' (first | exact aa | ((conv => whnf) <;> (first | (exfalso; exact absurd ‹(9 : Int) = _› (kindsL_no (by omega))) | exact wrap_in (by omega) (by have := kindsL_len; omega) | refine loopN kindsL.length (fun k => [(8, .i .i64 k)]) (fun k => []) (fun k => True) ⟨trivial, ?_⟩ | refine And.intro ?_ ?_ | (intro _h; first | contradiction | (try simp only [dd] at _h)) | (refine dt_go ?_) | exact rfl | exact True.intro | exact dkk | exact dks | (refine wrap_succ ?_; omega))))
  all_goals trace_state
set_option maxRecDepth 8000 in
theorem containsK_no : Ret env.P 39 [slL 1 intC kindsL, .i .i64 9] (fun r => r = .b false) := by
  refine ret_of (nt := 9) (rvs := [.tmp 4]) Tryd.func39 rfl rfl rfl rfl (fun X => ?_)
  repeat' (first | exact aa | ((conv => whnf) <;> (first | refine And.intro ?_ ?_ | (intro _h; first | contradiction | (try simp only [dd] at _h)) | (refine dt_go ?_) | exact rfl | exact True.intro | exact dkk | exact dks | ((first | refine .inl ⟨_, indexK_no, ?_⟩ | refine ⟨_, indexK_no, ?_⟩); (try rintro _ rfl)) | (refine wrap_succ ?_; omega))))
set_option maxRecDepth 8000 in
theorem hasKind_t : Ret env.P 24 [.agg tC, slL 1 intC kindsL] (fun r => r = .b false) := by
  refine ret_of (nt := 15) (rvs := [.tmp 4]) Tryd.func24 rfl rfl rfl rfl (fun X => ?_)
  repeat' (first | exact aa | ((conv => whnf) <;> (first | refine And.intro ?_ ?_ | (intro _h; first | contradiction | (try simp only [dd] at _h)) | (refine dt_go ?_) | exact rfl | exact True.intro | exact dkk | exact dks | ((first | refine .inl ⟨_, containsK_no, ?_⟩ | refine ⟨_, containsK_no, ?_⟩); (try rintro _ rfl)) | ((first | refine .inl ⟨_, Ret.wka (containsT1_no 41 [slL 1 intC kindsL]), ?_⟩ | refine ⟨_, Ret.wka (containsT1_no 41 [slL 1 intC kindsL]), ?_⟩); (try rintro _ rfl)) | (refine wrap_succ ?_; omega))))
theorem kinds_sl {g : Nat → Nat → AV} (h0 : g 0 0 = .i .i64 20) (h1 : g 1 0 = .i .i64 21) (h2 : g 2 0 = .i .i64 22) (h3 : g 3 0 = .i .i64 23) : Wk (.sl 1 4 g) (slL 1 intC kindsL) := Wk.sl' rfl rfl fun i j hi hj => by
  obtain rfl : j = 0 := by omega
  have : i = 0 ∨ i = 1 ∨ i = 2 ∨ i = 3 := by omega
  rcases this with rfl | rfl | rfl | rfl
  · rw [h0]; exact .refl _
  · rw [h1]; exact .refl _
  · rw [h2]; exact .refl _
  · rw [h3]; exact .refl _
set_option maxRecDepth 8000 in
theorem streamable_t : Ret env.P 11 [.agg tC] (fun r => r = .b true) := by
  refine ret_of (nt := 16) (rvs := [.tmp 2]) Tryd.func11 rfl rfl rfl rfl (fun X => ?_)
  repeat' (first | exact aa | ((conv => whnf) <;> (first | ((first | refine .inl ⟨_, Ret.wk (.cons (Wk.refl _) (.cons (kinds_sl rfl rfl rfl rfl) .nil)) hasKind_t, ?_⟩ | refine ⟨_, Ret.wk (.cons (Wk.refl _) (.cons (kinds_sl rfl rfl rfl rfl) .nil)) hasKind_t, ?_⟩); (try rintro _ rfl)) | refine And.intro ?_ ?_ | (intro _h; first | contradiction | (try simp only [dd] at _h)) | (refine dt_go ?_) | exact rfl | exact True.intro | exact dkk | exact dks | ((first | refine .inl ⟨_, typeOk_t, ?_⟩ | refine ⟨_, typeOk_t, ?_⟩); (try rintro _ rfl)) | ((first | refine .inl ⟨_, isUnit_t, ?_⟩ | refine ⟨_, isUnit_t, ?_⟩); (try rintro _ rfl)) | (refine wrap_succ ?_; omega))))
end Go.Proofs.YtjepdbkphfemmaaDoor
