/-
  64-bit numbers: that they fit their type.
-/
import Derived.Test.YtjepdbkphfemmaaDoorVFuA
namespace Go.Proofs.YtjepdbkphfemmaaDoor
open Go Go.RowKit
set_option linter.unusedVariables false
set_option linter.unusedSimpArgs false

def n64 (n : Int) : Prop := -9223372036854775808 ≤ n ∧ n ≤ 9223372036854775807
/-- A number. -/
def vC (n : Int) : List AV := [.i .i64 9, .i .i64 n, .s ByteArray.empty, kidC]
set_option maxRecDepth 8000 in
theorem numRange_t : Ret env.P 42 [.i .i64 9] (fun r => r = .tup [.i .i64 (-9223372036854775808), .i .i64 9223372036854775807, .b true]) := by
  refine ret_of (nt := 20) (rvs := [.tmp 2, .tmp 3, .tmp 4]) Tryd.func42 rfl rfl rfl rfl (fun X => ?_)
  repeat' (first | exact aa | ((conv => whnf) <;> (first | refine And.intro ?_ ?_ | (intro _h; first | contradiction | (try simp only [dd] at _h)) | (refine dt_go ?_) | exact rfl | exact True.intro | exact dkk | exact dks | (refine wrap_succ ?_; omega))))
set_option maxRecDepth 8000 in
theorem numOk_t (n : Int) (h : n64 n) : Ret env.P 32 [.agg (vC n), .agg tC] (fun r => r = .b true) := by
  have hw := within_t h
  refine ret_of (nt := 57) (rvs := [.tmp 4]) Tryd.func32 rfl rfl rfl rfl (fun X => ?_)
  repeat' (first | exact aa | ((conv => whnf) <;> (first | refine And.intro ?_ ?_ | (intro _h; first | contradiction | (try simp only [dd] at _h)) | (refine dt_go ?_) | exact rfl | exact True.intro | exact dkk | exact dks | ((first | refine .inl ⟨_, numRange_t, ?_⟩ | refine ⟨_, numRange_t, ?_⟩); (try rintro _ rfl)) | ((first | refine .inl ⟨_, hw, ?_⟩ | refine ⟨_, hw, ?_⟩); (try rintro _ rfl)) | (refine wrap_succ ?_; omega))))
  all_goals trace_state
set_option maxRecDepth 8000 in
set_option maxHeartbeats 4000000 in
theorem validString_e : Ret env.P 45 [.s ByteArray.empty] (fun r => r = .b true) := by
  refine ret_of (nt := 169) (rvs := [.tmp 2]) Tryd.func45 rfl rfl rfl rfl (fun X => ?_)
  repeat' (first | exact aa | ((conv => whnf) <;> (first | refine loopN 0 (fun k => [(0, .s ByteArray.empty)]) (fun k => []) (fun k => True) ⟨trivial, ?_⟩ | refine And.intro ?_ ?_ | (intro _h; first | contradiction | (try simp only [dd] at _h)) | (refine dt_go ?_) | exact rfl | exact True.intro | exact dkk | exact dks | (refine wrap_succ ?_; omega))))
  all_goals trace_state
set_option maxRecDepth 8000 in
theorem textOk_e : Ret env.P 33 [.s ByteArray.empty] (fun r => r = .b true) := by
  refine ret_of (nt := 10) (rvs := [.tmp 2]) Tryd.func33 rfl rfl rfl rfl (fun X => ?_)
  repeat' (first | exact aa | ((conv => whnf) <;> (first | refine And.intro ?_ ?_ | (intro _h; first | contradiction | (try simp only [dd] at _h)) | (refine dt_go ?_) | exact rfl | exact True.intro | exact dkk | exact dks | ((first | refine .inl ⟨_, validString_e, ?_⟩ | refine ⟨_, validString_e, ?_⟩); (try rintro _ rfl)) | (refine wrap_succ ?_; omega))))
  all_goals trace_state
set_option maxRecDepth 8000 in
theorem kidTypes_t (n : Int) : Ret env.P 34 [.agg (vC n), .agg tC] (fun r => r = .tup [.nils, .b true]) := by
  refine ret_of (nt := 41) (rvs := [.tmp 4, .tmp 5]) Tryd.func34 rfl rfl rfl rfl (fun X => ?_)
  repeat' (first | exact aa | ((conv => whnf) <;> (first | refine And.intro ?_ ?_ | (intro _h; first | contradiction | (try simp only [dd] at _h)) | (refine dt_go ?_) | exact rfl | exact True.intro | exact dkk | exact dks | (refine wrap_succ ?_; omega))))
  all_goals trace_state
set_option maxRecDepth 8000 in
theorem fits_t (n : Int) (h : n64 n) : Ret env.P 18 [.agg (vC n), .agg tC] (fun r => r = .b true) := by
  refine ret_of (nt := 68) (rvs := [.tmp 4]) Tryd.func18 rfl rfl rfl rfl (fun X => ?_)
  repeat' (first | exact aa | ((conv => whnf) <;> (first | refine loopN 0 (fun k => [(55, .i .i64 k)]) (fun k => []) (fun k => True) ⟨trivial, ?_⟩ | refine And.intro ?_ ?_ | (intro _h; first | contradiction | (try simp only [dd] at _h)) | (refine dt_go ?_) | exact rfl | exact True.intro | exact dkk | exact dks | ((first | refine .inl ⟨_, numOk_t n h, ?_⟩ | refine ⟨_, numOk_t n h, ?_⟩); (try rintro _ rfl)) | ((first | refine .inl ⟨_, textOk_e, ?_⟩ | refine ⟨_, textOk_e, ?_⟩); (try rintro _ rfl)) | ((first | refine .inl ⟨_, kidTypes_t n, ?_⟩ | refine ⟨_, kidTypes_t n, ?_⟩); (try rintro _ rfl)) | (refine wrap_succ ?_; omega))))
  all_goals trace_state
/-- A stream's cells: what is in it, how many were put and got, whether it is shut. -/
def fuC (l : List Int) (put got : Int) (shut : Bool) : List AV := tC ++ [.i .i64 1, .b true, slL 4 vC l, .i .i64 put, .i .i64 got, .b shut, .b false]
set_option maxRecDepth 8000 in
theorem streamOk1_t (n : Int) (h : n64 n) (l : List Int) (put got : Int) (shut : Bool) : Ret env.P 29 [.agg (vC n), rfL (fuC l put got shut)] (fun r => r = .b false) := by
  refine ret_of (nt := 9) (rvs := [.tmp 3]) Tryd.func29 rfl rfl rfl rfl (fun X => ?_)
  repeat' (first | exact aa | ((conv => whnf) <;> (first | refine And.intro ?_ ?_ | (intro _h; first | contradiction | (try simp only [dd] at _h)) | (refine dt_go ?_) | exact rfl | exact True.intro | exact dkk | exact dks | ((first | refine .inl ⟨_, fits_t n h, ?_⟩ | refine ⟨_, fits_t n h, ?_⟩); (try rintro _ rfl)) | (refine wrap_succ ?_; omega))))
  all_goals trace_state
set_option maxRecDepth 8000 in
theorem writeStream1_t (n : Int) (h : n64 n) (l : List Int) (put got : Int) (shut : Bool) : Ret env.P 17 [.agg (vC n), rfL (fuC l put got shut)] (fun r => r = .b false) := by
  refine ret_of (nt := 9) (rvs := [.tmp 3]) Tryd.func17 rfl rfl rfl rfl (fun X => ?_)
  repeat' (first | exact aa | ((conv => whnf) <;> (first | refine And.intro ?_ ?_ | (intro _h; first | contradiction | (try simp only [dd] at _h)) | (refine dt_go ?_) | exact rfl | exact True.intro | exact dkk | exact dks | ((first | refine .inl ⟨_, fits_t n h, ?_⟩ | refine ⟨_, fits_t n h, ?_⟩); (try rintro _ rfl)) | (refine wrap_succ ?_; omega))))
  all_goals trace_state
end Go.Proofs.YtjepdbkphfemmaaDoor
