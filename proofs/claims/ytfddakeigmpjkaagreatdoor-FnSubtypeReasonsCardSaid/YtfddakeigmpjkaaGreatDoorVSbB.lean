/-
  Subtypes: the reference's functions (all but the recursive one).
-/
import Derived.Test.YtfddakeigmpjkaaGreatDoorVSbA
import Derived.Test.YtfddakeigmpjkaaGreatDoorVTpB
namespace Go.Proofs.YtfddakeigmpjkaaGreatDoor
open Go Go.RowKit
set_option linter.unusedVariables false
set_option linter.unusedSimpArgs false
theorem dig10 {n : Nat} (h : n < 10) : n = 0 ∨ n = 1 ∨ n = 2 ∨ n = 3 ∨ n = 4 ∨ n = 5 ∨ n = 6 ∨ n = 7 ∨ n = 8 ∨ n = 9 := by omega
theorem dig_eq {n : Nat} (h : n < 10) : AV.s (bytesOf 1 (litE [[.i .u8 (IntKind.u8.wrap (IntKind.i64.wrap (48 + (n : Int))))]])) = .s (digB n) := by
  rcases dig10 h with rfl | rfl | rfl | rfl | rfl | rfl | rfl | rfl | rfl | rfl <;> rfl
theorem bytes_1 {css : List AV} {v : Int} : Bytes 1 (litE [.i .u8 v :: css]) := ⟨fun i hi => by
  obtain rfl : i = 0 := Nat.lt_one_iff.1 hi
  exact ⟨v, rfl⟩⟩
attribute [local irreducible] IntKind.wrap

def rsK (o : Option Rsn) : Int := match o with | some r => r.1 | none => 0
def rsT (o : Option Rsn) : ByteArray := match o with | some r => r.2 | none => ByteArray.empty
def rsB (o : Option Rsn) : Bool := match o with | some _ => true | none => false
/-- What a function returns that looks for a reason. -/
def rsV (o : Option Rsn) : AV := .tup [.agg [.i .i64 (rsK o), .s (rsT o)], .b (rsB o)]
theorem rs_some {o o' : Option Rsn} (h : rsB o = true) (e : o' = o) : AV.tup [.agg [.i .i64 (rsK o), .s (rsT o)], .b true] = rsV o' := by
  subst e
  unfold rsV
  rw [h]
theorem rs_is {o : Option Rsn} (h : rsB o = true) : ∃ r, o = some r := by
  cases o with
  | none => cases h
  | some r => exact ⟨r, rfl⟩
theorem rs_no {o : Option Rsn} (h : ¬ rsB o = true) : o = none := by
  cases o with
  | none => rfl
  | some r => exact absurd rfl h
theorem rs_nof {o : Option Rsn} (h : rsB o = false) : o = none := rs_no (by rw [h]; decide)
/-! Numbers. -/
theorem numR_no {k : Int} (h : ¬ numK k) : AV.tup [.i .i64 0, .i .i64 0, .b false] = .tup [.i .i64 (lowK k), .i .i64 (highK k), .b (decide (numK k))] := by
  rw [decide_eq_false h]
  unfold numK at h
  unfold lowK highK
  rw [if_neg (by omega), if_neg (by omega), if_neg (by omega), if_neg (by omega), if_neg (by omega), if_neg (by omega), if_neg (by omega), if_neg (by omega), if_neg (by omega), if_neg (by omega), if_neg (by omega)]
theorem numRangeS_ok (k : Int) : Ret env.P 57 [.i .i64 k] (fun r => r = .tup [.i .i64 (lowK k), .i .i64 (highK k), .b (decide (numK k))]) := by
  refine ret_of (nt := 20) (rvs := [.tmp 2, .tmp 3, .tmp 4]) Tryz.func57 rfl rfl rfl rfl (fun X => ?_)
  repeat' (first | exact aa | ((conv => whnf) <;> (first | refine And.intro ?_ ?_ | (intro _h; first | contradiction | (try simp only [dd] at _h)) | (refine dt_go ?_) | exact rfl | exact True.intro | exact dkk | exact dks | (refine wrap_succ ?_; omega))))
  all_goals (conv => whnf)
  all_goals first
    | exact numR_no (by unfold numK; omega)
    | (obtain rfl := ‹k = _›; rfl)
    | trace_state
theorem numberS_ok (k : Int) : Ret env.P 35 [.i .i64 k] (fun r => r = .b (decide (numK k))) := by
  have h := l00In_ok k 3 9
  refine ret_of (nt := 5) (rvs := [.tmp 2]) Tryz.func35 rfl rfl rfl rfl (fun X => ?_)
  repeat' (first | exact aa | ((conv => whnf) <;> (first | refine And.intro ?_ ?_ | (intro _h; first | contradiction | (try simp only [dd] at _h)) | (refine dt_go ?_) | exact rfl | exact True.intro | exact dkk | exact dks | ((first | refine .inl ⟨_, h, ?_⟩ | refine ⟨_, h, ?_⟩); (try rintro _ rfl)) | (refine wrap_succ ?_; omega))))
theorem withinS_ok (a b : Int) : Ret env.P 37 [.i .i64 a, .i .i64 b] (fun r => r = .b (decide (widK a b))) := by
  refine ret_of (nt := 31) (rvs := [.tmp 4]) Tryz.func37 rfl rfl rfl rfl (fun X => ?_)
  repeat' (first | exact aa | ((conv => whnf) <;> (first | refine And.intro ?_ ?_ | (intro _h; first | contradiction | (try simp only [dd] at _h)) | (refine dt_go ?_) | exact rfl | exact True.intro | exact dkk | exact dks | ((first | refine .inl ⟨_, numRangeS_ok _, ?_⟩ | refine ⟨_, numRangeS_ok _, ?_⟩); (try rintro _ rfl)) | (refine wrap_succ ?_; omega))))
  all_goals (conv => whnf)
  all_goals first
    | exact leaf_b (by rw [decide_eq_decide]; unfold widK; omega)
    | exact leaf_b (by symm; rw [decide_eq_false_iff_not]; unfold widK; omega)
    | trace_state
/-! Labels. -/
structure NoTo (l : List ByteArray) (s : ByteArray) (k : Nat) : Prop where
  h : ∀ j, j < k → ¬ l.getD j default = s
theorem NoTo.zero (l : List ByteArray) (s : ByteArray) : NoTo l s 0 := ⟨fun j hj => absurd hj (Nat.not_lt_zero _)⟩
theorem NoTo.next {l : List ByteArray} {s : ByteArray} {k : Nat} (h : NoTo l s k) (h1 : ¬ l.getD k default = s) : NoTo l s (k + 1) := ⟨fun j hj => by
  rcases Nat.lt_or_eq_of_le (Nat.le_of_lt_succ hj) with q | rfl
  · exact h.h j q
  · exact h1⟩
theorem NoTo.found {l : List ByteArray} {s : ByteArray} {k : Nat} (h : NoTo l s k) (hk : k < l.length) (h1 : l.getD k default = s) : (k : Int) = plI l s := (pl_at ⟨hk, h1, h.h⟩).symm
theorem NoTo.no {l : List ByteArray} {s : ByteArray} {k : Nat} (h : NoTo l s k) (hk : l.length ≤ k) : (-1 : Int) = plI l s := (pl_no fun j hj => h.h j (by omega)).symm
theorem labelS_ok (l : List ByteArray) (s : ByteArray) (hl : l.length ≤ 1048576) : Ret env.P 53 [slL 1 strC l, .s s] (fun r => r = .i .i64 (plI l s)) := by
  refine ret_of (nt := 19) (rvs := [.tmp 4]) Tryz.func53 rfl rfl rfl rfl (fun X => ?_)
  repeat' (first | exact aa | ((conv => whnf) <;> (first | refine loopN l.length (fun k => [(5, .i .i64 k)]) (fun k => []) (fun k => NoTo l s k) ⟨.zero l s, ?_⟩ | exact NoTo.next ‹_› ‹_› | refine And.intro ?_ ?_ | (intro _h; first | contradiction | (try simp only [dd] at _h)) | (refine dt_go ?_) | exact rfl | exact True.intro | exact dkk | exact dks | (refine wrap_succ ?_; omega))))
  all_goals (try simp only [Int.toNat_natCast] at *)
  all_goals (conv => whnf)
  all_goals first
    | exact NoTo.next ‹_› ‹_›
    | exact leaf_i (NoTo.found ‹_› (by omega) ‹_›)
    | exact leaf_i (NoTo.no ‹_› (by omega))
    | trace_state
theorem noS_ok (k : Int) (s : ByteArray) : Ret env.P 49 [.i .i64 k, .s s] (fun r => r = rsV (some (k, s))) := by
  refine ret_of (nt := 9) (rvs := [.cell 4 34, .tmp 5]) Tryz.func49 rfl rfl rfl rfl (fun X => ?_)
  repeat' (first | exact aa | ((conv => whnf) <;> (first | refine And.intro ?_ ?_ | (intro _h; first | contradiction | (try simp only [dd] at _h)) | (refine dt_go ?_) | exact rfl | exact True.intro | exact dkk | exact dks | (refine wrap_succ ?_; omega))))
theorem digitsS_ok (n : Nat) (h : n < 10) : Ret env.P 83 [.i .i64 (n : Int)] (fun r => r = .s (digB n)) := by
  refine ret_of (nt := 28) (rvs := [.tmp 2]) Tryz.func83 rfl rfl rfl rfl (fun X => ?_)
  repeat' (first | exact aa | ((conv => whnf) <;> (first | exact bytes_1 | exact dig_eq h | refine And.intro ?_ ?_ | (intro _h; first | contradiction | (try simp only [dd] at _h)) | (refine dt_go ?_) | exact rfl | exact True.intro | exact dkk | exact dks | (refine wrap_succ ?_; omega))))
  all_goals (conv => whnf)
  all_goals exact dig_eq h
end Go.Proofs.YtfddakeigmpjkaaGreatDoor
