/-
  Numbers drawn from bytes.
-/
import Derived.Test.YtjepdbkphfemmaaDoorVFuI
namespace Go.Proofs.YtjepdbkphfemmaaDoor
open Go Go.RowKit
set_option linter.unusedVariables false
set_option linter.unusedSimpArgs false
attribute [local irreducible] IntKind.wrap

def byteC (b : UInt8) : List AV := [.i .u8 b.toNat]
theorem rd_u8 {P : Program} {t : TypeId} (hu : P.underlying t = some (.int .u8)) : Rd P t UInt8 byteC := fun cs h => by
  obtain ⟨n, rfl, hw⟩ := h.int_inv hu
  have h2 : 0 ≤ n ∧ n ≤ 255 := by
    simp only [Lit.wf, Bool.and_eq_true, decide_eq_true_eq] at hw
    exact hw
  refine ⟨UInt8.ofNat n.toNat, .cons ?_ .nil⟩
  have e : ((UInt8.ofNat n.toNat).toNat : Int) = n := by
    rw [UInt8.toNat_ofNat']; omega
  show Wk (.i .u8 n) (.i .u8 ((UInt8.ofNat n.toNat).toNat : Int))
  rw [e]; exact .refl _
set_option maxRecDepth 8000 in
theorem c2Big_ok (l : List UInt8) : Ret env.P 4 [slL 1 byteC l, .nils] (fun r => r = .b (pb (1048576 < (l.length : Int)))) := by
  refine ret_of (nt := 13) (rvs := [.tmp 4]) Tryd.func4 rfl rfl rfl rfl (fun X => ?_)
  repeat' (first | exact aa | ((conv => whnf) <;> (first | refine And.intro ?_ ?_ | (intro _h; first | contradiction | (try simp only [dd] at _h)) | (refine dt_go ?_) | exact rfl | exact True.intro | exact dkk | exact dks | (refine wrap_succ ?_; omega))))
  all_goals (conv => whnf)
  all_goals first | exact leaf_b (pb_f.mpr ‹_›).symm | exact leaf_b (pb_t.mpr ‹_›).symm | exact leaf_b (pb_f.mpr ‹_›) | exact leaf_b (pb_t.mpr ‹_›) | trace_state
/-- A number below n, from the byte i. -/
def c2V (l : List UInt8) (i n : Nat) : Int := if i < l.length then (((l.getD i default).toNat % n : Nat) : Int) else ((i * 29 + 5) % n : Nat)
theorem c2V_lt (l : List UInt8) (i n : Nat) (h : 0 < n) : 0 ≤ c2V l i n ∧ c2V l i n < n := by
  unfold c2V
  have h1 := Nat.mod_lt (l.getD i default).toNat h
  have h2 := Nat.mod_lt (i * 29 + 5) h
  split <;> omega
theorem c2_in {l : List UInt8} {i n : Nat} (h : i < l.length) : (IntKind.i64.wrap ((l.getD i default).toNat : Int)).tmod (n : Int) = c2V l i n := by
  have := (l.getD i default).toNat_lt
  have e : IntKind.i64.wrap ((l.getD i default).toNat : Int) = ((l.getD i default).toNat : Int) := wrap_in (by omega) (by omega)
  rw [e, Int.tmod_eq_emod_of_nonneg (by omega), ← Int.natCast_emod]
  exact (if_pos h).symm
theorem c2_out {l : List UInt8} {i n : Nat} (h : ¬ i < l.length) (hi : i ≤ 8) : (IntKind.i64.wrap (IntKind.i64.wrap ((i : Int) * 29) + 5)).tmod (n : Int) = c2V l i n := by
  have e : IntKind.i64.wrap ((i : Int) * 29) = (i : Int) * 29 := wrap_in (by omega) (by omega)
  have e2 : IntKind.i64.wrap ((i : Int) * 29 + 5) = ((i * 29 + 5 : Nat) : Int) := by rw [wrap_in (by omega) (by omega)]; omega
  rw [e, e2, Int.tmod_eq_emod_of_nonneg (by omega), ← Int.natCast_emod]
  exact (if_neg h).symm
set_option maxRecDepth 8000 in
theorem c2At_0 (l : List UInt8) (hl : l.length ≤ 1048576) : Ret env.P 6 [slL 1 byteC l, .i .i64 0, .i .i64 100] (fun r => r = .i .i64 (c2V l 0 100)) := by
  refine ret_of (nt := 25) (rvs := [.tmp 6]) Tryd.func6 rfl rfl rfl rfl (fun X => ?_)
  repeat' (first | exact aa | ((conv => whnf) <;> (first | refine And.intro ?_ ?_ | (intro _h; first | contradiction | (try simp only [dd] at _h)) | (refine dt_go ?_) | exact rfl | exact True.intro | exact dkk | exact dks | (refine wrap_succ ?_; omega))))
  all_goals (try (conv => whnf))
  · exact leaf_i (c2_in (i := 0) (n := 100) (by omega))
  · exact leaf_i (c2_out (i := 0) (n := 100) (by omega) (by omega))
set_option maxRecDepth 8000 in
theorem c2At_1 (l : List UInt8) (hl : l.length ≤ 1048576) : Ret env.P 6 [slL 1 byteC l, .i .i64 1, .i .i64 8] (fun r => r = .i .i64 (c2V l 1 8)) := by
  refine ret_of (nt := 25) (rvs := [.tmp 6]) Tryd.func6 rfl rfl rfl rfl (fun X => ?_)
  repeat' (first | exact aa | ((conv => whnf) <;> (first | refine And.intro ?_ ?_ | (intro _h; first | contradiction | (try simp only [dd] at _h)) | (refine dt_go ?_) | exact rfl | exact True.intro | exact dkk | exact dks | (refine wrap_succ ?_; omega))))
  all_goals (try (conv => whnf))
  · exact leaf_i (c2_in (i := 1) (n := 8) (by omega))
  · exact leaf_i (c2_out (i := 1) (n := 8) (by omega) (by omega))
end Go.Proofs.YtjepdbkphfemmaaDoor
