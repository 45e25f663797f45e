/-
  []string: what the laws' functions for it do. Printed by fam.py.
-/
import Derived.Test.YtgjihfinbaopcaaVU
import Derived.Test.YtgjihfinbaopcaaVTBase
namespace Go.Proofs.Ytgjihfinbaopcaa
open Go Go.RowKit
set_option linter.unusedVariables false
set_option linter.unusedSimpArgs false

set_option maxRecDepth 8000 in
theorem toStringS_ok (l : List ByteArray) (h : okL okS l) : Ret env.P 20 [slL 1 strC l] (fun r => r = slL 1 strC l) := by
  have hl := h.1
  refine Ret.to ?_
  refine ret_of (nt := 22) (rvs := [.tmp 2]) Try.func20 rfl rfl rfl rfl (fun X => ?_)
  conv => whnf
  refine ⟨⟨by omega, by omega, by dsimp only; omega, by omega⟩, ?_⟩
  conv => whnf
  refine loopN l.length (fun k => [(4, .i .i64 k)]) (fun k => [some (.arr ⟨1, l.length, fillE k (elE strC l) (fun _ j => [AV.s ByteArray.empty].getD j .any), .arr⟩)]) (fun k => True) ⟨trivial, ?_⟩
  repeat' (first | exact aa | ((conv => whnf) <;> (first | exact arr_start rfl (fun _ _ => low_cells (rfl : (strC _).all (low1 0) = true)) (fun _ _ => low_cells rfl) | exact arr_round rfl rfl (fun _ _ => rfl) (fun _ _ => low_cells (rfl : (strC _).all (low1 0) = true)) (fun _ _ => low_cells rfl) | refine And.intro ?_ ?_ | (intro _h; first | contradiction | (try simp only [dd] at _h)) | (refine dt_go ?_) | exact rfl | exact True.intro | exact dkk | exact dks | (refine wrap_succ ?_; omega))))
  exact wk_fill rfl (by omega) rfl (fun _ => rfl)

set_option maxRecDepth 8000 in
theorem eqStringS_ok (l m : List ByteArray) (h : okL okS l) : Ret env.P 25 [slL 1 strC l, slL 1 strC m] (fun r => r = .b (decide (l = m))) := by
  have hl := h.1
  refine ret_of (nt := 26) (rvs := [.tmp 4]) Try.func25 rfl rfl rfl rfl (fun X => ?_)
  repeat' (first | exact aa | ((conv => whnf) <;> (first | exact upto_succ (by assumption) (by assumption) | refine loopN l.length (fun k => [(5, .i .i64 k)]) (fun k => []) (fun k => ∀ j, j < k → l.getD j default = m.getD j default) ⟨fun _ h => by omega, ?_⟩ | refine And.intro ?_ ?_ | (intro _h; first | contradiction | (try simp only [dd] at _h)) | (refine dt_go ?_) | exact rfl | exact True.intro | exact dkk | exact dks | (refine wrap_succ ?_; omega))))
  · exact leaf_ne (by rintro rfl; omega)
  · exact leaf_ne (by rintro rfl; contradiction)
  · exact leaf_eq (list_eq (by omega) fun j hj => by have := ‹∀ j, j < _ → l.getD j default = m.getD j default›; exact this j (by omega))

set_option maxRecDepth 8000 in
theorem szStringS_ok (l : List ByteArray) (left : Int) (h0 : 0 ≤ left) (h1 : left ≤ 1048576) : Ret env.P 16 [slL 1 strC l, .i .i64 left] (fun r => r = .i .i64 (szLs szSt l left)) := by
  refine Ret.args fun hw => ?_
  have hl := wfs_sl (hw _ (List.mem_cons_self))
  have hz : ∀ k, k < l.length → (l.getD k default).size ≤ 9223372036854775807 := fun k hk => (hw _ (List.mem_cons_self)).2 k 0 hk Nat.zero_lt_one
  have e : IntKind.i64.wrap (left - (l.length : Int)) = left - (l.length : Int) := wrap_in (by omega) (by omega)
  refine ret_of (nt := 28) (rvs := [.tmp 4]) Try.func16 rfl rfl rfl rfl (fun X => ?_)
  conv => whnf
  rw [e]
  refine ⟨fun _h => ?_, fun _h => ?_⟩
  · exact leaf_i (szLs_neg (of_decide_eq_true _h))
  have _h : ¬ (left - (l.length : Int) < 0) := fun hc => _h (decide_eq_true hc)
  conv => whnf
  refine loopN l.length (fun k => [(5, .i .i64 k), (1, .i .i64 (szAt szSt l (left - l.length) k))]) (fun k => []) (fun k => SzI szSt l (left - l.length) k) ⟨.start (by omega) (by omega), ?_⟩
  have hwr : ∀ k, SzI szSt l (left - l.length) k → (k : Int) < (l.length : Int) → IntKind.i64.wrap (szAt szSt l (left - l.length) k - ((l.getD k default).size : Int)) = szAt szSt l (left - l.length) k - ((l.getD k default).size : Int) := fun k hI hlt => by
    have q1 := hI.lo
    have q2 := hI.hi
    have q3 := hz k (by omega)
    exact wrap_in (by omega) (by omega)
  repeat' (first | exact aa | ((conv => whnf) <;> (first | refine And.intro ?_ ?_ | (intro _h; first | contradiction | (try simp only [dd] at _h)) | (refine dt_go ?_) | exact rfl | exact True.intro | exact dkk | exact dks | (refine wrap_succ ?_; omega))))
  all_goals (try simp only [Int.toNat_natCast] at *)
  · rename_i k hk hI hlt
    rw [hwr k hI hlt] at _h
    conv => whnf
    exact leaf_i (hI.neg hlt (szSt_neg _h) (by assumption))
  · rename_i k hk hI hlt
    rw [hwr k hI hlt] at _h
    exact hI.step (fun a v h => szN_le h) hlt (szSt_pos _h)
  · rename_i k hk hI hlt
    rw [hwr k hI hlt] at _h ⊢
    exact szSt_eq (szSt_pos _h)
  · rename_i k hk hI
    conv => whnf
    exact leaf_i (hI.fin _h (by assumption))

end Go.Proofs.Ytgjihfinbaopcaa
