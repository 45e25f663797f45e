/-
  Block: what the laws' functions for it do. Printed by fam.py.
-/
import Derived.Test.YtkajnhnmlgogeaaVU
import Derived.Test.YtkajnhnmlgogeaaVTBase
namespace Go.Proofs.Ytkajnhnmlgogeaa
open Go Go.RowKit
set_option linter.unusedVariables false
set_option linter.unusedSimpArgs false

structure Block where
  at_ : Int
  size : Int
  deriving DecidableEq, Inhabited
def Block.cs (a : Block) : List AV := [.i .i64 a.at_, .i .i64 a.size]
theorem Block.low (a : Block) : a.cs.all (low1 0) = true := rfl
theorem Block.eta {a b : Block} (h0 : a.at_ = b.at_) (h1 : a.size = b.size) : a = b := by cases a; cases b; simp_all
theorem Block.etaC {a b : Block} (h : a.at_ = b.at_ ∧ a.size = b.size) : a = b := by cases a; cases b; simp_all
def Block.ok (a : Block) : Prop := True

set_option maxRecDepth 8000 in
theorem toBlock_ok (a : Block) (h : Block.ok a) : Ret env.P 28 [.agg a.cs] (fun r => r = .agg a.cs) := by
  refine ret_of (nt := 11) (rvs := [.cell 2 50]) Try.func28 rfl rfl rfl rfl (fun X => ?_)
  exact rfl

set_option maxRecDepth 8000 in
theorem eqBlock_ok (a b : Block) (h : Block.ok a) : Ret env.P 33 [.agg a.cs, .agg b.cs] (fun r => r = .b (decide (a = b))) := by
  obtain ⟨a0, a1⟩ := a
  obtain ⟨b0, b1⟩ := b
  refine ret_of (nt := 15) (rvs := [.tmp 4]) Try.func33 rfl rfl rfl rfl (fun X => ?_)
  repeat' (first | exact aa | ((conv => whnf) <;> (first | refine And.intro ?_ ?_ | (intro _h; first | contradiction | (try simp only [dd] at _h)) | (refine dt_go ?_) | exact rfl | exact True.intro | exact dkk | exact dks | (refine wrap_succ ?_; omega))))
  all_goals (clear h; refine leaf_b ?_; simp_all)

set_option maxRecDepth 8000 in
theorem toBlockS_ok (l : List Block) (h : okL Block.ok l) : Ret env.P 17 [slL 2 Block.cs l] (fun r => r = slL 2 Block.cs l) := by
  have hl := h.1
  refine Ret.to ?_
  refine ret_of (nt := 23) (rvs := [.tmp 2]) Try.func17 rfl rfl rfl rfl (fun X => ?_)
  conv => whnf
  refine ⟨⟨by omega, by omega, by dsimp only; omega, by omega⟩, ?_⟩
  conv => whnf
  refine loopN l.length (fun k => [(4, .i .i64 k)]) (fun k => [some (.arr ⟨2, l.length, fillE k (elE Block.cs l) (fun _ j => [AV.i .i64 0, AV.i .i64 0].getD j .any), .arr⟩)]) (fun k => True) ⟨trivial, ?_⟩
  repeat' (first | exact aa | ((conv => whnf) <;> (first | exact arr_start rfl (fun _ _ => low_cells (Block.low _)) (fun _ _ => low_cells rfl) | exact arr_round rfl rfl (fun _ _ => rfl) (fun _ _ => low_cells (Block.low _)) (fun _ _ => low_cells rfl) | refine And.intro ?_ ?_ | (intro _h; first | contradiction | (try simp only [dd] at _h)) | (refine dt_go ?_) | exact rfl | exact True.intro | exact dkk | exact dks | ((first | refine .inl ⟨_, toBlock_ok _ (h.2 _ (by omega)), ?_⟩ | refine ⟨_, toBlock_ok _ (h.2 _ (by omega)), ?_⟩); (try rintro _ rfl)) | (refine wrap_succ ?_; omega))))
  exact wk_fill rfl (by omega) rfl (fun _ => rfl)

set_option maxRecDepth 8000 in
theorem eqBlockS_ok (l m : List Block) (h : okL Block.ok l) : Ret env.P 21 [slL 2 Block.cs l, slL 2 Block.cs m] (fun r => r = .b (decide (l = m))) := by
  have hl := h.1
  refine ret_of (nt := 27) (rvs := [.tmp 4]) Try.func21 rfl rfl rfl rfl (fun X => ?_)
  repeat' (first | exact aa | ((conv => whnf) <;> (first | exact upto_succ (by assumption) (by assumption) | refine loopN l.length (fun k => [(5, .i .i64 k)]) (fun k => []) (fun k => ∀ j, j < k → l.getD j default = m.getD j default) ⟨fun _ h => by omega, ?_⟩ | refine And.intro ?_ ?_ | (intro _h; first | contradiction | (try simp only [dd] at _h)) | (refine dt_go ?_) | exact rfl | exact True.intro | exact dkk | exact dks | ((first | refine .inl ⟨_, eqBlock_ok _ _ (h.2 _ (by omega)), ?_⟩ | refine ⟨_, eqBlock_ok _ _ (h.2 _ (by omega)), ?_⟩); (try rintro _ rfl)) | (refine wrap_succ ?_; omega))))
  · exact leaf_ne (by rintro rfl; omega)
  · exact leaf_ne (by rintro rfl; contradiction)
  · exact leaf_eq (list_eq (by omega) fun j hj => by have := ‹∀ j, j < _ → l.getD j default = m.getD j default›; exact this j (by omega))

set_option maxRecDepth 8000 in
theorem szBlockS_ok (l : List Block) (left : Int) (h0 : 0 ≤ left) (h1 : left ≤ 1048576) : Ret env.P 14 [slL 2 Block.cs l, .i .i64 left] (fun r => r = .i .i64 (szFl l left)) := by
  refine Ret.args fun hw => ?_
  have hl := wfs_sl (hw _ (List.mem_cons_self))
  have e : IntKind.i64.wrap (left - (l.length : Int)) = left - (l.length : Int) := wrap_in (by omega) (by omega)
  refine ret_of (nt := 12) (rvs := [.tmp 4]) Try.func14 rfl rfl rfl rfl (fun X => ?_)
  repeat' (first | exact aa | ((conv => whnf) <;> (first | refine And.intro ?_ ?_ | (intro _h; first | contradiction | (try simp only [dd] at _h)) | (refine dt_go ?_) | exact rfl | exact True.intro | exact dkk | exact dks | (refine wrap_succ ?_; omega))))
  all_goals (refine leaf_i ?_; unfold szFl szN; rw [e] at _h; first | rw [if_pos (by omega)] | (rw [if_neg (by omega)]; exact e))

end Go.Proofs.Ytkajnhnmlgogeaa
