/-
  Thing: what the laws' functions for it do. Printed by fam.py.
-/
import Derived.Test.YtfjciadhanfhpaaVU
import Derived.Test.YtfjciadhanfhpaaVTBase
namespace Go.Proofs.Ytfjciadhanfhpaa
open Go Go.RowKit
set_option linter.unusedVariables false
set_option linter.unusedSimpArgs false

structure Thing where
  id : Int
  res : Int
  rep : Int
  deriving DecidableEq, Inhabited
def Thing.cs (a : Thing) : List AV := [.i .i64 a.id, .i .i64 a.res, .i .i64 a.rep]
theorem Thing.low (a : Thing) : a.cs.all (low1 0) = true := rfl
theorem Thing.eta {a b : Thing} (h0 : a.id = b.id) (h1 : a.res = b.res) (h2 : a.rep = b.rep) : a = b := by cases a; cases b; simp_all
theorem Thing.etaC {a b : Thing} (h : a.id = b.id ∧ a.res = b.res ∧ a.rep = b.rep) : a = b := by cases a; cases b; simp_all
def Thing.ok (a : Thing) : Prop := True

set_option maxRecDepth 8000 in
theorem toThing_ok (a : Thing) (h : Thing.ok a) : Ret env.P 62 [.agg a.cs] (fun r => r = .agg a.cs) := by
  refine ret_of (nt := 14) (rvs := [.cell 2 82]) Try.func62 rfl rfl rfl rfl (fun X => ?_)
  exact rfl

set_option maxRecDepth 8000 in
theorem eqThing_ok (a b : Thing) (h : Thing.ok a) : Ret env.P 50 [.agg a.cs, .agg b.cs] (fun r => r = .b (decide (a = b))) := by
  obtain ⟨a0, a1, a2⟩ := a
  obtain ⟨b0, b1, b2⟩ := b
  refine ret_of (nt := 20) (rvs := [.tmp 4]) Try.func50 rfl rfl rfl rfl (fun X => ?_)
  repeat' (first | exact aa | ((conv => whnf) <;> (first | refine And.intro ?_ ?_ | (intro _h; first | contradiction | (try simp only [dd] at _h)) | (refine dt_go ?_) | exact rfl | exact True.intro | exact dkk | exact dks | (refine wrap_succ ?_; omega))))
  all_goals (clear h; refine leaf_b ?_; simp_all)

set_option maxRecDepth 8000 in
theorem toThingS_ok (l : List Thing) (h : okL Thing.ok l) : Ret env.P 43 [slL 3 Thing.cs l] (fun r => r = slL 3 Thing.cs l) := by
  have hl := h.1
  refine Ret.to ?_
  refine ret_of (nt := 23) (rvs := [.tmp 2]) Try.func43 rfl rfl rfl rfl (fun X => ?_)
  conv => whnf
  refine ⟨⟨by omega, by omega, by dsimp only; omega, by omega⟩, ?_⟩
  conv => whnf
  refine loopN l.length (fun k => [(4, .i .i64 k)]) (fun k => [some (.arr ⟨3, l.length, fillE k (elE Thing.cs l) (fun _ j => [AV.i .i64 0, AV.i .i64 0, AV.i .i64 0].getD j .any), .arr⟩)]) (fun k => True) ⟨trivial, ?_⟩
  repeat' (first | exact aa | ((conv => whnf) <;> (first | exact arr_start rfl (fun _ _ => low_cells (Thing.low _)) (fun _ _ => low_cells rfl) | exact arr_round rfl rfl (fun _ _ => rfl) (fun _ _ => low_cells (Thing.low _)) (fun _ _ => low_cells rfl) | refine And.intro ?_ ?_ | (intro _h; first | contradiction | (try simp only [dd] at _h)) | (refine dt_go ?_) | exact rfl | exact True.intro | exact dkk | exact dks | ((first | refine .inl ⟨_, toThing_ok _ (h.2 _ (by omega)), ?_⟩ | refine ⟨_, toThing_ok _ (h.2 _ (by omega)), ?_⟩); (try rintro _ rfl)) | (refine wrap_succ ?_; omega))))
  exact wk_fill rfl (by omega) rfl (fun _ => rfl)

set_option maxRecDepth 8000 in
theorem eqThingS_ok (l m : List Thing) (h : okL Thing.ok l) : Ret env.P 25 [slL 3 Thing.cs l, slL 3 Thing.cs m] (fun r => r = .b (decide (l = m))) := by
  have hl := h.1
  refine ret_of (nt := 27) (rvs := [.tmp 4]) Try.func25 rfl rfl rfl rfl (fun X => ?_)
  repeat' (first | exact aa | ((conv => whnf) <;> (first | exact upto_succ (by assumption) (by assumption) | refine loopN l.length (fun k => [(5, .i .i64 k)]) (fun k => []) (fun k => ∀ j, j < k → l.getD j default = m.getD j default) ⟨fun _ h => by omega, ?_⟩ | refine And.intro ?_ ?_ | (intro _h; first | contradiction | (try simp only [dd] at _h)) | (refine dt_go ?_) | exact rfl | exact True.intro | exact dkk | exact dks | ((first | refine .inl ⟨_, eqThing_ok _ _ (h.2 _ (by omega)), ?_⟩ | refine ⟨_, eqThing_ok _ _ (h.2 _ (by omega)), ?_⟩); (try rintro _ rfl)) | (refine wrap_succ ?_; omega))))
  · exact leaf_ne (by rintro rfl; omega)
  · exact leaf_ne (by rintro rfl; contradiction)
  · exact leaf_eq (list_eq (by omega) fun j hj => by have := ‹∀ j, j < _ → l.getD j default = m.getD j default›; exact this j (by omega))

set_option maxRecDepth 8000 in
theorem szThingS_ok (l : List Thing) (left : Int) (h0 : 0 ≤ left) (h1 : left ≤ 1048576) : Ret env.P 38 [slL 3 Thing.cs l, .i .i64 left] (fun r => r = .i .i64 (szFl l left)) := by
  refine Ret.args fun hw => ?_
  have hl := wfs_sl (hw _ (List.mem_cons_self))
  have e : IntKind.i64.wrap (left - (l.length : Int)) = left - (l.length : Int) := wrap_in (by omega) (by omega)
  refine ret_of (nt := 12) (rvs := [.tmp 4]) Try.func38 rfl rfl rfl rfl (fun X => ?_)
  repeat' (first | exact aa | ((conv => whnf) <;> (first | refine And.intro ?_ ?_ | (intro _h; first | contradiction | (try simp only [dd] at _h)) | (refine dt_go ?_) | exact rfl | exact True.intro | exact dkk | exact dks | (refine wrap_succ ?_; omega))))
  all_goals (refine leaf_i ?_; unfold szFl szN; rw [e] at _h; first | rw [if_pos (by omega)] | (rw [if_neg (by omega)]; exact e))

end Go.Proofs.Ytfjciadhanfhpaa
