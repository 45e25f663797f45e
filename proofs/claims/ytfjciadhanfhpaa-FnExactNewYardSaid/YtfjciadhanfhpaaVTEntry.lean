/-
  Entry: what the laws' functions for it do. Printed by fam.py.
-/
import Derived.Test.YtfjciadhanfhpaaVU
import Derived.Test.YtfjciadhanfhpaaVTBase
namespace Go.Proofs.Ytfjciadhanfhpaa
open Go Go.RowKit
set_option linter.unusedVariables false
set_option linter.unusedSimpArgs false

structure Entry where
  num : Int
  id : Int
  own : Bool
  lends : Int
  scope : Int
  from_ : Int
  fromNum : Int
  deriving DecidableEq, Inhabited
def Entry.cs (a : Entry) : List AV := [.i .i64 a.num, .i .i64 a.id, .b a.own, .i .i64 a.lends, .i .i64 a.scope, .i .i64 a.from_, .i .i64 a.fromNum]
theorem Entry.low (a : Entry) : a.cs.all (low1 0) = true := rfl
theorem Entry.eta {a b : Entry} (h0 : a.num = b.num) (h1 : a.id = b.id) (h2 : a.own = b.own) (h3 : a.lends = b.lends) (h4 : a.scope = b.scope) (h5 : a.from_ = b.from_) (h6 : a.fromNum = b.fromNum) : a = b := by cases a; cases b; simp_all
theorem Entry.etaC {a b : Entry} (h : a.num = b.num ∧ a.id = b.id ∧ a.own = b.own ∧ a.lends = b.lends ∧ a.scope = b.scope ∧ a.from_ = b.from_ ∧ a.fromNum = b.fromNum) : a = b := by cases a; cases b; simp_all
def Entry.ok (a : Entry) : Prop := True

set_option maxRecDepth 8000 in
theorem toEntry_ok (a : Entry) (h : Entry.ok a) : Ret env.P 94 [.agg a.cs] (fun r => r = .agg a.cs) := by
  refine ret_of (nt := 26) (rvs := [.cell 2 93]) Try.func94 rfl rfl rfl rfl (fun X => ?_)
  exact rfl

set_option maxRecDepth 8000 in
theorem eqEntry_ok (a b : Entry) (h : Entry.ok a) : Ret env.P 92 [.agg a.cs, .agg b.cs] (fun r => r = .b (decide (a = b))) := by
  obtain ⟨a0, a1, a2, a3, a4, a5, a6⟩ := a
  obtain ⟨b0, b1, b2, b3, b4, b5, b6⟩ := b
  refine ret_of (nt := 40) (rvs := [.tmp 4]) Try.func92 rfl rfl rfl rfl (fun X => ?_)
  repeat' (first | exact aa | ((conv => whnf) <;> (first | refine And.intro ?_ ?_ | (intro _h; first | contradiction | (try simp only [dd] at _h)) | (refine dt_go ?_) | exact rfl | exact True.intro | exact dkk | exact dks | (refine wrap_succ ?_; omega))))
  all_goals (clear h; refine leaf_b ?_; simp_all)

set_option maxRecDepth 8000 in
theorem toEntryS_ok (l : List Entry) (h : okL Entry.ok l) : Ret env.P 79 [slL 7 Entry.cs l] (fun r => r = slL 7 Entry.cs l) := by
  have hl := h.1
  refine Ret.to ?_
  refine ret_of (nt := 23) (rvs := [.tmp 2]) Try.func79 rfl rfl rfl rfl (fun X => ?_)
  conv => whnf
  refine ⟨⟨by omega, by omega, by dsimp only; omega, by omega⟩, ?_⟩
  conv => whnf
  refine loopN l.length (fun k => [(4, .i .i64 k)]) (fun k => [some (.arr ⟨7, l.length, fillE k (elE Entry.cs l) (fun _ j => [AV.i .i64 0, AV.i .i64 0, AV.kb false, AV.i .i64 0, AV.i .i64 0, AV.i .i64 0, AV.i .i64 0].getD j .any), .arr⟩)]) (fun k => True) ⟨trivial, ?_⟩
  repeat' (first | exact aa | ((conv => whnf) <;> (first | exact arr_start rfl (fun _ _ => low_cells (Entry.low _)) (fun _ _ => low_cells rfl) | exact arr_round rfl rfl (fun _ _ => rfl) (fun _ _ => low_cells (Entry.low _)) (fun _ _ => low_cells rfl) | refine And.intro ?_ ?_ | (intro _h; first | contradiction | (try simp only [dd] at _h)) | (refine dt_go ?_) | exact rfl | exact True.intro | exact dkk | exact dks | ((first | refine .inl ⟨_, toEntry_ok _ (h.2 _ (by omega)), ?_⟩ | refine ⟨_, toEntry_ok _ (h.2 _ (by omega)), ?_⟩); (try rintro _ rfl)) | (refine wrap_succ ?_; omega))))
  exact wk_fill rfl (by omega) rfl (fun _ => rfl)

set_option maxRecDepth 8000 in
theorem eqEntryS_ok (l m : List Entry) (h : okL Entry.ok l) : Ret env.P 74 [slL 7 Entry.cs l, slL 7 Entry.cs m] (fun r => r = .b (decide (l = m))) := by
  have hl := h.1
  refine ret_of (nt := 27) (rvs := [.tmp 4]) Try.func74 rfl rfl rfl rfl (fun X => ?_)
  repeat' (first | exact aa | ((conv => whnf) <;> (first | exact upto_succ (by assumption) (by assumption) | refine loopN l.length (fun k => [(5, .i .i64 k)]) (fun k => []) (fun k => ∀ j, j < k → l.getD j default = m.getD j default) ⟨fun _ h => by omega, ?_⟩ | refine And.intro ?_ ?_ | (intro _h; first | contradiction | (try simp only [dd] at _h)) | (refine dt_go ?_) | exact rfl | exact True.intro | exact dkk | exact dks | ((first | refine .inl ⟨_, eqEntry_ok _ _ (h.2 _ (by omega)), ?_⟩ | refine ⟨_, eqEntry_ok _ _ (h.2 _ (by omega)), ?_⟩); (try rintro _ rfl)) | (refine wrap_succ ?_; omega))))
  · exact leaf_ne (by rintro rfl; omega)
  · exact leaf_ne (by rintro rfl; contradiction)
  · exact leaf_eq (list_eq (by omega) fun j hj => by have := ‹∀ j, j < _ → l.getD j default = m.getD j default›; exact this j (by omega))

set_option maxRecDepth 8000 in
theorem szEntryS_ok (l : List Entry) (left : Int) (h0 : 0 ≤ left) (h1 : left ≤ 1048576) : Ret env.P 75 [slL 7 Entry.cs l, .i .i64 left] (fun r => r = .i .i64 (szFl l left)) := by
  refine Ret.args fun hw => ?_
  have hl := wfs_sl (hw _ (List.mem_cons_self))
  have e : IntKind.i64.wrap (left - (l.length : Int)) = left - (l.length : Int) := wrap_in (by omega) (by omega)
  refine ret_of (nt := 12) (rvs := [.tmp 4]) Try.func75 rfl rfl rfl rfl (fun X => ?_)
  repeat' (first | exact aa | ((conv => whnf) <;> (first | refine And.intro ?_ ?_ | (intro _h; first | contradiction | (try simp only [dd] at _h)) | (refine dt_go ?_) | exact rfl | exact True.intro | exact dkk | exact dks | (refine wrap_succ ?_; omega))))
  all_goals (refine leaf_i ?_; unfold szFl szN; rw [e] at _h; first | rw [if_pos (by omega)] | (rw [if_neg (by omega)]; exact e))

end Go.Proofs.Ytfjciadhanfhpaa
