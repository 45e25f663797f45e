/-
  Yard: what the laws' functions for it do. Printed by fam.py.
-/
import Derived.Test.YthhenipljdanjaaVU
import Derived.Test.YthhenipljdanjaaVTBase
import Derived.Test.YthhenipljdanjaaVTShelf
import Derived.Test.YthhenipljdanjaaVTCall
import Derived.Test.YthhenipljdanjaaVTInt64S
namespace Go.Proofs.Ythhenipljdanjaa
open Go Go.RowKit
set_option linter.unusedVariables false
set_option linter.unusedSimpArgs false

structure Yard where
  shelf : Shelf
  stack : List Call
  next : Int
  dead : List Int
  deriving DecidableEq, Inhabited
def Yard.cs (a : Yard) : List AV := [.i .i64 a.shelf.next, slL 2 Table.cs a.shelf.tables, slL 3 Thing.cs a.shelf.things, slL 4 Call.cs a.stack, .i .i64 a.next, slL 1 intC a.dead]
theorem Yard.low (a : Yard) : a.cs.all (low1 0) = true := rfl
theorem Yard.eta {a b : Yard} (h0 : a.shelf = b.shelf) (h1 : a.stack = b.stack) (h2 : a.next = b.next) (h3 : a.dead = b.dead) : a = b := by cases a; cases b; simp_all
theorem Yard.etaC {a b : Yard} (h : a.shelf = b.shelf ∧ a.stack = b.stack ∧ a.next = b.next ∧ a.dead = b.dead) : a = b := by cases a; cases b; simp_all
def Yard.ok (a : Yard) : Prop := Shelf.ok a.shelf ∧ (okL Call.ok) a.stack ∧ (okL okI) a.dead

set_option maxRecDepth 8000 in
theorem toYard_ok (a : Yard) (h : Yard.ok a) : Ret env.P 15 [.agg a.cs] (fun r => r = .agg a.cs) := by
  refine ret_of (nt := 20) (rvs := [.cell 2 38]) Try.func15 rfl rfl rfl rfl (fun X => ?_)
  repeat' (first | omega | (with_reducible show (_ : Int) < _; dsimp only; omega) | (with_reducible show (_ : Nat) ≤ _; dsimp only; omega) | exact srcOk_1 rfl | exact srcOk_L (fun _ => ⟨rfl, rfl⟩) | exact srcOk_E (fun _ => ⟨rfl, rfl⟩) | ((conv => whnf) <;> (first | refine And.intro ?_ ?_ | (intro _h; first | contradiction | (try simp only [decide_eq_true_eq, Bool.not_eq_true', Bool.not_eq_false', decide_eq_false_iff_not, Bool.not_eq_true, Decidable.not_not, Bool.true_eq_false, Bool.false_eq_true, pb_t, pb_f] at _h)) | exact rfl | exact True.intro | (refine dok ?_; kernel_rfl) | (refine doks ?_; kernel_rfl) | ((first | refine .inl ⟨_, toShelf_ok _ h.1, ?_⟩ | refine ⟨_, toShelf_ok _ h.1, ?_⟩); (try rintro _ rfl)) | ((first | refine .inl ⟨_, toCallS_ok _ h.2.1, ?_⟩ | refine ⟨_, toCallS_ok _ h.2.1, ?_⟩); (try rintro _ rfl)) | ((first | refine .inl ⟨_, toInt64S_ok _ h.2.2, ?_⟩ | refine ⟨_, toInt64S_ok _ h.2.2, ?_⟩); (try rintro _ rfl)) | (refine wrap_succ ?_; omega))))

set_option maxRecDepth 8000 in
theorem eqYard_ok (a b : Yard) (h : Yard.ok a) : Ret env.P 17 [.agg a.cs, .agg b.cs] (fun r => r = .b (decide (a = b))) := by
  obtain ⟨a0, a1, a2, a3⟩ := a
  obtain ⟨b0, b1, b2, b3⟩ := b
  refine ret_of (nt := 28) (rvs := [.tmp 4]) Try.func17 rfl rfl rfl rfl (fun X => ?_)
  repeat' (first | omega | (with_reducible show (_ : Int) < _; dsimp only; omega) | (with_reducible show (_ : Nat) ≤ _; dsimp only; omega) | exact srcOk_1 rfl | exact srcOk_L (fun _ => ⟨rfl, rfl⟩) | exact srcOk_E (fun _ => ⟨rfl, rfl⟩) | ((conv => whnf) <;> (first | refine And.intro ?_ ?_ | (intro _h; first | contradiction | (try simp only [decide_eq_true_eq, Bool.not_eq_true', Bool.not_eq_false', decide_eq_false_iff_not, Bool.not_eq_true, Decidable.not_not, Bool.true_eq_false, Bool.false_eq_true, pb_t, pb_f] at _h)) | exact rfl | exact True.intro | (refine dok ?_; kernel_rfl) | (refine doks ?_; kernel_rfl) | ((first | refine .inl ⟨_, eqShelf_ok _ _ h.1, ?_⟩ | refine ⟨_, eqShelf_ok _ _ h.1, ?_⟩); (try rintro _ rfl)) | ((first | refine .inl ⟨_, eqCallS_ok _ _ h.2.1, ?_⟩ | refine ⟨_, eqCallS_ok _ _ h.2.1, ?_⟩); (try rintro _ rfl)) | ((first | refine .inl ⟨_, eqInt64S_ok _ _ h.2.2, ?_⟩ | refine ⟨_, eqInt64S_ok _ _ h.2.2, ?_⟩); (try rintro _ rfl)) | (refine wrap_succ ?_; omega))))
  all_goals (clear h; refine leaf_b ?_; simp_all)

def Yard.sz (a : Yard) (left : Int) : Int :=
  if (Shelf.sz a.shelf left) < 0 then -1 else if ((szLs Call.sz) a.stack (Shelf.sz a.shelf left)) < 0 then -1 else if (szFl a.dead ((szLs Call.sz) a.stack (Shelf.sz a.shelf left))) < 0 then -1 else (szFl a.dead ((szLs Call.sz) a.stack (Shelf.sz a.shelf left)))
theorem Yard.sz_le (a : Yard) (left : Int) (h1 : left ≤ 1048576) : Yard.sz a left ≤ 1048576 := by
  have b1 : (Shelf.sz a.shelf left) ≤ 1048576 := Shelf.sz_le _ _ h1
  have b2 : ((szLs Call.sz) a.stack (Shelf.sz a.shelf left)) ≤ 1048576 := szLs_le (fun a v h => Call.sz_le a v h) b1
  have b3 : (szFl a.dead ((szLs Call.sz) a.stack (Shelf.sz a.shelf left))) ≤ 1048576 := szN_le b2
  unfold Yard.sz
  repeat' split
  all_goals omega
theorem Yard.sz_ok (a : Yard) (left : Int) (h0 : 0 ≤ left) (h1 : left ≤ 1048576) (hn : ¬ Yard.sz a left < 0) : Yard.ok a := by
  have b1 : (Shelf.sz a.shelf left) ≤ 1048576 := Shelf.sz_le _ _ h1
  have b2 : ((szLs Call.sz) a.stack (Shelf.sz a.shelf left)) ≤ 1048576 := szLs_le (fun a v h => Call.sz_le a v h) b1
  have b3 : (szFl a.dead ((szLs Call.sz) a.stack (Shelf.sz a.shelf left))) ≤ 1048576 := szN_le b2
  unfold Yard.sz at hn
  by_cases c1 : (Shelf.sz a.shelf left) < 0
  · rw [if_pos c1] at hn; omega
  rw [if_neg c1] at hn
  by_cases c2 : ((szLs Call.sz) a.stack (Shelf.sz a.shelf left)) < 0
  · rw [if_pos c2] at hn; omega
  rw [if_neg c2] at hn
  by_cases c3 : (szFl a.dead ((szLs Call.sz) a.stack (Shelf.sz a.shelf left))) < 0
  · rw [if_pos c3] at hn; omega
  rw [if_neg c3] at hn
  exact ⟨Shelf.sz_ok _ _ h0 h1 c1, szLs_ok (fun a v h => Call.sz_le a v h) (fun a v h0 h1 hn => Call.sz_ok a v h0 h1 hn) (by omega) b1 c2, szFl_ok (fun _ => trivial) (by omega) b2 c3⟩

set_option maxRecDepth 8000 in
theorem szYard_ok (a : Yard) (left : Int) (h0 : 0 ≤ left) (h1 : left ≤ 1048576) : Ret env.P 13 [.agg a.cs, .i .i64 left] (fun r => r = .i .i64 (Yard.sz a left)) := by
  have b1 : (Shelf.sz a.shelf left) ≤ 1048576 := Shelf.sz_le _ _ h1
  have b2 : ((szLs Call.sz) a.stack (Shelf.sz a.shelf left)) ≤ 1048576 := szLs_le (fun a v h => Call.sz_le a v h) b1
  have b3 : (szFl a.dead ((szLs Call.sz) a.stack (Shelf.sz a.shelf left))) ≤ 1048576 := szN_le b2
  refine ret_of (nt := 24) (rvs := [.tmp 4]) Try.func13 rfl rfl rfl rfl (fun X => ?_)
  repeat' (first | omega | (with_reducible show (_ : Int) < _; dsimp only; omega) | (with_reducible show (_ : Nat) ≤ _; dsimp only; omega) | exact srcOk_1 rfl | exact srcOk_L (fun _ => ⟨rfl, rfl⟩) | exact srcOk_E (fun _ => ⟨rfl, rfl⟩) | ((conv => whnf) <;> (first | refine And.intro ?_ ?_ | (intro _h; first | contradiction | (try simp only [decide_eq_true_eq, Bool.not_eq_true', Bool.not_eq_false', decide_eq_false_iff_not, Bool.not_eq_true, Decidable.not_not, Bool.true_eq_false, Bool.false_eq_true, pb_t, pb_f] at _h)) | exact rfl | exact True.intro | (refine dok ?_; kernel_rfl) | (refine doks ?_; kernel_rfl) | ((first | refine .inl ⟨_, szShelf_ok _ _ (by omega) (by omega), ?_⟩ | refine ⟨_, szShelf_ok _ _ (by omega) (by omega), ?_⟩); (try rintro _ rfl)) | ((first | refine .inl ⟨_, szCallS_ok _ _ (by omega) (by omega), ?_⟩ | refine ⟨_, szCallS_ok _ _ (by omega) (by omega), ?_⟩); (try rintro _ rfl)) | ((first | refine .inl ⟨_, szInt64S_ok _ _ (by omega) (by omega), ?_⟩ | refine ⟨_, szInt64S_ok _ _ (by omega) (by omega), ?_⟩); (try rintro _ rfl)) | (refine wrap_succ ?_; omega))))
  all_goals (refine leaf_i ?_; simp_all [Yard.sz]; try (intros; omega))

end Go.Proofs.Ythhenipljdanjaa
