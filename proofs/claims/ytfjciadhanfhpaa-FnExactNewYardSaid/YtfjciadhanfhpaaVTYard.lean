/-
  Yard: what the laws' functions for it do. Printed by fam.py.
-/
import Derived.Test.YtfjciadhanfhpaaVU
import Derived.Test.YtfjciadhanfhpaaVTBase
import Derived.Test.YtfjciadhanfhpaaVTShelf
import Derived.Test.YtfjciadhanfhpaaVTCall
import Derived.Test.YtfjciadhanfhpaaVTInt64S
namespace Go.Proofs.Ytfjciadhanfhpaa
open Go Go.RowKit
set_option linter.unusedVariables false
set_option linter.unusedSimpArgs false

structure Yard where
  shelf : Shelf
  stack : List Call
  next : Int
  dead : List Int
  deriving DecidableEq, Inhabited
def Yard.cs (a : Yard) : List AV := [.i .i64 a.shelf.next, slL 2 Table.cs a.shelf.tables, slL 3 Thing.cs a.shelf.things, slL 4 Call.cs a.stack, .i .i64 a.next, slL 1 intC a.dead]
theorem Yard.low (a : Yard) : a.cs.all (low1 0) = true := rfl
theorem Yard.eta {a b : Yard} (h0 : a.shelf = b.shelf) (h1 : a.stack = b.stack) (h2 : a.next = b.next) (h3 : a.dead = b.dead) : a = b := by cases a; cases b; simp_all
theorem Yard.etaC {a b : Yard} (h : a.shelf = b.shelf ∧ a.stack = b.stack ∧ a.next = b.next ∧ a.dead = b.dead) : a = b := by cases a; cases b; simp_all
def Yard.ok (a : Yard) : Prop := Shelf.ok a.shelf ∧ (okL Call.ok) a.stack ∧ (okL okI) a.dead

set_option maxRecDepth 8000 in
theorem eqYard_ok (a b : Yard) (h : Yard.ok a) : Ret env.P 13 [.agg a.cs, .agg b.cs] (fun r => r = .b (decide (a = b))) := by
  obtain ⟨a0, a1, a2, a3⟩ := a
  obtain ⟨b0, b1, b2, b3⟩ := b
  refine ret_of (nt := 28) (rvs := [.tmp 4]) Try.func13 rfl rfl rfl rfl (fun X => ?_)
  repeat' (first | exact aa | ((conv => whnf) <;> (first | refine And.intro ?_ ?_ | (intro _h; first | contradiction | (try simp only [dd] at _h)) | (refine dt_go ?_) | exact rfl | exact True.intro | exact dkk | exact dks | ((first | refine .inl ⟨_, eqShelf_ok _ _ h.1, ?_⟩ | refine ⟨_, eqShelf_ok _ _ h.1, ?_⟩); (try rintro _ rfl)) | ((first | refine .inl ⟨_, eqCallS_ok _ _ h.2.1, ?_⟩ | refine ⟨_, eqCallS_ok _ _ h.2.1, ?_⟩); (try rintro _ rfl)) | ((first | refine .inl ⟨_, eqInt64S_ok _ _ h.2.2, ?_⟩ | refine ⟨_, eqInt64S_ok _ _ h.2.2, ?_⟩); (try rintro _ rfl)) | (refine wrap_succ ?_; omega))))
  all_goals (clear h; refine leaf_b ?_; simp_all)

def Yard.sz (a : Yard) (left : Int) : Int :=
  if (Shelf.sz a.shelf left) < 0 then -1 else if ((szLs Call.sz) a.stack (Shelf.sz a.shelf left)) < 0 then -1 else if (szFl a.dead ((szLs Call.sz) a.stack (Shelf.sz a.shelf left))) < 0 then -1 else (szFl a.dead ((szLs Call.sz) a.stack (Shelf.sz a.shelf left)))
theorem Yard.sz_le (a : Yard) (left : Int) (h1 : left ≤ 1048576) : Yard.sz a left ≤ 1048576 := by
  have b1 : (Shelf.sz a.shelf left) ≤ 1048576 := Shelf.sz_le _ _ h1
  have b2 : ((szLs Call.sz) a.stack (Shelf.sz a.shelf left)) ≤ 1048576 := szLs_le (fun a v h => Call.sz_le a v h) b1
  have b3 : (szFl a.dead ((szLs Call.sz) a.stack (Shelf.sz a.shelf left))) ≤ 1048576 := szN_le b2
  unfold Yard.sz
  repeat' split
  all_goals omega
theorem Yard.sz_ok (a : Yard) (left : Int) (h0 : 0 ≤ left) (h1 : left ≤ 1048576) (hn : ¬ Yard.sz a left < 0) : Yard.ok a := by
  have b1 : (Shelf.sz a.shelf left) ≤ 1048576 := Shelf.sz_le _ _ h1
  have b2 : ((szLs Call.sz) a.stack (Shelf.sz a.shelf left)) ≤ 1048576 := szLs_le (fun a v h => Call.sz_le a v h) b1
  have b3 : (szFl a.dead ((szLs Call.sz) a.stack (Shelf.sz a.shelf left))) ≤ 1048576 := szN_le b2
  unfold Yard.sz at hn
  by_cases c1 : (Shelf.sz a.shelf left) < 0
  · rw [if_pos c1] at hn; omega
  rw [if_neg c1] at hn
  by_cases c2 : ((szLs Call.sz) a.stack (Shelf.sz a.shelf left)) < 0
  · rw [if_pos c2] at hn; omega
  rw [if_neg c2] at hn
  by_cases c3 : (szFl a.dead ((szLs Call.sz) a.stack (Shelf.sz a.shelf left))) < 0
  · rw [if_pos c3] at hn; omega
  rw [if_neg c3] at hn
  exact ⟨Shelf.sz_ok _ _ h0 h1 c1, szLs_ok (fun a v h => Call.sz_le a v h) (fun a v h0 h1 hn => Call.sz_ok a v h0 h1 hn) (by omega) b1 c2, szFl_ok (fun _ => trivial) (by omega) b2 c3⟩

end Go.Proofs.Ytfjciadhanfhpaa
