/-
  Shelf: what the laws' functions for it do. Printed by fam.py.
-/
import Derived.Test.YtfjciadhanfhpaaVU
import Derived.Test.YtfjciadhanfhpaaVTBase
import Derived.Test.YtfjciadhanfhpaaVTTable
import Derived.Test.YtfjciadhanfhpaaVTThing
namespace Go.Proofs.Ytfjciadhanfhpaa
open Go Go.RowKit
set_option linter.unusedVariables false
set_option linter.unusedSimpArgs false

structure Shelf where
  next : Int
  tables : List Table
  things : List Thing
  deriving DecidableEq, Inhabited
def Shelf.cs (a : Shelf) : List AV := [.i .i64 a.next, slL 2 Table.cs a.tables, slL 3 Thing.cs a.things]
theorem Shelf.low (a : Shelf) : a.cs.all (low1 0) = true := rfl
theorem Shelf.eta {a b : Shelf} (h0 : a.next = b.next) (h1 : a.tables = b.tables) (h2 : a.things = b.things) : a = b := by cases a; cases b; simp_all
theorem Shelf.etaC {a b : Shelf} (h : a.next = b.next ∧ a.tables = b.tables ∧ a.things = b.things) : a = b := by cases a; cases b; simp_all
def Shelf.ok (a : Shelf) : Prop := (okL Table.ok) a.tables ∧ (okL Thing.ok) a.things

set_option maxRecDepth 8000 in
theorem toShelf_ok (a : Shelf) (h : Shelf.ok a) : Ret env.P 18 [.agg a.cs] (fun r => r = .agg a.cs) := by
  refine ret_of (nt := 16) (rvs := [.cell 2 25]) Try.func18 rfl rfl rfl rfl (fun X => ?_)
  repeat' (first | exact aa | ((conv => whnf) <;> (first | refine And.intro ?_ ?_ | (intro _h; first | contradiction | (try simp only [dd] at _h)) | (refine dt_go ?_) | exact rfl | exact True.intro | exact dkk | exact dks | ((first | refine .inl ⟨_, toTableS_ok _ h.1, ?_⟩ | refine ⟨_, toTableS_ok _ h.1, ?_⟩); (try rintro _ rfl)) | ((first | refine .inl ⟨_, toThingS_ok _ h.2, ?_⟩ | refine ⟨_, toThingS_ok _ h.2, ?_⟩); (try rintro _ rfl)) | (refine wrap_succ ?_; omega))))

set_option maxRecDepth 8000 in
theorem eqShelf_ok (a b : Shelf) (h : Shelf.ok a) : Ret env.P 8 [.agg a.cs, .agg b.cs] (fun r => r = .b (decide (a = b))) := by
  obtain ⟨a0, a1, a2⟩ := a
  obtain ⟨b0, b1, b2⟩ := b
  refine ret_of (nt := 22) (rvs := [.tmp 4]) Try.func8 rfl rfl rfl rfl (fun X => ?_)
  repeat' (first | exact aa | ((conv => whnf) <;> (first | refine And.intro ?_ ?_ | (intro _h; first | contradiction | (try simp only [dd] at _h)) | (refine dt_go ?_) | exact rfl | exact True.intro | exact dkk | exact dks | ((first | refine .inl ⟨_, eqTableS_ok _ _ h.1, ?_⟩ | refine ⟨_, eqTableS_ok _ _ h.1, ?_⟩); (try rintro _ rfl)) | ((first | refine .inl ⟨_, eqThingS_ok _ _ h.2, ?_⟩ | refine ⟨_, eqThingS_ok _ _ h.2, ?_⟩); (try rintro _ rfl)) | (refine wrap_succ ?_; omega))))
  all_goals (clear h; refine leaf_b ?_; simp_all)

def Shelf.sz (a : Shelf) (left : Int) : Int :=
  if ((szLs Table.sz) a.tables left) < 0 then -1 else if (szFl a.things ((szLs Table.sz) a.tables left)) < 0 then -1 else (szFl a.things ((szLs Table.sz) a.tables left))
theorem Shelf.sz_le (a : Shelf) (left : Int) (h1 : left ≤ 1048576) : Shelf.sz a left ≤ 1048576 := by
  have b1 : ((szLs Table.sz) a.tables left) ≤ 1048576 := szLs_le (fun a v h => Table.sz_le a v h) h1
  have b2 : (szFl a.things ((szLs Table.sz) a.tables left)) ≤ 1048576 := szN_le b1
  unfold Shelf.sz
  repeat' split
  all_goals omega
theorem Shelf.sz_ok (a : Shelf) (left : Int) (h0 : 0 ≤ left) (h1 : left ≤ 1048576) (hn : ¬ Shelf.sz a left < 0) : Shelf.ok a := by
  have b1 : ((szLs Table.sz) a.tables left) ≤ 1048576 := szLs_le (fun a v h => Table.sz_le a v h) h1
  have b2 : (szFl a.things ((szLs Table.sz) a.tables left)) ≤ 1048576 := szN_le b1
  unfold Shelf.sz at hn
  by_cases c1 : ((szLs Table.sz) a.tables left) < 0
  · rw [if_pos c1] at hn; omega
  rw [if_neg c1] at hn
  by_cases c2 : (szFl a.things ((szLs Table.sz) a.tables left)) < 0
  · rw [if_pos c2] at hn; omega
  rw [if_neg c2] at hn
  exact ⟨szLs_ok (fun a v h => Table.sz_le a v h) (fun a v h0 h1 hn => Table.sz_ok a v h0 h1 hn) h0 h1 c1, szFl_ok (fun _ => trivial) (by omega) b1 c2⟩

set_option maxRecDepth 8000 in
theorem szShelf_ok (a : Shelf) (left : Int) (h0 : 0 ≤ left) (h1 : left ≤ 1048576) : Ret env.P 16 [.agg a.cs, .i .i64 left] (fun r => r = .i .i64 (Shelf.sz a left)) := by
  have b1 : ((szLs Table.sz) a.tables left) ≤ 1048576 := szLs_le (fun a v h => Table.sz_le a v h) h1
  have b2 : (szFl a.things ((szLs Table.sz) a.tables left)) ≤ 1048576 := szN_le b1
  refine ret_of (nt := 18) (rvs := [.tmp 4]) Try.func16 rfl rfl rfl rfl (fun X => ?_)
  repeat' (first | exact aa | ((conv => whnf) <;> (first | refine And.intro ?_ ?_ | (intro _h; first | contradiction | (try simp only [dd] at _h)) | (refine dt_go ?_) | exact rfl | exact True.intro | exact dkk | exact dks | ((first | refine .inl ⟨_, szTableS_ok _ _ (by omega) (by omega), ?_⟩ | refine ⟨_, szTableS_ok _ _ (by omega) (by omega), ?_⟩); (try rintro _ rfl)) | ((first | refine .inl ⟨_, szThingS_ok _ _ (by omega) (by omega), ?_⟩ | refine ⟨_, szThingS_ok _ _ (by omega) (by omega), ?_⟩); (try rintro _ rfl)) | (refine wrap_succ ?_; omega))))
  all_goals (refine leaf_i ?_; simp_all [Shelf.sz]; try (intros; omega))

end Go.Proofs.Ytfjciadhanfhpaa
