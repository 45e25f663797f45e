/-
  Yard, as slices held alone. Printed by fam2.py.
-/
import Derived.Test.YtfjciadhanfhpaaVTOwn
import Derived.Test.YtfjciadhanfhpaaVTYard
import Derived.Test.YtfjciadhanfhpaaVOTable
import Derived.Test.YtfjciadhanfhpaaVOThing
import Derived.Test.YtfjciadhanfhpaaVOCall
import Derived.Test.YtfjciadhanfhpaaVOInt64S
import Derived.Test.YtfjciadhanfhpaaVOShelf
namespace Go.Proofs.Ytfjciadhanfhpaa
open Go Go.RowKit
set_option linter.unusedVariables false
set_option linter.unusedSimpArgs false

def Yard.csO (a : Yard) : List AV := [.i .i64 a.shelf.next, owL 2 Table.csO a.shelf.tables, owL 3 Thing.cs a.shelf.things, owL 4 Call.csO a.stack, .i .i64 a.next, owL 1 intC a.dead]
instance : HoldC Yard.csO := ⟨fun a => (idf_cons trivial (idf_cons owL_idf (idf_cons owL_idf (idf_cons owL_idf (idf_cons trivial (idf_cons owL_idf idf_nil))))))⟩
instance : FreeC Yard.csO := ⟨fun a => (free_cons trivial (free_cons owL_free (free_cons owL_free (free_cons owL_free (free_cons trivial (free_cons owL_free free_nil))))))⟩
instance : Shr 2 Yard.csO Yard.cs := ⟨fun H k a => (.cons (.refl _) (.cons (shr_ow (d := 1) (k := k + 0)) (.cons (shr_ow (d := 0) (k := k + 1)) (.cons (shr_ow (d := 1) (k := k + 0)) (.cons (.refl _) (.cons (shr_ow (d := 0) (k := k + 1)) .nil))))))⟩

def Yard.resO (a : Yard) : List AV := [.i .i64 a.shelf.next, .row 0 a.shelf.tables.length, .row 1 a.shelf.things.length, .row 2 a.stack.length, .i .i64 a.next, .row 3 a.dead.length]
def Yard.rowsO (a : Yard) : Hp := [some (rowL 2 Table.csO a.shelf.tables), some (rowL 3 Thing.cs a.shelf.things), some (rowL 4 Call.csO a.stack), some (rowL 1 intC a.dead)]

def Yard.mk_ (a : Yard) (k : Int) : Yard × Int := (⟨⟨a.shelf.next, (markL Table.mkE a.shelf.tables k).1, (markL Thing.mkE a.shelf.things (markL Table.mkE a.shelf.tables k).2).1⟩, (markL Call.mkE a.stack (markL Thing.mkE a.shelf.things (markL Table.mkE a.shelf.tables k).2).2).1, a.next, (markL Int64.mkE a.dead (markL Call.mkE a.stack (markL Thing.mkE a.shelf.things (markL Table.mkE a.shelf.tables k).2).2).2).1⟩, (markL Int64.mkE a.dead (markL Call.mkE a.stack (markL Thing.mkE a.shelf.things (markL Table.mkE a.shelf.tables k).2).2).2).2)
theorem Yard.mk_mono (a : Yard) (k : Int) : k ≤ (Yard.mk_ a k).2 := by have m0 := markL_mono Table.mkE_mono a.shelf.tables k; have m1 := markL_mono Thing.mkE_mono a.shelf.things (markL Table.mkE a.shelf.tables k).2; have m2 := markL_mono Call.mkE_mono a.stack (markL Thing.mkE a.shelf.things (markL Table.mkE a.shelf.tables k).2).2; have m3 := markL_mono Int64.mkE_mono a.dead (markL Call.mkE a.stack (markL Thing.mkE a.shelf.things (markL Table.mkE a.shelf.tables k).2).2).2; simp only [Yard.mk_]; omega
theorem Yard.mk_ok (a : Yard) (k : Int) (h : Yard.ok a) : Yard.ok (Yard.mk_ a k).1 := ⟨⟨(okL_mark Table.mkE_ok h.1.1), (okL_mark Thing.mkE_ok h.1.2)⟩, (okL_mark Call.mkE_ok h.2.1), (okL_mark (fun _ _ _ => trivial) h.2.2)⟩
theorem Yard.mk_idem (a : Yard) (k : Int) : Yard.mk_ (Yard.mk_ a k).1 k = Yard.mk_ a k := by simp only [Yard.mk_, markL_idem Call.mkE_idem, markL_idem Int64.mkE_idem, markL_idem Table.mkE_idem, markL_idem Thing.mkE_idem]

set_option maxRecDepth 8000 in
theorem markYard_ok (a : Yard) (k : Int) (h0 : 0 ≤ k) (hk : (Yard.mk_ a k).2 ≤ 4611686018427387904) (h : Yard.ok a) : RetM env.P 14 a.rowsO [.agg a.resO, .i .i64 k] (fun r H => r = .i .i64 (Yard.mk_ a k).2 ∧ H = (Yard.mk_ a k).1.rowsO) := by
  simp only [Yard.mk_] at hk
  have m0 := markL_mono Table.mkE_mono a.shelf.tables k
  have m1 := markL_mono Thing.mkE_mono a.shelf.things (markL Table.mkE a.shelf.tables k).2
  have m2 := markL_mono Call.mkE_mono a.stack (markL Thing.mkE a.shelf.things (markL Table.mkE a.shelf.tables k).2).2
  have m3 := markL_mono Int64.mkE_mono a.dead (markL Call.mkE a.stack (markL Thing.mkE a.shelf.things (markL Table.mkE a.shelf.tables k).2).2).2
  refine ret_ofM (nt := 18) (rvs := [.tmp 4]) Try.func14 rfl rfl rfl rfl (fun X hX => ?_)
  repeat' (first | exact aa | ((conv => whnf) <;> (first | refine And.intro ?_ ?_ | (intro _h; first | contradiction | (try simp only [dd] at _h)) | (refine dt_go ?_) | exact rfl | exact True.intro | exact dkk | exact dks | (refine .inr (.inl (.inl ⟨[0, 1], _, _, _, markShelf_ok _ k (by omega) (by simp only [Shelf.mk_]; omega) h.1, viewA, ⟨rfl, rfl⟩, ?_⟩)); rintro _ _ ⟨rfl, rfl⟩; refine ⟨rfl, _, lokA, ?_⟩) | (refine .inr (.inl (.inl ⟨[2], _, _, _, markCallS_ok _ (markL Thing.mkE a.shelf.things (markL Table.mkE a.shelf.tables k).2).2 (by omega) (by omega) h.2.1, viewA, ⟨rfl, rfl⟩, ?_⟩)); rintro _ _ ⟨rfl, rfl⟩; refine ⟨rfl, _, lokA, ?_⟩) | (refine .inr (.inl (.inl ⟨[3], _, _, _, markInt64S_ok _ (markL Call.mkE a.stack (markL Thing.mkE a.shelf.things (markL Table.mkE a.shelf.tables k).2).2).2 (by omega) (by omega) h.2.2.1, viewA, ⟨rfl, rfl⟩, ?_⟩)); rintro _ _ ⟨rfl, rfl⟩; refine ⟨rfl, _, lokA, ?_⟩) | (refine wrap_succ ?_; omega))))
  exact endM_pick [0, 1, 2, 3] (Yard.mk_ a k).1.rowsO (.i .i64 (Yard.mk_ a k).2) viewA rfl rfl (by rw [hX]; exact keepK (n := 4) rfl rfl) ⟨rfl, rfl⟩

set_option maxRecDepth 8000 in
theorem markYard_nil (k : Int) : Ret env.P 14 [.agg [AV.i .i64 0, AV.nils, AV.nils, AV.nils, AV.i .i64 0, AV.nils], .i .i64 k] (fun r => r = .i .i64 k) := by
  refine ret_of (nt := 18) (rvs := [.tmp 4]) Try.func14 rfl rfl rfl rfl (fun X => ?_)
  repeat' (first | exact aa | ((conv => whnf) <;> (first | refine And.intro ?_ ?_ | (intro _h; first | contradiction | (try simp only [dd] at _h)) | (refine dt_go ?_) | exact rfl | exact True.intro | exact dkk | exact dks | ((first | refine .inl ⟨_, markShelf_nil k, ?_⟩ | refine ⟨_, markShelf_nil k, ?_⟩); (try rintro _ rfl)) | ((first | refine .inl ⟨_, markCallS_nil k, ?_⟩ | refine ⟨_, markCallS_nil k, ?_⟩); (try rintro _ rfl)) | ((first | refine .inl ⟨_, markInt64S_nil k, ?_⟩ | refine ⟨_, markInt64S_nil k, ?_⟩); (try rintro _ rfl)) | (refine wrap_succ ?_; omega))))
  all_goals rfl

set_option maxRecDepth 8000 in
theorem heldYard_ok (a : Yard) (k : Int) (h0 : 0 ≤ k) (hk : (Yard.mk_ a k).2 ≤ 4611686018427387904) (h : Yard.ok a) : Ret env.P 15 [.agg a.cs, .i .i64 k] (fun r => r = .i .i64 (heldI a (Yard.mk_ a k))) := by
  simp only [Yard.mk_] at hk
  have m0 := markL_mono Table.mkE_mono a.shelf.tables k
  have m1 := markL_mono Thing.mkE_mono a.shelf.things (markL Table.mkE a.shelf.tables k).2
  have m2 := markL_mono Call.mkE_mono a.stack (markL Thing.mkE a.shelf.things (markL Table.mkE a.shelf.tables k).2).2
  have m3 := markL_mono Int64.mkE_mono a.dead (markL Call.mkE a.stack (markL Thing.mkE a.shelf.things (markL Table.mkE a.shelf.tables k).2).2).2
  refine ret_of (nt := 24) (rvs := [.tmp 4]) Try.func15 rfl rfl rfl rfl (fun X => ?_)
  repeat' (first | exact aa | ((conv => whnf) <;> (first | ((first | refine .inl ⟨_, heldShelf_or _ k (by omega) (by simp only [Shelf.mk_]; omega) h.1, ?_⟩ | refine ⟨_, heldShelf_or _ k (by omega) (by simp only [Shelf.mk_]; omega) h.1, ?_⟩); rintro _ (⟨_, _, rfl⟩ | ⟨_, rfl⟩); all_goals (try simp only [Shelf.mk_] at *)) | ((first | refine .inl ⟨_, heldCallS_or _ (markL Thing.mkE a.shelf.things (markL Table.mkE a.shelf.tables k).2).2 (by omega) (by omega) h.2.1, ?_⟩ | refine ⟨_, heldCallS_or _ (markL Thing.mkE a.shelf.things (markL Table.mkE a.shelf.tables k).2).2 (by omega) (by omega) h.2.1, ?_⟩); rintro _ (⟨_, _, rfl⟩ | ⟨_, rfl⟩)) | ((first | refine .inl ⟨_, heldInt64S_or _ (markL Call.mkE a.stack (markL Thing.mkE a.shelf.things (markL Table.mkE a.shelf.tables k).2).2).2 (by omega) (by omega) h.2.2.1, ?_⟩ | refine ⟨_, heldInt64S_or _ (markL Call.mkE a.stack (markL Thing.mkE a.shelf.things (markL Table.mkE a.shelf.tables k).2).2).2 (by omega) (by omega) h.2.2.1, ?_⟩); rintro _ (⟨_, _, rfl⟩ | ⟨_, rfl⟩)) | refine And.intro ?_ ?_ | (intro _h; first | contradiction | (try simp only [dd] at _h)) | (refine dt_go ?_) | exact rfl | exact True.intro | exact dkk | exact dks | (refine wrap_succ ?_; omega))))
  all_goals (first | (conv => whnf) | skip)
  all_goals first
    | omega
    | exact leaf_i (heldI_eq (r := Yard.mk_ a k) (by simp only [Yard.mk_]; exact Yard.eta (by first | assumption | (refine Shelf.eta rfl ‹_› ‹_›)) ‹_› rfl ‹_›)).symm
    | (refine leaf_i (heldI_ne (r := Yard.mk_ a k) fun e => ?_).symm; first | (have e1 := congrArg (fun a => a.dead) e; simp only [Yard.mk_] at e1; contradiction) | (have e1 := congrArg (fun a => a.shelf) e; simp only [Yard.mk_] at e1; contradiction) | (have e1 := congrArg (fun a => a.shelf.tables) e; simp only [Yard.mk_] at e1; contradiction) | (have e1 := congrArg (fun a => a.shelf.things) e; simp only [Yard.mk_] at e1; contradiction) | (have e1 := congrArg (fun a => a.stack) e; simp only [Yard.mk_] at e1; contradiction))
    | trace_state

theorem heldYard_or (a : Yard) (k : Int) (h0 : 0 ≤ k) (hk : (Yard.mk_ a k).2 ≤ 4611686018427387904) (hl : Yard.ok a) : Ret env.P 15 [.agg a.cs, .i .i64 k] (fun y => (a = (Yard.mk_ a k).1 ∧ k ≤ (Yard.mk_ a k).2 ∧ y = .i .i64 (Yard.mk_ a k).2) ∨ (¬ a = (Yard.mk_ a k).1 ∧ y = .i .i64 (-1))) :=
  (heldYard_ok a k h0 hk hl).mono fun y hy => by
    subst hy
    obtain ⟨h1, h2⟩ | ⟨h1, h2⟩ := heldI_cases a (Yard.mk_ a k)
    · exact .inl ⟨h1, Yard.mk_mono a k, by rw [h2]⟩
    · exact .inr ⟨h1, by rw [h2]⟩

end Go.Proofs.Ytfjciadhanfhpaa
