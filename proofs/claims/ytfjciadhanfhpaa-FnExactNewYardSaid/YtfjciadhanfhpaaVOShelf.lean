/-
  Shelf, as slices held alone. Printed by fam2.py.
-/
import Derived.Test.YtfjciadhanfhpaaVTOwn
import Derived.Test.YtfjciadhanfhpaaVTShelf
import Derived.Test.YtfjciadhanfhpaaVOTable
import Derived.Test.YtfjciadhanfhpaaVOThing
namespace Go.Proofs.Ytfjciadhanfhpaa
open Go Go.RowKit
set_option linter.unusedVariables false
set_option linter.unusedSimpArgs false

def Shelf.csO (a : Shelf) : List AV := [.i .i64 a.next, owL 2 Table.csO a.tables, owL 3 Thing.cs a.things]
instance : HoldC Shelf.csO := ⟨fun a => (idf_cons trivial (idf_cons owL_idf (idf_cons owL_idf idf_nil)))⟩
instance : FreeC Shelf.csO := ⟨fun a => (free_cons trivial (free_cons owL_free (free_cons owL_free free_nil)))⟩
instance : Shr 2 Shelf.csO Shelf.cs := ⟨fun H k a => (.cons (.refl _) (.cons (shr_ow (d := 1) (k := k + 0)) (.cons (shr_ow (d := 0) (k := k + 1)) .nil)))⟩

def Shelf.resO (a : Shelf) : List AV := [.i .i64 a.next, .row 0 a.tables.length, .row 1 a.things.length]
def Shelf.rowsO (a : Shelf) : Hp := [some (rowL 2 Table.csO a.tables), some (rowL 3 Thing.cs a.things)]

set_option maxRecDepth 8000 in
theorem toShelfO_ok (a : Shelf) (h : Shelf.ok a) : RetM env.P 18 [] [.agg a.cs] (fun r H => r = .agg a.resO ∧ H = a.rowsO) := by
  refine ret_ofM (nt := 16) (rvs := [.cell 2 25]) Try.func18 rfl rfl rfl rfl (fun X hX => ?_)
  repeat' (first | exact aa | ((conv => whnf) <;> (first | refine And.intro ?_ ?_ | (intro _h; first | contradiction | (try simp only [dd] at _h)) | (refine dt_go ?_) | exact rfl | exact True.intro | exact dkk | exact dks | (refine .inr (.inl (.inl ⟨[], _, _, _, toTableSO_ok _ h.1, viewA, ⟨rfl, rfl⟩, ?_⟩)); rintro _ _ ⟨rfl, rfl⟩; refine ⟨rfl, _, lokA, ?_⟩) | (refine .inr (.inl (.inl ⟨[], _, _, _, toThingSO_ok _ h.2, viewA, ⟨rfl, rfl⟩, ?_⟩)); rintro _ _ ⟨rfl, rfl⟩; refine ⟨rfl, _, lokA, ?_⟩) | (refine wrap_succ ?_; omega))))
  exact endM_pick [3, 4] a.rowsO (.agg a.resO) viewA rfl rfl (fun k hk => by rw [hX] at hk; exact absurd hk (Nat.not_lt_zero _)) ⟨rfl, rfl⟩

def Shelf.mk_ (a : Shelf) (k : Int) : Shelf × Int := (⟨a.next, (markL Table.mkE a.tables k).1, (markL Thing.mkE a.things (markL Table.mkE a.tables k).2).1⟩, (markL Thing.mkE a.things (markL Table.mkE a.tables k).2).2)
theorem Shelf.mk_mono (a : Shelf) (k : Int) : k ≤ (Shelf.mk_ a k).2 := by have m0 := markL_mono Table.mkE_mono a.tables k; have m1 := markL_mono Thing.mkE_mono a.things (markL Table.mkE a.tables k).2; simp only [Shelf.mk_]; omega
theorem Shelf.mk_ok (a : Shelf) (k : Int) (h : Shelf.ok a) : Shelf.ok (Shelf.mk_ a k).1 := ⟨(okL_mark Table.mkE_ok h.1), (okL_mark Thing.mkE_ok h.2)⟩
theorem Shelf.mk_idem (a : Shelf) (k : Int) : Shelf.mk_ (Shelf.mk_ a k).1 k = Shelf.mk_ a k := by simp only [Shelf.mk_, markL_idem Table.mkE_idem, markL_idem Thing.mkE_idem]

set_option maxRecDepth 8000 in
theorem markShelf_ok (a : Shelf) (k : Int) (h0 : 0 ≤ k) (hk : (Shelf.mk_ a k).2 ≤ 4611686018427387904) (h : Shelf.ok a) : RetM env.P 9 a.rowsO [.agg a.resO, .i .i64 k] (fun r H => r = .i .i64 (Shelf.mk_ a k).2 ∧ H = (Shelf.mk_ a k).1.rowsO) := by
  simp only [Shelf.mk_] at hk
  have m0 := markL_mono Table.mkE_mono a.tables k
  have m1 := markL_mono Thing.mkE_mono a.things (markL Table.mkE a.tables k).2
  refine ret_ofM (nt := 14) (rvs := [.tmp 4]) Try.func9 rfl rfl rfl rfl (fun X hX => ?_)
  repeat' (first | exact aa | ((conv => whnf) <;> (first | refine And.intro ?_ ?_ | (intro _h; first | contradiction | (try simp only [dd] at _h)) | (refine dt_go ?_) | exact rfl | exact True.intro | exact dkk | exact dks | (refine .inr (.inl (.inl ⟨[0], _, _, _, markTableS_ok _ k (by omega) (by omega) h.1, viewA, ⟨rfl, rfl⟩, ?_⟩)); rintro _ _ ⟨rfl, rfl⟩; refine ⟨rfl, _, lokA, ?_⟩) | (refine .inr (.inl (.inl ⟨[1], _, _, _, markThingS_ok _ (markL Table.mkE a.tables k).2 (by omega) (by omega) h.2.1, viewA, ⟨rfl, rfl⟩, ?_⟩)); rintro _ _ ⟨rfl, rfl⟩; refine ⟨rfl, _, lokA, ?_⟩) | (refine wrap_succ ?_; omega))))
  exact endM_pick [0, 1] (Shelf.mk_ a k).1.rowsO (.i .i64 (Shelf.mk_ a k).2) viewA rfl rfl (by rw [hX]; exact keepK (n := 2) rfl rfl) ⟨rfl, rfl⟩

set_option maxRecDepth 8000 in
theorem markShelf_nil (k : Int) : Ret env.P 9 [.agg [AV.i .i64 0, AV.nils, AV.nils], .i .i64 k] (fun r => r = .i .i64 k) := by
  refine ret_of (nt := 14) (rvs := [.tmp 4]) Try.func9 rfl rfl rfl rfl (fun X => ?_)
  repeat' (first | exact aa | ((conv => whnf) <;> (first | refine And.intro ?_ ?_ | (intro _h; first | contradiction | (try simp only [dd] at _h)) | (refine dt_go ?_) | exact rfl | exact True.intro | exact dkk | exact dks | ((first | refine .inl ⟨_, markTableS_nil k, ?_⟩ | refine ⟨_, markTableS_nil k, ?_⟩); (try rintro _ rfl)) | ((first | refine .inl ⟨_, markThingS_nil k, ?_⟩ | refine ⟨_, markThingS_nil k, ?_⟩); (try rintro _ rfl)) | (refine wrap_succ ?_; omega))))
  all_goals rfl

set_option maxRecDepth 8000 in
theorem heldShelf_ok (a : Shelf) (k : Int) (h0 : 0 ≤ k) (hk : (Shelf.mk_ a k).2 ≤ 4611686018427387904) (h : Shelf.ok a) : Ret env.P 10 [.agg a.cs, .i .i64 k] (fun r => r = .i .i64 (heldI a (Shelf.mk_ a k))) := by
  simp only [Shelf.mk_] at hk
  have m0 := markL_mono Table.mkE_mono a.tables k
  have m1 := markL_mono Thing.mkE_mono a.things (markL Table.mkE a.tables k).2
  refine ret_of (nt := 18) (rvs := [.tmp 4]) Try.func10 rfl rfl rfl rfl (fun X => ?_)
  repeat' (first | exact aa | ((conv => whnf) <;> (first | ((first | refine .inl ⟨_, heldTableS_or _ k (by omega) (by omega) h.1, ?_⟩ | refine ⟨_, heldTableS_or _ k (by omega) (by omega) h.1, ?_⟩); rintro _ (⟨_, _, rfl⟩ | ⟨_, rfl⟩)) | ((first | refine .inl ⟨_, heldThingS_or _ (markL Table.mkE a.tables k).2 (by omega) (by omega) h.2.1, ?_⟩ | refine ⟨_, heldThingS_or _ (markL Table.mkE a.tables k).2 (by omega) (by omega) h.2.1, ?_⟩); rintro _ (⟨_, _, rfl⟩ | ⟨_, rfl⟩)) | refine And.intro ?_ ?_ | (intro _h; first | contradiction | (try simp only [dd] at _h)) | (refine dt_go ?_) | exact rfl | exact True.intro | exact dkk | exact dks | (refine wrap_succ ?_; omega))))
  all_goals (first | (conv => whnf) | skip)
  all_goals first
    | omega
    | exact leaf_i (heldI_eq (r := Shelf.mk_ a k) (by simp only [Shelf.mk_]; exact Shelf.eta rfl ‹_› ‹_›)).symm
    | (refine leaf_i (heldI_ne (r := Shelf.mk_ a k) fun e => ?_).symm; first | (have e1 := congrArg (fun a => a.tables) e; simp only [Shelf.mk_] at e1; contradiction) | (have e1 := congrArg (fun a => a.things) e; simp only [Shelf.mk_] at e1; contradiction))
    | trace_state

theorem heldShelf_or (a : Shelf) (k : Int) (h0 : 0 ≤ k) (hk : (Shelf.mk_ a k).2 ≤ 4611686018427387904) (hl : Shelf.ok a) : Ret env.P 10 [.agg a.cs, .i .i64 k] (fun y => (a = (Shelf.mk_ a k).1 ∧ k ≤ (Shelf.mk_ a k).2 ∧ y = .i .i64 (Shelf.mk_ a k).2) ∨ (¬ a = (Shelf.mk_ a k).1 ∧ y = .i .i64 (-1))) :=
  (heldShelf_ok a k h0 hk hl).mono fun y hy => by
    subst hy
    obtain ⟨h1, h2⟩ | ⟨h1, h2⟩ := heldI_cases a (Shelf.mk_ a k)
    · exact .inl ⟨h1, Shelf.mk_mono a k, by rw [h2]⟩
    · exact .inr ⟨h1, by rw [h2]⟩

end Go.Proofs.Ytfjciadhanfhpaa
