/-
  Memory, as slices held alone. Printed by fam2.py.
-/
import Derived.Test.YtkajnhnmlgogeaaVTOwn
import Derived.Test.YtkajnhnmlgogeaaVTMemory
import Derived.Test.YtkajnhnmlgogeaaVOBlock
namespace Go.Proofs.Ytkajnhnmlgogeaa
open Go Go.RowKit
set_option linter.unusedVariables false
set_option linter.unusedSimpArgs false

def Memory.csO (a : Memory) : List AV := [.s a.bytes, owL 2 Block.cs a.free]
instance : HoldC Memory.csO := ⟨fun a => (idf_cons trivial (idf_cons owL_idf idf_nil))⟩
instance : FreeC Memory.csO := ⟨fun a => (free_cons trivial (free_cons owL_free free_nil))⟩
instance : Shr 1 Memory.csO Memory.cs := ⟨fun H k a => (.cons (.refl _) (.cons (shr_ow (d := 0) (k := k + 0)) .nil))⟩

def Memory.resO (a : Memory) : List AV := [.s a.bytes, .row 0 a.free.length]
def Memory.rowsO (a : Memory) : Hp := [some (rowL 2 Block.cs a.free)]

set_option maxRecDepth 8000 in
theorem toMemoryO_ok (a : Memory) (h : Memory.ok a) : RetM env.P 7 [] [.agg a.cs] (fun r H => r = .agg a.resO ∧ H = a.rowsO) := by
  refine ret_ofM (nt := 12) (rvs := [.cell 2 30]) Try.func7 rfl rfl rfl rfl (fun X hX => ?_)
  repeat' (first | exact aa | ((conv => whnf) <;> (first | refine And.intro ?_ ?_ | (intro _h; first | contradiction | (try simp only [dd] at _h)) | (refine dt_go ?_) | exact rfl | exact True.intro | exact dkk | exact dks | (refine .inr (.inl (.inl ⟨[], _, _, _, toBlockSO_ok _ h.2, viewA, ⟨rfl, rfl⟩, ?_⟩)); rintro _ _ ⟨rfl, rfl⟩; refine ⟨rfl, _, lokA, ?_⟩) | (refine wrap_succ ?_; omega))))
  exact endM_pick [3] a.rowsO (.agg a.resO) viewA rfl rfl (fun k hk => by rw [hX] at hk; exact absurd hk (Nat.not_lt_zero _)) ⟨rfl, rfl⟩

def Memory.mk_ (a : Memory) (k : Int) : Memory × Int := (⟨a.bytes, (markL Block.mkE a.free k).1⟩, (markL Block.mkE a.free k).2)
theorem Memory.mk_mono (a : Memory) (k : Int) : k ≤ (Memory.mk_ a k).2 := by have m0 := markL_mono Block.mkE_mono a.free k; simp only [Memory.mk_]; omega
theorem Memory.mk_ok (a : Memory) (k : Int) (h : Memory.ok a) : Memory.ok (Memory.mk_ a k).1 := ⟨h.1, (okL_mark Block.mkE_ok h.2)⟩
theorem Memory.mk_idem (a : Memory) (k : Int) : Memory.mk_ (Memory.mk_ a k).1 k = Memory.mk_ a k := by simp only [Memory.mk_, markL_idem Block.mkE_idem]

set_option maxRecDepth 8000 in
theorem markMemory_ok (a : Memory) (k : Int) (h0 : 0 ≤ k) (hk : (Memory.mk_ a k).2 ≤ 4611686018427387904) (h : Memory.ok a) : RetM env.P 12 a.rowsO [.agg a.resO, .i .i64 k] (fun r H => r = .i .i64 (Memory.mk_ a k).2 ∧ H = (Memory.mk_ a k).1.rowsO) := by
  simp only [Memory.mk_] at hk
  have m0 := markL_mono Block.mkE_mono a.free k
  refine ret_ofM (nt := 10) (rvs := [.tmp 4]) Try.func12 rfl rfl rfl rfl (fun X hX => ?_)
  repeat' (first | exact aa | ((conv => whnf) <;> (first | refine And.intro ?_ ?_ | (intro _h; first | contradiction | (try simp only [dd] at _h)) | (refine dt_go ?_) | exact rfl | exact True.intro | exact dkk | exact dks | (refine .inr (.inl (.inl ⟨[0], _, _, _, markBlockS_ok _ k (by omega) (by omega) h.2.1, viewA, ⟨rfl, rfl⟩, ?_⟩)); rintro _ _ ⟨rfl, rfl⟩; refine ⟨rfl, _, lokA, ?_⟩) | (refine wrap_succ ?_; omega))))
  exact endM_pick [0] (Memory.mk_ a k).1.rowsO (.i .i64 (Memory.mk_ a k).2) viewA rfl rfl (by rw [hX]; exact keepK (n := 1) rfl rfl) ⟨rfl, rfl⟩

set_option maxRecDepth 8000 in
theorem markMemory_nil (k : Int) : Ret env.P 12 [.agg [AV.s ByteArray.empty, AV.nils], .i .i64 k] (fun r => r = .i .i64 k) := by
  refine ret_of (nt := 10) (rvs := [.tmp 4]) Try.func12 rfl rfl rfl rfl (fun X => ?_)
  repeat' (first | exact aa | ((conv => whnf) <;> (first | refine And.intro ?_ ?_ | (intro _h; first | contradiction | (try simp only [dd] at _h)) | (refine dt_go ?_) | exact rfl | exact True.intro | exact dkk | exact dks | ((first | refine .inl ⟨_, markBlockS_nil k, ?_⟩ | refine ⟨_, markBlockS_nil k, ?_⟩); (try rintro _ rfl)) | (refine wrap_succ ?_; omega))))
  all_goals rfl

set_option maxRecDepth 8000 in
theorem heldMemory_ok (a : Memory) (k : Int) (h0 : 0 ≤ k) (hk : (Memory.mk_ a k).2 ≤ 4611686018427387904) (h : Memory.ok a) : Ret env.P 13 [.agg a.cs, .i .i64 k] (fun r => r = .i .i64 (heldI a (Memory.mk_ a k))) := by
  simp only [Memory.mk_] at hk
  have m0 := markL_mono Block.mkE_mono a.free k
  refine ret_of (nt := 12) (rvs := [.tmp 4]) Try.func13 rfl rfl rfl rfl (fun X => ?_)
  repeat' (first | exact aa | ((conv => whnf) <;> (first | ((first | refine .inl ⟨_, heldBlockS_or _ k (by omega) (by omega) h.2.1, ?_⟩ | refine ⟨_, heldBlockS_or _ k (by omega) (by omega) h.2.1, ?_⟩); rintro _ (⟨_, _, rfl⟩ | ⟨_, rfl⟩)) | refine And.intro ?_ ?_ | (intro _h; first | contradiction | (try simp only [dd] at _h)) | (refine dt_go ?_) | exact rfl | exact True.intro | exact dkk | exact dks | (refine wrap_succ ?_; omega))))
  all_goals (first | (conv => whnf) | skip)
  all_goals first
    | omega
    | exact leaf_i (heldI_eq (r := Memory.mk_ a k) (by simp only [Memory.mk_]; exact Memory.eta rfl ‹_›)).symm
    | (refine leaf_i (heldI_ne (r := Memory.mk_ a k) fun e => ?_).symm; first | (have e1 := congrArg (fun a => a.free) e; simp only [Memory.mk_] at e1; contradiction))
    | trace_state

theorem heldMemory_or (a : Memory) (k : Int) (h0 : 0 ≤ k) (hk : (Memory.mk_ a k).2 ≤ 4611686018427387904) (hl : Memory.ok a) : Ret env.P 13 [.agg a.cs, .i .i64 k] (fun y => (a = (Memory.mk_ a k).1 ∧ k ≤ (Memory.mk_ a k).2 ∧ y = .i .i64 (Memory.mk_ a k).2) ∨ (¬ a = (Memory.mk_ a k).1 ∧ y = .i .i64 (-1))) :=
  (heldMemory_ok a k h0 hk hl).mono fun y hy => by
    subst hy
    obtain ⟨h1, h2⟩ | ⟨h1, h2⟩ := heldI_cases a (Memory.mk_ a k)
    · exact .inl ⟨h1, Memory.mk_mono a k, by rw [h2]⟩
    · exact .inr ⟨h1, by rw [h2]⟩

end Go.Proofs.Ytkajnhnmlgogeaa
