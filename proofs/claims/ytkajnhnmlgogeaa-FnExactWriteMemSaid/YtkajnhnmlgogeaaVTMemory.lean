/-
  Memory: what the laws' functions for it do. Printed by fam.py.
-/
import Derived.Test.YtkajnhnmlgogeaaVU
import Derived.Test.YtkajnhnmlgogeaaVTBase
import Derived.Test.YtkajnhnmlgogeaaVTBlock
namespace Go.Proofs.Ytkajnhnmlgogeaa
open Go Go.RowKit
set_option linter.unusedVariables false
set_option linter.unusedSimpArgs false

structure Memory where
  bytes : ByteArray
  free : List Block
  deriving DecidableEq, Inhabited
def Memory.cs (a : Memory) : List AV := [.s a.bytes, slL 2 Block.cs a.free]
theorem Memory.low (a : Memory) : a.cs.all (low1 0) = true := rfl
theorem Memory.eta {a b : Memory} (h0 : a.bytes = b.bytes) (h1 : a.free = b.free) : a = b := by cases a; cases b; simp_all
theorem Memory.etaC {a b : Memory} (h : a.bytes = b.bytes ∧ a.free = b.free) : a = b := by cases a; cases b; simp_all
def Memory.ok (a : Memory) : Prop := okS a.bytes ∧ (okL Block.ok) a.free

set_option maxRecDepth 8000 in
theorem toMemory_ok (a : Memory) (h : Memory.ok a) : Ret env.P 7 [.agg a.cs] (fun r => r = .agg a.cs) := by
  refine ret_of (nt := 12) (rvs := [.cell 2 30]) Try.func7 rfl rfl rfl rfl (fun X => ?_)
  repeat' (first | exact aa | ((conv => whnf) <;> (first | refine And.intro ?_ ?_ | (intro _h; first | contradiction | (try simp only [dd] at _h)) | (refine dt_go ?_) | exact rfl | exact True.intro | exact dkk | exact dks | ((first | refine .inl ⟨_, toBlockS_ok _ h.2, ?_⟩ | refine ⟨_, toBlockS_ok _ h.2, ?_⟩); (try rintro _ rfl)) | (refine wrap_succ ?_; omega))))

set_option maxRecDepth 8000 in
theorem eqMemory_ok (a b : Memory) (h : Memory.ok a) : Ret env.P 9 [.agg a.cs, .agg b.cs] (fun r => r = .b (decide (a = b))) := by
  obtain ⟨a0, a1⟩ := a
  obtain ⟨b0, b1⟩ := b
  refine ret_of (nt := 16) (rvs := [.tmp 4]) Try.func9 rfl rfl rfl rfl (fun X => ?_)
  repeat' (first | exact aa | ((conv => whnf) <;> (first | refine And.intro ?_ ?_ | (intro _h; first | contradiction | (try simp only [dd] at _h)) | (refine dt_go ?_) | exact rfl | exact True.intro | exact dkk | exact dks | ((first | refine .inl ⟨_, eqBlockS_ok _ _ h.2, ?_⟩ | refine ⟨_, eqBlockS_ok _ _ h.2, ?_⟩); (try rintro _ rfl)) | (refine wrap_succ ?_; omega))))
  all_goals (clear h; refine leaf_b ?_; simp_all)

def Memory.sz (a : Memory) (left : Int) : Int :=
  if (szSt a.bytes left) < 0 then -1 else if (szFl a.free (szSt a.bytes left)) < 0 then -1 else (szFl a.free (szSt a.bytes left))
theorem Memory.sz_le (a : Memory) (left : Int) (h1 : left ≤ 1048576) : Memory.sz a left ≤ 1048576 := by
  have b1 : (szSt a.bytes left) ≤ 1048576 := szN_le h1
  have b2 : (szFl a.free (szSt a.bytes left)) ≤ 1048576 := szN_le b1
  unfold Memory.sz
  repeat' split
  all_goals omega
theorem Memory.sz_ok (a : Memory) (left : Int) (h0 : 0 ≤ left) (h1 : left ≤ 1048576) (hn : ¬ Memory.sz a left < 0) : Memory.ok a := by
  have b1 : (szSt a.bytes left) ≤ 1048576 := szN_le h1
  have b2 : (szFl a.free (szSt a.bytes left)) ≤ 1048576 := szN_le b1
  unfold Memory.sz at hn
  by_cases c1 : (szSt a.bytes left) < 0
  · rw [if_pos c1] at hn; omega
  rw [if_neg c1] at hn
  by_cases c2 : (szFl a.free (szSt a.bytes left)) < 0
  · rw [if_pos c2] at hn; omega
  rw [if_neg c2] at hn
  exact ⟨szSt_ok h0 h1 c1, szFl_ok (fun _ => trivial) (by omega) b1 c2⟩

set_option maxRecDepth 8000 in
theorem szMemory_ok (a : Memory) (left : Int) (h0 : 0 ≤ left) (h1 : left ≤ 1048576) : Ret env.P 5 [.agg a.cs, .i .i64 left] (fun r => r = .i .i64 (Memory.sz a left)) := by
  refine Ret.args fun hw => ?_
  have b1 : (szSt a.bytes left) ≤ 1048576 := szN_le h1
  have b2 : (szFl a.free (szSt a.bytes left)) ≤ 1048576 := szN_le b1
  have w0 : a.bytes.size ≤ 9223372036854775807 := hw _ (List.mem_cons_self) (.s a.bytes) (.head _)
  have e0 : 0 ≤ left → IntKind.i64.wrap (left - (a.bytes.size : Int)) = left - (a.bytes.size : Int) := fun _ => wrap_in (by omega) (by omega)
  refine ret_of (nt := 19) (rvs := [.tmp 4]) Try.func5 rfl rfl rfl rfl (fun X => ?_)
  conv => whnf
  rw [e0 (by omega)]
  refine ⟨fun _h => ?_, fun _h => ?_⟩
  · exact leaf_i (by have dn := szSt_neg (of_decide_eq_true _h); clear _h; simp_all [Memory.sz]; try (intros; omega))
  have d0 : ¬ (szSt a.bytes left) < 0 := szSt_pos (fun hc => _h (decide_eq_true hc))
  rw [szSt_eq d0] at *
  repeat' (first | exact aa | ((conv => whnf) <;> (first | refine And.intro ?_ ?_ | (intro _h; first | contradiction | (try simp only [dd] at _h)) | (refine dt_go ?_) | exact rfl | exact True.intro | exact dkk | exact dks | ((first | refine .inl ⟨_, szBlockS_ok _ _ (by omega) (by omega), ?_⟩ | refine ⟨_, szBlockS_ok _ _ (by omega) (by omega), ?_⟩); (try rintro _ rfl)) | (refine wrap_succ ?_; omega))))
  all_goals (refine leaf_i ?_; simp_all [Memory.sz]; try (intros; omega))

end Go.Proofs.Ytkajnhnmlgogeaa
