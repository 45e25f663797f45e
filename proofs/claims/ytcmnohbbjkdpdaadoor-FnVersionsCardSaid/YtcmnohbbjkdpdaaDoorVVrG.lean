/-
  Ranges: what is drawn.
-/
import Derived.Test.YtcmnohbbjkdpdaaDoorVVrF
namespace Go.Proofs.YtcmnohbbjkdpdaaDoor
open Go Go.RowKit
set_option linter.unusedVariables false
set_option linter.unusedSimpArgs false
attribute [local irreducible] IntKind.wrap

def belS (c : Int) (n : Int) : Int :=
  if c = 61 then IntKind.i64.wrap (n + 1) else if c = 126 then IntKind.i64.wrap (IntKind.i64.wrap (IntKind.i64.wrap (n.tdiv 1000) * 1000) + 1000) else if c = 94 then (if n < 1000000 then IntKind.i64.wrap (IntKind.i64.wrap (IntKind.i64.wrap (n.tdiv 1000) * 1000) + 1000) else IntKind.i64.wrap (IntKind.i64.wrap (IntKind.i64.wrap (n.tdiv 1000000) * 1000000) + 1000000)) else if c = 62 then 1000000000 else 0
theorem bs1 {c n : Int} (h : c = 61) : IntKind.i64.wrap (n + 1) = belS c n := by unfold belS; rw [if_pos h]
theorem bs6 {c n : Int} (h1 : ¬ c = 61) (h : c = 126) : IntKind.i64.wrap (IntKind.i64.wrap (IntKind.i64.wrap (n.tdiv 1000) * 1000) + 1000) = belS c n := by unfold belS; rw [if_neg h1, if_pos h]
theorem bs2 {c n : Int} (h1 : ¬ c = 61) (h2 : ¬ c = 126) (h : c = 94) (h4 : n < 1000000) : IntKind.i64.wrap (IntKind.i64.wrap (IntKind.i64.wrap (n.tdiv 1000) * 1000) + 1000) = belS c n := by unfold belS; rw [if_neg h1, if_neg h2, if_pos h, if_pos h4]
theorem bs3 {c n : Int} (h1 : ¬ c = 61) (h2 : ¬ c = 126) (h : c = 94) (h4 : ¬ n < 1000000) : IntKind.i64.wrap (IntKind.i64.wrap (IntKind.i64.wrap (n.tdiv 1000000) * 1000000) + 1000000) = belS c n := by unfold belS; rw [if_neg h1, if_neg h2, if_pos h, if_neg h4]
theorem bs4 {c n : Int} (h1 : ¬ c = 61) (h2 : ¬ c = 126) (h3 : ¬ c = 94) (h : c = 62) : 1000000000 = belS c n := by unfold belS; rw [if_neg h1, if_neg h2, if_neg h3, if_pos h]
theorem bs5 {c n : Int} (h1 : ¬ c = 61) (h2 : ¬ c = 126) (h3 : ¬ c = 94) (h : ¬ c = 62) : 0 = belS c n := by unfold belS; rw [if_neg h1, if_neg h2, if_neg h3, if_neg h]
set_option maxRecDepth 8000 in
theorem l02Below_ok (c : Int) (n : Int) : Ret env.P 53 [.i .u8 c, .i .i64 n] (fun r => r = .i .i64 (belS c n)) := by
  refine ret_of (nt := 35) (rvs := [.tmp 4]) Tryd.func53 rfl rfl rfl rfl (fun X => ?_)
  repeat' (first | exact aa | ((conv => whnf) <;> (first | refine And.intro ?_ ?_ | (intro _h; first | contradiction | (try simp only [dd] at _h)) | (refine dt_go ?_) | exact rfl | exact True.intro | exact dkk | exact dks | (refine wrap_succ ?_; omega))))
  all_goals (conv => whnf)
  all_goals first
    | exact leaf_i (bs1 ‹_›)
    | exact leaf_i (bs6 ‹_› ‹_›)
    | exact leaf_i (bs2 ‹_› ‹_› ‹_› ‹_›)
    | exact leaf_i (bs3 ‹_› ‹_› ‹_› ‹_›)
    | exact leaf_i (bs4 ‹_› ‹_› ‹_› ‹_›)
    | exact leaf_i (bs5 ‹_› ‹_› ‹_› ‹_›)
    | trace_state
theorem numS_r (b : ByteArray) : -1 ≤ numS b ∧ numS b < 1000000000 := by
  unfold numS
  split
  · unfold finS
    split
    · rename_i q
      obtain ⟨_, _, q3, _⟩ := q
      omega
    · omega
  · omega
/-- What the reference's RangeOf returns. -/
def rgS (s : ByteArray) : Int × Int × Int := if s.size < 2 then (0, 0, 6) else if numS (s.extract 1 s.size) < 0 then (0, 0, 6) else if belS (byN s 0) (numS (s.extract 1 s.size)) = 0 then (0, 0, 6) else (numS (s.extract 1 s.size), belS (byN s 0) (numS (s.extract 1 s.size)), 0)
def rgV (v : Int × Int × Int) : AV := .tup [.agg [.i .i64 v.1, .i .i64 v.2.1], .i .i64 v.2.2]
theorem rgS_1 {s : ByteArray} (h : (s.size : Int) < 2) : AV.tup [.agg [.i .i64 0, .i .i64 0], .i .i64 6] = rgV (rgS s) := by
  unfold rgS
  rw [if_pos (by omega)]
  rfl
theorem rgS_2 {s : ByteArray} (h : ¬ (s.size : Int) < 2) (h1 : numS (s.extract 1 s.size) < 0) : AV.tup [.agg [.i .i64 0, .i .i64 0], .i .i64 6] = rgV (rgS s) := by
  unfold rgS
  rw [if_neg (by omega), if_pos h1]
  rfl
theorem rgS_3 {s : ByteArray} (h : ¬ (s.size : Int) < 2) (h1 : ¬ numS (s.extract 1 s.size) < 0) (h2 : belS (s.data.getD 0 0).toNat (numS (s.extract 1 s.size)) = 0) : AV.tup [.agg [.i .i64 0, .i .i64 0], .i .i64 6] = rgV (rgS s) := by
  unfold rgS
  rw [if_neg (by omega), if_neg h1, if_pos (show belS (byN s 0) _ = 0 from h2)]
  rfl
theorem rgS_4 {s : ByteArray} (h : ¬ (s.size : Int) < 2) (h1 : ¬ numS (s.extract 1 s.size) < 0) (h2 : ¬ belS (s.data.getD 0 0).toNat (numS (s.extract 1 s.size)) = 0) : AV.tup [.agg [.i .i64 (numS (s.extract 1 s.size)), .i .i64 (belS (s.data.getD 0 0).toNat (numS (s.extract 1 s.size)))], .i .i64 0] = rgV (rgS s) := by
  unfold rgS
  rw [if_neg (by omega), if_neg h1, if_neg (show ¬ belS (byN s 0) _ = 0 from h2)]
  rfl
attribute [local irreducible] rgS numS belS rgV
set_option maxRecDepth 8000 in
set_option maxHeartbeats 400000 in
theorem rangeOf_spec (s : ByteArray) (hs : s.size ≤ 1000000) : Ret env.P 44 [.s s] (fun r => r = rgV (rgS s)) := by
  have hn := l02Num_ok (s.extract 1 s.size) (by rw [ByteArray.size_extract]; omega)
  refine ret_of (nt := 28) (rvs := [.cell 2 29, .tmp 3]) Tryd.func44 rfl rfl rfl rfl (fun X => ?_)
  repeat' (first | exact aa | ((conv => whnf) <;> (first | exact rgS_1 ‹_› | exact rgS_2 ‹_› ‹_› | exact rgS_3 ‹_› ‹_› ‹_› | exact rgS_4 ‹_› ‹_› ‹_› | refine And.intro ?_ ?_ | (intro _h; first | contradiction | (try simp only [dd] at _h)) | (refine dt_go ?_) | exact rfl | exact True.intro | exact dkk | exact dks | ((first | refine .inl ⟨_, hn, ?_⟩ | refine ⟨_, hn, ?_⟩); (try rintro _ rfl)) | ((first | refine .inl ⟨_, l02Below_ok _ _, ?_⟩ | refine ⟨_, l02Below_ok _ _, ?_⟩); (try rintro _ rfl)) | (refine wrap_succ ?_; omega))))
  all_goals trace_state
end Go.Proofs.YtcmnohbbjkdpdaaDoor
