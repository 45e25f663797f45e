/-
  Memories: valid ones; reading.
-/
import Derived.Test.YtkajnhnmlgogeaaVTMemory
namespace Go.Proofs.Ytkajnhnmlgogeaa
open Go Go.RowKit
set_option linter.unusedVariables false
set_option linter.unusedSimpArgs false

/-- Where the block before the k-th ends. -/
def lastAt (l : List Block) (k : Nat) : Int := if k = 0 then 7 else (l.getD (k - 1) default).at_ + (l.getD (k - 1) default).size
theorem lastAt_zero (l : List Block) : lastAt l 0 = 7 := rfl
theorem lastAt_succ (l : List Block) (k : Nat) : lastAt l (k + 1) = (l.getD k default).at_ + (l.getD k default).size := rfl
/-- The k-th free block is where it may be. -/
structure BlkOk (n : Int) (l : List Block) (k : Nat) : Prop where
  s : 1 ≤ (l.getD k default).size
  a : lastAt l k < (l.getD k default).at_
  b : (l.getD k default).at_ ≤ n
  c : (l.getD k default).size ≤ n - (l.getD k default).at_
structure BlkUp (n : Int) (l : List Block) (k : Nat) : Prop where
  h : ∀ j, j < k → BlkOk n l j
theorem BlkUp.zero (n : Int) (l : List Block) : BlkUp n l 0 := ⟨fun j hj => absurd hj (Nat.not_lt_zero _)⟩
theorem BlkUp.succ {n : Int} {l : List Block} {k : Nat} (h : BlkUp n l k) (hk : BlkOk n l k) : BlkUp n l (k + 1) := ⟨fun j hj => by
  rcases Nat.lt_or_eq_of_le (Nat.le_of_lt_succ hj) with q | rfl
  · exact h.h j q
  · exact hk⟩
theorem BlkUp.last {n : Int} {l : List Block} : ∀ {k : Nat}, BlkUp n l k → 7 + 2 * (k : Int) ≤ lastAt l k ∧ (lastAt l k ≤ 7 ∨ lastAt l k ≤ n)
  | 0, _ => ⟨by rw [lastAt_zero]; omega, .inl (by rw [lastAt_zero]; omega)⟩
  | k + 1, h => by
    have h1 := BlkUp.last (k := k) ⟨fun j hj => h.h j (by omega)⟩
    obtain ⟨q1, q2, q3, q4⟩ := h.h k (by omega)
    rw [lastAt_succ]
    omega
def Memory.good (m : Memory) : Prop := (m.bytes.size : Int) ≤ 4096 ∧ BlkUp m.bytes.size m.free m.free.length
theorem Memory.few {m : Memory} (h : m.good) : m.free.length ≤ 4096 := by
  have := h.2.last
  have := h.1
  omega

theorem wrap_sub_blk {n x : Int} {l : List Block} {k : Nat} (h : BlkUp n l k) (h1 : ¬ x ≤ lastAt l k) (h2 : ¬ n < x) (h3 : n ≤ 4096) : IntKind.i64.wrap (n - x) = n - x := by
  have := h.last
  exact wrap_in (by omega) (by omega)
set_option maxRecDepth 8000 in
theorem memoryOk_spec (m : Memory) (h : m.ok) : Ret env.P 15 [.agg m.cs] (fun r => r = .b (pb m.good)) := by
  have hl := h.2.1
  refine ret_of (nt := 59) (rvs := [.tmp 2]) Try.func15 rfl rfl rfl rfl (fun X => ?_)
  repeat' (first | exact aa | ((conv => whnf) <;> (first | refine loopN m.free.length (fun k => [(5, .i .i64 k), (4, .i .i64 (lastAt m.free k))]) (fun k => []) (fun k => BlkUp m.bytes.size m.free k) ⟨.zero _ _, ?_⟩ | refine And.intro ?_ ?_ | (intro _h; first | contradiction | (try simp only [dd] at _h)) | (refine dt_go ?_) | exact rfl | exact True.intro | exact dkk | exact dks | (refine wrap_succ ?_; omega))))
  all_goals (try simp only [Int.toNat_natCast] at *)
  all_goals first
    | (exact leaf_f fun q => by have := Memory.few q; have := q.1; omega)
    | (have hw := wrap_sub_blk ‹BlkUp _ _ _› ‹¬ _ ≤ lastAt _ _› ‹¬ (m.bytes.size : Int) < _› (by omega)
       rw [hw] at _h
       first
       | (refine leaf_f fun q => ?_; have hb := q.2.h _ (Int.ofNat_lt.1 ‹((_ : Nat) : Int) < (m.free.length : Int)›); have := hb.c; omega)
       | exact BlkUp.succ ‹_› ⟨by omega, by omega, by omega, by omega⟩
       | (rw [lastAt_succ]; exact wrap_in (by have := (‹BlkUp _ _ _› : BlkUp _ _ _).last; omega) (by omega)))
    | (refine leaf_f fun q => ?_; have hb := q.2.h _ (Int.ofNat_lt.1 ‹((_ : Nat) : Int) < (m.free.length : Int)›); have := hb.s; have := hb.a; have := hb.b; omega)
    | (rename_i k _ hI; obtain rfl : k = m.free.length := by omega
       refine leaf_t ?_; exact ⟨by omega, hI⟩)

set_option maxRecDepth 8000 in
theorem blocksOk_impl (l : List Block) (n : Int) (h : l.length ≤ 1048576) (hn : 0 ≤ n ∧ n ≤ 4096) : Ret env.P 29 [slL 2 Block.cs l, .i .i64 n] (fun r => r = .b (pb (BlkUp n l l.length))) := by
  refine ret_of (nt := 44) (rvs := [.tmp 4]) Try.func29 rfl rfl rfl rfl (fun X => ?_)
  repeat' (first | exact aa | ((conv => whnf) <;> (first | refine loopN l.length (fun k => [(10, .i .i64 k), (5, .i .i64 (lastAt l k))]) (fun k => []) (fun k => BlkUp n l k) ⟨.zero _ _, ?_⟩ | refine And.intro ?_ ?_ | (intro _h; first | contradiction | (try simp only [dd] at _h)) | (refine dt_go ?_) | exact rfl | exact True.intro | exact dkk | exact dks | (refine wrap_succ ?_; omega))))
  all_goals (try simp only [Int.toNat_natCast] at *)
  all_goals first
    | (have hw := wrap_sub_blk ‹BlkUp _ _ _› ‹¬ _ ≤ lastAt _ _› ‹¬ n < _› (by omega)
       rw [hw] at _h
       first
       | (refine leaf_f fun q => ?_; have hb := q.h _ (Int.ofNat_lt.1 ‹((_ : Nat) : Int) < (l.length : Int)›); have := hb.c; omega)
       | exact BlkUp.succ ‹_› ⟨by omega, by omega, by omega, by omega⟩
       | (rw [lastAt_succ]; exact wrap_in (by have := (‹BlkUp _ _ _› : BlkUp _ _ _).last; omega) (by omega)))
    | (refine leaf_f fun q => ?_; have hb := q.h _ (Int.ofNat_lt.1 ‹((_ : Nat) : Int) < (l.length : Int)›); have := hb.s; have := hb.a; have := hb.b; omega)
    | (rename_i k _ hI; obtain rfl : k = l.length := by omega
       exact leaf_t hI)
theorem length_s (b : ByteArray) : Ret env.P 30 [.s b] (fun r => r = .i .i64 b.size) := by
  refine ret_of (nt := 5) (rvs := [.tmp 2]) Try.func30 rfl rfl rfl rfl (fun X => ?_)
  repeat' (first | exact aa | ((conv => whnf) <;> (first | refine And.intro ?_ ?_ | (intro _h; first | contradiction | (try simp only [dd] at _h)) | (refine dt_go ?_) | exact rfl | exact True.intro | exact dkk | exact dks | (refine wrap_succ ?_; omega))))
set_option maxRecDepth 8000 in
theorem memoryOk_impl (m : Memory) (h : m.ok) : Ret env.P 18 [.agg m.cs] (fun r => r = .b (pb m.good)) := by
  have hl := h.2.1
  by_cases hs : (m.bytes.size : Int) ≤ 4096
  · refine ret_of (nt := 15) (rvs := [.tmp 2]) Try.func18 rfl rfl rfl rfl (fun X => ?_)
    repeat' (first | exact aa | ((conv => whnf) <;> (first | refine And.intro ?_ ?_ | (intro _h; first | contradiction | (try simp only [dd] at _h)) | (refine dt_go ?_) | exact rfl | exact True.intro | exact dkk | exact dks | ((first | refine .inl ⟨_, length_s _, ?_⟩ | refine ⟨_, length_s _, ?_⟩); (try rintro _ rfl)) | ((first | refine .inl ⟨_, blocksOk_impl _ _ hl ⟨by omega, hs⟩, ?_⟩ | refine ⟨_, blocksOk_impl _ _ hl ⟨by omega, hs⟩, ?_⟩); (try rintro _ rfl)) | (refine wrap_succ ?_; omega))))
    all_goals exact leaf_p ⟨fun q => ⟨hs, pb_t.mp q⟩, fun q => pb_t.mpr q.2⟩
  · refine ret_of (nt := 15) (rvs := [.tmp 2]) Try.func18 rfl rfl rfl rfl (fun X => ?_)
    repeat' (first | exact aa | ((conv => whnf) <;> (first | exact absurd ‹_› hs | refine And.intro ?_ ?_ | (intro _h; first | contradiction | (try simp only [dd] at _h)) | (refine dt_go ?_) | exact rfl | exact True.intro | exact dkk | exact dks | (refine wrap_succ ?_; omega))))
    all_goals exact leaf_f fun q => hs q.1
end Go.Proofs.Ytkajnhnmlgogeaa
