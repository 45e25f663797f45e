/-
  Ranges: the drawn arguments of the law.
-/
import Derived.Test.YtcmnohbbjkdpdaaDoorVVrH
namespace Go.Proofs.YtcmnohbbjkdpdaaDoor
open Go Go.RowKit
set_option linter.unusedVariables false
set_option linter.unusedSimpArgs false
attribute [local irreducible] IntKind.wrap rgS numS belS

set_option maxRecDepth 8000 in
theorem rangeOk_spec (r : Rng) : Ret env.P 19 [.agg r.cs] (fun x => x = .b (rangeOk r)) := by
  have h1 := l00In_ok r.low 0 999999999
  refine ret_of (nt := 14) (rvs := [.tmp 2]) Tryd.func19 rfl rfl rfl rfl (fun X => ?_)
  repeat' (first | exact aa | ((conv => whnf) <;> (first | exact leaf_b (rok_t ‹_›) | exact leaf_b (rok_f ‹_›) | refine And.intro ?_ ?_ | (intro _h; first | contradiction | (try simp only [dd] at _h)) | (refine dt_go ?_) | exact rfl | exact True.intro | exact dkk | exact dks | ((first | refine .inl ⟨_, h1, ?_⟩ | refine ⟨_, h1, ?_⟩); (try rintro _ rfl)) | ((first | refine .inl ⟨_, l00In_ok _ _ _, ?_⟩ | refine ⟨_, l00In_ok _ _ _, ?_⟩); (try rintro _ rfl)) | (refine wrap_succ ?_; omega))))
  all_goals (conv => whnf)
  all_goals first | exact leaf_b (rok_t ‹_›) | exact leaf_b (rok_f ‹_›) | trace_state
set_option maxRecDepth 8000 in
set_option maxHeartbeats 400000 in
theorem drawMeet_ok (l : List UInt8) (hl : l.length ≤ 1048576) : RetM env.P 14 [] [slL 1 byteC l] (fun r H => ∃ (a b : Rng), r = .tup [.agg a.cs, .agg b.cs] ∧ H = []) := by
  refine ret_ofM (nt := 13) (rvs := [.cell 2 29, .cell 3 29]) Tryd.func14 rfl rfl rfl rfl (fun X hX => ?_)
  repeat' (first | exact aa | ((conv => whnf) <;> (first | (refine dt_goC [0, 1, 2] ?_) | (refine Src.rm_i ?_ ?_ ?_) | refine And.intro ?_ ?_ | (intro _h; first | contradiction | (try simp only [dd] at _h)) | (refine dt_go ?_) | exact rfl | exact True.intro | exact dkk | exact dks | (refine .inr (.inl (.inl ⟨[], _, _, _, from_gen l hl, viewA, ⟨rfl, rfl⟩, ?_⟩)); rintro _ _ ⟨s, ⟨hs1, hs2⟩, rfl, rfl⟩; refine ⟨rfl, _, lokA, ?_⟩) | (refine .inr (.inl (.inl ⟨[2], _, _, _, l02Range_ok _ ?_, viewA, ⟨rfl, rfl⟩, ?_⟩)); rotate_left 1; rintro _ _ ⟨a, t, ht, rfl, rfl⟩; refine ⟨rfl, _, lokA, ?_⟩) | (refine wrap_succ ?_; omega))))
  all_goals (conv => whnf)
  rename_i a1 t1 ht1
  exact endM_pick [] [] (.tup [.agg a1.cs, .agg a.cs]) (view_of rfl .nil) rfl rfl (fun k hk => by rw [hX] at hk; exact absurd hk (Nat.not_lt_zero _)) (Exists.intro a1 (Exists.intro a (And.intro rfl rfl)))
set_option maxRecDepth 8000 in
set_option maxHeartbeats 400000 in
theorem drawInRange_ok (l : List UInt8) (hl : l.length ≤ 1048576) : RetM env.P 15 [] [slL 1 byteC l] (fun r H => ∃ (v : ByteArray) (b : Rng), v ∈ oddL ++ someL ∧ r = .tup [.s v, .agg b.cs] ∧ H = []) := by
  refine ret_ofM (nt := 13) (rvs := [.tmp 2, .cell 3 29]) Tryd.func15 rfl rfl rfl rfl (fun X hX => ?_)
  repeat' (first | exact aa | ((conv => whnf) <;> (first | (refine Src.rm_i ?_ ?_ ?_) | refine And.intro ?_ ?_ | (intro _h; first | contradiction | (try simp only [dd] at _h)) | (refine dt_go ?_) | exact rfl | exact True.intro | exact dkk | exact dks | (refine .inr (.inl (.inl ⟨[], _, _, _, from_gen l hl, viewA, ⟨rfl, rfl⟩, ?_⟩)); rintro _ _ ⟨s, ⟨hs1, hs2⟩, rfl, rfl⟩; refine ⟨rfl, _, lokA, ?_⟩) | (refine .inr (.inl (.inl ⟨[1], _, _, _, l02Any_ok _ ?_, viewA, ⟨rfl, rfl⟩, ?_⟩)); rotate_left 1; rintro _ _ ⟨v, t, hv, ht, rfl, rfl⟩; refine ⟨rfl, _, lokA, ?_⟩) | (refine .inr (.inl (.inl ⟨[0], _, _, _, l02Any_ok _ ?_, viewA, ⟨rfl, rfl⟩, ?_⟩)); rotate_left 1; rintro _ _ ⟨v, t, hv, ht, rfl, rfl⟩; refine ⟨rfl, _, lokA, ?_⟩) | (refine .inr (.inl (.inl ⟨[1], _, _, _, l02Range_ok _ ?_, viewA, ⟨rfl, rfl⟩, ?_⟩)); rotate_left 1; rintro _ _ ⟨a, t', ht', rfl, rfl⟩; refine ⟨rfl, _, lokA, ?_⟩) | (refine .inr (.inl (.inl ⟨[0], _, _, _, l02Range_ok _ ?_, viewA, ⟨rfl, rfl⟩, ?_⟩)); rotate_left 1; rintro _ _ ⟨a, t', ht', rfl, rfl⟩; refine ⟨rfl, _, lokA, ?_⟩) | (refine wrap_succ ?_; omega))))
  all_goals (conv => whnf)
  all_goals exact endM_pick [] [] (.tup [.s _, .agg (Rng.cs _)]) (view_of rfl .nil) rfl rfl (fun k hk => by rw [hX] at hk; exact absurd hk (Nat.not_lt_zero _)) ⟨_, _, hv, rfl, rfl⟩
theorem opsV_size : ∀ v ∈ opsV, v.size ≤ 20 := by decide +kernel
theorem any_size : ∀ v ∈ oddL ++ someL, v.size ≤ 20 := by decide +kernel
theorem any_max {a b : ByteArray} (h1 : a ∈ opsV) (h2 : b ∈ oddL ++ someL) : a.size + b.size ≤ maxLen := by
  have := opsV_size a h1
  have := any_size b h2
  exact Nat.le_trans (show _ ≤ 40 by omega) (by decide)
set_option maxRecDepth 8000 in
set_option maxHeartbeats 400000 in
theorem drawRangeOf_ok (l : List UInt8) (hl : l.length ≤ 1048576) : RetM env.P 17 [] [slL 1 byteC l] (fun r H => ∃ (o v : ByteArray), o ∈ opsV ∧ v ∈ oddL ++ someL ∧ r = .s (o ++ v) ∧ H = []) := by
  refine ret_ofM (nt := 12) (rvs := [.tmp 2]) Tryd.func17 rfl rfl rfl rfl (fun X hX => ?_)
  repeat' (first | exact aa | ((conv => whnf) <;> (first | (refine Src.rm_i ?_ ?_ ?_) | ((refine .inr (.inl (.inl ⟨[0, 1], _, _, _, text_row s (Src.rm_i (by omega) (by omega) (by omega)) opsV (by decide) (by decide), (view_of rfl (.cons rfl (.self (rowPl_box rfl)) (.cons rfl (rowBack_litS opsV) .nil))), ⟨rfl, rfl⟩, ?_⟩))); rintro _ _ ⟨v1, t1, hv1, ht1, rfl, rfl⟩; refine ⟨rfl, _, lokA, ?_⟩) | exact any_max ‹_› ‹_› | refine And.intro ?_ ?_ | (intro _h; first | contradiction | (try simp only [dd] at _h)) | (refine dt_go ?_) | exact rfl | exact True.intro | exact dkk | exact dks | (refine .inr (.inl (.inl ⟨[], _, _, _, from_gen l hl, viewA, ⟨rfl, rfl⟩, ?_⟩)); rintro _ _ ⟨s, ⟨hs1, hs2⟩, rfl, rfl⟩; refine ⟨rfl, _, lokA, ?_⟩) | (refine .inr (.inl (.inl ⟨[0], _, _, _, l02Any_ok _ ?_, viewA, ⟨rfl, rfl⟩, ?_⟩)); rotate_left 1; rintro _ _ ⟨v2, t2, hv2, ht2, rfl, rfl⟩; refine ⟨rfl, _, lokA, ?_⟩) | (refine wrap_succ ?_; omega))))
  all_goals (conv => whnf)
  all_goals exact endM_pick [] [] (.s _) (view_of rfl .nil) rfl rfl (fun k hk => by rw [hX] at hk; exact absurd hk (Nat.not_lt_zero _)) ⟨v1, v2, hv1, hv2, rfl, rfl⟩
end Go.Proofs.YtcmnohbbjkdpdaaDoor
