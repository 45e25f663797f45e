/-
  Ranges: what is drawn, all of it.
-/
import Derived.Test.YtcmnohbbjkdpdaaDoorVVrG
namespace Go.Proofs.YtcmnohbbjkdpdaaDoor
open Go Go.RowKit
set_option linter.unusedVariables false
set_option linter.unusedSimpArgs false
attribute [local irreducible] IntKind.wrap rgS numS belS

theorem some_size : ∀ v ∈ someL, v.size ≤ 20 := by decide +kernel
theorem ops_size : ∀ v ∈ opsV4, v.size ≤ 20 := by decide +kernel
theorem sum_size {a b : ByteArray} (h1 : a ∈ opsV4) (h2 : b ∈ someL) : (a ++ b).size ≤ 1000000 := by
  have := ops_size a h1
  have := some_size b h2
  rw [ByteArray.size_append]
  omega
theorem sum_max {a b : ByteArray} (h1 : a ∈ opsV4) (h2 : b ∈ someL) : a.size + b.size ≤ maxLen := by
  have := ops_size a h1
  have := some_size b h2
  exact Nat.le_trans (show _ ≤ 40 by omega) (by decide)
set_option maxRecDepth 8000 in
set_option maxHeartbeats 1000000 in
theorem l02Range_ok (s : Src) (h : s.rm 10) : RetM env.P 34 [some (boxRow s.cs)] [.ptr 0 0 0] (fun r H => ∃ (a : Rng) (t : Src), (s.at' ≤ t.at' ∧ t.at' ≤ s.at' + 10 ∧ t.code.length = s.code.length) ∧ r = .agg a.cs ∧ H = [some (boxRow t.cs)]) := by
  obtain ⟨q1, q2, q3⟩ := h
  refine ret_ofM (nt := 39) (rvs := [.cell 2 29]) Tryd.func34 rfl rfl rfl rfl (fun X hX => ?_)
  repeat' (first | exact aa | ((conv => whnf) <;> (first | (refine Src.rm_i ?_ ?_ ?_) | ((refine .inr (.inl (.inl ⟨[0, 2], _, _, _, text_row s (Src.rm_i (by omega) (by omega) (by omega)) opsV4 (by decide) (by decide), (view_of rfl (.cons rfl (.self (rowPl_box rfl)) (.cons rfl (rowBack_litS opsV4) .nil))), ⟨rfl, rfl⟩, ?_⟩))); rintro _ _ ⟨v1, t1, hv1, ht1, rfl, rfl⟩; refine ⟨rfl, _, lokA, ?_⟩) | exact sum_max ‹_› ‹_› | ((refine .inr (.inl (.inl ⟨[0, 4], _, _, _, among_row t3 (Src.rm_i (by omega) (by omega) (by omega)) [-1, 1, 1000, -1000] (by decide) (by decide), (view_of rfl (.cons rfl (.self (rowPl_box rfl)) (.cons rfl (rowBack_lit [-1, 1, 1000, -1000]) .nil))), ⟨rfl, rfl⟩, ?_⟩))); rintro _ _ ⟨v4, t4, hv4, ht4, rfl, rfl⟩; refine ⟨rfl, _, lokA, ?_⟩) | ((refine .inr (.inl (.inl ⟨[0, 4], _, _, _, among_row t3 (Src.rm_i (by omega) (by omega) (by omega)) [-1, 0, 1000000, 999999999, 1000000000] (by decide) (by decide), (view_of rfl (.cons rfl (.self (rowPl_box rfl)) (.cons rfl (rowBack_lit [-1, 0, 1000000, 999999999, 1000000000]) .nil))), ⟨rfl, rfl⟩, ?_⟩))); rintro _ _ ⟨v4, t4, hv4, ht4, rfl, rfl⟩; refine ⟨rfl, _, lokA, ?_⟩) | ((refine .inr (.inl (.inl ⟨[0, 4], _, _, _, among_row t3 (Src.rm_i (by omega) (by omega) (by omega)) [0, 1, 2000000, 1000000000, 1000000001] (by decide) (by decide), (view_of rfl (.cons rfl (.self (rowPl_box rfl)) (.cons rfl (rowBack_lit [0, 1, 2000000, 1000000000, 1000000001]) .nil))), ⟨rfl, rfl⟩, ?_⟩))); rintro _ _ ⟨v4, t4, hv4, ht4, rfl, rfl⟩; refine ⟨rfl, _, lokA, ?_⟩) | (refine dt_goC (id := 4) [0, 3, 4] ?_) | (refine dt_goC (id := 5) [0, 3, 4] ?_) | (refine dt_goC (id := 6) [0, 3, 4] ?_) | (refine dt_goC (id := 7) [0, 3, 4] ?_) | (refine dt_goC (id := 8) [0, 3, 4] ?_) | refine And.intro ?_ ?_ | (intro _h; first | contradiction | (try simp only [dd] at _h)) | (refine dt_go ?_) | exact rfl | exact True.intro | exact dkk | exact dks | (refine .inr (.inl (.inl ⟨[0], _, _, _, l02Some_ok _ ?_, viewA, ⟨rfl, rfl⟩, ?_⟩)); rotate_left 1; rintro _ _ ⟨v2, t2, hv2, ht2, rfl, rfl⟩; refine ⟨rfl, _, lokA, ?_⟩) | (refine .inr (.inl (.inl ⟨[0], _, _, _, pick_ex _ ?_ _ ?_, viewA, ⟨rfl, rfl⟩, ?_⟩)); rotate_left 2; rintro _ _ ⟨v3, t3, hv3, ht3, rfl, rfl⟩; refine ⟨rfl, _, lokA, ?_⟩) | ((first | refine .inl ⟨_, rangeOf_spec _ (sum_size ‹_› ‹_›), ?_⟩ | refine ⟨_, rangeOf_spec _ (sum_size ‹_› ‹_›), ?_⟩); (try rintro _ rfl)) | (refine wrap_succ ?_; omega))))
  all_goals (conv => whnf)
  all_goals first
    | exact endM_pick [0] [some (boxRow t4.cs)] (.agg [.i .i64 _, .i .i64 _]) (view_of rfl (.cons rfl (.self (rowPl_box rfl)) .nil)) rfl rfl (by rw [hX]; exact keepK (n := 1) rfl rfl) ⟨⟨_, _⟩, t4, ⟨by omega, by omega, by omega⟩, rfl, rfl⟩
    | exact endM_pick [0] [some (boxRow t3.cs)] (.agg [.i .i64 _, .i .i64 _]) (view_of rfl (.cons rfl (.self (rowPl_box rfl)) .nil)) rfl rfl (by rw [hX]; exact keepK (n := 1) rfl rfl) ⟨⟨_, _⟩, t3, ⟨by omega, by omega, by omega⟩, rfl, rfl⟩
    | trace_state
end Go.Proofs.YtcmnohbbjkdpdaaDoor
