/-
  NewShelf: the program and the reference.
-/
import Derived.Test.YtfjciadhanfhpaaVOShelf
import Derived.Test.YtfjciadhanfhpaaVShA
namespace Go.Proofs.Ytfjciadhanfhpaa
open Go Go.RowKit
set_option linter.unusedVariables false
set_option linter.unusedSimpArgs false

/-- The tables of a new shelf. -/
def newT (n : Nat) : List Table := List.replicate n ⟨1, []⟩
theorem newT_len (n : Nat) : (newT n).length = n := by simp [newT]
theorem newT_at {n i : Nat} (h : i < n) : (newT n).getD i default = ⟨1, []⟩ := by
  unfold newT
  rw [List.getD_eq_getElem?_getD, List.getElem?_replicate, if_pos h]; rfl

theorem newT_succ (n : Nat) : newT (n + 1) = newT n ++ [⟨1, []⟩] := List.replicate_succ'

set_option maxRecDepth 8000 in
theorem l19New_ok (n : Nat) (h1 : 1 ≤ n) (h7 : n ≤ 7) : RetM env.P 21 [] [.i .i64 n] (fun r H => r = .agg [.i .i64 1, .row 0 n, .nils] ∧ H = [some (rowL 2 Table.csO (newT n))]) := by
  refine ret_ofM (nt := 18) (rvs := [.cell 2 25]) Try.func21 rfl rfl rfl rfl (fun X hX => ?_)
  conv => whnf
  refine lw_turn _ (turn_box (id := 1) (ds := [.i .i64 1, .ow 2 0 (elE Table.csO (newT 0)), .nils]) rfl rfl rfl (.cons (.refl _) (.cons (.nil _ _) (.cons (.refl _) .nil)))) ?_
  refine loopNT n (fun k => [(4, .i .i64 k)]) (fun k => [none, some (.box [.i .i64 1, .ow 2 k (elE Table.csO (newT k)), .nils])]) (fun k => True) ⟨trivial, ?_⟩
  repeat' (first | exact aa | ((conv => whnf) <;> (first | refine And.intro ?_ ?_ | (intro _h; first | contradiction | (try simp only [dd] at _h)) | (refine dt_go ?_) | exact rfl | exact True.intro | exact dkk | exact dks | (refine wrap_succ ?_; omega))))
  · rename_i k _ _
    conv => whnf
    refine roundNT_turn (turn_close (id := 1) (i := 0) (j := 1) (id' := 4) rfl (show 0 < 1 by decide) (show 1 < 3 by decide) rfl rfl (show 1 ≠ 4 by decide) rfl ⟨Nat.le_refl _, snoc_idf (newT_len k).symm fun j hj => ?_⟩) ?_
    · rcases (show j = 0 ∨ j = 1 by have : j < 2 := hj; omega) with rfl | rfl <;> exact trivial
    refine roundNT_turn (turn_box (id := 1) (ds := [.i .i64 1, .ow 2 (k + 1) (elE Table.csO (newT k ++ [⟨1, []⟩])), .nils]) rfl rfl rfl (.cons (.refl _) (.cons (.ow (fun i j _ _ => HoldC.h _ j) (snoc_eq (newT_len k).symm fun j hj => ?_)) (.cons (.refl _) .nil)))) ?_
    · rcases (show j = 0 ∨ j = 1 by have : j < 2 := hj; omega) with rfl | rfl
      · exact .refl _
      · exact .nil _ _
    refine roundNT_end ?_
    repeat' (first | exact aa | ((conv => whnf) <;> (first | refine And.intro ?_ ?_ | (intro _h; first | contradiction | (try simp only [dd] at _h)) | (refine dt_go ?_) | exact rfl | exact True.intro | exact dkk | exact dks | (refine wrap_succ ?_; omega))))
    rw [newT_succ]
  · rename_i k _ _
    obtain rfl : k = n := by omega
    exact endM_pick [2] [some (rowL 2 Table.csO (newT k))] (.agg [.i .i64 1, .row 0 k, .nils]) (view_of rfl (.cons rfl (.L (newT_len k) (fun _ => rfl)) .nil)) rfl rfl (fun k hk => by rw [hX] at hk; exact absurd hk (Nat.not_lt_zero _)) ⟨rfl, rfl⟩

/-- The result of NewShelf. -/
def newR (n : Int) (r : AV) (H : Hp) : Prop :=
  (¬ (1 ≤ n ∧ n ≤ 7) ∧ r = .tup [.agg [.i .i64 0, .nils, .nils], .i .i64 2] ∧ H = []) ∨ ∃ m : Nat, n = m ∧ (1 ≤ m ∧ m ≤ 7) ∧ r = .tup [.agg [.i .i64 1, .row 0 m, .nils], .i .i64 0] ∧ H = [some (rowL 2 Table.csO (newT m))]

set_option maxRecDepth 8000 in
theorem newShelf_spec (n : Int) : RetM env.P 6 [] [.i .i64 n] (newR n) := by
  by_cases h : 1 ≤ n ∧ n ≤ 7
  · obtain ⟨m, rfl⟩ : ∃ m : Nat, n = m := ⟨n.toNat, by omega⟩
    refine ret_ofM (nt := 10) (rvs := [.cell 2 25, .tmp 3]) Try.func6 rfl rfl rfl rfl (fun X hX => ?_)
    repeat' (first | exact aa | ((conv => whnf) <;> (first | refine And.intro ?_ ?_ | (intro _h; first | contradiction | (try simp only [dd] at _h)) | (refine dt_go ?_) | exact rfl | exact True.intro | exact dkk | exact dks | ((first | refine .inl ⟨_, l00In_ok _ _ _, ?_⟩ | refine ⟨_, l00In_ok _ _ _, ?_⟩); (try rintro _ rfl)) | (refine .inr (.inl (.inl ⟨[], _, _, _, l19New_ok m (by omega) (by omega), viewA, ⟨rfl, rfl⟩, ?_⟩)); rintro _ _ ⟨rfl, rfl⟩; refine ⟨rfl, _, lokA, ?_⟩) | (refine wrap_succ ?_; omega))))
    exact endM_pick [1] [some (rowL 2 Table.csO (newT m))] (.tup [.agg [.i .i64 1, .row 0 m, .nils], .i .i64 0]) (view_of rfl (.cons rfl (.self (rowPl_L fun _ => rfl)) .nil)) rfl rfl (fun k hk => by rw [hX] at hk; exact absurd hk (Nat.not_lt_zero _)) (.inr ⟨m, rfl, by omega, rfl, rfl⟩)
  · refine ret_ofM (nt := 10) (rvs := [.cell 2 25, .tmp 3]) Try.func6 rfl rfl rfl rfl (fun X hX => ?_)
    repeat' (first | exact aa | ((conv => whnf) <;> (first | refine And.intro ?_ ?_ | (intro _h; first | contradiction | (try simp only [dd] at _h)) | (refine dt_go ?_) | exact rfl | exact True.intro | exact dkk | exact dks | ((first | refine .inl ⟨_, l00In_ok _ _ _, ?_⟩ | refine ⟨_, l00In_ok _ _ _, ?_⟩); (try rintro _ rfl)) | (refine wrap_succ ?_; omega))))
    exact endM_pick [] [] (.tup [.agg [.i .i64 0, .nils, .nils], .i .i64 2]) (view_of rfl .nil) rfl rfl (fun k hk => by rw [hX] at hk; exact absurd hk (Nat.not_lt_zero _)) (.inl ⟨h, rfl, rfl⟩)

set_option maxRecDepth 8000 in
theorem mul64_ok (b : Int) (h : 1 ≤ b ∧ b ≤ 7) : Ret env.P 73 [.i .u64 1, .i .u64 b] (fun r => r = .tup [.i .u64 0, .i .u64 b]) := by
  rcases (show b = 1 ∨ b = 2 ∨ b = 3 ∨ b = 4 ∨ b = 5 ∨ b = 6 ∨ b = 7 by omega) with rfl | rfl | rfl | rfl | rfl | rfl | rfl
  all_goals
    refine ret_of (nt := 51) (rvs := [.tmp 4, .tmp 5]) Try.func73 rfl rfl rfl rfl (fun X => ?_)
    repeat' (first | exact aa | ((conv => whnf) <;> (first | refine And.intro ?_ ?_ | (intro _h; first | contradiction | (try simp only [dd] at _h)) | (refine dt_go ?_) | exact rfl | exact True.intro | exact dkk | exact dks | (refine wrap_succ ?_; omega))))

set_option maxRecDepth 8000 in
theorem mul_ok (b : Int) (h : 1 ≤ b ∧ b ≤ 7) : Ret env.P 48 [.i .u64 1, .i .u64 b] (fun r => r = .tup [.i .u64 0, .i .u64 b]) := by
  refine ret_of (nt := 30) (rvs := [.tmp 4, .tmp 5]) Try.func48 rfl rfl rfl rfl (fun X => ?_)
  repeat' (first | exact aa | ((conv => whnf) <;> (first | refine And.intro ?_ ?_ | (intro _h; first | contradiction | (try simp only [dd] at _h)) | (refine dt_go ?_) | exact rfl | exact True.intro | exact dkk | exact dks | ((first | refine .inl ⟨_, mul64_ok b h, ?_⟩ | refine ⟨_, mul64_ok b h, ?_⟩); (try rintro _ rfl)) | (refine wrap_succ ?_; omega))))
end Go.Proofs.Ytfjciadhanfhpaa
