/-
  NewYard: the program and the reference.
-/
import Derived.Test.YtfjciadhanfhpaaVNewShelfQ
import Derived.Test.YtfjciadhanfhpaaVOYard
namespace Go.Proofs.Ytfjciadhanfhpaa
open Go Go.RowKit
set_option linter.unusedVariables false
set_option linter.unusedSimpArgs false

set_option maxRecDepth 8000 in
theorem l20New_ok (m : Nat) (h : 1 ≤ m ∧ m ≤ 6) : RetM env.P 30 [] [.i .i64 m] (fun r H => r = .agg [.i .i64 1, .row 0 (m + 1), .nils, .nils, .i .i64 1, .nils] ∧ H = [some (rowL 2 Table.csO (newT (m + 1)))]) := by
  have c : RetM env.P 21 [] [.i .i64 (IntKind.i64.wrap ((m : Int) + 1))] (fun r H => r = .agg [.i .i64 1, .row 0 (m + 1), .nils] ∧ H = [some (rowL 2 Table.csO (newT (m + 1)))]) := by
    rw [wrap_succ (by omega)]; exact l19New_ok (m + 1) (by omega) (by omega)
  refine ret_ofM (nt := 7) (rvs := [.cell 2 34]) Try.func30 rfl rfl rfl rfl (fun X hX => ?_)
  repeat' (first | exact aa | ((conv => whnf) <;> (first | refine And.intro ?_ ?_ | (intro _h; first | contradiction | (try simp only [dd] at _h)) | (refine dt_go ?_) | exact rfl | exact True.intro | exact dkk | exact dks | (refine .inr (.inl (.inl ⟨[], _, _, _, c, viewA, ⟨rfl, rfl⟩, ?_⟩)); rintro _ _ ⟨rfl, rfl⟩; refine ⟨rfl, _, lokA, ?_⟩) | (refine wrap_succ ?_; omega))))
  exact endM_pick [1] [some (rowL 2 Table.csO (newT (m + 1)))] (.agg [.i .i64 1, .row 0 (m + 1), .nils, .nils, .i .i64 1, .nils]) (view_of rfl (.cons rfl (.self (rowPl_L fun _ => rfl)) .nil)) rfl rfl (fun k hk => by rw [hX] at hk; exact absurd hk (Nat.not_lt_zero _)) ⟨rfl, rfl⟩

/-- The result of NewYard. -/
def yardN (m : Nat) : AV := .tup [.agg [.i .i64 1, .row 0 (m + 1), .nils, .nils, .i .i64 1, .nils], .i .i64 0]
def yard0 : AV := .tup [.agg [.i .i64 0, .nils, .nils, .nils, .i .i64 0, .nils], .i .i64 2]

set_option maxRecDepth 8000 in
theorem newYard_spec1 (m : Nat) (h : 1 ≤ m ∧ m ≤ 6) : RetM env.P 11 [] [.i .i64 m] (fun r H => r = yardN m ∧ H = [some (rowL 2 Table.csO (newT (m + 1)))]) := by
  refine ret_ofM (nt := 10) (rvs := [.cell 2 34, .tmp 3]) Try.func11 rfl rfl rfl rfl (fun X hX => ?_)
  repeat' (first | exact aa | ((conv => whnf) <;> (first | refine And.intro ?_ ?_ | (intro _h; first | contradiction | (try simp only [dd] at _h)) | (refine dt_go ?_) | exact rfl | exact True.intro | exact dkk | exact dks | ((first | refine .inl ⟨_, l00In_ok _ _ _, ?_⟩ | refine ⟨_, l00In_ok _ _ _, ?_⟩); (try rintro _ rfl)) | (refine .inr (.inl (.inl ⟨[], _, _, _, l20New_ok m h, viewA, ⟨rfl, rfl⟩, ?_⟩)); rintro _ _ ⟨rfl, rfl⟩; refine ⟨rfl, _, lokA, ?_⟩) | (refine wrap_succ ?_; omega))))
  exact endM_pick [1] [some (rowL 2 Table.csO (newT (m + 1)))] (yardN m) (view_of rfl (.cons rfl (.self (rowPl_L fun _ => rfl)) .nil)) rfl rfl (fun k hk => by rw [hX] at hk; exact absurd hk (Nat.not_lt_zero _)) ⟨rfl, rfl⟩

set_option maxRecDepth 8000 in
theorem newYard_spec0 (n : Int) (h : ¬ (1 ≤ n ∧ n ≤ 6)) : RetM env.P 11 [] [.i .i64 n] (fun r H => r = yard0 ∧ H = []) := by
  refine ret_ofM (nt := 10) (rvs := [.cell 2 34, .tmp 3]) Try.func11 rfl rfl rfl rfl (fun X hX => ?_)
  repeat' (first | exact aa | ((conv => whnf) <;> (first | refine And.intro ?_ ?_ | (intro _h; first | contradiction | (try simp only [dd] at _h)) | (refine dt_go ?_) | exact rfl | exact True.intro | exact dkk | exact dks | ((first | refine .inl ⟨_, l00In_ok _ _ _, ?_⟩ | refine ⟨_, l00In_ok _ _ _, ?_⟩); (try rintro _ rfl)) | (refine wrap_succ ?_; omega))))
  exact endM_pick [] [] yard0 (view_of rfl .nil) rfl rfl (fun k hk => by rw [hX] at hk; exact absurd hk (Nat.not_lt_zero _)) ⟨rfl, rfl⟩

set_option maxRecDepth 8000 in
theorem newYard_impl1 (m : Nat) (h : 1 ≤ m ∧ m ≤ 6) : RetM env.P 12 [] [.i .i64 m] (fun r H => r = yardN m ∧ H = [some (rowL 2 Table.csO (newT (m + 1)))]) := by
  have c : RetM env.P 7 [] [.i .i64 (IntKind.i64.wrap ((m : Int) + 1))] (fun r H => r = .tup [.agg [.i .i64 1, .row 0 (m + 1), .nils], .i .i64 0] ∧ H = [some (rowL 2 Table.csO (newT (m + 1)))]) := by
    rw [wrap_succ (by omega)]; exact newShelf_impl1 (m + 1) (by omega)
  refine ret_ofM (nt := 18) (rvs := [.cell 2 34, .tmp 3]) Try.func12 rfl rfl rfl rfl (fun X hX => ?_)
  repeat' (first | exact aa | ((conv => whnf) <;> (first | refine And.intro ?_ ?_ | (intro _h; first | contradiction | (try simp only [dd] at _h)) | (refine dt_go ?_) | exact rfl | exact True.intro | exact dkk | exact dks | ((first | refine .inl ⟨_, within_ok _ _ _, ?_⟩ | refine ⟨_, within_ok _ _ _, ?_⟩); (try rintro _ rfl)) | (refine .inr (.inl (.inl ⟨[], _, _, _, c, viewA, ⟨rfl, rfl⟩, ?_⟩)); rintro _ _ ⟨rfl, rfl⟩; refine ⟨rfl, _, lokA, ?_⟩) | (refine wrap_succ ?_; omega))))
  exact endM_pick [1] [some (rowL 2 Table.csO (newT (m + 1)))] (yardN m) (view_of rfl (.cons rfl (.self (rowPl_L fun _ => rfl)) .nil)) rfl rfl (fun k hk => by rw [hX] at hk; exact absurd hk (Nat.not_lt_zero _)) ⟨rfl, rfl⟩

set_option maxRecDepth 8000 in
theorem newYard_impl0 (n : Int) (h : ¬ (1 ≤ n ∧ n ≤ 6)) : RetM env.P 12 [] [.i .i64 n] (fun r H => r = yard0 ∧ H = []) := by
  refine ret_ofM (nt := 18) (rvs := [.cell 2 34, .tmp 3]) Try.func12 rfl rfl rfl rfl (fun X hX => ?_)
  repeat' (first | exact aa | ((conv => whnf) <;> (first | refine And.intro ?_ ?_ | (intro _h; first | contradiction | (try simp only [dd] at _h)) | (refine dt_go ?_) | exact rfl | exact True.intro | exact dkk | exact dks | ((first | refine .inl ⟨_, within_ok _ _ _, ?_⟩ | refine ⟨_, within_ok _ _ _, ?_⟩); (try rintro _ rfl)) | (refine wrap_succ ?_; omega))))
  exact endM_pick [] [] yard0 (view_of rfl .nil) rfl rfl (fun k hk => by rw [hX] at hk; exact absurd hk (Nat.not_lt_zero _)) ⟨rfl, rfl⟩

set_option maxRecDepth 8000 in
theorem markYard_new (m : Nat) (h : m ≤ 7) : RetM env.P 14 [some (rowL 2 Table.csO (newT m))] [.agg [.i .i64 1, .row 0 m, .nils, .nils, .i .i64 1, .nils], .i .i64 1] (fun r H => r = .i .i64 (markL Table.mkE (newT m) 1).2 ∧ H = [some (rowL 2 Table.csO (markL Table.mkE (newT m) 1).1)]) := by
  refine ret_ofM (nt := 18) (rvs := [.tmp 4]) Try.func14 rfl rfl rfl rfl (fun X hX => ?_)
  repeat' (first | exact aa | ((conv => whnf) <;> (first | refine And.intro ?_ ?_ | (intro _h; first | contradiction | (try simp only [dd] at _h)) | (refine dt_go ?_) | exact rfl | exact True.intro | exact dkk | exact dks | (refine .inr (.inl (.inl ⟨[0], _, _, _, markShelf_new m h, viewA, ⟨rfl, rfl⟩, ?_⟩)); rintro _ _ ⟨rfl, rfl⟩; refine ⟨rfl, _, lokA, ?_⟩) | ((first | refine .inl ⟨_, markCallS_nil _, ?_⟩ | refine ⟨_, markCallS_nil _, ?_⟩); (try rintro _ rfl)) | ((first | refine .inl ⟨_, markInt64S_nil _, ?_⟩ | refine ⟨_, markInt64S_nil _, ?_⟩); (try rintro _ rfl)) | (refine wrap_succ ?_; omega))))
  exact endM_pick [0] [some (rowL 2 Table.csO (markL Table.mkE (newT m) 1).1)] (.i .i64 (markL Table.mkE (newT m) 1).2) (view_of rfl (.cons rfl (.self (rowPl_L fun _ => rfl)) .nil)) rfl rfl (by rw [hX]; exact keepK (n := 1) rfl rfl) ⟨rfl, rfl⟩

/-- A new yard, as the laws see it. -/
def yardT (t : List Table) : Yard := ⟨⟨1, t, []⟩, [], 1, []⟩
theorem yardT_ok {t : List Table} (h : okL Table.ok t) : (yardT t).ok := ⟨⟨h, Nat.zero_le _, fun k hk => absurd hk (Nat.not_lt_zero _)⟩, ⟨Nat.zero_le _, fun k hk => absurd hk (Nat.not_lt_zero _)⟩, Nat.zero_le _, fun k hk => absurd hk (Nat.not_lt_zero _)⟩
theorem held_newY (t : List Table) (k : Int) : heldI (yardT (markL Table.mkE t k).1) (Yard.mk_ (yardT (markL Table.mkE t k).1) k) = (markL Table.mkE t k).2 := by
  have e : Yard.mk_ (yardT (markL Table.mkE t k).1) k = (yardT (markL Table.mkE t k).1, (markL Table.mkE t k).2) := by
    simp only [yardT, Yard.mk_, markL_idem Table.mkE_idem, markL]
  rw [e]
  exact heldI_eq rfl
end Go.Proofs.Ytfjciadhanfhpaa
