/-
  New shelves: what is known of their tables, marked or not.
-/
import Derived.Test.YtfjciadhanfhpaaVNewShelfI
namespace Go.Proofs.Ytfjciadhanfhpaa
open Go Go.RowKit
set_option linter.unusedVariables false
set_option linter.unusedSimpArgs false

theorem newShelf_spec1 (m : Nat) (h : 1 ≤ m ∧ m ≤ 7) : RetM env.P 6 [] [.i .i64 m] (fun r H => r = .tup [.agg [.i .i64 1, .row 0 m, .nils], .i .i64 0] ∧ H = [some (rowL 2 Table.csO (newT m))]) :=
  (newShelf_spec m).mono fun r H h' => by
    rcases h' with ⟨hn, _⟩ | ⟨m', e, _, h1, h2⟩
    · omega
    · obtain rfl : m = m' := by omega
      exact ⟨h1, h2⟩
theorem newShelf_spec0 (n : Int) (h : ¬ (1 ≤ n ∧ n ≤ 7)) : RetM env.P 6 [] [.i .i64 n] (fun r H => r = .tup [.agg [.i .i64 0, .nils, .nils], .i .i64 2] ∧ H = []) :=
  (newShelf_spec n).mono fun r H h' => by
    rcases h' with ⟨_, h1, h2⟩ | ⟨m', e, _, h1, h2⟩
    · exact ⟨h1, h2⟩
    · omega
theorem newShelf_impl1 (m : Nat) (h : 1 ≤ m ∧ m ≤ 7) : RetM env.P 7 [] [.i .i64 m] (fun r H => r = .tup [.agg [.i .i64 1, .row 0 m, .nils], .i .i64 0] ∧ H = [some (rowL 2 Table.csO (newT m))]) :=
  (newShelf_impl m).mono fun r H h' => by
    rcases h' with ⟨hn, _⟩ | ⟨m', e, _, h1, h2⟩
    · omega
    · obtain rfl : m = m' := by omega
      exact ⟨h1, h2⟩
theorem newShelf_impl0 (n : Int) (h : ¬ (1 ≤ n ∧ n ≤ 7)) : RetM env.P 7 [] [.i .i64 n] (fun r H => r = .tup [.agg [.i .i64 0, .nils, .nils], .i .i64 2] ∧ H = []) :=
  (newShelf_impl n).mono fun r H h' => by
    rcases h' with ⟨_, h1, h2⟩ | ⟨m', e, _, h1, h2⟩
    · exact ⟨h1, h2⟩
    · omega

theorem newT_mark : ∀ (m : Nat) (k : Int), (markL Table.mkE (newT m) k).2 = k + m
  | 0, k => by simp [newT, markL]
  | m + 1, k => by
    have : newT (m + 1) = ⟨1, []⟩ :: newT m := rfl
    rw [this]
    show (markL Table.mkE (newT m) (Table.mkE ⟨1, []⟩ k).2).2 = _
    rw [newT_mark m]
    simp only [Table.mkE, markL]
    omega
theorem newT_ok {m : Nat} (h : m ≤ 7) : okL Table.ok (newT m) := ⟨by rw [newT_len]; omega, fun k hk => by
  rw [newT_len] at hk
  rw [newT_at hk]
  exact ⟨Nat.zero_le _, fun k hk => absurd hk (Nat.not_lt_zero _)⟩⟩

set_option maxRecDepth 8000 in
theorem markShelf_n (x : Int) (t : List Table) (k : Int) (h0 : 0 ≤ k) (hk : (markL Table.mkE t k).2 ≤ 4611686018427387904) (h : okL Table.ok t) : RetM env.P 9 [some (rowL 2 Table.csO t)] [.agg [.i .i64 x, .row 0 t.length, .nils], .i .i64 k] (fun r H => r = .i .i64 (markL Table.mkE t k).2 ∧ H = [some (rowL 2 Table.csO (markL Table.mkE t k).1)]) := by
  refine ret_ofM (nt := 14) (rvs := [.tmp 4]) Try.func9 rfl rfl rfl rfl (fun X hX => ?_)
  repeat' (first | exact aa | ((conv => whnf) <;> (first | refine And.intro ?_ ?_ | (intro _h; first | contradiction | (try simp only [dd] at _h)) | (refine dt_go ?_) | exact rfl | exact True.intro | exact dkk | exact dks | (refine .inr (.inl (.inl ⟨[0], _, _, _, markTableS_ok _ k h0 hk h, viewA, ⟨rfl, rfl⟩, ?_⟩)); rintro _ _ ⟨rfl, rfl⟩; refine ⟨rfl, _, lokA, ?_⟩) | ((first | refine .inl ⟨_, markThingS_nil _, ?_⟩ | refine ⟨_, markThingS_nil _, ?_⟩); (try rintro _ rfl)) | (refine wrap_succ ?_; omega))))
  exact endM_pick [0] [some (rowL 2 Table.csO (markL Table.mkE t k).1)] (.i .i64 (markL Table.mkE t k).2) (view_of rfl (.cons rfl (.self (rowPl_L fun _ => rfl)) .nil)) rfl rfl (by rw [hX]; exact keepK (n := 1) rfl rfl) ⟨rfl, rfl⟩

theorem held_newS (t : List Table) (k : Int) : heldI (⟨1, (markL Table.mkE t k).1, []⟩ : Shelf) (Shelf.mk_ ⟨1, (markL Table.mkE t k).1, []⟩ k) = (markL Table.mkE t k).2 := by
  have e : Shelf.mk_ ⟨1, (markL Table.mkE t k).1, []⟩ k = (⟨1, (markL Table.mkE t k).1, []⟩, (markL Table.mkE t k).2) := by
    simp only [Shelf.mk_, markL_idem Table.mkE_idem, markL]
  rw [e]
  exact heldI_eq rfl

theorem markShelf_new (m : Nat) (h : m ≤ 7) : RetM env.P 9 [some (rowL 2 Table.csO (newT m))] [.agg [.i .i64 1, .row 0 m, .nils], .i .i64 1] (fun r H => r = .i .i64 (markL Table.mkE (newT m) 1).2 ∧ H = [some (rowL 2 Table.csO (markL Table.mkE (newT m) 1).1)]) := by
  have := markShelf_n 1 (newT m) 1 (by omega) (by rw [newT_mark]; omega) (newT_ok h)
  rwa [newT_len] at this
theorem newT_mok {m : Nat} (h : m ≤ 7) : okL Table.ok (markL Table.mkE (newT m) 1).1 := okL_mark Table.mkE_ok (newT_ok h)

end Go.Proofs.Ytfjciadhanfhpaa
