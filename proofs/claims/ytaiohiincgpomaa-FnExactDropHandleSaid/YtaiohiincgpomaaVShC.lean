/-
  Shelves that are read: how many were lent, how many owners.
-/
import Derived.Test.YtaiohiincgpomaaVShB
namespace Go.Proofs.Ytaiohiincgpomaa
open Go Go.RowKit
set_option linter.unusedVariables false
set_option linter.unusedSimpArgs false

theorem cnt_end {s : Shelf} {i : Nat} (h : i ≤ s.tables.length) (hn : ¬ i < s.tables.length) : [some (mpRow true (leF (s.upTo i 0)) []), some (mpRow false (owF (s.upTo i 0)) [])] = [some (mpRow true (leF s.all) []), some (mpRow false (owF s.all) [])] := by
  rw [show i = s.tables.length by omega, upTo_end]

set_option maxRecDepth 8000 in
theorem counts_ok (s : Shelf) (h : s.ok) : RetM env.P 145 [] [rfL s.cs] (fun r H => r = .tup [.mp 0, .mp 1] ∧ H = [some (mpRow true (leF s.all) []), some (mpRow false (owF s.all) [])]) := by
  have hl : s.tables.length ≤ 1048576 := h.1.1
  refine ret_ofM (nt := 50) (rvs := [.tmp 2, .tmp 3]) Try.func145 rfl rfl rfl rfl (fun X hX => ?_)
  repeat' (first | omega | (with_reducible show (_ : Int) < _; dsimp only; omega) | (with_reducible show (_ : Nat) ≤ _; dsimp only; omega) | exact srcOk_1 rfl | exact srcOk_L (fun _ => ⟨rfl, rfl⟩) | exact srcOk_E (fun _ => ⟨rfl, rfl⟩) | ((conv => whnf) <;> (first | (refine endM_self ⟨rfl, ?_⟩; simp only [mkH, RowI.row]; exact cnt_end (by omega) (by omega)) | refine loopAt 18 s.tables.length (fun i => [(18, .i .i64 i)]) (fun i => [some (.mp true (leF (s.upTo i 0))), some (.mp false (owF (s.upTo i 0)))]) (fun _ => True) rfl ⟨trivial, ?_⟩ | (rename_i i _ _; have he : (s.tables.getD (i : Int).toNat default).entries.length ≤ 1048576 := (h.1.2 i (by omega)).1; refine loopAt 25 (s.tables.getD (i : Int).toNat default).entries.length (fun k => [(25, .i .i64 k)]) (fun k => [some (.mp true (leF (s.upTo i k))), some (.mp false (owF (s.upTo i k)))]) (fun _ => True) rfl ⟨trivial, ?_⟩) | refine And.intro ?_ ?_ | (intro _h; first | contradiction | (try simp only [decide_eq_true_eq, Bool.not_eq_true', Bool.not_eq_false', decide_eq_false_iff_not, Bool.not_eq_true, Decidable.not_not, Bool.true_eq_false, Bool.false_eq_true, pb_t, pb_f] at _h)) | (refine dt_go ?_) | exact rfl | exact True.intro | (refine dok ?_; kernel_rfl) | (refine doks ?_; kernel_rfl) | (refine wrap_succ ?_; omega))))
  all_goals (first | (conv => whnf) | skip)
  all_goals (simp only [Int.toNat_natCast] at *)
  all_goals first | exact le_own (by omega) (by assumption) | exact le_lent (by omega) (by assumption) | exact ow_own (by omega) (by assumption) | exact ow_lent (by omega) (by assumption) | exact congrArg _ (upTo_ends (by omega) (by omega) (by omega)) | trace_state
end Go.Proofs.Ytaiohiincgpomaa
