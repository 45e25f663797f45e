/-
  Copies of types: the program's (held alone), the reference's (frozen).
-/
import Derived.Test.YtgjihfinbaopcaaVToE
import Derived.Test.YtgjihfinbaopcaaVDt
import Derived.Test.YtgjihfinbaopcaaVLz
namespace Go.Proofs.Ytgjihfinbaopcaa
open Go Go.RowKit
set_option linter.unusedVariables false
set_option linter.unusedSimpArgs false

set_option maxRecDepth 8000 in
set_option maxHeartbeats 4000000 in
theorem copyTypesO_0 : RetM env.P 40 [] [slL 4 (Typ.pN 0) []] (fun r H => r = .row 0 0 ∧ H = [some (rowL 4 (Typ.pO 0) [])]) := by
  have hl0 : ([] : List Typ).length = 0 := rfl
  refine ret_ofM (nt := 20) (rvs := [.tmp 2]) Try.func40 rfl rfl rfl rfl (fun X hX => ?_)
  repeat' (first | exact aa | ((conv => whnf) <;> (first | exact tarr_zero rfl rfl | refine loopFT (fun y : Unit => [(9, .i .i64 0), (3, .row 0 0)]) (fun y => [some (.arr ⟨4, 0, elE (Typ.pO 0) [], .arr⟩)]) (fun y => True) (fun y => 0) () ⟨trivial, ?_⟩ | refine And.intro ?_ ?_ | (intro _h; first | contradiction | (try simp only [dd] at _h)) | (refine dt_go ?_) | exact rfl | exact True.intro | exact dkk | exact dks | (refine wrap_succ ?_; omega))))
  all_goals (conv => whnf)
  all_goals first
    | exact endM_pick [0] [some (rowL 4 (Typ.pO 0) [])] (.row 0 0) viewA rfl rfl (fun k hk => by rw [hX] at hk; exact absurd hk (Nat.not_lt_zero _)) ⟨rfl, rfl⟩
    | trace_state
theorem tkids_np {a : Typ} : a.kids.length + 1 ≤ a.np := by
  have := Typ.np_eq a
  have := sumK_len (l := a.kids) (Nat.le_refl _)
  omega
theorem tnp_kid {a : Typ} {k : Nat} (hk : k < a.kids.length) : (a.kids.getD k default).np + 1 ≤ a.np := by
  have h1 := Typ.np_eq a
  have h2 := sumK_mono Typ.np (l := a.kids) (k := k + 1) (m := a.kids.length) hk (Nat.le_refl _)
  rw [sumK_succ _ hk] at h2
  omega
theorem tcapC {n b : Nat} (h : n ≤ 1000) (hb : b ≤ 1000) : (n + 1) * b ≤ 140737488355328 := Nat.le_trans (Nat.mul_le_mul (Nat.succ_le_succ h) hb) (by decide)
theorem tcapM {n : Nat} (h : n ≤ 1000) : n + 1 ≤ 9223372036854775807 := by omega
structure Hold2 (p : Prop) : Prop where
  h : p
theorem Hold2.get {p : Prop} (h : Hold2 p) : p := h.h
set_option maxRecDepth 8000 in
set_option maxHeartbeats 4000000 in
theorem copyTypeO_m (m : Nat) : ∀ a : Typ, Typ.oN (m + 1) a → a.np ≤ 1000 → RetM env.P 23 [] [.agg (Typ.pN (m + 1) a)] (fun r H => r = .agg a.resO ∧ H = Typ.rowsO m a) := by
  induction m with
  | zero =>
    intro a h hp
    have hk := Typ.oN_nil (h.2.2)
    obtain ⟨kind, name, labels, ks⟩ := a
    dsimp only at hk
    subst hk
    refine ret_ofM (nt := 14) (rvs := [.cell 2 29]) Try.func23 rfl rfl rfl rfl (fun X hX => ?_)
    repeat' (first | exact aa | ((conv => whnf) <;> (first | (refine .inr (.inl (.inl ⟨[], _, _, _, cloneStrO _ h.2.1.1, viewT, ⟨rfl, rfl⟩, ?_⟩)); rintro _ _ ⟨rfl, rfl⟩; refine ⟨rfl, _, lokT, ?_⟩) | (refine .inr (.inl (.inl ⟨[], _, _, _, copyTypesO_0, viewT, ⟨rfl, rfl⟩, ?_⟩)); rintro _ _ ⟨rfl, rfl⟩; refine ⟨rfl, _, lokT, ?_⟩) | refine And.intro ?_ ?_ | (intro _h; first | contradiction | (try simp only [dd] at _h)) | (refine dt_go ?_) | exact rfl | exact True.intro | exact dkk | exact dks | (refine wrap_succ ?_; omega))))
    exact endM_pick [2, 3] (Typ.rowsO 0 ⟨kind, name, labels, []⟩) (.agg (Typ.resO ⟨kind, name, labels, []⟩)) viewT rfl rfl (fun k hk => by rw [hX] at hk; exact absurd hk (Nat.not_lt_zero _)) ⟨rfl, rfl⟩
  | succ m ih =>
    intro a h hp
    have hkn := tkids_np (a := a)
    have hC := copyTypesO_g m a.kids (by omega) (fun k hk => ih _ (Typ.oN_kid h hk) (by have := tnp_kid hk; omega))
    refine ret_ofM (nt := 14) (rvs := [.cell 2 29]) Try.func23 rfl rfl rfl rfl (fun X hX => ?_)
    repeat' (first | exact aa | ((conv => whnf) <;> (first | (refine .inr (.inl (.inl ⟨[], _, _, _, cloneStrO _ h.2.1.1, viewT, ⟨rfl, rfl⟩, ?_⟩)); rintro _ _ ⟨rfl, rfl⟩; refine ⟨rfl, _, lokT, ?_⟩) | (refine .inr (.inl (.inl ⟨[], _, _, _, hC, viewT, ⟨rfl, rfl⟩, ?_⟩)); rintro _ _ ⟨rfl, rfl⟩; refine ⟨rfl, _, lokT, ?_⟩) | refine And.intro ?_ ?_ | (intro _h; first | contradiction | (try simp only [dd] at _h)) | (refine dt_go ?_) | exact rfl | exact True.intro | exact dkk | exact dks | (refine wrap_succ ?_; omega))))
    exact endM_pick [2, 3] (Typ.rowsO (m + 1) a) (.agg a.resO) viewT rfl rfl (fun k hk => by rw [hX] at hk; exact absurd hk (Nat.not_lt_zero _)) ⟨rfl, rfl⟩
end Go.Proofs.Ytgjihfinbaopcaa
