/-
  Valid types: the program's functions.
-/
import Derived.Test.YtgjihfinbaopcaaVTpD
namespace Go.Proofs.Ytgjihfinbaopcaa
open Go Go.RowKit
set_option linter.unusedVariables false
set_option linter.unusedSimpArgs false
attribute [local irreducible] IntKind.wrap

/-! How deep. -/
structure DpS (d : Nat) (l : List Typ) (y : Nat × Int) : Prop where
  hk : y.1 ≤ l.length
  m0 : 0 ≤ y.2
  m1 : y.2 ≤ d + 1
  fn : y.2 ≤ d ↔ ∀ j, j < y.1 → Typ.fN d (l.getD j default)
theorem DpS.zero (d : Nat) (l : List Typ) : DpS d l (0, 0) := ⟨Nat.zero_le _, Int.le_refl _, by show (0 : Int) ≤ _; omega, ⟨fun _ j hj => absurd hj (Nat.not_lt_zero _), fun _ => by show (0 : Int) ≤ _; omega⟩⟩
theorem DpS.next {d : Nat} {l : List Typ} {y : Nat × Int} {x : Int} (h : DpS d l y) (hk : y.1 < l.length) (h1 : 1 ≤ x) (h2 : x ≤ d + 1) (h3 : x ≤ d ↔ Typ.fN d (l.getD y.1 default)) : DpS d l (y.1 + 1, if x > y.2 then x else y.2) := by
  have e0 := h.m0
  have e1 := h.m1
  refine ⟨hk, by dsimp only; split <;> omega, by dsimp only; split <;> omega, ?_⟩
  dsimp only
  constructor
  · intro q j hj
    rcases Nat.lt_or_eq_of_le (Nat.le_of_lt_succ hj) with r | rfl
    · exact h.fn.1 (by split at q <;> omega) j r
    · exact h3.1 (by split at q <;> omega)
  · intro q
    have q1 := h.fn.2 fun j hj => q j (by omega)
    have q2 := h3.2 (q _ (Nat.lt_succ_self _))
    split <;> omega
set_option maxRecDepth 8000 in
theorem deep_n : ∀ (d : Nat), d ≤ 4 → ∀ (D : Int), D = d → ∀ (n : Nat) (a : Typ), Typ.oN (n + 1) a → Ret env.P 47 [.agg (Typ.pN (n + 1) a), .i .i64 D] (fun r => ∃ x : Int, r = .i .i64 x ∧ 1 ≤ x ∧ x ≤ d + 1 ∧ (x ≤ d ↔ Typ.fN d a))
  | 0, _, D, hD, n, a, h => by
    refine ret_of (nt := 26) (rvs := [.tmp 4]) Try.func47 rfl rfl rfl rfl (fun X => ?_)
    repeat' (first | exact aa | ((conv => whnf) <;> (first | (exfalso; omega) | refine And.intro ?_ ?_ | (intro _h; first | contradiction | (try simp only [dd] at _h)) | (refine dt_go ?_) | exact rfl | exact True.intro | exact dkk | exact dks | (refine wrap_succ ?_; omega))))
    all_goals (conv => whnf)
    all_goals first
      | exact ⟨1, rfl, by decide, by decide, ⟨fun q => absurd q (by decide), fun q => q.elim⟩⟩
      | (exfalso; omega)
      | trace_state
  | d + 1, hd, D, hD, n, a, h => by
    have hl := Typ.oN_len h
    have hq : ∀ k, k < a.kids.length → Ret env.P 47 [.agg (Typ.pN (n + 1) (a.kids.getD k default)), .i .i64 (IntKind.i64.wrap (D - 1))] (fun r => ∃ x : Int, r = .i .i64 x ∧ 1 ≤ x ∧ x ≤ d + 1 ∧ (x ≤ d ↔ Typ.fN d (a.kids.getD k default))) := fun k hk => deep_n d (by omega) _ (by rw [wrap_in (by omega) (by omega)]; omega) n _ (Typ.oN_up _ _ (Typ.oN_kid h hk))
    refine Ret.wk (.cons (Typ.lift h) (.cons (.refl _) .nil)) ?_
    refine ret_of (nt := 26) (rvs := [.tmp 4]) Try.func47 rfl rfl rfl rfl (fun X => ?_)
    repeat' (first | exact aa | ((conv => whnf) <;> (first | (refine loopF (fun s : Nat × Int => [(13, .i .i64 s.1), (5, .i .i64 s.2)]) (fun s => []) (DpS d a.kids) (fun s => a.kids.length - s.1) (0, 0) ⟨.zero _ _, ?_⟩) | refine And.intro ?_ ?_ | (intro _h; first | contradiction | (try simp only [dd] at _h)) | (refine dt_go ?_) | exact rfl | exact True.intro | exact dkk | exact dks | (refine wrap_succ ?_; omega))))
    · rename_i s hs
      have hlt : s.1 < a.kids.length := by omega
      repeat' (first | exact aa | ((conv => whnf) <;> (first | (refine .inl ⟨_, hq _ hlt, ?_⟩; rintro _ ⟨x, rfl, h1, h2, h3⟩) | refine And.intro ?_ ?_ | (intro _h; first | contradiction | (try simp only [dd] at _h)) | (refine dt_go ?_) | exact rfl | exact True.intro | exact dkk | exact dks | (refine wrap_succ ?_; omega))))
      all_goals (conv => whnf)
      all_goals (try simp only [Int.toNat_natCast] at *)
      refine ⟨(s.1 + 1, if x > s.2 then x else s.2), [], hs.next hlt h1 h2 h3, (show a.kids.length - (s.1 + 1) < a.kids.length - s.1 by omega), ?_⟩
      repeat' (first | exact aa | ((conv => whnf) <;> (first | refine And.intro ?_ ?_ | (intro _h; first | contradiction | (try simp only [dd] at _h)) | (refine dt_go ?_) | exact rfl | exact True.intro | exact dkk | exact dks | (refine wrap_succ ?_; omega))))
    · rename_i s hs
      have h0 := hs.m0
      have h1 := hs.m1
      have hw : IntKind.i64.wrap (s.2 + 1) = s.2 + 1 := wrap_in (by omega) (by omega)
      conv => whnf
      refine ⟨IntKind.i64.wrap (s.2 + 1), rfl, ?_⟩
      rw [hw]
      have hk := hs.hk
      refine ⟨by omega, by omega, ⟨fun q => Typ.fN_get.2 fun j hj => hs.fn.1 (by omega) j (by omega), fun q => ?_⟩⟩
      have := hs.fn.2 fun j hj => Typ.fN_get.1 q j (by omega)
      omega
set_option maxRecDepth 8000 in
theorem parts_n : ∀ (n : Nat) (a : Typ), Typ.oN n a → a.np ≤ 1000000000000000 → Ret env.P 48 [.agg (Typ.pN n a)] (fun r => r = .i .i64 (a.np : Nat))
  | 0, a, h, _ => h.elim
  | n + 1, a, h, hp => by
    have hl := Typ.oN_len h
    have hs : ∀ k, k ≤ a.kids.length → 1 + sumK Typ.np a.kids k ≤ 1000000000000000 := fun k hk => Nat.le_trans (np_le hk) hp
    have hq : ∀ k, k < a.kids.length → Ret env.P 48 [.agg (Typ.pN (n + 1) (a.kids.getD k default))] (fun r => r = .i .i64 ((a.kids.getD k default).np : Nat)) := fun k hk => Ret.wk (.cons (Typ.down (Typ.oN_kid h hk)) .nil) (parts_n n _ (Typ.oN_kid h hk) (by have := hs (k + 1) hk; rw [sumK_succ _ hk] at this; omega))
    refine Ret.wk (.cons (Typ.lift h) .nil) ?_
    refine ret_of (nt := 19) (rvs := [.tmp 2]) Try.func48 rfl rfl rfl rfl (fun X => ?_)
    repeat' (first | exact aa | ((conv => whnf) <;> (first | refine loopN a.kids.length (fun k => [(9, .i .i64 k), (3, .i .i64 (1 + sumK Typ.np a.kids k : Nat))]) (fun k => []) (fun k => True) ⟨trivial, ?_⟩ | refine And.intro ?_ ?_ | (intro _h; first | contradiction | (try simp only [dd] at _h)) | (refine dt_go ?_) | exact rfl | exact True.intro | exact dkk | exact dks | ((first | refine .inl ⟨_, hq _ (by omega), ?_⟩ | refine ⟨_, hq _ (by omega), ?_⟩); (try rintro _ rfl)) | (refine wrap_succ ?_; omega))))
    all_goals (try simp only [Int.toNat_natCast] at *)
    · rename_i k _ _
      have e := hs (k + 1) (by omega)
      rw [sumK_succ _ (by omega)] at e ⊢
      rw [wrap_in (by omega) (by omega)]
      omega
    · rename_i k _ _
      conv => whnf
      refine leaf_i ?_
      rw [Typ.np_eq, show k = a.kids.length by omega]
end Go.Proofs.Ytgjihfinbaopcaa
