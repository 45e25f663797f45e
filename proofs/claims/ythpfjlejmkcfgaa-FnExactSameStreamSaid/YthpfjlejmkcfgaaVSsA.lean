/-
  Values that are the same.
-/
import Derived.Test.YthpfjlejmkcfgaaVU
import Derived.Test.YthpfjlejmkcfgaaVTValue
namespace Go.Proofs.Ythpfjlejmkcfgaa
open Go Go.RowKit
set_option linter.unusedVariables false
set_option linter.unusedSimpArgs false

set_option maxRecDepth 8000 in
theorem sameValueS_m (m : Nat) : ∀ a : Value, Value.oN (m + 1) a → ∀ (m' : Nat) (b : Value), Value.fN (m' + 1) b → Ret env.P 64 [.agg (Value.pN (m + 1) a), .agg (Value.pN (m' + 1) b)] (fun r => r = .b (decide (a = b))) := by
  induction m with
  | zero =>
    intro a h m' b hb
    have hk := Value.oN_nil (h.2)
    obtain ⟨a0, a1, a2, ks⟩ := a
    obtain ⟨b0, b1, b2, ls⟩ := b
    dsimp only at hk
    subst hk
    have hl0 : ([] : List Value).length = 0 := rfl
    refine ret_of (nt := 53) (rvs := [.tmp 4]) Try.func64 rfl rfl rfl rfl (fun X => ?_)
    repeat' (first | exact aa | ((conv => whnf) <;> (first | refine loopN ([] : List Value).length (fun k => [(5, .i .i64 k)]) (fun k => []) (fun k => True) ⟨trivial, ?_⟩ | refine And.intro ?_ ?_ | (intro _h; first | contradiction | (try simp only [dd] at _h)) | (refine dt_go ?_) | exact rfl | exact True.intro | exact dkk | exact dks | (refine wrap_succ ?_; omega))))
    all_goals first
      | exact leaf_ne (by intro e; injection e; contradiction)
      | exact leaf_ne (by intro e; injection e with _ _ _ e; subst e; contradiction)
      | (refine leaf_eq ?_; cases ls with | nil => simp_all | cons x xs => (exfalso; simp_all; omega))
      | trace_state
  | succ m ih =>
    intro a h m' b hb
    cases m' with
    | zero =>
      have hk := Value.fN_nil hb
      have hk1 := h.2.1
      obtain ⟨a0, a1, a2, ks⟩ := a
      obtain ⟨b0, b1, b2, ls⟩ := b
      dsimp only at hk hk1
      subst hk
      have hl0 : ([] : List Value).length = 0 := rfl
      cases ks with
      | nil =>
        refine ret_of (nt := 53) (rvs := [.tmp 4]) Try.func64 rfl rfl rfl rfl (fun X => ?_)
        repeat' (first | exact aa | ((conv => whnf) <;> (first | refine loopN ([] : List Value).length (fun k => [(5, .i .i64 k)]) (fun k => []) (fun k => True) ⟨trivial, ?_⟩ | refine And.intro ?_ ?_ | (intro _h; first | contradiction | (try simp only [dd] at _h)) | (refine dt_go ?_) | exact rfl | exact True.intro | exact dkk | exact dks | (refine wrap_succ ?_; omega))))
        all_goals first
          | exact leaf_ne (by intro e; injection e; contradiction)
          | (refine leaf_eq ?_; simp_all)
          | (exfalso; simp at *; done)
          | trace_state
      | cons x xs =>
        refine ret_of (nt := 53) (rvs := [.tmp 4]) Try.func64 rfl rfl rfl rfl (fun X => ?_)
        repeat' (first | exact aa | ((conv => whnf) <;> (first | refine And.intro ?_ ?_ | (intro _h; first | contradiction | (try simp only [dd] at _h)) | (refine dt_go ?_) | exact rfl | exact True.intro | exact dkk | exact dks | (refine wrap_succ ?_; omega))))
        all_goals first
          | exact leaf_ne (by intro e; injection e; contradiction)
          | exact leaf_ne (by intro e; injection e with _ _ _ e; cases e)
          | (exfalso; simp at *; done)
          | (exfalso; simp at *; omega)
          | trace_state
    | succ m' =>
      have hk := h.2
      obtain ⟨a0, a1, a2, ks⟩ := a
      obtain ⟨b0, b1, b2, ls⟩ := b
      dsimp only at hk
      have hkl := hk.1
      have hq : ∀ k, k < ks.length → ks.length = ls.length → Ret env.P 64 [.agg (Value.pN (m + 1) (ks.getD k default)), .agg (Value.pN (m' + 1) (ls.getD k default))] (fun r => r = .b (decide (ks.getD k default = ls.getD k default))) := fun k hlt he => ih _ (hk.2 k hlt) m' _ (hb _ (by
        have h2 : k < ls.length := by omega
        show ls.getD k default ∈ ls
        rw [List.getD_eq_getElem?_getD, List.getElem?_eq_getElem h2]
        exact List.getElem_mem h2))
      clear ih h
      refine ret_of (nt := 53) (rvs := [.tmp 4]) Try.func64 rfl rfl rfl rfl (fun X => ?_)
      repeat' (first | exact aa | ((conv => whnf) <;> (first | exact upto_succ (by assumption) (by assumption) | refine loopN ks.length (fun k => [(5, .i .i64 k)]) (fun k => []) (fun k => ∀ j, j < k → ks.getD j default = ls.getD j default) ⟨fun _ h => by omega, ?_⟩ | refine And.intro ?_ ?_ | (intro _h; first | contradiction | (try simp only [dd] at _h)) | (refine dt_go ?_) | exact rfl | exact True.intro | exact dkk | exact dks | ((first | refine .inl ⟨_, hq _ (by omega) (by omega), ?_⟩ | refine ⟨_, hq _ (by omega) (by omega), ?_⟩); (try rintro _ rfl)) | (refine wrap_succ ?_; omega))))
      all_goals (try simp only [Int.toNat_natCast] at *)
      all_goals first
        | exact leaf_ne (by intro e; injection e; omega)
        | exact leaf_ne (by intro e; injection e; contradiction)
        | exact leaf_ne (by intro e; injection e with _ _ _ e; subst e; contradiction)
        | exact leaf_eq (by
            have e : ks = ls := list_eq (by omega) fun j hj => by have := ‹∀ j, j < _ → ks.getD j default = ls.getD j default›; exact this j (by omega)
            simp_all)
        | (refine leaf_eq ?_; simp_all; done)
        | trace_state
theorem sameValue_spec (a b : Value) (h : a.ok) : Ret env.P 64 [.agg a.cs, .agg b.cs] (fun r => r = .b (decide (a = b))) := sameValueS_m a.kd a h b.kd b (Value.fN_self b)

set_option maxRecDepth 8000 in
theorem eqFunV_0l (c : Value → List AV) (m : List Value) : Ret env.P 35 [slL 4 (Value.pN 0) [], slL 4 c m, .fn 36 []] (fun r => r = .b (decide ([] = m))) := by
  have hl0 : ([] : List Value).length = 0 := rfl
  refine ret_of (nt := 32) (rvs := [.tmp 6]) Try.func35 rfl rfl rfl rfl (fun X => ?_)
  repeat' (first | exact aa | ((conv => whnf) <;> (first | refine loopN ([] : List Value).length (fun k => [(17, .i .i64 k)]) (fun k => []) (fun k => True) ⟨trivial, ?_⟩ | refine And.intro ?_ ?_ | (intro _h; first | contradiction | (try simp only [dd] at _h)) | (refine dt_go ?_) | exact rfl | exact True.intro | exact dkk | exact dks | (refine wrap_succ ?_; omega))))
  all_goals first
    | exact leaf_ne (by rintro rfl; contradiction)
    | exact leaf_ne (by rintro rfl; omega)
    | (refine leaf_eq ?_; cases m with | nil => rfl | cons x xs => (try simp at *); omega)
set_option maxRecDepth 8000 in
theorem eqFunV_0r (c : Value → List AV) (l : List Value) : Ret env.P 35 [slL 4 c l, slL 4 (Value.pN 0) [], .fn 36 []] (fun r => r = .b (decide (l = []))) := by
  have hl0 : ([] : List Value).length = 0 := rfl
  cases l with
  | nil =>
    refine ret_of (nt := 32) (rvs := [.tmp 6]) Try.func35 rfl rfl rfl rfl (fun X => ?_)
    repeat' (first | exact aa | ((conv => whnf) <;> (first | refine loopN ([] : List Value).length (fun k => [(17, .i .i64 k)]) (fun k => []) (fun k => True) ⟨trivial, ?_⟩ | refine And.intro ?_ ?_ | (intro _h; first | contradiction | (try simp only [dd] at _h)) | (refine dt_go ?_) | exact rfl | exact True.intro | exact dkk | exact dks | (refine wrap_succ ?_; omega))))
    all_goals first
      | exact leaf_eq rfl
      | (exfalso; simp at *; done)
  | cons x xs =>
    refine ret_of (nt := 32) (rvs := [.tmp 6]) Try.func35 rfl rfl rfl rfl (fun X => ?_)
    repeat' (first | exact aa | ((conv => whnf) <;> (first | refine And.intro ?_ ?_ | (intro _h; first | contradiction | (try simp only [dd] at _h)) | (refine dt_go ?_) | exact rfl | exact True.intro | exact dkk | exact dks | (refine wrap_succ ?_; omega))))
    all_goals first
      | exact leaf_ne (by intro h; cases h)
      | (exfalso; simp at *; done)
      | (exfalso; simp at *; omega)
set_option maxRecDepth 8000 in
theorem eqFunV_g (g g' : Value → Nat) (l m : List Value) (hl : l.length ≤ 1048576) (hc : ∀ k, k < l.length → l.length = m.length → Ret env.P 36 [.agg (Value.pN (g (l.getD k default) + 1) (l.getD k default)), .agg (Value.pN (g' (m.getD k default) + 1) (m.getD k default))] (fun r => r = .b (decide ((l.getD k default) = (m.getD k default))))) : Ret env.P 35 [slL 4 (fun a => Value.pN (g a + 1) a) l, slL 4 (fun a => Value.pN (g' a + 1) a) m, .fn 36 []] (fun r => r = .b (decide (l = m))) := by
  refine ret_of (nt := 32) (rvs := [.tmp 6]) Try.func35 rfl rfl rfl rfl (fun X => ?_)
  repeat' (first | exact aa | ((conv => whnf) <;> (first | exact upto_succ (by assumption) (by assumption) | refine loopN l.length (fun k => [(17, .i .i64 k)]) (fun k => []) (fun k => ∀ j, j < k → l.getD j default = m.getD j default) ⟨fun _ h => by omega, ?_⟩ | refine And.intro ?_ ?_ | (intro _h; first | contradiction | (try simp only [dd] at _h)) | (refine dt_go ?_) | exact rfl | exact True.intro | exact dkk | exact dks | ((first | refine .inl ⟨_, hc _ (by omega) (by omega), ?_⟩ | refine ⟨_, hc _ (by omega) (by omega), ?_⟩); (try rintro _ rfl)) | (refine wrap_succ ?_; omega))))
  · exact leaf_ne (by rintro rfl; omega)
  · exact leaf_ne (by rintro rfl; contradiction)
  · exact leaf_eq (list_eq (by omega) fun j hj => by have := ‹∀ j, j < _ → l.getD j default = m.getD j default›; exact this j (by omega))
set_option maxRecDepth 8000 in
theorem sameValueI_m (m : Nat) : ∀ a : Value, Value.oN (m + 1) a → ∀ (m' : Nat) (b : Value), Value.fN (m' + 1) b → Ret env.P 36 [.agg (Value.pN (m + 1) a), .agg (Value.pN (m' + 1) b)] (fun r => r = .b (decide (a = b))) := by
  induction m with
  | zero =>
    intro a h m' b hb
    have hk := Value.oN_nil (h.2)
    obtain ⟨a0, a1, a2, ks⟩ := a
    obtain ⟨b0, b1, b2, ls⟩ := b
    dsimp only at hk
    subst hk
    refine ret_of (nt := 31) (rvs := [.tmp 4]) Try.func36 rfl rfl rfl rfl (fun X => ?_)
    repeat' (first | exact aa | ((conv => whnf) <;> (first | refine And.intro ?_ ?_ | (intro _h; first | contradiction | (try simp only [dd] at _h)) | (refine dt_go ?_) | exact rfl | exact True.intro | exact dkk | exact dks | ((first | refine .inl ⟨_, eqFunV_0l (Value.pN m') ls, ?_⟩ | refine ⟨_, eqFunV_0l (Value.pN m') ls, ?_⟩); (try rintro _ rfl)) | (refine wrap_succ ?_; omega))))
    all_goals (clear h; refine leaf_b ?_; simp_all)
  | succ m ih =>
    intro a h m' b hb
    cases m' with
    | zero =>
      have hk := Value.fN_nil hb
      obtain ⟨a0, a1, a2, ks⟩ := a
      obtain ⟨b0, b1, b2, ls⟩ := b
      dsimp only at hk
      subst hk
      refine ret_of (nt := 31) (rvs := [.tmp 4]) Try.func36 rfl rfl rfl rfl (fun X => ?_)
      repeat' (first | exact aa | ((conv => whnf) <;> (first | refine And.intro ?_ ?_ | (intro _h; first | contradiction | (try simp only [dd] at _h)) | (refine dt_go ?_) | exact rfl | exact True.intro | exact dkk | exact dks | ((first | refine .inl ⟨_, eqFunV_0r (Value.pN (m + 1)) ks, ?_⟩ | refine ⟨_, eqFunV_0r (Value.pN (m + 1)) ks, ?_⟩); (try rintro _ rfl)) | (refine wrap_succ ?_; omega))))
      all_goals (clear h ih hb; refine leaf_b ?_; simp_all)
    | succ m' =>
      have hk := h.2
      obtain ⟨a0, a1, a2, ks⟩ := a
      obtain ⟨b0, b1, b2, ls⟩ := b
      dsimp only at hk
      have hq : ∀ k, k < ks.length → ks.length = ls.length → Ret env.P 36 [.agg (Value.pN (m + 1) (ks.getD k default)), .agg (Value.pN (m' + 1) (ls.getD k default))] (fun r => r = .b (decide (ks.getD k default = ls.getD k default))) := fun k hlt he => ih _ (hk.2 k hlt) m' _ (hb _ (by
        have h2 : k < ls.length := by omega
        show ls.getD k default ∈ ls
        rw [List.getD_eq_getElem?_getD, List.getElem?_eq_getElem h2]
        exact List.getElem_mem h2))
      refine ret_of (nt := 31) (rvs := [.tmp 4]) Try.func36 rfl rfl rfl rfl (fun X => ?_)
      repeat' (first | exact aa | ((conv => whnf) <;> (first | refine And.intro ?_ ?_ | (intro _h; first | contradiction | (try simp only [dd] at _h)) | (refine dt_go ?_) | exact rfl | exact True.intro | exact dkk | exact dks | ((first | refine .inl ⟨_, eqFunV_g (fun _ => m) (fun _ => m') ks ls hk.1 hq, ?_⟩ | refine ⟨_, eqFunV_g (fun _ => m) (fun _ => m') ks ls hk.1 hq, ?_⟩); (try rintro _ rfl)) | (refine wrap_succ ?_; omega))))
      all_goals (clear hq hk h hb ih; refine leaf_b ?_; simp_all)
theorem sameValue_impl (a b : Value) (h : a.ok) : Ret env.P 36 [.agg a.cs, .agg b.cs] (fun r => r = .b (decide (a = b))) := sameValueI_m a.kd a h b.kd b (Value.fN_self b)
theorem eqFunV_ok (l m : List Value) (h : okL Value.ok l) : Ret env.P 35 [slL 4 Value.cs l, slL 4 Value.cs m, .fn 36 []] (fun r => r = .b (decide (l = m))) := eqFunV_g Value.kd Value.kd l m h.1 fun k hk _ => sameValue_impl _ _ (h.2 k hk)
set_option maxRecDepth 8000 in
theorem sameValues_spec (l m : List Value) (h : okL Value.ok l) : Ret env.P 32 [slL 4 Value.cs l, slL 4 Value.cs m] (fun r => r = .b (decide (l = m))) := by
  have hl := h.1
  refine ret_of (nt := 27) (rvs := [.tmp 4]) Try.func32 rfl rfl rfl rfl (fun X => ?_)
  repeat' (first | exact aa | ((conv => whnf) <;> (first | exact upto_succ (by assumption) (by assumption) | refine loopN l.length (fun k => [(5, .i .i64 k)]) (fun k => []) (fun k => ∀ j, j < k → l.getD j default = m.getD j default) ⟨fun _ h => by omega, ?_⟩ | refine And.intro ?_ ?_ | (intro _h; first | contradiction | (try simp only [dd] at _h)) | (refine dt_go ?_) | exact rfl | exact True.intro | exact dkk | exact dks | ((first | refine .inl ⟨_, sameValue_spec _ _ (h.2 _ (by omega)), ?_⟩ | refine ⟨_, sameValue_spec _ _ (h.2 _ (by omega)), ?_⟩); (try rintro _ rfl)) | (refine wrap_succ ?_; omega))))
  · exact leaf_ne (by rintro rfl; omega)
  · exact leaf_ne (by rintro rfl; contradiction)
  · exact leaf_eq (list_eq (by omega) fun j hj => by have := ‹∀ j, j < _ → l.getD j default = m.getD j default›; exact this j (by omega))
end Go.Proofs.Ythpfjlejmkcfgaa
