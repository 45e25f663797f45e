/-
  Types that are the same.
-/
import Derived.Test.YtfddakeigmpjkaaGreatDoorVU
import Derived.Test.YtfddakeigmpjkaaGreatDoorVTType
namespace Go.Proofs.YtfddakeigmpjkaaGreatDoor
open Go Go.RowKit
set_option linter.unusedVariables false
set_option linter.unusedSimpArgs false
attribute [local irreducible] IntKind.wrap

/-- Equal, and not nested more deeply than n. -/
def Typ.sam (n : Nat) : Typ → Typ → Prop := Nat.rec (motive := fun _ => Typ → Typ → Prop) (fun _ _ => False) (fun _ ih a b => a.kind = b.kind ∧ a.name = b.name ∧ a.labels = b.labels ∧ a.kids.length = b.kids.length ∧ ∀ k, k < a.kids.length → ih (a.kids.getD k default) (b.kids.getD k default)) n
set_option maxRecDepth 8000 in
theorem equalString_ok (l m : List ByteArray) (hl : l.length ≤ 1048576) : Ret env.P 100 [slL 1 strC l, slL 1 strC m] (fun r => r = .b (decide (l = m))) := by
  refine ret_of (nt := 26) (rvs := [.tmp 4]) Tryz.func100 rfl rfl rfl rfl (fun X => ?_)
  repeat' (first | exact aa | ((conv => whnf) <;> (first | exact upto_succ (by assumption) (by first | assumption | simp_all [strC]) | refine loopN l.length (fun k => [(13, .i .i64 k)]) (fun k => []) (fun k => ∀ j, j < k → l.getD j default = m.getD j default) ⟨fun _ h => by omega, ?_⟩ | refine And.intro ?_ ?_ | (intro _h; first | contradiction | (try simp only [dd] at _h)) | (refine dt_go ?_) | exact rfl | exact True.intro | exact dkk | exact dks | (refine wrap_succ ?_; omega))))
  · exact leaf_ne (by rintro rfl; omega)
  · exact leaf_ne (by rintro rfl; simp_all)
  · exact leaf_eq (list_eq (by omega) fun j hj => by have := ‹∀ j, j < _ → l.getD j default = m.getD j default›; exact this j (by omega))
set_option maxRecDepth 8000 in
theorem l03Texts_ok (l m : List ByteArray) (hl : l.length ≤ 1048576) : Ret env.P 103 [slL 1 strC l, slL 1 strC m] (fun r => r = .b (decide (l = m))) := by
  refine ret_of (nt := 26) (rvs := [.tmp 4]) Tryz.func103 rfl rfl rfl rfl (fun X => ?_)
  repeat' (first | exact aa | ((conv => whnf) <;> (first | exact upto_succ (by assumption) (by first | assumption | simp_all [strC]) | refine loopN l.length (fun k => [(5, .i .i64 k)]) (fun k => []) (fun k => ∀ j, j < k → l.getD j default = m.getD j default) ⟨fun _ h => by omega, ?_⟩ | refine And.intro ?_ ?_ | (intro _h; first | contradiction | (try simp only [dd] at _h)) | (refine dt_go ?_) | exact rfl | exact True.intro | exact dkk | exact dks | (refine wrap_succ ?_; omega))))
  · exact leaf_ne (by rintro rfl; omega)
  · exact leaf_ne (by rintro rfl; simp_all)
  · exact leaf_eq (list_eq (by omega) fun j hj => by have := ‹∀ j, j < _ → l.getD j default = m.getD j default›; exact this j (by omega))
set_option maxRecDepth 8000 in
theorem l03Same_n (n : Nat) : n ≤ 100 → ∀ (D : Int), D = 101 - n → ∀ (m : Nat) (a : Typ), Typ.oN (m + 1) a → ∀ (m' : Nat) (b : Typ), Typ.fN (m' + 1) b → Ret env.P 84 [.agg (Typ.pN (m + 1) a), .agg (Typ.pN (m' + 1) b), .i .i64 D] (fun r => r = .b (pb (Typ.sam n a b))) := by
  induction n with
  | zero =>
    intro hn D hD m a h m' b hb
    refine ret_of (nt := 62) (rvs := [.tmp 6]) Tryz.func84 rfl rfl rfl rfl (fun X => ?_)
    repeat' (first | exact aa | ((conv => whnf) <;> (first | (exfalso; omega) | refine And.intro ?_ ?_ | (intro _h; first | contradiction | (try simp only [dd] at _h)) | (refine dt_go ?_) | exact rfl | exact True.intro | exact dkk | exact dks | ((first | refine .inl ⟨_, l03Texts_ok _ _ h.2.1.1, ?_⟩ | refine ⟨_, l03Texts_ok _ _ h.2.1.1, ?_⟩); (try rintro _ rfl)) | (refine wrap_succ ?_; omega))))
    all_goals first
      | exact leaf_f fun q => q
      | (exfalso; omega)
  | succ n ih =>
    intro hn D hD m a h m' b hb
    refine Ret.wk (.cons (.agg (Typ.up _ _ (Typ.oN_fN _ _ h))) (.cons (.agg (Typ.up _ _ hb)) (.cons (.refl _) .nil))) ?_
    have h2 := Typ.oN_up _ _ h
    have hb2 := Typ.fN_up _ _ hb
    have hq : ∀ k, k < a.kids.length → a.kids.length = b.kids.length → Ret env.P 84 [.agg (Typ.pN (m + 1) (a.kids.getD k default)), .agg (Typ.pN (m' + 1) (b.kids.getD k default)), .i .i64 (IntKind.i64.wrap (D + 1))] (fun r => r = .b (pb (Typ.sam n (a.kids.getD k default) (b.kids.getD k default)))) := fun k hk he =>
      ih (by omega) _ (by rw [wrap_in (by omega) (by omega)]; omega) m _ (h2.2.2.2 k hk) m' _ (hb2 _ (Typ.getD_mem0 (by omega)))
    have hl := h.2.1.1
    have hk := h.2.2.1
    refine ret_of (nt := 62) (rvs := [.tmp 6]) Tryz.func84 rfl rfl rfl rfl (fun X => ?_)
    repeat' (first | exact aa | ((conv => whnf) <;> (first | (exfalso; omega) | exact upto_succ (by assumption) (Classical.not_not.1 (by assumption)) | refine loopN a.kids.length (fun k => [(7, .i .i64 k)]) (fun k => []) (fun k => ∀ j, j < k → Typ.sam n (a.kids.getD j default) (b.kids.getD j default)) ⟨fun _ h => by omega, ?_⟩ | refine And.intro ?_ ?_ | (intro _h; first | contradiction | (try simp only [dd] at _h)) | (refine dt_go ?_) | exact rfl | exact True.intro | exact dkk | exact dks | ((first | refine .inl ⟨_, l03Texts_ok _ _ hl, ?_⟩ | refine ⟨_, l03Texts_ok _ _ hl, ?_⟩); (try rintro _ rfl)) | ((first | refine .inl ⟨_, hq _ (by omega) (by omega), ?_⟩ | refine ⟨_, hq _ (by omega) (by omega), ?_⟩); (try rintro _ rfl)) | (refine wrap_succ ?_; omega))))
    all_goals (try simp only [Int.toNat_natCast] at *)
    all_goals first
      | (conv => whnf
         refine leaf_f fun q => ?_
         obtain ⟨q1, q2, q3, q4, q5⟩ := q
         first
         | contradiction
         | omega
         | exact ‹¬ Typ.sam n _ _› (q5 _ (by omega)))
      | (conv => whnf
         refine leaf_t ⟨?_, ?_, ?_, ?_, fun j hj => ?_⟩ <;> first | assumption | omega | (simp_all; done) | (have := ‹∀ j, j < _ → Typ.sam n (a.kids.getD j default) (b.kids.getD j default)›; exact this j (by omega)))
      | trace_state
set_option maxRecDepth 8000 in
theorem eqFunT_ok (c c' : Typ → List AV) (D : Int) (p : Typ → Typ → Prop) (m m' : Nat) (ks ls : List Typ) (hl : ks.length ≤ 1048576) (hp : ∀ k, k < ks.length → ks.length = ls.length → Ret env.P 102 [.agg (Typ.pN (m + 1) (ks.getD k default)), .agg (Typ.pN (m' + 1) (ls.getD k default)), rfL [.i .i64 D]] (fun r => r = .b (pb (p (ks.getD k default) (ls.getD k default))))) :
    Ret env.P 101 [slL 4 (Typ.pN (m + 1)) ks, slL 4 (Typ.pN (m' + 1)) ls, .fn 102 [rfL [.i .i64 D]]] (fun r => r = .b (pb (ks.length = ls.length ∧ ∀ k, k < ks.length → p (ks.getD k default) (ls.getD k default)))) := by
  refine ret_of (nt := 32) (rvs := [.tmp 6]) Tryz.func101 rfl rfl rfl rfl (fun X => ?_)
  repeat' (first | exact aa | ((conv => whnf) <;> (first | exact upto_succ (by assumption) (Classical.not_not.1 (by assumption)) | refine loopN ks.length (fun k => [(17, .i .i64 k)]) (fun k => []) (fun k => ∀ j, j < k → p (ks.getD j default) (ls.getD j default)) ⟨fun _ h => by omega, ?_⟩ | refine And.intro ?_ ?_ | (intro _h; first | contradiction | (try simp only [dd] at _h)) | (refine dt_go ?_) | exact rfl | exact True.intro | exact dkk | exact dks | ((first | refine .inl ⟨_, hp _ (by omega) (by omega), ?_⟩ | refine ⟨_, hp _ (by omega) (by omega), ?_⟩); (try rintro _ rfl)) | (refine wrap_succ ?_; omega))))
  all_goals (try simp only [Int.toNat_natCast] at *)
  all_goals first
    | (conv => whnf
       refine leaf_f fun q => ?_
       first
       | omega
       | exact ‹¬ p _ _› (q.2 _ (by omega)))
    | (conv => whnf
       refine leaf_t ⟨by omega, fun j hj => ?_⟩
       have := ‹∀ j, j < _ → p (ks.getD j default) (ls.getD j default)›
       exact this j (by omega))
    | trace_state
set_option maxRecDepth 8000 in
theorem sameType_n (n : Nat) : n ≤ 100 → ∀ (D : Int), D = n → ∀ (m : Nat) (a : Typ), Typ.oN (m + 1) a → ∀ (m' : Nat) (b : Typ), Typ.fN (m' + 1) b → Ret env.P 82 [.agg (Typ.pN (m + 1) a), .agg (Typ.pN (m' + 1) b), .i .i64 D] (fun r => r = .b (pb (Typ.sam n a b))) := by
  induction n with
  | zero =>
    intro hn D hD m a h m' b hb
    refine ret_of (nt := 37) (rvs := [.tmp 6]) Tryz.func82 rfl rfl rfl rfl (fun X => ?_)
    repeat' (first | exact aa | ((conv => whnf) <;> (first | (exfalso; omega) | refine And.intro ?_ ?_ | (intro _h; first | contradiction | (try simp only [dd] at _h)) | (refine dt_go ?_) | exact rfl | exact True.intro | exact dkk | exact dks | ((first | refine .inl ⟨_, equalString_ok _ _ h.2.1.1, ?_⟩ | refine ⟨_, equalString_ok _ _ h.2.1.1, ?_⟩); (try rintro _ rfl)) | (refine wrap_succ ?_; omega))))
    all_goals first
      | exact leaf_f fun q => q
      | (exfalso; omega)
  | succ n ih =>
    intro hn D hD m a h m' b hb
    refine Ret.wk (.cons (.agg (Typ.up _ _ (Typ.oN_fN _ _ h))) (.cons (.agg (Typ.up _ _ hb)) (.cons (.refl _) .nil))) ?_
    have h2 := Typ.oN_up _ _ h
    have hb2 := Typ.fN_up _ _ hb
    have hq : ∀ k, k < a.kids.length → a.kids.length = b.kids.length → Ret env.P 102 [.agg (Typ.pN (m + 1) (a.kids.getD k default)), .agg (Typ.pN (m' + 1) (b.kids.getD k default)), rfL [.i .i64 D]] (fun r => r = .b (pb (Typ.sam n (a.kids.getD k default) (b.kids.getD k default)))) := fun k hk he => by
      have hr := ih (by omega) (IntKind.i64.wrap (D - 1)) (by rw [wrap_in (by omega) (by omega)]; omega) m _ (h2.2.2.2 k hk) m' (b.kids.getD k default) (hb2 _ (Typ.getD_mem0 (l := b.kids) (k := k) (by omega)))
      refine ret_of (nt := 11) (rvs := [.tmp 5]) Tryz.func102 rfl rfl rfl rfl (fun X => ?_)
      repeat' (first | exact aa | ((conv => whnf) <;> (first | refine And.intro ?_ ?_ | (intro _h; first | contradiction | (try simp only [dd] at _h)) | (refine dt_go ?_) | exact rfl | exact True.intro | exact dkk | exact dks | ((first | refine .inl ⟨_, hr, ?_⟩ | refine ⟨_, hr, ?_⟩); (try rintro _ rfl)) | (refine wrap_succ ?_; omega))))
      all_goals exact rfl
    have hl := h.2.1.1
    have hk := h.2.2.1
    refine ret_of (nt := 37) (rvs := [.tmp 6]) Tryz.func82 rfl rfl rfl rfl (fun X => ?_)
    repeat' (first | exact aa | ((conv => whnf) <;> (first | (exfalso; omega) | refine And.intro ?_ ?_ | (intro _h; first | contradiction | (try simp only [dd] at _h)) | (refine dt_go ?_) | exact rfl | exact True.intro | exact dkk | exact dks | ((first | refine .inl ⟨_, equalString_ok _ _ hl, ?_⟩ | refine ⟨_, equalString_ok _ _ hl, ?_⟩); (try rintro _ rfl)) | ((first | refine .inl ⟨_, Ret.wke (eqFunT_ok (Typ.pN (m + 1)) (Typ.pN (m' + 1)) D (Typ.sam n) m m' a.kids b.kids hk hq), ?_⟩ | refine ⟨_, Ret.wke (eqFunT_ok (Typ.pN (m + 1)) (Typ.pN (m' + 1)) D (Typ.sam n) m m' a.kids b.kids hk hq), ?_⟩); (try rintro _ rfl)) | (refine wrap_succ ?_; omega))))
    all_goals first
      | (refine leaf_f fun q => ?_; obtain ⟨q1, q2, q3, q4, q5⟩ := q; first | contradiction | omega)
      | (refine leaf_p ⟨fun q => ?_, fun q => ?_⟩ <;> first | (have q := pb_t.mp q; exact ⟨by simp_all, by simp_all, by simp_all, q.1, q.2⟩) | (obtain ⟨q1, q2, q3, q4, q5⟩ := q; exact pb_t.mpr ⟨q4, q5⟩))
      | trace_state
end Go.Proofs.YtfddakeigmpjkaaGreatDoor
