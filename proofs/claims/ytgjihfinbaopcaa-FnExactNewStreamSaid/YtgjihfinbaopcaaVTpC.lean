/-
  Valid types: the reference's functions.
-/
import Derived.Test.YtgjihfinbaopcaaVTpB
namespace Go.Proofs.Ytgjihfinbaopcaa
open Go Go.RowKit
set_option linter.unusedVariables false
set_option linter.unusedSimpArgs false
attribute [local irreducible] IntKind.wrap

structure UnTo (l : List Typ) (k : Nat) : Prop where
  h : ∀ j, j < k → ¬ (l.getD j default).kind = 1
theorem UnTo.zero (l : List Typ) : UnTo l 0 := ⟨fun j hj => absurd hj (Nat.not_lt_zero _)⟩
theorem UnTo.succ {l : List Typ} {k : Nat} (h : UnTo l k) (h1 : ¬ (l.getD k default).kind = 1) : UnTo l (k + 1) := ⟨fun i hi => by
  rcases Nat.lt_or_eq_of_le (Nat.le_of_lt_succ hi) with r | rfl
  · exact h.h i r
  · exact h1⟩
theorem un_yes {a : Typ} {k : Nat} (hw : UnTo a.kids k) (hk : k < a.kids.length) (h : (a.kids.getD k default).kind = 1) : a.units := ⟨k, hk, h⟩
theorem un_no {a : Typ} {k : Nat} (h : UnTo a.kids k) (hk : k = a.kids.length) : ¬ a.units := fun ⟨j, hj, e⟩ => h.h j (by omega) e
set_option maxRecDepth 8000 in
theorem l03Units_ok {n : Nat} {a : Typ} (h : Typ.oN (n + 1) a) : Ret env.P 65 [.agg (Typ.pN (n + 1) a)] (fun r => r = .b (pb a.units)) := by
  have hl := Typ.oN_len h
  refine Ret.wk (.cons (Typ.lift h) .nil) ?_
  refine ret_of (nt := 18) (rvs := [.tmp 2]) Try.func65 rfl rfl rfl rfl (fun X => ?_)
  repeat' (first | exact aa | ((conv => whnf) <;> (first | refine loopN a.kids.length (fun k => [(3, .i .i64 k)]) (fun k => []) (fun k => UnTo a.kids k) ⟨.zero _, ?_⟩ | refine And.intro ?_ ?_ | (intro _h; first | contradiction | (try simp only [dd] at _h)) | (refine dt_go ?_) | exact rfl | exact True.intro | exact dkk | exact dks | (refine wrap_succ ?_; omega))))
  all_goals (try simp only [Int.toNat_natCast] at *)
  all_goals first
    | exact UnTo.succ ‹_› ‹_›
    | (conv => whnf
       first
         | exact leaf_t (un_yes ‹UnTo _ _› (by omega) ‹_›)
         | exact leaf_f (un_no ‹UnTo _ _› (by omega))
         | trace_state)
/-! A part has such a kind. -/
structure HaTo (p : Int → Prop) (l : List Typ) (k : Nat) : Prop where
  h : ∀ j, j < k → ¬ Typ.has p (l.getD j default)
theorem HaTo.zero (p : Int → Prop) (l : List Typ) : HaTo p l 0 := ⟨fun j hj => absurd hj (Nat.not_lt_zero _)⟩
theorem HaTo.succ {p : Int → Prop} {l : List Typ} {k : Nat} (h : HaTo p l k) (h1 : ¬ Typ.has p (l.getD k default)) : HaTo p l (k + 1) := ⟨fun i hi => by
  rcases Nat.lt_or_eq_of_le (Nat.le_of_lt_succ hi) with r | rfl
  · exact h.h i r
  · exact h1⟩
theorem ha_self {p : Int → Prop} {a : Typ} (h : p a.kind) : Typ.has p a := Typ.has_eq.2 (.inl h)
theorem ha_kid {p : Int → Prop} {a : Typ} {k : Nat} (hw : HaTo p a.kids k) (hk : k < a.kids.length) (h : Typ.has p (a.kids.getD k default)) : Typ.has p a := Typ.has_eq.2 (.inr ⟨k, hk, h⟩)
theorem ha_no {p : Int → Prop} {a : Typ} {k : Nat} (h0 : ¬ p a.kind) (h : HaTo p a.kids k) (hk : k = a.kids.length) : ¬ Typ.has p a := fun q => by
  rcases Typ.has_eq.1 q with q | ⟨j, hj, q⟩
  · exact h0 q
  · exact h.h j (by omega) q
set_option maxRecDepth 8000 in
theorem l03Has_n (lo hi : Int) : ∀ (n : Nat) (a : Typ), Typ.oN n a → Ret env.P 35 [.agg (Typ.pN n a), .i .i64 lo, .i .i64 hi] (fun r => r = .b (pb (Typ.has (fun k => lo ≤ k ∧ k ≤ hi) a)))
  | 0, a, h => h.elim
  | n + 1, a, h => by
    have hl := Typ.oN_len h
    have hq : ∀ k, k < a.kids.length → Ret env.P 35 [.agg (Typ.pN (n + 1) (a.kids.getD k default)), .i .i64 lo, .i .i64 hi] (fun r => r = .b (pb (Typ.has (fun k => lo ≤ k ∧ k ≤ hi) (a.kids.getD k default)))) := fun k hk => Ret.wk (.cons (Typ.down (Typ.oN_kid h hk)) (.cons (.refl _) (.cons (.refl _) .nil))) (l03Has_n lo hi n _ (Typ.oN_kid h hk))
    refine Ret.wk (.cons (Typ.lift h) (.cons (.refl _) (.cons (.refl _) .nil))) ?_
    refine ret_of (nt := 28) (rvs := [.tmp 6]) Try.func35 rfl rfl rfl rfl (fun X => ?_)
    repeat' (first | exact aa | ((conv => whnf) <;> (first | refine loopN a.kids.length (fun k => [(7, .i .i64 k)]) (fun k => []) (fun k => HaTo (fun k => lo ≤ k ∧ k ≤ hi) a.kids k) ⟨.zero _ _, ?_⟩ | refine And.intro ?_ ?_ | (intro _h; first | contradiction | (try simp only [dd] at _h)) | (refine dt_go ?_) | exact rfl | exact True.intro | exact dkk | exact dks | ((first | refine .inl ⟨_, l00In_ok _ _ _, ?_⟩ | refine ⟨_, l00In_ok _ _ _, ?_⟩); (try rintro _ rfl)) | ((first | refine .inl ⟨_, hq _ (by omega), ?_⟩ | refine ⟨_, hq _ (by omega), ?_⟩); (try rintro _ rfl)) | (refine wrap_succ ?_; omega))))
    all_goals (try simp only [Int.toNat_natCast] at *)
    all_goals first
      | exact HaTo.succ ‹_› ‹_›
      | (conv => whnf
         first
           | exact leaf_t (ha_self (p := fun k => lo ≤ k ∧ k ≤ hi) ‹_›)
           | exact leaf_t (ha_kid ‹HaTo _ _ _› (by omega) ‹_›)
           | exact leaf_f (ha_no (p := fun k => lo ≤ k ∧ k ≤ hi) ‹_› ‹HaTo _ _ _› (by omega))
           | trace_state)
/-! How deep, how many. -/
def SzR (d : Nat) (a : Typ) (x y : Int) : Prop := (Typ.fN d a ∧ a.np ≤ 24 ∧ y = a.np ∧ 1 ≤ x ∧ x ≤ d) ∨ (¬ (Typ.fN d a ∧ a.np ≤ 24) ∧ x = 5 ∧ y = 25)
theorem SzR.bd {d : Nat} {a : Typ} {x y : Int} (h : SzR d a x y) : 0 ≤ y ∧ y ≤ 25 := by
  rcases h with ⟨_, h, e, _⟩ | ⟨_, _, e⟩
  · omega
  · omega
structure SzS (d : Nat) (l : List Typ) (y : Nat × Int) : Prop where
  hk : y.1 ≤ l.length
  fn : ∀ j, j < y.1 → Typ.fN d (l.getD j default)
  m0 : 0 ≤ y.2
  m1 : y.2 ≤ d
  sm : 1 + sumK Typ.np l y.1 ≤ 24
theorem SzS.zero (d : Nat) (l : List Typ) : SzS d l (0, 0) := ⟨Nat.zero_le _, fun j hj => absurd hj (Nat.not_lt_zero _), Int.le_refl _, Int.natCast_nonneg _, by show 1 + 0 ≤ 24; decide⟩
theorem l00Max_ok (a b : Int) : Ret env.P 53 [.i .i64 a, .i .i64 b] (fun r => r = .i .i64 (if a > b then a else b)) := by
  refine ret_of (nt := 10) (rvs := [.tmp 4]) Try.func53 rfl rfl rfl rfl (fun X => ?_)
  repeat' (first | exact aa | ((conv => whnf) <;> (first | refine And.intro ?_ ?_ | (intro _h; first | contradiction | (try simp only [dd] at _h)) | (refine dt_go ?_) | exact rfl | exact True.intro | exact dkk | exact dks | (refine wrap_succ ?_; omega))))
  all_goals (conv => whnf)
  all_goals first
    | exact leaf_i (by rw [if_pos ‹_›])
    | exact leaf_i (by rw [if_neg ‹_›])
    | trace_state
theorem np_gt {a : Typ} (h : 24 < a.kids.length) : ¬ a.np ≤ 24 := by
  rw [Typ.np_eq]
  have := sumK_len (l := a.kids) (Nat.le_refl _)
  omega
theorem np_le {a : Typ} {k : Nat} (hk : k ≤ a.kids.length) : 1 + sumK Typ.np a.kids k ≤ a.np := by
  rw [Typ.np_eq]
  have := sumK_mono Typ.np hk (Nat.le_refl _)
  omega
theorem sz_big {d : Nat} {a : Typ} (h : ¬ (Typ.fN d a ∧ a.np ≤ 24)) : ∃ x y : Int, AV.tup [.i .i64 5, .i .i64 25] = AV.tup [.i .i64 x, .i .i64 y] ∧ SzR d a x y := ⟨5, 25, rfl, .inr ⟨h, rfl, rfl⟩⟩
theorem sz_stop {d : Nat} {a : Typ} {s : Nat × Int} {x y : Int} (hs : SzS d a.kids s) (hk : s.1 < a.kids.length) (h : SzR d (a.kids.getD s.1 default) x y) (hb : 24 < (1 + sumK Typ.np a.kids s.1 : Nat) + y) : ¬ (Typ.fN (d + 1) a ∧ a.np ≤ 24) := by
  rintro ⟨h1, h2⟩
  have h3 := np_le (a := a) (k := s.1 + 1) hk
  rw [sumK_succ _ hk] at h3
  rcases h with ⟨_, _, e, _, _⟩ | ⟨hn, _, _⟩
  · omega
  · exact hn ⟨Typ.fN_get.1 h1 _ hk, by omega⟩
theorem SzS.next {d : Nat} {a : Typ} {s : Nat × Int} {x y : Int} (hs : SzS d a.kids s) (hk : s.1 < a.kids.length) (h : SzR d (a.kids.getD s.1 default) x y) (hb : ¬ 24 < (1 + sumK Typ.np a.kids s.1 : Nat) + y) : SzS d a.kids (s.1 + 1, if s.2 > x then s.2 else x) ∧ (1 + sumK Typ.np a.kids s.1 : Nat) + y = ((1 + sumK Typ.np a.kids (s.1 + 1) : Nat) : Int) := by
  have h0 := hs.m0
  have h1 := hs.m1
  rcases h with ⟨e1, e2, e3, e4, e5⟩ | ⟨_, _, e⟩
  · refine ⟨⟨hk, fun j hj => ?_, ?_, ?_, ?_⟩, ?_⟩
    · rcases Nat.lt_or_eq_of_le (Nat.le_of_lt_succ hj) with r | rfl
      · exact hs.fn j r
      · exact e1
    · dsimp only; split <;> omega
    · dsimp only; split <;> omega
    · dsimp only; rw [sumK_succ _ hk]; omega
    · rw [sumK_succ _ hk]; omega
  · omega
theorem sz_done {d : Nat} {a : Typ} {s : Nat × Int} (hs : SzS d a.kids s) (hk : ¬ s.1 < a.kids.length) : SzR (d + 1) a (s.2 + 1) (1 + sumK Typ.np a.kids s.1 : Nat) := by
  have e : s.1 = a.kids.length := by have := hs.hk; omega
  have h0 := hs.m0
  have h1 := hs.m1
  have h2 := hs.sm
  have h3 := Typ.np_eq a
  rw [e] at h2 ⊢
  exact .inl ⟨Typ.fN_get.2 fun j hj => hs.fn j (by omega), by omega, by omega, by omega, by omega⟩
set_option maxRecDepth 8000 in
theorem l03Size_n : ∀ (d : Nat), d ≤ 4 → ∀ (D : Int), D = 5 - d → ∀ (n : Nat) (a : Typ), Typ.oN (n + 1) a → Ret env.P 45 [.agg (Typ.pN (n + 1) a), .i .i64 D] (fun r => ∃ x y : Int, r = .tup [.i .i64 x, .i .i64 y] ∧ SzR d a x y)
  | 0, _, D, hD, n, a, h => by
    refine ret_of (nt := 48) (rvs := [.tmp 4, .tmp 5]) Try.func45 rfl rfl rfl rfl (fun X => ?_)
    repeat' (first | exact aa | ((conv => whnf) <;> (first | (exfalso; omega) | refine And.intro ?_ ?_ | (intro _h; first | contradiction | (try simp only [dd] at _h)) | (refine dt_go ?_) | exact rfl | exact True.intro | exact dkk | exact dks | (refine wrap_succ ?_; omega))))
    all_goals (conv => whnf)
    all_goals first
      | exact sz_big fun q => q.1.elim
      | (exfalso; omega)
      | trace_state
  | d + 1, hd, D, hD, n, a, h => by
    have hl := Typ.oN_len h
    have hq : ∀ k, k < a.kids.length → Ret env.P 45 [.agg (Typ.pN (n + 1) (a.kids.getD k default)), .i .i64 (IntKind.i64.wrap (D + 1))] (fun r => ∃ x y : Int, r = .tup [.i .i64 x, .i .i64 y] ∧ SzR d (a.kids.getD k default) x y) := fun k hk => l03Size_n d (by omega) _ (by rw [wrap_in (by omega) (by omega)]; omega) n _ (Typ.oN_up _ _ (Typ.oN_kid h hk))
    refine Ret.wk (.cons (Typ.lift h) (.cons (.refl _) .nil)) ?_
    refine ret_of (nt := 48) (rvs := [.tmp 4, .tmp 5]) Try.func45 rfl rfl rfl rfl (fun X => ?_)
    repeat' (first | exact aa | ((conv => whnf) <;> (first | (refine loopF (fun s : Nat × Int => [(8, .i .i64 s.1), (6, .i .i64 s.2), (7, .i .i64 (1 + sumK Typ.np a.kids s.1 : Nat))]) (fun s => []) (SzS d a.kids) (fun s => a.kids.length - s.1) (0, 0) ⟨.zero _ _, ?_⟩) | refine And.intro ?_ ?_ | (intro _h; first | contradiction | (try simp only [dd] at _h)) | (refine dt_go ?_) | exact rfl | exact True.intro | exact dkk | exact dks | (refine wrap_succ ?_; omega))))
    all_goals (try simp only [Int.toNat_natCast] at *)
    · conv => whnf
      exact sz_big fun q => np_gt (by omega) q.2
    · rename_i s hs
      have hlt : s.1 < a.kids.length := by omega
      repeat' (first | exact aa | ((conv => whnf) <;> (first | (refine .inl ⟨_, hq _ hlt, ?_⟩; rintro _ ⟨x, y, rfl, hxy⟩) | refine And.intro ?_ ?_ | (intro _h; first | contradiction | (try simp only [dd] at _h)) | (refine dt_go ?_) | exact rfl | exact True.intro | exact dkk | exact dks | ((first | refine .inl ⟨_, l00Max_ok _ _, ?_⟩ | refine ⟨_, l00Max_ok _ _, ?_⟩); (try rintro _ rfl)) | (refine wrap_succ ?_; omega))))
      all_goals
        have hy := hxy.bd
        have hb := hs.sm
        have hw : IntKind.i64.wrap (((1 + sumK Typ.np a.kids s.1 : Nat) : Int) + y) = ((1 + sumK Typ.np a.kids s.1 : Nat) : Int) + y := wrap_in (by omega) (by omega)
        rw [hw] at _h
      · conv => whnf
        exact sz_big (sz_stop hs hlt hxy _h)
      · have hnx := hs.next hlt hxy _h
        conv => whnf
        refine ⟨(s.1 + 1, if s.2 > x then s.2 else x), [], hnx.1, (show a.kids.length - (s.1 + 1) < a.kids.length - s.1 by omega), ?_⟩
        repeat' (first | exact aa | ((conv => whnf) <;> (first | exact hw.trans hnx.2 | refine And.intro ?_ ?_ | (intro _h; first | contradiction | (try simp only [dd] at _h)) | (refine dt_go ?_) | exact rfl | exact True.intro | exact dkk | exact dks | (refine wrap_succ ?_; omega))))
    · rename_i s hs
      have h0 := hs.m0
      have h1 := hs.m1
      have hw : IntKind.i64.wrap (s.2 + 1) = s.2 + 1 := wrap_in (by omega) (by omega)
      conv => whnf
      refine ⟨IntKind.i64.wrap (s.2 + 1), ((1 + sumK Typ.np a.kids s.1 : Nat) : Int), rfl, ?_⟩
      rw [hw]
      exact sz_done hs (by omega)
end Go.Proofs.Ytgjihfinbaopcaa
