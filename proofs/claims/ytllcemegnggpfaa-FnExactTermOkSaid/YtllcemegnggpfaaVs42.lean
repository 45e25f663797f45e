/- Texts for VTermOkP. -/
import Derived.Test.YtllcemegnggpfaaVs41
namespace Go.Proofs.Ytllcemegnggpfaa
open Go Go.RowKit
set_option linter.unusedVariables false
set_option linter.unusedSimpArgs false
section
attribute [local irreducible] IntKind.wrap
theorem shG_le {f : Term → Int} {k B M : Int} (hB : ∀ x, f x ≤ B) (h0 : 0 ≤ B) (hM : 12000 + B ≤ M) : ∀ (l : List Term) (s : Int), s ≤ M → shG f k l s ≤ M + l.length
  | [], s, h => by show s ≤ M + ((0 : Nat) : Int); omega
  | x :: r, s, h => by
    have hx := hB x
    have e : ((x :: r).length : Int) = r.length + 1 := by simp
    rw [e]
    simp only [shG]
    split
    · have := shG_le (k := k) hB h0 (M := M + 1) (by omega) r (s + 1) (by omega)
      omega
    · split
      · omega
      · have := shG_le (k := k) hB h0 hM r (s + f x) (by omega)
        omega
theorem shp_le : ∀ (d : Nat) (a : Term), shp d a ≤ 20000 * d
  | 0, a => by show (-1 : Int) ≤ _; omega
  | d + 1, a => by
    simp only [shp]
    split
    · rename_i h
      have h1 := h.k
      have := shG_le (f := shp d) (k := a.kind) (B := 20000 * d) (M := 12001 + 20000 * d) (shp_le d) (by omega) (by omega) a.kids 1 (by omega)
      omega
    · omega
structure ShI (f : Term → Int) (k : Int) (l : List Term) (o M : Int) (y : Nat × Int) : Prop where
  i : y.1 ≤ l.length
  s0 : 1 ≤ y.2
  s1 : y.2 ≤ M + y.1
  go : shG f k (l.drop y.1) y.2 = o
theorem drop_at {l : List Term} {i : Nat} (h : i < l.length) : l.drop i = l.getD i default :: l.drop (i + 1) := by
  rw [List.drop_eq_getElem_cons h, List.getD_eq_getElem?_getD, List.getElem?_eq_getElem h]
  rfl
theorem ShI.end_ {f : Term → Int} {k : Int} {l : List Term} {o M : Int} {y : Nat × Int} (h : ShI f k l o M y) (hi : ¬ y.1 < l.length) : y.2 = o := by
  have := h.go
  rwa [List.drop_eq_nil_of_le (by omega)] at this
theorem ShI.unit {f : Term → Int} {k : Int} {l : List Term} {o M : Int} {i : Nat} {s : Int} (h : ShI f k l o M (i, s)) (hi : i < l.length) (hk : (k = 14 ∨ k = 17) ∧ (l.getD i default).kind = 1) : ShI f k l o M (i + 1, s + 1) := by
  have h0 := h.s0; have h1 := h.s1; have hg := h.go
  dsimp only at h0 h1 hg
  refine ⟨by omega, by dsimp only; omega, by dsimp only; omega, ?_⟩
  rw [drop_at hi] at hg
  simp only [shG] at hg
  rwa [if_pos hk] at hg
theorem ShI.kid {f : Term → Int} {k : Int} {l : List Term} {o M : Int} {i : Nat} {s : Int} (h : ShI f k l o M (i, s)) (hi : i < l.length) (hk : ¬ ((k = 14 ∨ k = 17) ∧ (l.getD i default).kind = 1)) (h2 : ¬ f (l.getD i default) < 0) (h3 : ¬ 12000 < s) (hM : 12000 + f (l.getD i default) ≤ M) : ShI f k l o M (i + 1, s + f (l.getD i default)) := by
  have h0 := h.s0; have h1 := h.s1; have hg := h.go
  dsimp only at h0 h1 hg
  refine ⟨by omega, by dsimp only; omega, by dsimp only; omega, ?_⟩
  rw [drop_at hi] at hg
  simp only [shG] at hg
  rwa [if_neg hk, if_neg (by omega)] at hg
theorem ShI.bad {f : Term → Int} {k : Int} {l : List Term} {o M : Int} {i : Nat} {s : Int} (h : ShI f k l o M (i, s)) (hi : i < l.length) (hk : ¬ ((k = 14 ∨ k = 17) ∧ (l.getD i default).kind = 1)) (h2 : f (l.getD i default) < 0 ∨ 12000 < s) : o = -1 := by
  have hg := h.go
  dsimp only at hg
  rw [drop_at hi] at hg
  simp only [shG] at hg
  rw [if_neg hk, if_pos h2] at hg
  exact hg.symm
set_option maxRecDepth 8000 in
set_option maxHeartbeats 8000000 in
theorem l06Shape_n (d : Nat) : d ≤ 100 → ∀ (D : Int), D = d → ∀ (m : Nat) (a : Term), Term.oN (m + 1) a → Ret env.P 55 [.agg (Term.pN (m + 1) a), .i .i64 D] (fun r => r = .i .i64 (shp d a)) := by
  induction d with
  | zero =>
    intro hn D hD m a h
    obtain rfl : D = 0 := hD
    refine ret_of (nt := 114) (rvs := [.tmp 4]) Try.func55 rfl rfl rfl rfl (fun X => ?_)
    repeat' (first | omega | (with_reducible show (_ : Int) < _; dsimp only; omega) | (with_reducible show (_ : Nat) ≤ _; dsimp only; omega) | ((with_reducible show SrcOk _ _ _) <;> (first | exact srcOk_1 rfl | exact srcOk_L (fun _ => ⟨rfl, rfl⟩) | exact srcOk_E (fun _ => ⟨rfl, rfl⟩))) | ((conv => whnf) <;> (first | refine And.intro ?_ ?_ | (intro _h; first | contradiction | (try simp only [dd] at _h)) | (refine dt_go ?_) | exact rfl | exact True.intro | exact dkk | exact dks | (refine wrap_succ ?_; omega))))
    all_goals first | exact rfl | (exfalso; omega)
  | succ d ih =>
    intro hn D hD m a h
    refine Ret.wk (.cons (.agg (Term.up _ _ (Term.oN_fN _ _ h))) (.cons (.refl _) .nil)) ?_
    have h2 := Term.oN_up _ _ h
    have hq : ∀ k, k < a.kids.length → Ret env.P 55 [.agg (Term.pN (m + 1) (a.kids.getD k default)), .i .i64 (IntKind.i64.wrap (D - 1))] (fun r => r = .i .i64 (shp d (a.kids.getD k default))) := fun k hk =>
      ih (by omega) _ (by rw [wrap_in (by omega) (by omega)]; omega) m _ (h2.2.2.2 k hk)
    have hl := h.2.1.1
    have hkl := h.2.2.1
    have hn1 : a.name.size ≤ 1048576 := h.1
    refine RetM.toRetG ?_
    refine ret_ofPM (nt := 114) (rvs := [.tmp 4]) Try.func55 rfl rfl rfl rfl (fun X hX => ?_)
    refine pw_cut 5 (fun y : Int × Int => y = (kLo a, kHi a) ∧ a.labels.length ≤ 16 ∧ a.kids.length ≤ 16 ∧ a.name.size ≤ 12) (fun y => [(1, .i .i64 D), (2, .ptr 0 0 0), (5, .i .i64 a.kids.length), (6, .i .i64 y.1), (7, .i .i64 y.2)]) (fun y => [some (boxRow (Term.pN (m + 1 + 1) a))]) ?_ (fun y hy => ?_)
    · repeat' (first | omega | (with_reducible show (_ : Int) < _; dsimp only; omega) | (with_reducible show (_ : Nat) ≤ _; dsimp only; omega) | ((with_reducible show SrcOk _ _ _) <;> (first | exact srcOk_1 rfl | exact srcOk_L (fun _ => ⟨rfl, rfl⟩) | exact srcOk_E (fun _ => ⟨rfl, rfl⟩))) | ((conv => whnf) <;> (first | refine And.intro ?_ ?_ | (intro _h; first | contradiction | (try simp only [dd] at _h)) | (refine dt_go ?_) | exact rfl | exact True.intro | exact dkk | exact dks | (refine wrap_succ ?_; omega))))
      all_goals (conv => whnf)
      all_goals first
        | (have q : shp (d + 1) a = -1 := by
             simp only [shp]
             rw [if_neg (fun q => by have := q.l; have := q.k; have := q.n; omega)]
           exact endM_pick [] [] (.i .i64 (-1)) view_none rfl rfl (fun k hk => by rw [hX] at hk; exact absurd hk (Nat.not_lt_zero _)) ⟨congrArg (AV.i .i64) q.symm, rfl⟩)
        | (refine cut_turn (turn_box (id := 0) (ds := Term.pN (m + 1 + 1) a) rfl rfl rfl (by repeat' (first | exact OwEqL.nil | refine OwEqL.cons (OwEq.refl _) ?_))) ?_
           refine cut_go (_, _) ?_ (by (repeat' (first | exact trivial | refine And.intro rfl ?_)); done) (by (repeat' (first | exact trivial | refine And.intro (.inl rfl) ?_ | refine And.intro (.inr rfl) ?_ | refine And.intro rfl ?_)); done)
           refine ⟨?_, by omega, by omega, by omega⟩
           unfold kLo kHi
           (repeat' split) <;> first | rfl | (exfalso; omega))
        | trace_state
    obtain ⟨rfl, hy1, hy2, hy3⟩ := hy
    refine wpc_ok _ _ _ _ ?_
    (try dsimp only)
    conv => whnf
    repeat' (first | omega | (with_reducible show (_ : Int) < _; dsimp only; omega) | (with_reducible show (_ : Nat) ≤ _; dsimp only; omega) | ((with_reducible show SrcOk _ _ _) <;> (first | exact srcOk_1 rfl | exact srcOk_L (fun _ => ⟨rfl, rfl⟩) | exact srcOk_E (fun _ => ⟨rfl, rfl⟩))) | ((conv => whnf) <;> (first | ((with_reducible show LW _ _ _ _ _ _ _); refine loopFT (fun y : Nat × Int => [(9, .i .i64 y.1), (8, .i .i64 y.2)]) (fun _ => []) (ShI (shp d) a.kind a.kids (shG (shp d) a.kind a.kids 1) (12001 + 20000 * d)) (fun y => a.kids.length - y.1) (0, 1) ⟨⟨Nat.zero_le _, Int.le_refl _, (by show (1 : Int) ≤ 12001 + 20000 * (d : Int) + ((0 : Nat) : Int); omega), rfl⟩, ?_⟩) | ((with_reducible show ∀ _, ShI _ _ _ _ _ _ → _); intro y hy; obtain ⟨i, s⟩ := y; have hy4 := hy.i; have hy5 := hy.s0; have hy6 := hy.s1) | refine And.intro ?_ ?_ | (intro _h; first | contradiction | (try simp only [dd] at _h)) | (refine dt_go ?_) | exact rfl | exact True.intro | exact dkk | exact dks | ((first | refine .inl ⟨_, l00In_ok _ _ _, ?_⟩ | refine ⟨_, l00In_ok _ _ _, ?_⟩); (try rintro _ rfl)) | ((first | refine .inl ⟨_, hq _ (by omega), ?_⟩ | refine ⟨_, hq _ (by omega), ?_⟩); (try rintro _ rfl)) | (refine wrap_succ ?_; omega))))
    all_goals (try simp only [Int.toNat_natCast] at *)
    all_goals (conv => whnf)
    all_goals first
      | (have q : shp (d + 1) a = -1 := by
           simp only [shp]
           rw [if_neg (fun q => by have := q.d; have := q.lo; have := q.hi; omega)]
         exact endM_pick [] [] (.i .i64 (-1)) view_none rfl rfl (fun k hk => by rw [hX] at hk; exact absurd hk (Nat.not_lt_zero _)) ⟨congrArg (AV.i .i64) q.symm, rfl⟩)
      | skip
    all_goals (have hnd : ndB a := ⟨hy1, hy2, hy3, by omega, by omega, by omega⟩)
    all_goals (have e : shp (d + 1) a = shG (shp d) a.kind a.kids 1 := by simp only [shp]; rw [if_pos hnd])
    all_goals (have hb := shp_le d (a.kids.getD i default))
    all_goals first
      | (have hi : ¬ i < a.kids.length := by omega
         have q : s = shp (d + 1) a := (hy.end_ hi).trans e.symm
         exact endM_pick [] [] (.i .i64 s) view_none rfl rfl (fun k hk => by rw [hX] at hk; exact absurd hk (Nat.not_lt_zero _)) ⟨congrArg (AV.i .i64) q, rfl⟩)
      | (have hi : i < a.kids.length := by omega
         have hk : (a.kind = 14 ∨ a.kind = 17) ∧ (a.kids.getD i default).kind = 1 := by omega
         have hw1 : IntKind.i64.wrap (s + 1) = s + 1 := wrap_in (by omega) (by omega)
         refine roundET_end ⟨(i + 1, s + 1), [], hy.unit hi hk, (by show a.kids.length - (i + 1) < a.kids.length - i; omega), ?_⟩
         repeat' (first | omega | (with_reducible show (_ : Int) < _; dsimp only; omega) | (with_reducible show (_ : Nat) ≤ _; dsimp only; omega) | ((with_reducible show SrcOk _ _ _) <;> (first | exact srcOk_1 rfl | exact srcOk_L (fun _ => ⟨rfl, rfl⟩) | exact srcOk_E (fun _ => ⟨rfl, rfl⟩))) | ((conv => whnf) <;> (first | exact hw1 | exact low_cells rfl | exact keeps0_nil _ _ | refine And.intro ?_ ?_ | (intro _h; first | contradiction | (try simp only [dd] at _h)) | (refine dt_go ?_) | exact rfl | exact True.intro | exact dkk | exact dks | (refine wrap_succ ?_; omega)))))
      | (have hi : i < a.kids.length := by omega
         have hk : ¬ ((a.kind = 14 ∨ a.kind = 17) ∧ (a.kids.getD i default).kind = 1) := by omega
         have hx : shp d (a.kids.getD i default) < 0 ∨ 12000 < s := by omega
         have q := e.trans (hy.bad hi hk hx)
         exact endM_pick [] [] (.i .i64 (-1)) view_none rfl rfl (fun k hk => by rw [hX] at hk; exact absurd hk (Nat.not_lt_zero _)) ⟨congrArg (AV.i .i64) q.symm, rfl⟩)
      | (have hi : i < a.kids.length := by omega
         have hk : ¬ ((a.kind = 14 ∨ a.kind = 17) ∧ (a.kids.getD i default).kind = 1) := by omega
         have hx : ¬ shp d (a.kids.getD i default) < 0 := by omega
         have hs : ¬ 12000 < s := by omega
         have hw1 : IntKind.i64.wrap (s + shp d (a.kids.getD i default)) = s + shp d (a.kids.getD i default) := wrap_in (by omega) (by omega)
         refine roundET_end ⟨(i + 1, s + shp d (a.kids.getD i default)), [], hy.kid hi hk hx hs (by omega), (by show a.kids.length - (i + 1) < a.kids.length - i; omega), ?_⟩
         repeat' (first | omega | (with_reducible show (_ : Int) < _; dsimp only; omega) | (with_reducible show (_ : Nat) ≤ _; dsimp only; omega) | ((with_reducible show SrcOk _ _ _) <;> (first | exact srcOk_1 rfl | exact srcOk_L (fun _ => ⟨rfl, rfl⟩) | exact srcOk_E (fun _ => ⟨rfl, rfl⟩))) | ((conv => whnf) <;> (first | exact hw1 | exact low_cells rfl | exact keeps0_nil _ _ | refine And.intro ?_ ?_ | (intro _h; first | contradiction | (try simp only [dd] at _h)) | (refine dt_go ?_) | exact rfl | exact True.intro | exact dkk | exact dks | (refine wrap_succ ?_; omega)))))
      | trace_state
end
end Go.Proofs.Ytllcemegnggpfaa
