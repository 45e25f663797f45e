/- Texts for VReadPathP. -/
import Derived.Test.YtfaadafgbhmlfaaDoorVt23
namespace Go.Proofs.YtfaadafgbhmlfaaDoor
open Go Go.RowKit
set_option linter.unusedVariables false
set_option linter.unusedSimpArgs false
set_option maxRecDepth 8000
section
attribute [local irreducible] IntKind.wrap
theorem tarr_zero {r : List Nat} {n sz cap cap' : Nat} {e e' : Nat → Nat → AV} {k : RK} (hc : cap = 0) (hc' : cap' = 0) : ArrP r n ⟨sz, cap, e, k⟩ ⟨sz, cap', e', k⟩ := by
  subst hc hc'
  exact ⟨rfl, rfl, rfl, fun i j hi => absurd hi (Nat.not_lt_zero _), fun i j hi => absurd hi (Nat.not_lt_zero _)⟩
theorem nxt_z {s : ByteArray} {k : Nat} (hk : k < s.size) : (nxt s k).1 = 0 ↔ (nxt s k).2 = 0 := by
  constructor
  · intro h
    unfold nxt at h ⊢
    by_cases h1 : isLt (byI s k)
    · rw [if_pos h1] at h; exact absurd h (by show ¬ (1 : Int) = 0; decide)
    rw [if_neg h1] at h ⊢
    by_cases h2 : isDg (byI s k)
    · rw [if_pos h2] at h; exact absurd h (by show ¬ (2 : Int) = 0; decide)
    rw [if_neg h2] at h ⊢
    by_cases h3 : byI s k = 45 ∧ byI s (k + 1) = 62
    · rw [if_pos h3] at h; exact absurd h (by show ¬ (3 : Int) = 0; decide)
    rw [if_neg h3] at h ⊢
    by_cases h4 : byI s k ∈ sgL
    · rw [if_pos h4] at h; exact absurd h (by show ¬ (3 : Int) = 0; decide)
    · rw [if_neg h4]
  · intro h
    apply Classical.byContradiction
    intro hn
    have := nxt_rng hk hn
    omega
theorem lex_or (s : ByteArray) (k : Nat) (hs : s.size ≤ 30000) (hk : (k : Int) < s.size) : Ret env.P 14 [.s s, .i .i64 k] (fun r => r = .tup [.agg [.i .i64 (nxt s k).1, .s (lxT s k), .i .i64 0], .i .i64 ((nxt s k).2 : Nat)] ∧ ((nxt s k).1 = 0 ↔ (nxt s k).2 = 0) ∧ ((nxt s k).2 = 0 ∨ (k < (nxt s k).2 ∧ (nxt s k).2 ≤ s.size))) := (l05Lex_ok s k hs (by omega)).mono fun r e => ⟨e, nxt_z (by omega), by
  have h1 := nxt_or (s := s) (k := k) (by omega)
  have h2 := nxt_z (s := s) (k := k) (by omega)
  rcases h1 with h1 | h1
  · exact .inl (h2.1 h1)
  · exact .inr h1⟩
set_option maxHeartbeats 4000000 in
theorem l05Tokens_ok (s : ByteArray) : Ret env.P 7 [.s s] (fun r => r = lxR (lexF s)) := by
  by_cases hs : s.size ≤ 30000
  · refine Ret.ofFrz ?_
    obtain ⟨a0, b0, c0, d0⟩ := skW_ge s _ 0 1 (Nat.le_refl _)
    have b0 := b0 (Nat.zero_le _)
    refine ret_ofPM (nt := 54) (rvs := [.tmp 2, .tmp 3, .tmp 4]) Tryd.func7 rfl rfl rfl rfl (fun X hX => ?_)
    refine pw_cut 4 (fun _ : Unit => True) (fun _ => [(0, .s s), (5, .row 0 0), (6, .i .i64 ((skW s 0 1).1 : Nat)), (7, .i .i64 (skW s 0 1).2)]) (fun _ => [some (rowL 3 tokC [])]) ?_ (fun _ _ => ?_)
    · repeat' (first | omega | (with_reducible show (_ : Int) < _; dsimp only; omega) | (with_reducible show (_ : Nat) ≤ _; dsimp only; omega) | ((with_reducible show SrcOk _ _ _) <;> (first | exact srcOk_1 rfl | exact srcOk_L (fun _ => ⟨rfl, rfl⟩) | exact srcOk_E (fun _ => ⟨rfl, rfl⟩))) | ((conv => whnf) <;> (first | refine And.intro ?_ ?_ | (intro _h; first | contradiction | (try simp only [dd] at _h)) | (refine dt_go ?_) | exact rfl | exact True.intro | exact dkk | exact dks | ((first | refine .inl ⟨_, l05Skip_ok s 0 1 hs (Nat.zero_le _) (by decide) (by decide), ?_⟩ | refine ⟨_, l05Skip_ok s 0 1 hs (Nat.zero_le _) (by decide) (by decide), ?_⟩); (try rintro _ rfl)) | (refine wrap_succ ?_; omega))))
      all_goals first | (exfalso; omega) | skip
      conv => whnf
      refine cut_turn (turn_eq (id := 0) (x := rowL 3 tokC []) rfl rfl rfl rfl rfl (fun i j hi _ => absurd hi (Nat.not_lt_zero _))) ?_
      exact cut_go () trivial (by repeat' (first | exact trivial | refine And.intro rfl ?_)) (by repeat' (first | exact trivial | refine And.intro (.inl rfl) ?_ | refine And.intro (.inr rfl) ?_ | refine And.intro rfl ?_))
    refine wpc_ok _ _ _ _ ?_
    (try dsimp only)
    conv => whnf
    repeat' (first | omega | (with_reducible show (_ : Int) < _; dsimp only; omega) | (with_reducible show (_ : Nat) ≤ _; dsimp only; omega) | ((with_reducible show SrcOk _ _ _) <;> (first | exact srcOk_1 rfl | exact srcOk_L (fun _ => ⟨rfl, rfl⟩) | exact srcOk_E (fun _ => ⟨rfl, rfl⟩))) | ((conv => whnf) <;> (first | ((first | refine .inl ⟨_, lex_or s _ hs ‹((_ : Nat) : Int) < s.size›, ?_⟩ | refine ⟨_, lex_or s _ hs ‹((_ : Nat) : Int) < s.size›, ?_⟩); rintro _ ⟨rfl, _he, _hr⟩) | exact cap4C ‹LxI s _›.len (by decide) | exact cap4M ‹LxI s _›.len | exact srcOk_1 rfl | exact tarr_zero rfl rfl | (rename_i y hy _ _; (first | refine .inl ⟨_, l05Skip_ok s ((nxt s y.2.1).2) y.2.2 hs (by omega) (by have := hy.lo; omega) (by have := hy.hi; omega), ?_⟩ | refine ⟨_, l05Skip_ok s ((nxt s y.2.1).2) y.2.2 hs (by omega) (by have := hy.lo; omega) (by have := hy.hi; omega), ?_⟩); rintro _ rfl) | refine loopFT (fun y : List Tok × Nat × Int => [(5, .row 0 y.1.length), (6, .i .i64 y.2.1), (7, .i .i64 y.2.2)]) (fun y => [some (.arr ⟨3, y.1.length, elE tokC y.1, .arr⟩)]) (fun y => LxI s y) (fun y => s.size - y.2.1) ([], (skW s 0 1).1, (skW s 0 1).2) ⟨LxI.zero s, ?_⟩ | refine And.intro ?_ ?_ | (intro _h; first | contradiction | (try simp only [dd] at _h)) | (refine dt_go ?_) | exact rfl | exact True.intro | exact dkk | exact dks | (refine wrap_succ ?_; omega))))
    all_goals (conv => whnf)
    · rename_i y hy _
      exact endM_self (frz0 (frz_tup (.cons (.refl _) (.cons (.refl _) (.cons (.refl _) .nil)))) (by rw [hy.bad (by omega) hs (_he.2 (by omega))]; rfl))
    · rename_i y hy _ _
      exact endM_self (frz0 (frz_tup (.cons (.refl _) (.cons (.refl _) (.cons (.refl _) .nil)))) (by rw [hy.many (by omega) hs (fun q => absurd (_he.1 q) (by omega)) (by omega)]; rfl))
    · rename_i y hy _ _
      have hk : y.2.1 < s.size := by omega
      have hn : ¬ (nxt s y.2.1).1 = 0 := fun q => absurd (_he.1 q) (by omega)
      have hcap : (y.1 ++ [tkAt s y]).length = y.1.length + 1 := lbz_len.symm
      refine roundET_turn (turn_eq (id := 3) (x := rowL 3 tokC (y.1 ++ [tkAt s y])) rfl rfl hcap rfl rfl (snoc_eq rfl (tk_eq (t := tkAt s y) rfl (by exact congrArg AV.s (lxT_at hn)) rfl))) ?_
      refine roundET_end ?_
      refine ⟨(y.1 ++ [tkAt s y], (skW s (nxt s y.2.1).2 y.2.2).1, (skW s (nxt s y.2.1).2 y.2.2).2), [3], hy.next hk hn (by omega), LxI_lt hk hn, ?_⟩
      repeat' (first | omega | (with_reducible show (_ : Int) < _; dsimp only; omega) | (with_reducible show (_ : Nat) ≤ _; dsimp only; omega) | ((with_reducible show SrcOk _ _ _) <;> (first | exact srcOk_1 rfl | exact srcOk_L (fun _ => ⟨rfl, rfl⟩) | exact srcOk_E (fun _ => ⟨rfl, rfl⟩))) | ((conv => whnf) <;> (first | exact arr_same rfl hcap (fun a j => low_cells rfl) | exact arr_same rfl rfl (fun a j => low_cells rfl) | exact hcap | exact hcap.symm | exact low_cells rfl | exact lbz_rho hX ‹_› | refine And.intro ?_ ?_ | (intro _h; first | contradiction | (try simp only [dd] at _h)) | (refine dt_go ?_) | exact rfl | exact True.intro | exact dkk | exact dks | (refine wrap_succ ?_; omega))))
    · rename_i y hy
      refine endM_turn (turn_eq (id := 2) (x := rowL 3 tokC (y.1 ++ [⟨4, ⟨#[]⟩, y.2.2⟩])) rfl rfl lbz_len.symm rfl rfl (snoc_eq rfl (tk_eq (t := ⟨4, ⟨#[]⟩, y.2.2⟩) rfl rfl rfl))) ?_
      exact endM_self (frz0 (frz_tup (.cons (shr_L (d := 0) (k := 4) lbz_len) (.cons (.refl _) (.cons (.refl _) .nil)))) (by rw [hy.end (by omega) hs]; rfl))
  · have e : lexF s = .err 0 4 := if_pos (by omega)
    rw [e]
    refine ret_of (nt := 54) (rvs := [.tmp 2, .tmp 3, .tmp 4]) Tryd.func7 rfl rfl rfl rfl (fun X => ?_)
    repeat' (first | omega | (with_reducible show (_ : Int) < _; dsimp only; omega) | (with_reducible show (_ : Nat) ≤ _; dsimp only; omega) | ((with_reducible show SrcOk _ _ _) <;> (first | exact srcOk_1 rfl | exact srcOk_L (fun _ => ⟨rfl, rfl⟩) | exact srcOk_E (fun _ => ⟨rfl, rfl⟩))) | ((conv => whnf) <;> (first | refine And.intro ?_ ?_ | (intro _h; first | contradiction | (try simp only [dd] at _h)) | (refine dt_go ?_) | exact rfl | exact True.intro | exact dkk | exact dks | (refine wrap_succ ?_; omega))))
    all_goals first | (exfalso; omega) | exact rfl
end
structure Term where
  kind : Int
  name : ByteArray
  labels : List ByteArray
  kids : List Term
instance : Inhabited Term := ⟨⟨0, ByteArray.empty, [], []⟩⟩
noncomputable instance : DecidableEq Term := fun a b => Classical.propDecidable (a = b)
noncomputable def Term.pN (n : Nat) : Term → List AV := Nat.rec (motive := fun _ => Term → List AV) (fun _ => []) (fun _ ih a => [.i .i64 a.kind, .s a.name, slL 1 strC a.labels, slL 4 ih a.kids]) n
noncomputable def Term.kd (a : Term) : Nat := Term.rec (motive_1 := fun _ => Nat) (motive_2 := fun _ => Nat) (fun _ _ _ _ ih => ih) 0 (fun _ _ x y => Nat.max (x + 1) y) a
noncomputable def Term.cs (a : Term) : List AV := Term.pN (a.kd + 1) a
theorem Term.low (a : Term) : a.cs.all (low1 0) = true := rfl
def Term.fN (n : Nat) : Term → Prop := Nat.rec (motive := fun _ => Term → Prop) (fun _ => False) (fun _ ih a => ∀ x ∈ a.kids, ih x) n
def Term.oN (n : Nat) : Term → Prop := Nat.rec (motive := fun _ => Term → Prop) (fun _ => False) (fun _ ih a => okS a.name ∧ (okL okS) a.labels ∧ okL ih a.kids) n
def Term.ok (a : Term) : Prop := Term.oN (a.kd + 1) a
theorem Term.wget {xs ys : List AV} (h : WkL xs ys) (j : Nat) : Wk (xs.getD j .any) (ys.getD j .any) := by
  rw [List.getD_eq_getElem?_getD, List.getD_eq_getElem?_getD]
  cases hx : xs[j]? with
  | none =>
    have : ys[j]? = none := by
      rw [List.getElem?_eq_none_iff] at hx ⊢
      rw [← h.1]; exact hx
    rw [this]
    exact .refl _
  | some x =>
    have hl : j < ys.length := by rw [← h.1]; exact (List.getElem?_eq_some_iff.1 hx).1
    rw [List.getElem?_eq_getElem hl]
    exact h.2 j x _ hx (List.getElem?_eq_getElem hl)
theorem Term.getD_mem0 {l : List Term} {k : Nat} (h : k < l.length) : l.getD k default ∈ l := by
  rw [List.getD_eq_getElem?_getD, List.getElem?_eq_getElem h]
  exact List.getElem_mem h
theorem Term.conv : ∀ (n m : Nat) (a : Term), Term.fN n a → Term.fN m a → WkL (Term.pN n a) (Term.pN m a)
  | 0, m, a, h, _ => h.elim
  | n + 1, 0, a, _, h => h.elim
  | n + 1, m + 1, a, h, k => .cons (.refl _) (.cons (.refl _) (.cons (.refl _) (.cons (Wk.sl fun i j hi hj => Term.wget (Term.conv n m _ (h _ (Term.getD_mem0 hi)) (k _ (Term.getD_mem0 hi))) j) .nil)))
noncomputable def Term.zN (n : Nat) : Term → Int → Int := Nat.rec (motive := fun _ => Term → Int → Int) (fun _ _ => -1) (fun _ ih a left => if (szSt a.name left) < 0 then -1 else if ((szLs szSt) a.labels (szSt a.name left)) < 0 then -1 else if (szLs ih a.kids ((szLs szSt) a.labels (szSt a.name left))) < 0 then -1 else (szLs ih a.kids ((szLs szSt) a.labels (szSt a.name left)))) n
noncomputable def Term.sz (a : Term) (left : Int) : Int := Term.zN (a.kd + 1) a left
section
attribute [local irreducible] IntKind.wrap
theorem wk1 {n : Nat} (h0 : 1 ≤ n) (h1 : n ≤ 1048576) : IntKind.i64.wrap ((n : Int) - 1) = ((n - 1 : Nat) : Int) := by
  rw [wrap_in (by omega) (by omega)]
  omega
theorem kp {b : ByteArray} {k : Nat} (h : (((b.data.getD k 0).toNat : Nat) : Int) = 45) (h0 : ¬ (((b.data.getD 0 0).toNat : Nat) : Int) < 97) : 1 ≤ k := by
  rcases k with _ | k
  · omega
  · omega
theorem kpw {b : ByteArray} {k : Nat} (hw : NmTo b k) (h : (((b.data.getD k 0).toNat : Nat) : Int) = 45) (h0 : 0 < k ∨ ¬ (((b.data.getD 0 0).toNat : Nat) : Int) < 97) : 1 ≤ k := by
  rcases k with _ | k
  · omega
  · omega
theorem wk1w {b : ByteArray} {n : Nat} (hw : NmTo b n) (h0 : 1 ≤ n) (h1 : n ≤ 1048576) : IntKind.i64.wrap ((n : Int) - 1) = ((n - 1 : Nat) : Int) := wk1 h0 h1
theorem nm_fst {b : ByteArray} {k : Nat} (h : 0 < k ∨ (97 ≤ (((b.data.getD 0 0).toNat : Nat) : Int) ∧ (((b.data.getD 0 0).toNat : Nat) : Int) ≤ 122) ∨ (97 ≤ (((b.data.getD k 0).toNat : Nat) : Int) ∧ (((b.data.getD k 0).toNat : Nat) : Int) ≤ 122)) : k = 0 → chA (byA b k) := fun e => by
  subst e
  unfold chA byA
  omega
theorem nm_z {b : ByteArray} {k : Nat} (hw : NmTo b k) (hk : k = 0) (h : ¬ (97 ≤ (((b.data.getD k 0).toNat : Nat) : Int) ∧ (((b.data.getD k 0).toNat : Nat) : Int) ≤ 122)) : ¬ nmB b := fun q => by
  subst hk
  have := q.fst
  unfold chA byA at this
  omega
theorem nm_end {b : ByteArray} {k : Nat} (hw : NmTo b k) (hk : k = b.size) (h1 : 1 ≤ b.size) (h2 : b.size ≤ 12) : (!decide ((((b.data.getD (b.size - 1) 0).toNat : Nat) : Int) = 45)) = pb (nmB b) := by
  subst hk
  have h0 := hw.h 0 (by omega)
  have h1' := h0.2.2 rfl
  by_cases q : (((b.data.getD (b.size - 1) 0).toNat : Nat) : Int) = 45
  · rw [decide_eq_true q, pb_f.mpr (fun r => r.last (by unfold byA; omega))]; rfl
  · rw [decide_eq_false q, pb_t.mpr ⟨h1, h2, h1', by unfold byA; omega, hw⟩]; rfl
theorem nm_no {b : ByteArray} {k : Nat} (hw : NmTo b k) (hk : k < b.size) (h : ¬ (chB (byA b k) ∧ (byA b k = 45 → 0 < k ∧ byA b (k - 1) ≠ 45))) : ¬ nmB b := fun q => h ⟨(q.all.h k hk).1, (q.all.h k hk).2.1⟩
theorem nm_ok {b : ByteArray} {k : Nat} (hw : NmTo b k) (hk : k = b.size) (h1 : 1 ≤ b.size) (h2 : b.size ≤ 12) (h3 : chA (byA b 0)) (h4 : byA b (b.size - 1) ≠ 45) : nmB b := ⟨h1, h2, h3, h4, hk ▸ hw⟩
set_option maxHeartbeats 1000000 in
theorem l03Name_ok (b : ByteArray) (hs : b.size ≤ 1048576) : Ret env.P 37 [.s b] (fun r => r = .b (pb (nmB b))) := by
  refine ret_of (nt := 69) (rvs := [.tmp 2]) Tryd.func37 rfl rfl rfl rfl (fun X => ?_)
  repeat' (first | omega | (with_reducible show (_ : Int) < _; dsimp only; omega) | (with_reducible show (_ : Nat) ≤ _; dsimp only; omega) | ((with_reducible show SrcOk _ _ _) <;> (first | exact srcOk_1 rfl | exact srcOk_L (fun _ => ⟨rfl, rfl⟩) | exact srcOk_E (fun _ => ⟨rfl, rfl⟩))) | ((conv => whnf) <;> (first | refine loopN b.size (fun k => [(3, .i .i64 k)]) (fun k => []) (fun k => NmTo b k) ⟨.zero b, ?_⟩ | refine And.intro ?_ ?_ | (intro _h; first | contradiction | (try simp only [dd] at _h)) | (refine dt_go ?_) | exact rfl | exact True.intro | exact dkk | exact dks | (refine wrap_succ ?_; omega))))
  all_goals (try simp only [Int.toNat_natCast, Int.toNat_zero] at *)
  all_goals first
    | (rw [wk1 (by omega) (by omega)]; omega)
    | (have hk := kpw ‹NmTo b _› (by omega) (by omega)
       rw [wk1w ‹NmTo b _› hk (by omega)]; omega)
    | exact NmTo.succ ‹_› (by unfold chB byA; omega) (by unfold byA; omega) (nm_fst (by omega))
    | (have hk := kpw ‹NmTo b _› (by omega) (by omega)
       rw [wk1w ‹NmTo b _› hk (by omega), Int.toNat_natCast] at *
       exact NmTo.succ ‹_› (by unfold chB byA; omega) (by unfold byA; omega) (nm_fst (by omega)))
    | (conv => whnf
       exact leaf_f (nm_z ‹NmTo b _› (by omega) (by omega)))
    | (conv => whnf
       exact leaf_f (nm_no ‹NmTo b _› (by omega) (by unfold chB byA; omega)))
    | (conv => whnf
       have hk := kpw ‹NmTo b _› (by omega) (by omega)
       rw [wk1w ‹NmTo b _› hk (by omega), Int.toNat_natCast] at *
       exact leaf_f (nm_no ‹NmTo b _› (by omega) (by unfold chB byA; omega)))
    | (conv => whnf
       refine leaf_f fun q => ?_
       have q1 := q.lo
       have q2 := q.hi
       have q3 := q.fst
       have q4 := q.last
       unfold chA byA at q3
       unfold byA at q4
       first
         | omega
         | (rw [wk1 (n := b.size) (by omega) (by omega), Int.toNat_natCast] at *; omega))
    | (conv => whnf
       refine leaf_t (nm_ok ‹NmTo b _› (by omega) (by omega) (by omega) (by unfold chA byA; omega) (by unfold byA; rw [wk1 (n := b.size) (by omega) (by omega), Int.toNat_natCast] at *; omega)))
    | (conv => whnf
       rw [wk1 (n := b.size) (by omega) (by omega), Int.toNat_natCast]
       exact leaf_b (nm_end ‹NmTo b _› (by omega) (by omega) (by omega)))
    | (conv => whnf
       trace_state)
set_option maxHeartbeats 1000000 in
theorem nameOk_ok (b : ByteArray) (hs : b.size ≤ 1048576) : Ret env.P 34 [.s b] (fun r => r = .b (pb (nmB b))) := by
  refine ret_of (nt := 75) (rvs := [.tmp 2]) Tryd.func34 rfl rfl rfl rfl (fun X => ?_)
  repeat' (first | omega | (with_reducible show (_ : Int) < _; dsimp only; omega) | (with_reducible show (_ : Nat) ≤ _; dsimp only; omega) | ((with_reducible show SrcOk _ _ _) <;> (first | exact srcOk_1 rfl | exact srcOk_L (fun _ => ⟨rfl, rfl⟩) | exact srcOk_E (fun _ => ⟨rfl, rfl⟩))) | ((conv => whnf) <;> (first | refine loopN b.size (fun k => [(8, .i .i64 k)]) (fun k => []) (fun k => NmTo b k) ⟨.zero b, ?_⟩ | refine And.intro ?_ ?_ | (intro _h; first | contradiction | (try simp only [dd] at _h)) | (refine dt_go ?_) | exact rfl | exact True.intro | exact dkk | exact dks | (refine wrap_succ ?_; omega))))
  all_goals (try simp only [Int.toNat_natCast, Int.toNat_zero] at *)
  all_goals first
    | (rw [wk1 (by omega) (by omega)]; omega)
    | (have hk := kpw ‹NmTo b _› (by omega) (by omega)
       rw [wk1w ‹NmTo b _› hk (by omega)]; omega)
    | exact NmTo.succ ‹_› (by unfold chB byA; omega) (by unfold byA; omega) (nm_fst (by omega))
    | (have hk := kpw ‹NmTo b _› (by omega) (by omega)
       rw [wk1w ‹NmTo b _› hk (by omega), Int.toNat_natCast] at *
       exact NmTo.succ ‹_› (by unfold chB byA; omega) (by unfold byA; omega) (nm_fst (by omega)))
    | (conv => whnf
       exact leaf_f (nm_z ‹NmTo b _› (by omega) (by omega)))
    | (conv => whnf
       exact leaf_f (nm_no ‹NmTo b _› (by omega) (by unfold chB byA; omega)))
    | (conv => whnf
       have hk := kpw ‹NmTo b _› (by omega) (by omega)
       rw [wk1w ‹NmTo b _› hk (by omega), Int.toNat_natCast] at *
       exact leaf_f (nm_no ‹NmTo b _› (by omega) (by unfold chB byA; omega)))
    | (conv => whnf
       refine leaf_f fun q => ?_
       have q1 := q.lo
       have q2 := q.hi
       have q3 := q.fst
       have q4 := q.last
       unfold chA byA at q3
       unfold byA at q4
       first
         | omega
         | (rw [wk1 (n := b.size) (by omega) (by omega), Int.toNat_natCast] at *; omega))
    | (conv => whnf
       refine leaf_t (nm_ok ‹NmTo b _› (by omega) (by omega) (by omega) (by unfold chA byA; omega) (by unfold byA; rw [wk1 (n := b.size) (by omega) (by omega), Int.toNat_natCast] at *; omega)))
    | (conv => whnf
       rw [wk1 (n := b.size) (by omega) (by omega), Int.toNat_natCast]
       exact leaf_b (nm_end ‹NmTo b _› (by omega) (by omega) (by omega)))
    | (conv => whnf
       trace_state)
structure LbTo (l : List ByteArray) (k : Nat) : Prop where
  h : ∀ j, j < k → nmB (l.getD j default) ∧ ∀ i, i < j → l.getD i default ≠ l.getD j default
theorem LbTo.zero (l : List ByteArray) : LbTo l 0 := ⟨fun j hj => absurd hj (Nat.not_lt_zero _)⟩
structure NeTo (l : List ByteArray) (j k : Nat) : Prop where
  h : ∀ i, i < k → l.getD i default ≠ l.getD j default
theorem NeTo.zero (l : List ByteArray) (j : Nat) : NeTo l j 0 := ⟨fun i hi => absurd hi (Nat.not_lt_zero _)⟩
theorem NeTo.succ {l : List ByteArray} {j k : Nat} (h : NeTo l j k) (h1 : ¬ l.getD k default = l.getD j default) : NeTo l j (k + 1) := ⟨fun i hi => by
  rcases Nat.lt_or_eq_of_le (Nat.le_of_lt_succ hi) with r | rfl
  · exact h.h i r
  · exact h1⟩
theorem LbTo.succ {l : List ByteArray} {k m : Nat} (h : LbTo l k) (h1 : nmB (l.getD k default)) (h2 : NeTo l k m) (hm : m = k) : LbTo l (k + 1) := ⟨fun j hj => by
  subst hm
  rcases Nat.lt_or_eq_of_le (Nat.le_of_lt_succ hj) with r | rfl
  · exact h.h j r
  · exact ⟨h1, h2.h⟩⟩
end
section
structure LexOk (L : List Tok) : Prop where
  pos : 1 ≤ L.length
  most : L.length ≤ 4001
  last : (L.getD (L.length - 1) default).kind = 4
  rest : ∀ i, i + 1 < L.length → 1 ≤ (L.getD i default).kind ∧ (L.getD i default).kind ≤ 3
  num : ∀ i, i < L.length → (L.getD i default).kind = 2 → isDg (byI (L.getD i default).text 0)
  sz : ∀ i, i < L.length → (L.getD i default).text.size ≤ 30000
def tkL (L : List Tok) (i : Nat) : Tok := L.getD i default
def isT (L : List Tok) (t : ByteArray) (i : Nat) : Prop := ¬ (tkL L i).kind = 4 ∧ (tkL L i).text = t
theorem LexOk.lt {L : List Tok} (h : LexOk L) {i : Nat} (hi : i < L.length) (hk : ¬ (tkL L i).kind = 4) : i + 1 < L.length := by
  apply Classical.byContradiction
  intro hc
  have e : i = L.length - 1 := by omega
  exact hk (e ▸ h.last)
theorem LexOk.isT_lt {L : List Tok} (h : LexOk L) {t : ByteArray} {i : Nat} (hi : i < L.length) (hk : isT L t i) : i + 1 < L.length := h.lt hi hk.1
open Classical in
open Classical in
noncomputable def pName (L : List Tok) (i : Nat) : Option (ByteArray × Nat) := if (tkL L i).kind = 1 ∧ nmB (tkL L i).text then some ((tkL L i).text, i + 1) else none
open Classical in
open Classical in
open Classical in
open Classical in
open Classical in
open Classical in
open Classical in
end
section
attribute [local irreducible] IntKind.wrap
def pB (L : List Tok) (a : Nat) (b : Bool) : List AV := [slL 3 tokC L, .i .i64 a, .kb b]
def pB2 (L : List Tok) (a : Nat) : List AV := [slL 3 tokC L, .i .i64 a]
theorem peek_ok (L : List Tok) (hL : LexOk L) (a : Nat) (ha : a < L.length) : Ret env.P 9 [rfL (pB2 L a)] (fun r => r = .agg (tokC (tkL L a))) := by
  have := hL.most
  refine ret_of (nt := 13) (rvs := [.cell 2 36]) Tryd.func9 rfl rfl rfl rfl (fun X => ?_)
  repeat' (first | omega | (with_reducible show (_ : Int) < _; dsimp only; omega) | (with_reducible show (_ : Nat) ≤ _; dsimp only; omega) | ((with_reducible show SrcOk _ _ _) <;> (first | exact srcOk_1 rfl | exact srcOk_L (fun _ => ⟨rfl, rfl⟩) | exact srcOk_E (fun _ => ⟨rfl, rfl⟩))) | ((conv => whnf) <;> (first | refine And.intro ?_ ?_ | (intro _h; first | contradiction | (try simp only [dd] at _h)) | (refine dt_go ?_) | exact rfl | exact True.intro | exact dkk | exact dks | (refine wrap_succ ?_; omega))))
  all_goals (conv => whnf)
  all_goals first | exact rfl | trace_state
theorem pskip_ok (L : List Tok) (hL : LexOk L) (a : Nat) (ha : a + 1 < L.length) (b : Bool) : RetM env.P 28 [some (boxRow (pB L a b))] [.ptr 0 0 0] (fun r H => r = .tup [] ∧ H = [some (boxRow (pB L (a + 1) b))]) := by
  have := hL.most
  have e : IntKind.i64.wrap ((a : Int) + 1) = ((a + 1 : Nat) : Int) := by rw [wrap_in (by omega) (by omega)]; rfl
  refine ret_ofM (nt := 20) (rvs := []) Tryd.func28 rfl rfl rfl rfl (fun X hX => ?_)
  repeat' (first | omega | (with_reducible show (_ : Int) < _; dsimp only; omega) | (with_reducible show (_ : Nat) ≤ _; dsimp only; omega) | ((with_reducible show SrcOk _ _ _) <;> (first | exact srcOk_1 rfl | exact srcOk_L (fun _ => ⟨rfl, rfl⟩) | exact srcOk_E (fun _ => ⟨rfl, rfl⟩))) | ((conv => whnf) <;> (first | refine And.intro ?_ ?_ | (intro _h; first | contradiction | (try simp only [dd] at _h)) | (refine dt_go ?_) | exact rfl | exact True.intro | exact dkk | exact dks | (refine wrap_succ ?_; omega))))
  all_goals first
    | (exfalso; omega)
    | (conv => whnf
       rw [e]
       refine endM_turn (turn_box (id := 0) (ds := pB L (a + 1) b) rfl rfl rfl (.cons (.refl _) (.cons (.refl _) (.cons (.refl _) .nil)))) ?_
       exact endM_self ⟨rfl, rfl⟩)
    | trace_state
theorem pis_ok (L : List Tok) (hL : LexOk L) (a : Nat) (ha : a < L.length) (t : ByteArray) : Ret env.P 29 [rfL (pB2 L a), .s t] (fun r => r = .b (pb (isT L t a))) := by
  refine ret_of (nt := 17) (rvs := [.tmp 4]) Tryd.func29 rfl rfl rfl rfl (fun X => ?_)
  repeat' (first | omega | (with_reducible show (_ : Int) < _; dsimp only; omega) | (with_reducible show (_ : Nat) ≤ _; dsimp only; omega) | ((with_reducible show SrcOk _ _ _) <;> (first | exact srcOk_1 rfl | exact srcOk_L (fun _ => ⟨rfl, rfl⟩) | exact srcOk_E (fun _ => ⟨rfl, rfl⟩))) | ((conv => whnf) <;> (first | refine And.intro ?_ ?_ | (intro _h; first | contradiction | (try simp only [dd] at _h)) | (refine dt_go ?_) | exact rfl | exact True.intro | exact dkk | exact dks | ((first | refine .inl ⟨_, peek_ok L hL a ha, ?_⟩ | refine ⟨_, peek_ok L hL a ha, ?_⟩); (try rintro _ rfl)) | (refine wrap_succ ?_; omega))))
  all_goals (conv => whnf)
  all_goals first
    | exact leaf_f fun q => q.1 (by assumption)
    | exact leaf_f fun q => absurd q.1 (by assumption)
    | exact leaf_p (by unfold isT; simp_all; done)
    | trace_state
theorem pis_t (L : List Tok) (hL : LexOk L) (a : Nat) (ha : a < L.length) (t : ByteArray) (h : isT L t a) : Ret env.P 29 [rfL (pB2 L a), .s t] (fun r => r = .b true) := (pis_ok L hL a ha t).mono fun r e => by rw [e, pb_t.mpr h]
theorem pis_f (L : List Tok) (hL : LexOk L) (a : Nat) (ha : a < L.length) (t : ByteArray) (h : ¬ isT L t a) : Ret env.P 29 [rfL (pB2 L a), .s t] (fun r => r = .b false) := (pis_ok L hL a ha t).mono fun r e => by rw [e, pb_f.mpr h]
theorem take_t (L : List Tok) (hL : LexOk L) (a : Nat) (ha : a < L.length) (t : ByteArray) (h : isT L t a) : RetM env.P 16 [some (boxRow (pB L a false))] [.ptr 0 0 0, .s t] (fun r H => r = .kb true ∧ H = [some (boxRow (pB L (a + 1) false))]) := by
  have h1 := hL.isT_lt ha h
  refine ret_ofM (nt := 17) (rvs := [.tmp 4]) Tryd.func16 rfl rfl rfl rfl (fun X hX => ?_)
  repeat' (first | omega | (with_reducible show (_ : Int) < _; dsimp only; omega) | (with_reducible show (_ : Nat) ≤ _; dsimp only; omega) | ((with_reducible show SrcOk _ _ _) <;> (first | exact srcOk_1 rfl | exact srcOk_L (fun _ => ⟨rfl, rfl⟩) | exact srcOk_E (fun _ => ⟨rfl, rfl⟩))) | ((conv => whnf) <;> (first | refine And.intro ?_ ?_ | (intro _h; first | contradiction | (try simp only [dd] at _h)) | (refine dt_go ?_) | exact rfl | exact True.intro | exact dkk | exact dks | ((first | refine .inl ⟨_, Ret.wk (by exact .cons (tWk_rfcp rfl rfl) (.cons (.refl _) .nil)) (pis_t L hL a ha t h), ?_⟩ | refine ⟨_, Ret.wk (by exact .cons (tWk_rfcp rfl rfl) (.cons (.refl _) .nil)) (pis_t L hL a ha t h), ?_⟩); (try rintro _ rfl)) | (refine .inr (.inl (.inl ⟨[0], _, _, _, pskip_ok L hL a h1 false, viewA, ⟨rfl, rfl⟩, ?_⟩)); (rintro _ _ ⟨rfl, rfl⟩) <;> (refine ⟨rfl, _, lokA, ?_⟩)) | (refine wrap_succ ?_; omega))))
  all_goals (conv => whnf)
  all_goals first | exact endM_self ⟨rfl, rfl⟩ | trace_state
theorem take_f (L : List Tok) (hL : LexOk L) (a : Nat) (ha : a < L.length) (t : ByteArray) (h : ¬ isT L t a) : RetM env.P 16 [some (boxRow (pB L a false))] [.ptr 0 0 0, .s t] (fun r H => r = .kb false ∧ H = [some (boxRow (pB L a false))]) := by
  refine ret_ofM (nt := 17) (rvs := [.tmp 4]) Tryd.func16 rfl rfl rfl rfl (fun X hX => ?_)
  repeat' (first | omega | (with_reducible show (_ : Int) < _; dsimp only; omega) | (with_reducible show (_ : Nat) ≤ _; dsimp only; omega) | ((with_reducible show SrcOk _ _ _) <;> (first | exact srcOk_1 rfl | exact srcOk_L (fun _ => ⟨rfl, rfl⟩) | exact srcOk_E (fun _ => ⟨rfl, rfl⟩))) | ((conv => whnf) <;> (first | refine And.intro ?_ ?_ | (intro _h; first | contradiction | (try simp only [dd] at _h)) | (refine dt_go ?_) | exact rfl | exact True.intro | exact dkk | exact dks | ((first | refine .inl ⟨_, Ret.wk (by exact .cons (tWk_rfcp rfl rfl) (.cons (.refl _) .nil)) (pis_f L hL a ha t h), ?_⟩ | refine ⟨_, Ret.wk (by exact .cons (tWk_rfcp rfl rfl) (.cons (.refl _) .nil)) (pis_f L hL a ha t h), ?_⟩); (try rintro _ rfl)) | (refine wrap_succ ?_; omega))))
  all_goals (conv => whnf)
  all_goals first | exact endM_self ⟨rfl, rfl⟩ | trace_state
theorem take_b (L : List Tok) (a : Nat) (t : ByteArray) : RetM env.P 16 [some (boxRow (pB L a true))] [.ptr 0 0 0, .s t] (fun r H => r = .kb false ∧ H = [some (boxRow (pB L a true))]) := by
  refine ret_ofM (nt := 17) (rvs := [.tmp 4]) Tryd.func16 rfl rfl rfl rfl (fun X hX => ?_)
  repeat' (first | omega | (with_reducible show (_ : Int) < _; dsimp only; omega) | (with_reducible show (_ : Nat) ≤ _; dsimp only; omega) | ((with_reducible show SrcOk _ _ _) <;> (first | exact srcOk_1 rfl | exact srcOk_L (fun _ => ⟨rfl, rfl⟩) | exact srcOk_E (fun _ => ⟨rfl, rfl⟩))) | ((conv => whnf) <;> (first | refine And.intro ?_ ?_ | (intro _h; first | contradiction | (try simp only [dd] at _h)) | (refine dt_go ?_) | exact rfl | exact True.intro | exact dkk | exact dks | (refine wrap_succ ?_; omega))))
  all_goals (conv => whnf)
  all_goals first | exact endM_self ⟨rfl, rfl⟩ | trace_state
theorem nmS_t {t : ByteArray} (hs : t.size ≤ 30000) (h : nmB t) : Ret env.P 27 [.s t] (fun r => r = .b true) := by
  refine ret_of (nt := 5) (rvs := [.tmp 2]) Tryd.func27 rfl rfl rfl rfl (fun X => ?_)
  repeat' (first | omega | (with_reducible show (_ : Int) < _; dsimp only; omega) | (with_reducible show (_ : Nat) ≤ _; dsimp only; omega) | ((with_reducible show SrcOk _ _ _) <;> (first | exact srcOk_1 rfl | exact srcOk_L (fun _ => ⟨rfl, rfl⟩) | exact srcOk_E (fun _ => ⟨rfl, rfl⟩))) | ((conv => whnf) <;> (first | refine And.intro ?_ ?_ | (intro _h; first | contradiction | (try simp only [dd] at _h)) | (refine dt_go ?_) | exact rfl | exact True.intro | exact dkk | exact dks | ((first | refine .inl ⟨_, (l03Name_ok t (by omega)).mono fun r e => by rw [e, pb_t.mpr h], ?_⟩ | refine ⟨_, (l03Name_ok t (by omega)).mono fun r e => by rw [e, pb_t.mpr h], ?_⟩); (try rintro _ rfl)) | (refine wrap_succ ?_; omega))))
  all_goals exact rfl
theorem nmS_f {t : ByteArray} (hs : t.size ≤ 30000) (h : ¬ nmB t) : Ret env.P 27 [.s t] (fun r => r = .b false) := by
  refine ret_of (nt := 5) (rvs := [.tmp 2]) Tryd.func27 rfl rfl rfl rfl (fun X => ?_)
  repeat' (first | omega | (with_reducible show (_ : Int) < _; dsimp only; omega) | (with_reducible show (_ : Nat) ≤ _; dsimp only; omega) | ((with_reducible show SrcOk _ _ _) <;> (first | exact srcOk_1 rfl | exact srcOk_L (fun _ => ⟨rfl, rfl⟩) | exact srcOk_E (fun _ => ⟨rfl, rfl⟩))) | ((conv => whnf) <;> (first | refine And.intro ?_ ?_ | (intro _h; first | contradiction | (try simp only [dd] at _h)) | (refine dt_go ?_) | exact rfl | exact True.intro | exact dkk | exact dks | ((first | refine .inl ⟨_, (l03Name_ok t (by omega)).mono fun r e => by rw [e, pb_f.mpr h], ?_⟩ | refine ⟨_, (l03Name_ok t (by omega)).mono fun r e => by rw [e, pb_f.mpr h], ?_⟩); (try rintro _ rfl)) | (refine wrap_succ ?_; omega))))
  all_goals exact rfl
theorem name_t (L : List Tok) (hL : LexOk L) (a : Nat) (ha : a < L.length) (h : (tkL L a).kind = 1 ∧ nmB (tkL L a).text) : RetM env.P 15 [some (boxRow (pB L a false))] [.ptr 0 0 0] (fun r H => r = .s (tkL L a).text ∧ H = [some (boxRow (pB L (a + 1) false))]) := by
  have h1 := hL.lt ha (show ¬ (tkL L a).kind = 4 by rw [h.1]; decide)
  have h2 := h.1
  refine ret_ofM (nt := 28) (rvs := [.tmp 2]) Tryd.func15 rfl rfl rfl rfl (fun X hX => ?_)
  repeat' (first | omega | (with_reducible show (_ : Int) < _; dsimp only; omega) | (with_reducible show (_ : Nat) ≤ _; dsimp only; omega) | ((with_reducible show SrcOk _ _ _) <;> (first | exact srcOk_1 rfl | exact srcOk_L (fun _ => ⟨rfl, rfl⟩) | exact srcOk_E (fun _ => ⟨rfl, rfl⟩))) | ((conv => whnf) <;> (first | refine And.intro ?_ ?_ | (intro _h; first | contradiction | (try simp only [dd] at _h)) | (refine dt_go ?_) | exact rfl | exact True.intro | exact dkk | exact dks | ((first | refine .inl ⟨_, Ret.wk (by exact .cons (tWk_rfcp rfl rfl) .nil) (peek_ok L hL a ha), ?_⟩ | refine ⟨_, Ret.wk (by exact .cons (tWk_rfcp rfl rfl) .nil) (peek_ok L hL a ha), ?_⟩); (try rintro _ rfl)) | ((first | refine .inl ⟨_, nmS_t (hL.sz a ha) h.2, ?_⟩ | refine ⟨_, nmS_t (hL.sz a ha) h.2, ?_⟩); (try rintro _ rfl)) | (refine .inr (.inl (.inl ⟨[0], _, _, _, pskip_ok L hL a h1 false, viewA, ⟨rfl, rfl⟩, ?_⟩)); (rintro _ _ ⟨rfl, rfl⟩) <;> (refine ⟨rfl, _, lokA, ?_⟩)) | (refine wrap_succ ?_; omega))))
  all_goals (conv => whnf)
  all_goals first
    | exact absurd h2 ‹_›
    | exact endM_pick [0] [some (boxRow (pB L (a + 1) false))] (.s (tkL L a).text) viewA rfl rfl (by rw [hX]; exact keepK (n := 1) rfl rfl) ⟨rfl, rfl⟩
    | trace_state
theorem name_f (L : List Tok) (hL : LexOk L) (a : Nat) (ha : a < L.length) (h : ¬ ((tkL L a).kind = 1 ∧ nmB (tkL L a).text)) : RetM env.P 15 [some (boxRow (pB L a false))] [.ptr 0 0 0] (fun r H => r = .s ⟨#[]⟩ ∧ H = [some (boxRow (pB L a true))]) := by
  refine ret_ofM (nt := 28) (rvs := [.tmp 2]) Tryd.func15 rfl rfl rfl rfl (fun X hX => ?_)
  repeat' (first | omega | (with_reducible show (_ : Int) < _; dsimp only; omega) | (with_reducible show (_ : Nat) ≤ _; dsimp only; omega) | ((with_reducible show SrcOk _ _ _) <;> (first | exact srcOk_1 rfl | exact srcOk_L (fun _ => ⟨rfl, rfl⟩) | exact srcOk_E (fun _ => ⟨rfl, rfl⟩))) | ((conv => whnf) <;> (first | refine And.intro ?_ ?_ | (intro _h; first | contradiction | (try simp only [dd] at _h)) | (refine dt_go ?_) | exact rfl | exact True.intro | exact dkk | exact dks | ((first | refine .inl ⟨_, Ret.wk (by exact .cons (tWk_rfcp rfl rfl) .nil) (peek_ok L hL a ha), ?_⟩ | refine ⟨_, Ret.wk (by exact .cons (tWk_rfcp rfl rfl) .nil) (peek_ok L hL a ha), ?_⟩); (try rintro _ rfl)) | ((first | refine .inl ⟨_, nmS_f (hL.sz a ha) (fun q => h ⟨‹_›, q⟩), ?_⟩ | refine ⟨_, nmS_f (hL.sz a ha) (fun q => h ⟨‹_›, q⟩), ?_⟩); (try rintro _ rfl)) | (refine wrap_succ ?_; omega))))
  all_goals (conv => whnf)
  all_goals first
    | (refine endM_turn (turn_box (id := 0) (ds := pB L a true) rfl rfl rfl (.cons (.refl _) (.cons (.refl _) (.cons (.refl _) .nil)))) ?_
       exact endM_pick [0] [some (boxRow (pB L a true))] (.s ⟨#[]⟩) viewA rfl rfl (by rw [hX]; exact keepK (n := 1) rfl rfl) ⟨rfl, rfl⟩)
    | trace_state
theorem name_b (L : List Tok) (hL : LexOk L) (a : Nat) (ha : a < L.length) : RetM env.P 15 [some (boxRow (pB L a true))] [.ptr 0 0 0] (fun r H => r = .s ⟨#[]⟩ ∧ H = [some (boxRow (pB L a true))]) := by
  refine ret_ofM (nt := 28) (rvs := [.tmp 2]) Tryd.func15 rfl rfl rfl rfl (fun X hX => ?_)
  repeat' (first | omega | (with_reducible show (_ : Int) < _; dsimp only; omega) | (with_reducible show (_ : Nat) ≤ _; dsimp only; omega) | ((with_reducible show SrcOk _ _ _) <;> (first | exact srcOk_1 rfl | exact srcOk_L (fun _ => ⟨rfl, rfl⟩) | exact srcOk_E (fun _ => ⟨rfl, rfl⟩))) | ((conv => whnf) <;> (first | refine And.intro ?_ ?_ | (intro _h; first | contradiction | (try simp only [dd] at _h)) | (refine dt_go ?_) | exact rfl | exact True.intro | exact dkk | exact dks | ((first | refine .inl ⟨_, Ret.wk (by exact .cons (tWk_rfcp rfl rfl) .nil) (peek_ok L hL a ha), ?_⟩ | refine ⟨_, Ret.wk (by exact .cons (tWk_rfcp rfl rfl) .nil) (peek_ok L hL a ha), ?_⟩); (try rintro _ rfl)) | (refine wrap_succ ?_; omega))))
  all_goals (conv => whnf)
  all_goals first
    | (refine endM_turn (turn_box (id := 0) (ds := pB L a true) rfl rfl rfl (.cons (.refl _) (.cons (.refl _) (.cons (.refl _) .nil)))) ?_
       exact endM_pick [0] [some (boxRow (pB L a true))] (.s ⟨#[]⟩) viewA rfl rfl (by rw [hX]; exact keepK (n := 1) rfl rfl) ⟨rfl, rfl⟩)
    | trace_state
end
end Go.Proofs.YtfaadafgbhmlfaaDoor
