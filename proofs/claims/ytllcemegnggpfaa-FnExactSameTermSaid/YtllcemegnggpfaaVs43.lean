/- Texts for VTermOkP. -/
import Derived.Test.YtllcemegnggpfaaVs42
namespace Go.Proofs.Ytllcemegnggpfaa
open Go Go.RowKit
set_option linter.unusedVariables false
set_option linter.unusedSimpArgs false
set_option maxRecDepth 8000
section
attribute [local irreducible] IntKind.wrap
theorem ba_assoc (a b c : ByteArray) : a ++ b ++ c = a ++ (b ++ c) := by
  apply ByteArray.ext
  simp
theorem ba_nil (a : ByteArray) : (⟨#[]⟩ : ByteArray) ++ a = a := by
  apply ByteArray.ext
  simp
theorem joinB_snoc (sep x : ByteArray) : ∀ l : List ByteArray, l ≠ [] → joinB sep (l ++ [x]) = joinB sep l ++ sep ++ x
  | [], h => absurd rfl h
  | [y], _ => rfl
  | y :: z :: r, _ => by
    have ih := joinB_snoc sep x (z :: r) (by simp)
    show y ++ sep ++ joinB sep ((z :: r) ++ [x]) = y ++ sep ++ joinB sep (z :: r) ++ sep ++ x
    rw [ih]
    simp only [ba_assoc]
theorem joinB_next {l : List ByteArray} {x : ByteArray} (h : l ≠ []) : joinB comS l ++ ⟨#[44, 32]⟩ ++ x = joinB comS (l ++ [x]) := (joinB_snoc comS x l h).symm
theorem joinB_first {l : List ByteArray} {x : ByteArray} (h : l = []) : joinB comS l ++ x = joinB comS (l ++ [x]) := by
  subst h
  exact ba_nil x
theorem kdK_sz (f : Term → ByteArray) (l : List Term) {n : Nat} (h : n ≤ l.length) : szB (kdK f l n) ≤ szB (l.map f) := by
  rw [← kdK_all]
  generalize l.length = q at h
  induction h with
  | refl => exact Nat.le_refl _
  | step h ih =>
    rename_i m
    rw [kdK, szB_app]
    omega
theorem lbK_sz (t : Term) (ks : List ByteArray) {n : Nat} (h : n ≤ t.labels.length) : szB (lbK t ks n) ≤ szB (lbsT t ks) := by
  have e : lbsT t ks = lbK t ks t.labels.length := (lbK_all t ks _).symm
  rw [e]
  generalize t.labels.length = q at h
  induction h with
  | refl => exact Nat.le_refl _
  | step h ih =>
    rename_i m
    rw [lbK, szB_app]
    omega
theorem kdK_ne (f : Term → ByteArray) (l : List Term) {n : Nat} (h : 0 < n) : kdK f l n ≠ [] := fun q => by
  have := kdK_len f l n
  rw [q] at this
  simp at this
  omega
theorem lbK_ne (t : Term) (ks : List ByteArray) {n : Nat} (h : 0 < n) : lbK t ks n ≠ [] := fun q => by
  have := lbK_len t ks n
  rw [q] at this
  simp at this
  omega
set_option maxHeartbeats 4000000 in
theorem l06Join_ok (f : Term → ByteArray) (m : Nat) (l : List Term) (hl : l.length ≤ 1048576) (hs : szB (l.map f) ≤ 100000000) (hq : ∀ k, k < l.length → Ret env.P 38 [.agg (Term.pN (m + 1) (l.getD k default))] (fun r => r = .s (f (l.getD k default)))) : Ret env.P 62 [slL 4 (Term.pN (m + 1)) l] (fun r => r = .s (joinB comS (l.map f))) := by
  have hj : ∀ k, k ≤ l.length → (joinB comS (kdK f l k)).size ≤ 110000000 := fun k hk => by
    have h1 := joinB_sz (kdK f l k)
    have h2 := kdK_sz f l hk
    rw [kdK_len] at h1
    omega
  have hz : ∀ k, k < l.length → (f (l.getD k default)).size ≤ 100000000 := fun k hk => by
    have h1 := szB_get (l := l.map f) (k := k) (by simpa using hk)
    have e : (l.map f).getD k default = f (l.getD k default) := by
      rw [List.getD_eq_getElem?_getD, List.getD_eq_getElem?_getD, List.getElem?_map, List.getElem?_eq_getElem hk]; rfl
    rw [e] at h1
    omega
  have c1 : (⟨#[44, 32]⟩ : ByteArray).size = 2 := rfl
  refine ret_of (nt := 23) (rvs := [.tmp 2]) Try.func62 rfl rfl rfl rfl (fun X => ?_)
  repeat' (first | omega | (with_reducible show (_ : Int) < _; dsimp only; omega) | (with_reducible show (_ : Nat) ≤ _; dsimp only; omega) | ((with_reducible show SrcOk _ _ _) <;> (first | exact srcOk_1 rfl | exact srcOk_L (fun _ => ⟨rfl, rfl⟩) | exact srcOk_E (fun _ => ⟨rfl, rfl⟩))) | ((conv => whnf) <;> (first | (refine loopN l.length (fun k => [(4, .i .i64 k), (3, .s (joinB comS (kdK f l k)))]) (fun k => []) (fun k => True) ⟨trivial, ?_⟩) | refine And.intro ?_ ?_ | (intro _h; first | contradiction | (try simp only [dd] at _h)) | (refine dt_go ?_) | exact rfl | exact True.intro | exact dkk | exact dks | ((first | refine .inl ⟨_, hq _ (by omega), ?_⟩ | refine ⟨_, hq _ (by omega), ?_⟩); (try rintro _ rfl)) | (refine wrap_succ ?_; omega))))
  all_goals (try simp only [Int.toNat_natCast] at *)
  all_goals (rename Nat => k)
  all_goals first
    | exact tle_max (by (try simp only [ba_app]); have := hj k (by omega); have := hz k (by omega); omega)
    | (conv => whnf
       first
       | exact joinB_next (kdK_ne _ _ (by omega))
       | (obtain rfl : k = 0 := by omega
          exact joinB_first rfl)
       | (have hk : k = l.length := by omega
          subst hk
          exact leaf_s (by rw [kdK_all])))
theorem lbT_16 {t : Term} {ks : List ByteArray} {k : Nat} (h : k < ks.length) (h1 : t.kind = 16) : lbT t ks k = t.labels.getD k default ++ ((⟨#[58, 32]⟩ : ByteArray) ++ ks.getD k default) := by rw [lbT, if_neg (by omega), if_pos h1]
theorem lbT_17 {t : Term} {ks : List ByteArray} {k : Nat} (h : k < ks.length) (h1 : t.kind = 17) (h2 : ¬ (t.kids.getD k default).kind = 1) : lbT t ks k = t.labels.getD k default ++ ((⟨#[40]⟩ : ByteArray) ++ ks.getD k default ++ ⟨#[41]⟩) := by rw [lbT, if_neg (by omega), if_neg (by omega), if_pos ⟨h1, h2⟩]
theorem lbT_no {t : Term} {ks : List ByteArray} {k : Nat} (h1 : ¬ t.kind = 16) (h2 : t.kind = 17 → (t.kids.getD k default).kind = 1) : lbT t ks k = t.labels.getD k default := by
  unfold lbT
  by_cases q : ks.length ≤ k
  · rw [if_pos q]
  · rw [if_neg q, if_neg h1, if_neg (fun q => q.2 (h2 q.1))]
theorem lb_next {l : List ByteArray} {a b : ByteArray} (h : l ≠ []) : joinB comS l ++ ⟨#[44, 32]⟩ ++ a ++ b = joinB comS (l ++ [a ++ b]) := by
  rw [joinB_snoc _ _ _ h, ba_assoc _ a b]
  rfl
theorem lb_first {l : List ByteArray} {a b : ByteArray} (h : l = []) : joinB comS l ++ a ++ b = joinB comS (l ++ [a ++ b]) := by
  subst h
  rw [ba_assoc]
  exact ba_nil _
set_option maxHeartbeats 8000000 in
theorem l06LabelsText_ok (f : Term → ByteArray) (m : Nat) (a : Term) (h : Term.oN (m + 1 + 1) a) (hn : a.kind = 16 ∨ a.kind = 17 → a.kids.length = a.labels.length) (hs : szB (a.kids.map f) ≤ 100000000) (hs2 : szB a.labels ≤ 100000000) (hq : ∀ k, k < a.kids.length → ¬ ((a.kind = 14 ∨ a.kind = 17) ∧ (a.kids.getD k default).kind = 1) → Ret env.P 38 [.agg (Term.pN (m + 1) (a.kids.getD k default))] (fun r => r = .s (f (a.kids.getD k default)))) : Ret env.P 64 [.agg (Term.pN (m + 1 + 1) a)] (fun r => r = .s ((⟨#[32, 123, 32]⟩ : ByteArray) ++ joinB comS (lbsT a (a.kids.map f)) ++ ⟨#[32, 125]⟩)) := by
  have hl := h.2.1.1
  have hkl := h.2.2.1
  have hj : ∀ k, k ≤ a.labels.length → (joinB comS (lbK a (a.kids.map f) k)).size ≤ 210000000 := fun k hk => by
    have h1 := joinB_sz (lbK a (a.kids.map f) k)
    have h2 := lbK_sz a (a.kids.map f) hk
    have h3 := lbsT_sz a (a.kids.map f)
    rw [lbK_len] at h1
    omega
  have e : ∀ k, k < a.kids.length → (a.kids.map f).getD k default = f (a.kids.getD k default) := fun k hk => by
    rw [List.getD_eq_getElem?_getD, List.getD_eq_getElem?_getD, List.getElem?_map, List.getElem?_eq_getElem hk]; rfl
  have hz : ∀ k, k < a.kids.length → (f (a.kids.getD k default)).size ≤ 100000000 := fun k hk => by
    have h1 := szB_get (l := a.kids.map f) (k := k) (by simpa using hk)
    rw [e k hk] at h1
    omega
  have hz2 : ∀ k, (a.labels.getD k default).size ≤ 100000000 := fun k => szB_any hs2 k
  have hkm : (a.kids.map f).length = a.kids.length := List.length_map ..
  have c1 : (⟨#[44, 32]⟩ : ByteArray).size = 2 := rfl
  have c2 : (⟨#[58, 32]⟩ : ByteArray).size = 2 := rfl
  have c3 : (⟨#[40]⟩ : ByteArray).size = 1 := rfl
  have c4 : (⟨#[41]⟩ : ByteArray).size = 1 := rfl
  have c5 : (⟨#[32, 123, 32]⟩ : ByteArray).size = 3 := rfl
  have c6 : (⟨#[32, 125]⟩ : ByteArray).size = 2 := rfl
  refine ret_of (nt := 62) (rvs := [.tmp 2]) Try.func64 rfl rfl rfl rfl (fun X => ?_)
  repeat' (first | omega | (with_reducible show (_ : Int) < _; dsimp only; omega) | (with_reducible show (_ : Nat) ≤ _; dsimp only; omega) | ((with_reducible show SrcOk _ _ _) <;> (first | exact srcOk_1 rfl | exact srcOk_L (fun _ => ⟨rfl, rfl⟩) | exact srcOk_E (fun _ => ⟨rfl, rfl⟩))) | ((conv => whnf) <;> (first | (refine loopN a.labels.length (fun k => [(4, .i .i64 k), (3, .s (joinB comS (lbK a (a.kids.map f) k)))]) (fun k => []) (fun k => True) ⟨trivial, ?_⟩) | refine And.intro ?_ ?_ | (intro _h; first | contradiction | (try simp only [dd] at _h)) | (refine dt_go ?_) | exact rfl | exact True.intro | exact dkk | exact dks | ((first | refine .inl ⟨_, hq _ (by omega) (by omega), ?_⟩ | refine ⟨_, hq _ (by omega) (by omega), ?_⟩); (try rintro _ rfl)) | (refine wrap_succ ?_; omega))))
  all_goals (try simp only [Int.toNat_natCast] at *)
  all_goals (rename Nat => k)
  all_goals first
    | exact tle_max (by (try simp only [ba_app]); have := hj k (by omega); have := hz2 k; omega)
    | exact tle_max (by (try simp only [ba_app]); have := hj k (by omega); have := hz k (by omega); have := hz2 k; omega)
    | (conv => whnf
       have hk : k = a.labels.length := by omega
       subst hk
       exact leaf_s (by rw [lbK_all]; rfl))
    | (conv => whnf
       rw [lbK]
       first
       | (rw [lbT_16 (by omega) (by omega), e k (by omega)]
          first
          | exact lb_next (lbK_ne _ _ (by omega))
          | (obtain rfl : k = 0 := by omega
             exact lb_first rfl))
       | (rw [lbT_17 (by omega) (by omega) ‹¬ (a.kids.getD k default).kind = 1›, e k (by omega)]
          first
          | exact lb_next (lbK_ne _ _ (by omega))
          | (obtain rfl : k = 0 := by omega
             exact lb_first rfl))
       | (rw [lbT_no (by omega) (by omega)]
          first
          | exact joinB_next (lbK_ne _ _ (by omega))
          | (obtain rfl : k = 0 := by omega
             exact joinB_first rfl))
       | trace_state)
theorem shG_all {f : Term → Int} {k : Int} : ∀ (l : List Term) (s : Int), 0 ≤ shG f k l s → ∀ i, i < l.length → ¬ ((k = 14 ∨ k = 17) ∧ (l.getD i default).kind = 1) → 0 ≤ f (l.getD i default)
  | [], s, h, i, hi, _ => absurd hi (Nat.not_lt_zero _)
  | x :: r, s, h, i, hi, hk => by
    simp only [shG] at h
    split at h
    · rename_i q
      cases i with
      | zero => exact absurd q hk
      | succ i => exact shG_all r _ h i (by simpa using hi) hk
    · split at h
      · omega
      · rename_i q
        cases i with
        | zero =>
          show 0 ≤ f x
          omega
        | succ i => exact shG_all r _ h i (by simpa using hi) hk
theorem shp_nd {d : Nat} {a : Term} (h : 0 ≤ shp (d + 1) a) : ndB a ∧ ∀ k, k < a.kids.length → ¬ ((a.kind = 14 ∨ a.kind = 17) ∧ (a.kids.getD k default).kind = 1) → 0 ≤ shp d (a.kids.getD k default) := by
  simp only [shp] at h
  split at h
  · rename_i q
    exact ⟨q, shG_all a.kids 1 h⟩
  · omega
theorem rsT_two {t a b : Term} {x y : ByteArray} (ht : t.kids = [a, b]) : rsT t [x, y] = if a.kind = 1 ∧ b.kind = 1 then (⟨#[]⟩ : ByteArray) else if b.kind = 1 then (⟨#[60]⟩ : ByteArray) ++ x ++ ⟨#[62]⟩ else if a.kind = 1 then (⟨#[60, 95, 44, 32]⟩ : ByteArray) ++ y ++ ⟨#[62]⟩ else (⟨#[60]⟩ : ByteArray) ++ x ++ ⟨#[44, 32]⟩ ++ y ++ ⟨#[62]⟩ := by
  unfold rsT
  rw [ht, if_neg (by simp)]
  rfl
theorem res_e1 : (⟨#[114, 101, 115, 117, 108, 116, 60]⟩ : ByteArray) = (⟨#[114, 101, 115, 117, 108, 116]⟩ : ByteArray) ++ ⟨#[60]⟩ := by decide
theorem res_e2 : (⟨#[60, 95, 44, 32]⟩ : ByteArray) = (⟨#[60]⟩ : ByteArray) ++ (⟨#[95]⟩ ++ ⟨#[44, 32]⟩) := by decide
theorem ba_nilr (a : ByteArray) : a ++ (⟨#[]⟩ : ByteArray) = a := by
  apply ByteArray.ext
  simp
set_option maxHeartbeats 4000000 in
theorem l06ResultText_ok (m : Nat) (a b : Term) (ha : Term.fN (m + 1) a) (hb : Term.fN (m + 1) b) (x y : ByteArray) (hx : x.size ≤ 100000000) (hy : y.size ≤ 100000000) (h1 : ¬ a.kind = 1 → Ret env.P 38 [.agg (Term.pN (m + 1) a)] (fun r => r = .s x)) (h2 : ¬ b.kind = 1 → Ret env.P 38 [.agg (Term.pN (m + 1) b)] (fun r => r = .s y)) (t : Term) (ht : t.kids = [a, b]) : Ret env.P 63 [.agg (Term.pN (m + 1) a), .agg (Term.pN (m + 1) b)] (fun r => r = .s ((⟨#[114, 101, 115, 117, 108, 116]⟩ : ByteArray) ++ rsT t [x, y])) := by
  have c1 : (⟨#[44, 32]⟩ : ByteArray).size = 2 := rfl
  have c2 : (⟨#[114, 101, 115, 117, 108, 116, 60]⟩ : ByteArray).size = 7 := rfl
  have c3 : (⟨#[62]⟩ : ByteArray).size = 1 := rfl
  have c4 : (⟨#[95]⟩ : ByteArray).size = 1 := rfl
  refine ret_of (nt := 30) (rvs := [.tmp 4]) Try.func63 rfl rfl rfl rfl (fun X => ?_)
  repeat' (first | omega | (with_reducible show (_ : Int) < _; dsimp only; omega) | (with_reducible show (_ : Nat) ≤ _; dsimp only; omega) | ((with_reducible show SrcOk _ _ _) <;> (first | exact srcOk_1 rfl | exact srcOk_L (fun _ => ⟨rfl, rfl⟩) | exact srcOk_E (fun _ => ⟨rfl, rfl⟩))) | ((conv => whnf) <;> (first | exact tle_max (by (try simp only [ba_app]); omega) | refine And.intro ?_ ?_ | (intro _h; first | contradiction | (try simp only [dd] at _h)) | (refine dt_go ?_) | exact rfl | exact True.intro | exact dkk | exact dks | ((first | refine .inl ⟨_, h1 (by assumption), ?_⟩ | refine ⟨_, h1 (by assumption), ?_⟩); (try rintro _ rfl)) | ((first | refine .inl ⟨_, h2 (by assumption), ?_⟩ | refine ⟨_, h2 (by assumption), ?_⟩); (try rintro _ rfl)) | (refine wrap_succ ?_; omega))))
  all_goals (conv => whnf)
  all_goals refine leaf_s ?_
  all_goals rw [rsT_two ht]
  all_goals first
    | (rw [if_pos ⟨by omega, by omega⟩, ba_nilr]; done)
    | (rw [if_neg (by omega), if_pos (by omega), res_e1]; simp only [ba_assoc]; done)
    | (rw [if_neg (by omega), if_neg (by omega), if_pos (by omega), res_e1, res_e2]; simp only [ba_assoc]; done)
    | (rw [if_neg (by omega), if_neg (by omega), if_neg (by omega), res_e1]; simp only [ba_assoc]; done)
    | trace_state
end
end Go.Proofs.Ytllcemegnggpfaa
