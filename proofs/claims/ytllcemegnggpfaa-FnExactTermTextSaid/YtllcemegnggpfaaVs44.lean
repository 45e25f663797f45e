/- Texts for VTermOkP. -/
import Derived.Test.YtllcemegnggpfaaVs43
namespace Go.Proofs.Ytllcemegnggpfaa
open Go Go.RowKit
set_option linter.unusedVariables false
set_option linter.unusedSimpArgs false
theorem ba_lab {w x y z : ByteArray} : w ++ (x ++ y ++ z) = w ++ x ++ y ++ z := by simp only [ba_assoc]
theorem cat_cap : (11 + mdL.length) * 16 ≤ 140737488355328 := by decide
theorem cat_len : 11 + mdL.length ≤ 9223372036854775807 := by decide
theorem wlo {x : Int} (h1 : 1 ≤ x) (h2 : x ≤ 23) : 0 ≤ IntKind.i64.wrap (x - 1) := by rw [wrap_in (by omega) (by omega)]; omega
theorem whi {x : Int} (h1 : 1 ≤ x) (h2 : x ≤ 23) : IntKind.i64.wrap (x - 1) < ((11 + mdL.length : Nat) : Int) := by
  have : ((11 + mdL.length : Nat) : Int) = 23 := rfl
  rw [wrap_in (by omega) (by omega)]; omega
theorem mdz (k : Nat) : (mdL.getD k default).size ≤ 8 := by
  by_cases h : k < 12
  · have : ∀ k, k < 12 → (mdL.getD k default).size ≤ 8 := by decide
    exact this k h
  · rw [List.getD_eq_getElem?_getD, List.getElem?_eq_none (by have : mdL.length = 12 := rfl; omega)]
    exact Nat.zero_le _
theorem mz1 {k : Nat} {c : ByteArray} (h : c.size ≤ 10) : (mdL.getD k default).size + c.size ≤ maxLen := tle_max (by have := mdz k; omega)
theorem mz2 {k : Nat} {c x : ByteArray} (h : c.size ≤ 10) (hx : x.size ≤ 400000000) : (mdL.getD k default ++ c).size + x.size ≤ maxLen := tle_max (by have := mdz k; rw [ba_app]; omega)
theorem mz3 {k : Nat} {c x e : ByteArray} (h : c.size ≤ 10) (he : e.size ≤ 10) (hx : x.size ≤ 400000000) : (mdL.getD k default ++ c ++ x).size + e.size ≤ maxLen := tle_max (by have := mdz k; rw [ba_app, ba_app]; omega)
theorem lx0 (x y : Term) : (0 : Int) < (([x, y] : List Term).length : Int) := by simp
theorem lx1 (x y : Term) : (1 : Int) < (([x, y] : List Term).length : Int) := by simp
theorem two_of {l : List Term} (h : l.length = 2) : ∃ a b, l = [a, b] := by
  match l, h with
  | [a, b], _ => exact ⟨a, b, rfl⟩
set_option maxRecDepth 8000 in
set_option maxHeartbeats 20000000 in
theorem l06Text_n (d : Nat) : ∀ (m : Nat) (a : Term), Term.oN (m + 1) a → 0 ≤ shp d a → Term.tw (d + 1) a ≤ 100000000 → Ret env.P 38 [.agg (Term.pN (m + 1) a)] (fun r => r = .s (txT (d + 1) a)) := by
  induction d with
  | zero =>
    intro m a h hs
    have : (0 : Int) ≤ -1 := hs
    omega
  | succ d ih =>
    intro m a h hs ht
    refine Ret.wk (.cons (.agg (Term.up _ _ (Term.oN_fN _ _ h))) .nil) ?_
    have h2 := Term.oN_up _ _ h
    obtain ⟨hn, hk⟩ := shp_nd hs
    have hlo := hn.lo
    have hhi := hn.hi
    have hd := hn.d
    rw [Term.tw_succ] at ht
    have hq : ∀ k, k < a.kids.length → ¬ ((a.kind = 14 ∨ a.kind = 17) ∧ (a.kids.getD k default).kind = 1) → Ret env.P 38 [.agg (Term.pN (m + 1) (a.kids.getD k default))] (fun r => r = .s (txT (d + 1) (a.kids.getD k default))) := fun k hk1 hk2 =>
      ih m _ (h2.2.2.2 k hk1) (hk k hk1 hk2) (by have := sum_get (f := Term.tw (d + 1)) hk1; omega)
    have hz : szB (a.kids.map (txT (d + 1))) ≤ 100000000 := by have := szB_tw (txT_sz (d + 1)) a.kids; omega
    have hsl : szB a.labels ≤ 100000000 := by omega
    have hkl := h.2.2.1
    have hw := wdT_len a.kind
    have c1 : (⟨#[60]⟩ : ByteArray).size = 1 := rfl
    have c2 : (⟨#[62]⟩ : ByteArray).size = 1 := rfl
    have c3 : (⟨#[32, 123, 32]⟩ : ByteArray).size = 3 := rfl
    have c4 : (⟨#[32, 125]⟩ : ByteArray).size = 2 := rfl
    have e : txT (d + 1 + 1) a = txF a (a.kids.map (txT (d + 1))) := txT_succ _ _
    have hj1 := joinB_sz (a.kids.map (txT (d + 1)))
    have hj2 := joinB_sz (lbsT a (a.kids.map (txT (d + 1))))
    have hj3 := lbsT_sz a (a.kids.map (txT (d + 1)))
    rw [lbsT_len] at hj2
    have hkm : (a.kids.map (txT (d + 1))).length = a.kids.length := List.length_map ..
    have hJ := fun (q : ¬ a.kind = 14 ∧ ¬ a.kind = 17) => l06Join_ok (txT (d + 1)) m a.kids hkl hz (fun k hk => hq k hk (fun c => by omega))
    have hL := fun (q : a.kind = 16 ∨ a.kind = 17 → a.kids.length = a.labels.length) => l06LabelsText_ok (txT (d + 1)) m a h2 q hz hsl hq
    have hLs : ∀ w : ByteArray, w.size ≤ 8 → w.size + ((⟨#[32, 123, 32]⟩ : ByteArray) ++ joinB comS (lbsT a (a.kids.map (txT (d + 1)))) ++ ⟨#[32, 125]⟩).size ≤ maxLen := fun w hw => tle_max (by simp only [ba_app]; omega)
    have hlab : a.kind = 16 ∨ a.kind = 17 → a.kids.length = a.labels.length := fun q => by
      unfold kLo at hlo
      unfold kHi at hhi
      rw [if_neg (by omega), if_neg (by omega), if_neg (by omega), if_pos q] at hlo hhi
      omega
    have h14 : a.kind = 14 → ∃ x y, a.kids = [x, y] := fun q => by
      unfold kLo at hlo
      unfold kHi at hhi
      rw [if_neg (by omega), if_pos q] at hlo hhi
      exact two_of (by omega)
    have hzk : ∀ k, k < a.kids.length → (txT (d + 1) (a.kids.getD k default)).size ≤ 100000000 := fun k hk => by
      have h1 := szB_get (l := a.kids.map (txT (d + 1))) (k := k) (by simpa using hk)
      have e : (a.kids.map (txT (d + 1))).getD k default = txT (d + 1) (a.kids.getD k default) := by
        rw [List.getD_eq_getElem?_getD, List.getD_eq_getElem?_getD, List.getElem?_map, List.getElem?_eq_getElem hk]; rfl
      rw [e] at h1
      omega
    have hfk : ∀ k, k < a.kids.length → Term.fN (m + 1) (a.kids.getD k default) := fun k hk => Term.oN_fN _ _ (h2.2.2.2 k hk)
    obtain ⟨kk, nn, ll, ks⟩ := a
    dsimp only at hlo hhi hd ht hq hz hsl hkl hw e hj1 hj2 hj3 hkm hJ hL hLs hlab h14 hzk hfk
    have hnn : nn.size ≤ 400000000 := by omega
    have hkk : kk = 30 ∨ kk = 1 ∨ kk = 2 ∨ kk = 3 ∨ kk = 4 ∨ kk = 5 ∨ kk = 6 ∨ kk = 7 ∨ kk = 8 ∨ kk = 9 ∨ kk = 10 ∨ kk = 11 ∨ kk = 12 ∨ kk = 13 ∨ kk = 14 ∨ kk = 15 ∨ kk = 16 ∨ kk = 17 ∨ kk = 18 ∨ kk = 19 ∨ kk = 20 ∨ kk = 21 ∨ kk = 22 ∨ kk = 23 := by omega
    rcases hkk with rfl | rfl | rfl | rfl | rfl | rfl | rfl | rfl | rfl | rfl | rfl | rfl | rfl | rfl | rfl | rfl | rfl | rfl | rfl | rfl | rfl | rfl | rfl | rfl
    all_goals (try (obtain ⟨x, y, rfl⟩ := h14 rfl))
    all_goals (refine RetM.toRetG ?_)
    all_goals (refine ret_ofM (nt := 62) (rvs := [.tmp 2]) Try.func38 rfl rfl rfl rfl (fun X hX => ?_))
    all_goals (repeat' (first | omega | (with_reducible show (_ : Int) < _; dsimp only; omega) | (with_reducible show (_ : Nat) ≤ _; dsimp only; omega) | ((with_reducible show SrcOk _ _ _) <;> (first | exact srcOk_1 rfl | exact srcOk_L (fun _ => ⟨rfl, rfl⟩) | exact srcOk_E (fun _ => ⟨rfl, rfl⟩))) | ((conv => whnf) <;> (first | ((first | refine .inl ⟨_, l06ResultText_ok m x y (hfk 0 (Nat.succ_pos 1)) (hfk 1 (Nat.lt_succ_self 1)) (txT (d + 1) x) (txT (d + 1) y) (hzk 0 (Nat.succ_pos 1)) (hzk 1 (Nat.lt_succ_self 1)) (fun q => hq 0 (Nat.succ_pos 1) (fun c => q c.2)) (fun q => hq 1 (Nat.lt_succ_self 1) (fun c => q c.2)) ⟨14, nn, ll, [x, y]⟩ rfl, ?_⟩ | refine ⟨_, l06ResultText_ok m x y (hfk 0 (Nat.succ_pos 1)) (hfk 1 (Nat.lt_succ_self 1)) (txT (d + 1) x) (txT (d + 1) y) (hzk 0 (Nat.succ_pos 1)) (hzk 1 (Nat.lt_succ_self 1)) (fun q => hq 0 (Nat.succ_pos 1) (fun c => q c.2)) (fun q => hq 1 (Nat.lt_succ_self 1) (fun c => q c.2)) ⟨14, nn, ll, [x, y]⟩ rfl, ?_⟩); (try rintro _ rfl)) | exact lx0 x y | exact lx1 x y | exact cat_cap | exact cat_len | exact wlo (by dsimp only; omega) (by dsimp only; omega) | exact whi (by dsimp only; omega) (by dsimp only; omega) | exact hLs _ (mdz _) | exact mz1 (by decide) | exact mz2 (by decide) hnn | exact mz3 (by decide) (by decide) hnn | exact mz2 (by decide) (by omega) | exact mz3 (by decide) (by decide) (by omega) | exact tle_max (by (try simp only [ba_app]); omega) | refine And.intro ?_ ?_ | (intro _h; first | contradiction | (try simp only [dd] at _h)) | (refine dt_go ?_) | exact rfl | exact True.intro | exact dkk | exact dks | (refine .inr (.inl (.inl ⟨[], _, _, _, l06Plain_ok, viewA, ⟨rfl, rfl⟩, ?_⟩)); (rintro _ _ ⟨rfl, rfl⟩) <;> (refine ⟨rfl, _, lokA, ?_⟩)) | ((first | refine .inl ⟨_, l06Made_ok, ?_⟩ | refine ⟨_, l06Made_ok, ?_⟩); (try rintro _ rfl)) | ((first | refine .inl ⟨_, hJ (by omega), ?_⟩ | refine ⟨_, hJ (by omega), ?_⟩); (try rintro _ rfl)) | ((first | refine .inl ⟨_, hL hlab, ?_⟩ | refine ⟨_, hL hlab, ?_⟩); (try rintro _ rfl)) | (refine wrap_succ ?_; omega)))))
    all_goals (conv => whnf)
    all_goals first
      | (refine endM_pick [] [] (.s _) view_none rfl rfl (fun k hk => by rw [hX] at hk; exact absurd hk (Nat.not_lt_zero _)) ⟨congrArg AV.s ?_, rfl⟩
         rw [e]
         first
         | rfl
         | exact ba_lab)
      | trace_state
end Go.Proofs.Ytllcemegnggpfaa
