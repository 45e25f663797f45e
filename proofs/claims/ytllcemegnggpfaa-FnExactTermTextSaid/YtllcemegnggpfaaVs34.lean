/- Texts for VTermOkP. -/
import Derived.Test.YtllcemegnggpfaaVs33
namespace Go.Proofs.Ytllcemegnggpfaa
open Go Go.RowKit
set_option linter.unusedVariables false
set_option linter.unusedSimpArgs false
section
attribute [local irreducible] IntKind.wrap
def kdK (f : Term → ByteArray) (l : List Term) : Nat → List ByteArray
  | 0 => []
  | n + 1 => kdK f l n ++ [f (l.getD n default)]
theorem kdK_len (f : Term → ByteArray) (l : List Term) : ∀ n, (kdK f l n).length = n
  | 0 => rfl
  | n + 1 => by rw [kdK, List.length_append, kdK_len f l n]; rfl
theorem kdK_all (f : Term → ByteArray) (l : List Term) : kdK f l l.length = l.map f := by
  have h : ∀ n, kdK f l n = (List.range n).map fun k => f (l.getD k default) := fun n => by
    induction n with
    | zero => rfl
    | succ n ih => rw [kdK, ih, List.range_succ, List.map_append]; rfl
  rw [h]
  apply List.ext_getElem
  · simp
  · intro i h1 h2
    simp only [List.getElem_map, List.getElem_range]
    rw [List.getD_eq_getElem?_getD, List.getElem?_eq_getElem (by simpa using h2)]
    rfl
theorem sum_get {α : Type} [Inhabited α] {f : α → Nat} : ∀ {l : List α} {k : Nat}, k < l.length → f (l.getD k default) ≤ (l.map f).sum
  | [], k, h => absurd h (Nat.not_lt_zero _)
  | x :: r, 0, h => by rw [List.map_cons, List.sum_cons]; exact Nat.le_add_right _ _
  | x :: r, k + 1, h => by
    have := sum_get (f := f) (l := r) (k := k) (by simpa using h)
    rw [List.map_cons, List.sum_cons]
    show f (r.getD k default) ≤ _
    omega
set_option maxRecDepth 8000 in
set_option maxHeartbeats 8000000 in
theorem termText_n (n : Nat) : n ≤ 100 → ∀ (D : Int), D = n → ∀ (m : Nat) (a : Term), Term.oN (m + 1) a → Term.tw n a ≤ 100000000 → Ret env.P 56 [.agg (Term.pN (m + 1) a), .i .i64 D] (fun r => r = .s (txT n a)) := by
  induction n with
  | zero =>
    intro hn D hD m a h ht
    obtain rfl : D = 0 := hD
    refine ret_of (nt := 83) (rvs := [.tmp 4]) Try.func56 rfl rfl rfl rfl (fun X => ?_)
    repeat' (first | omega | (with_reducible show (_ : Int) < _; dsimp only; omega) | (with_reducible show (_ : Nat) ≤ _; dsimp only; omega) | ((with_reducible show SrcOk _ _ _) <;> (first | exact srcOk_1 rfl | exact srcOk_L (fun _ => ⟨rfl, rfl⟩) | exact srcOk_E (fun _ => ⟨rfl, rfl⟩))) | ((conv => whnf) <;> (first | refine And.intro ?_ ?_ | (intro _h; first | contradiction | (try simp only [dd] at _h)) | (refine dt_go ?_) | exact rfl | exact True.intro | exact dkk | exact dks | (refine wrap_succ ?_; omega))))
    all_goals exact rfl
  | succ n ih =>
    intro hn D hD m a h ht
    refine Ret.wk (.cons (.agg (Term.up _ _ (Term.oN_fN _ _ h))) (.cons (.refl _) .nil)) ?_
    have h2 := Term.oN_up _ _ h
    rw [Term.tw_succ] at ht
    have hq : ∀ k, k < a.kids.length → Ret env.P 56 [.agg (Term.pN (m + 1) (a.kids.getD k default)), .i .i64 (IntKind.i64.wrap (D - 1))] (fun r => r = .s (txT n (a.kids.getD k default))) := fun k hk =>
      ih (by omega) _ (by rw [wrap_in (by omega) (by omega)]; omega) m _ (h2.2.2.2 k hk) (by have := sum_get (f := Term.tw n) hk; omega)
    have hs : szB (a.kids.map (txT n)) ≤ 100000000 := by have := szB_tw (txT_sz n) a.kids; omega
    have hl := h.2.1.1
    have hkl := h.2.2.1
    have hof : ∀ k : Nat, k ≤ 1048576 → (kdK (txT n) a.kids k).length ≤ 1048576 := fun k hk => by rw [kdK_len]; exact hk
    have hkw : (kwW.length : Int) = 24 := rfl
    have hw := wdT_len a.kind
    have hks : kdK (txT n) a.kids a.kids.length = a.kids.map (txT n) := kdK_all _ _
    obtain ⟨ks, hke⟩ : ∃ ks, ks = kdK (txT n) a.kids a.kids.length := ⟨_, rfl⟩
    rw [← hke] at hks
    have hs2 : szB ks ≤ 100000000 := by rw [hks]; exact hs
    have hsl : szB a.labels ≤ 100000000 := by omega
    have hlk : ks.length = a.kids.length := by rw [hks, List.length_map]
    have hj1 := joinB_sz ks
    have hj2 := joinB_sz (lbsT a ks)
    have hj3 := lbsT_sz a ks
    have hj4 := rsT_sz a ks
    have hj5 := lbsT_len a ks
    have c1 : (⟨#[60]⟩ : ByteArray).size = 1 := rfl
    have c2 : (⟨#[62]⟩ : ByteArray).size = 1 := rfl
    have c3 : (⟨#[32, 123, 32]⟩ : ByteArray).size = 3 := rfl
    have c4 : (⟨#[32, 125]⟩ : ByteArray).size = 2 := rfl
    have e : txT (n + 1) a = txF a ks := by rw [txT_succ, hks]
    refine RetM.toRetG ?_
    refine ret_ofPM (nt := 83) (rvs := [.tmp 4]) Try.func56 rfl rfl rfl rfl (fun X hX => ?_)
    refine pw_cut 5 (fun y : ByteArray => y = wdT a.kind) (fun y => [(2, .ptr 0 0 0), (5, .s y), (6, .row 1 (kdK (txT n) a.kids a.kids.length).length)]) (fun y => [some (boxRow (Term.pN (m + 1 + 1) a)), some (rowL 1 strC (kdK (txT n) a.kids a.kids.length)), none, none]) ?_ (fun y hy => ?_)
    · repeat' (first | omega | (with_reducible show (_ : Int) < _; dsimp only; omega) | (with_reducible show (_ : Nat) ≤ _; dsimp only; omega) | ((with_reducible show SrcOk _ _ _) <;> (first | exact srcOk_1 rfl | exact srcOk_L (fun _ => ⟨rfl, rfl⟩) | exact srcOk_E (fun _ => ⟨rfl, rfl⟩))) | ((conv => whnf) <;> (first | (refine dt_goH 0 [] rfl ?_) | ((with_reducible show LW _ _ _ _ _ _ _); refine lw_del 11 ?_; refine loopFT (fun k : Nat => [(23, .i .i64 k), (6, .row 1 (kdK (txT n) a.kids k).length)]) (fun k => [none, some (.arr ⟨1, (kdK (txT n) a.kids k).length, elE strC (kdK (txT n) a.kids k), .arr⟩)]) (fun k => k ≤ a.kids.length) (fun k => a.kids.length - k) 0 ⟨Nat.zero_le _, ?_⟩) | exact lbz_zero rfl rfl | exact low_cells rfl | exact lbm_capC (hof _ (by omega)) (show 16 ≤ 1000 by decide) | exact lbm_capM (hof _ (by omega)) | exact srcOk_1 rfl | refine And.intro ?_ ?_ | (intro _h; first | contradiction | (try simp only [dd] at _h)) | (refine dt_go ?_) | exact rfl | exact True.intro | exact dkk | exact dks | ((first | refine .inl ⟨_, within_ok _ _ _, ?_⟩ | refine ⟨_, within_ok _ _ _, ?_⟩); (try rintro _ rfl)) | ((first | refine .inl ⟨_, kindWords_ok, ?_⟩ | refine ⟨_, kindWords_ok, ?_⟩); (try rintro _ rfl)) | ((first | refine .inl ⟨_, hq _ (by omega), ?_⟩ | refine ⟨_, hq _ (by omega), ?_⟩); (try rintro _ rfl)) | (refine wrap_succ ?_; omega))))
      all_goals (try simp only [Int.toNat_natCast] at *)
      all_goals (rename Nat => k)
      all_goals first
        | (have hlt : (k : Int) < (a.kids.length : Int) := ‹_›
           conv => whnf
           refine roundET_turn (turn_eq (id := 4) (x := rowL 1 strC (kdK (txT n) a.kids (k + 1))) rfl rfl lbz_len.symm rfl rfl (snoc_eq (l := kdK (txT n) a.kids k) (sz := 1) (a := txT n (a.kids.getD k default)) (c := strC) rfl (fun j hj => by
             obtain rfl : j = 0 := by omega
             exact .refl _))) ?_
           refine roundET_end ?_
           refine ⟨k + 1, [0, 4], (by show k + 1 ≤ a.kids.length; omega), (by show a.kids.length - (k + 1) < a.kids.length - k; omega), ?_⟩
           repeat' (first | omega | (with_reducible show (_ : Int) < _; dsimp only; omega) | (with_reducible show (_ : Nat) ≤ _; dsimp only; omega) | ((with_reducible show SrcOk _ _ _) <;> (first | exact srcOk_1 rfl | exact srcOk_L (fun _ => ⟨rfl, rfl⟩) | exact srcOk_E (fun _ => ⟨rfl, rfl⟩))) | ((conv => whnf) <;> (first | exact arr_same rfl rfl (fun a j => low_cells rfl) | exact low_cells rfl | exact lbz_len | exact lbz_rho hX ‹_› | exact rfl | refine And.intro ?_ ?_ | (intro _h; first | contradiction | (try simp only [dd] at _h)) | (refine dt_go ?_) | exact rfl | exact True.intro | exact dkk | exact dks | (refine wrap_succ ?_; omega)))))
        | (conv => whnf
           have hk : k = a.kids.length := by omega
           subst hk
           refine cut_turn (turn_box (id := 0) (ds := Term.pN (m + 1 + 1) a) rfl rfl rfl (by repeat' (first | exact OwEqL.nil | refine OwEqL.cons (OwEq.refl _) ?_))) ?_
           refine cut_go _ ?_ (by (repeat' (first | exact trivial | refine And.intro rfl ?_)); done) (by (repeat' (first | exact trivial | refine And.intro (.inl rfl) ?_ | refine And.intro (.inr rfl) ?_ | refine And.intro rfl ?_)); done)
           unfold wdT
           first
           | rw [if_pos ‹1 ≤ a.kind ∧ a.kind ≤ 23›]
           | rw [if_neg ‹¬ (1 ≤ a.kind ∧ a.kind ≤ 23)›])
        | trace_state
    rw [← hke]
    subst hy
    refine wpc_ok _ _ _ _ ?_
    (try dsimp only)
    conv => whnf
    repeat' (first | omega | (with_reducible show (_ : Int) < _; dsimp only; omega) | (with_reducible show (_ : Nat) ≤ _; dsimp only; omega) | ((with_reducible show SrcOk _ _ _) <;> (first | exact srcOk_1 rfl | exact srcOk_L (fun _ => ⟨rfl, rfl⟩) | exact srcOk_E (fun _ => ⟨rfl, rfl⟩))) | ((conv => whnf) <;> (first | ((first | refine .inl ⟨_, Ret.wk (by exact .cons (shr_L (d := 0) (k := 4) rfl) (.cons (.refl _) .nil)) (joinI_ok ks comS (by omega) (by omega)), ?_⟩ | refine ⟨_, Ret.wk (by exact .cons (shr_L (d := 0) (k := 4) rfl) (.cons (.refl _) .nil)) (joinI_ok ks comS (by omega) (by omega)), ?_⟩); (try rintro _ rfl)) | ((first | refine .inl ⟨_, Ret.wk (by exact .cons (.agg (.cons (.refl _) (.cons (.refl _) (.cons (.refl _) (.cons (.refl _) .nil))))) (.cons (shr_L (d := 0) (k := 4) rfl) .nil)) (resultText_ok (m + 1) a (Term.oN_fN _ _ h2) ks hlk hs2), ?_⟩ | refine ⟨_, Ret.wk (by exact .cons (.agg (.cons (.refl _) (.cons (.refl _) (.cons (.refl _) (.cons (.refl _) .nil))))) (.cons (shr_L (d := 0) (k := 4) rfl) .nil)) (resultText_ok (m + 1) a (Term.oN_fN _ _ h2) ks hlk hs2), ?_⟩); (try rintro _ rfl)) | (refine .inr (.inl (.inr (.inl ⟨_, RetM.wk (by exact .cons (.agg (.cons (.refl _) (.cons (.refl _) (.cons (.refl _) (.cons (.refl _) .nil))))) (.cons (shr_L (d := 0) (k := 4) rfl) .nil)) (labelTexts_ok (m + 1) a h2 ks hlk hs2 hsl), ?_⟩))); rintro _ _ ⟨rfl, rfl⟩; refine ⟨⟨rfl, rowsNs_cons rowNs_L rowsNs_nil⟩, _, lokT, ?_⟩) | ((first | refine .inl ⟨_, Ret.wk (by exact .cons (shr_L (d := 0) (k := 4) hj5.symm) (.cons (.refl _) .nil)) (joinI_ok (lbsT a ks) comS (by omega) (by omega)), ?_⟩ | refine ⟨_, Ret.wk (by exact .cons (shr_L (d := 0) (k := 4) hj5.symm) (.cons (.refl _) .nil)) (joinI_ok (lbsT a ks) comS (by omega) (by omega)), ?_⟩); (try rintro _ rfl)) | exact tle_max (by (try simp only [ba_app]); omega) | refine And.intro ?_ ?_ | (intro _h; first | contradiction | (try simp only [dd] at _h)) | (refine dt_go ?_) | exact rfl | exact True.intro | exact dkk | exact dks | (refine wrap_succ ?_; omega))))
    all_goals (conv => whnf)
    all_goals first
      | (have q : txT (n + 1) a = a.name := by (rw [e]; unfold txF; rw [if_pos (by omega)])
         exact endM_pick [] [] (.s (a.name)) view_none rfl rfl (fun k hk => by rw [hX] at hk; exact absurd hk (Nat.not_lt_zero _)) ⟨congrArg AV.s q.symm, rfl⟩)
      | (have q : txT (n + 1) a = wdT a.kind ++ ⟨#[60]⟩ ++ a.name ++ ⟨#[62]⟩ := by (rw [e]; unfold txF; rw [if_neg (by omega), if_pos (by omega)])
         exact endM_pick [] [] (.s (wdT a.kind ++ ⟨#[60]⟩ ++ a.name ++ ⟨#[62]⟩)) view_none rfl rfl (fun k hk => by rw [hX] at hk; exact absurd hk (Nat.not_lt_zero _)) ⟨congrArg AV.s q.symm, rfl⟩)
      | (have q : txT (n + 1) a = wdT a.kind ++ ⟨#[60]⟩ ++ joinB comS ks ++ ⟨#[62]⟩ := by (rw [e]; unfold txF; rw [if_neg (by omega), if_neg (by omega), if_pos (by omega)])
         exact endM_pick [] [] (.s (wdT a.kind ++ ⟨#[60]⟩ ++ joinB comS ks ++ ⟨#[62]⟩)) view_none rfl rfl (fun k hk => by rw [hX] at hk; exact absurd hk (Nat.not_lt_zero _)) ⟨congrArg AV.s q.symm, rfl⟩)
      | (have q : txT (n + 1) a = wdT a.kind ++ rsT a ks := by (rw [e]; unfold txF; rw [if_neg (by omega), if_neg (by omega), if_neg (by omega), if_pos (by omega)])
         exact endM_pick [] [] (.s (wdT a.kind ++ rsT a ks)) view_none rfl rfl (fun k hk => by rw [hX] at hk; exact absurd hk (Nat.not_lt_zero _)) ⟨congrArg AV.s q.symm, rfl⟩)
      | (have q : txT (n + 1) a = wdT a.kind ++ ⟨#[32, 123, 32]⟩ ++ joinB comS (lbsT a ks) ++ ⟨#[32, 125]⟩ := by (rw [e]; unfold txF; rw [if_neg (by omega), if_neg (by omega), if_neg (by omega), if_neg (by omega), if_pos (by omega)])
         exact endM_pick [] [] (.s (wdT a.kind ++ ⟨#[32, 123, 32]⟩ ++ joinB comS (lbsT a ks) ++ ⟨#[32, 125]⟩)) view_none rfl rfl (fun k hk => by rw [hX] at hk; exact absurd hk (Nat.not_lt_zero _)) ⟨congrArg AV.s q.symm, rfl⟩)
      | (have q : txT (n + 1) a = wdT a.kind := by (rw [e]; unfold txF; rw [if_neg (by omega), if_neg (by omega), if_neg (by omega), if_neg (by omega), if_neg (by omega)])
         exact endM_pick [] [] (.s (wdT a.kind)) view_none rfl rfl (fun k hk => by rw [hX] at hk; exact absurd hk (Nat.not_lt_zero _)) ⟨congrArg AV.s q.symm, rfl⟩)
      | trace_state
end
end Go.Proofs.Ytllcemegnggpfaa
