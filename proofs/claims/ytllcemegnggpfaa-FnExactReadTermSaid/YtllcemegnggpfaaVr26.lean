/- Texts for VReadTermP. -/
import Derived.Test.YtllcemegnggpfaaVr25
namespace Go.Proofs.Ytllcemegnggpfaa
open Go Go.RowKit
set_option linter.unusedVariables false
set_option linter.unusedSimpArgs false
set_option maxRecDepth 8000
noncomputable def Term.pO (n : Nat) : Term → List AV := Nat.rec (motive := fun _ => Term → List AV) (fun _ => []) (fun _ ih a => [.i .i64 a.kind, .s a.name, owL 1 strC a.labels, owL 4 ih a.kids]) n
theorem shrC_ow {k sz n : Nat} {H : Hp} {g : Nat → Nat → AV} : shrC k H (.ow sz n g) = .sl sz n (fun i j => shrC (k - 1) H (g i j)) := by cases k <;> rfl
theorem shr_owA {α : Type} [Inhabited α] {sz k : Nat} {H : Hp} {cO c : α → List AV} {l : List α} [h : Shr 0 cO c] : Wk (shrC k H (owL sz cO l)) (slL sz c l) := by
  unfold owL
  rw [shrC_ow]
  exact shr_L (d := 0) (k := k - 1) rfl
theorem Term.pO_hold : ∀ n, HoldC (Term.pO n)
  | 0 => ⟨fun a j => trivial⟩
  | n + 1 => ⟨fun a => idf_cons trivial (idf_cons trivial (idf_cons owL_idf (idf_cons (owL_idf (h := Term.pO_hold n)) idf_nil)))⟩
instance Term.pO_holdI (n : Nat) : HoldC (Term.pO n) := Term.pO_hold n
theorem Term.pO_free : ∀ n, FreeC (Term.pO n)
  | 0 => ⟨fun a j => trivial⟩
  | n + 1 => ⟨fun a => free_cons trivial (free_cons trivial (free_cons owL_free (free_cons (owL_free (h := Term.pO_free n)) free_nil)))⟩
instance Term.pO_freeI (n : Nat) : FreeC (Term.pO n) := Term.pO_free n
theorem Term.pO_shr : ∀ n, Shr 0 (Term.pO n) (Term.pN n)
  | 0 => ⟨fun H k a => .nil⟩
  | n + 1 => ⟨fun H k a => .cons (stay_shr rfl) (.cons (stay_shr rfl) (.cons shr_owA (.cons (shr_owA (h := Term.pO_shr n)) .nil)))⟩
instance Term.pO_shrI (n : Nat) : Shr 0 (Term.pO n) (Term.pN n) := Term.pO_shr n
theorem Term.pO_pl (n : Nat) (a : Term) : (Term.pO n a).all pl1 = true := by cases n <;> rfl
theorem viewT {π : List Nat} {H H0 : Hp} (hn : nodupB π = true := by exact rfl) (h : ViewL H (sig π H.length) π.length π H0 := by repeat' (first | exact ViewL.nil | refine ViewL.cons rfl (RowBack.self ?_) ?_ | exact rowPl_L (fun _ => rfl) | exact rowPl_L (Term.pO_pl _) | exact rowPl_box rfl)) : ViewOk π H H0 := view_of hn h
theorem lokT {σ : Nat → Nat} {L : Hp} (h : RowsPl L := by repeat' (first | exact RowsPl.nil | refine RowsPl.cons ?_ ?_ | refine RowsPl.none ?_ | exact rowPl_L (fun _ => rfl) | exact rowPl_L (Term.pO_pl _) | exact rowPl_box rfl)) : LOk σ L L := lok_pl h
def Term.resO (a : Term) : List AV := [.i .i64 a.kind, .s a.name, .row 0 a.labels.length, .row 1 a.kids.length]
noncomputable def Term.rowsO (m : Nat) (a : Term) : Hp := [some (rowL 1 strC a.labels), some (rowL 4 (Term.pO m) a.kids)]
noncomputable def Term.mkN (n : Nat) : Term → Int → Term × Int := Nat.rec (motive := fun _ => Term → Int → Term × Int) (fun a k => (a, k)) (fun _ ih a k => (⟨k, mtxt (k + 1), (markL Str.mkE a.labels (k + 1 + 1)).1, (markL ih a.kids (markL Str.mkE a.labels (k + 1 + 1)).2).1⟩, (markL ih a.kids (markL Str.mkE a.labels (k + 1 + 1)).2).2)) n
theorem Term.mkN_succ (n : Nat) (a : Term) (k : Int) : Term.mkN (n + 1) a k = (⟨k, mtxt (k + 1), (markL Str.mkE a.labels (k + 1 + 1)).1, (markL (Term.mkN n) a.kids (markL Str.mkE a.labels (k + 1 + 1)).2).1⟩, (markL (Term.mkN n) a.kids (markL Str.mkE a.labels (k + 1 + 1)).2).2) := rfl
theorem Term.mkN_mono : ∀ (n : Nat) (a : Term) (k : Int), k ≤ (Term.mkN n a k).2
  | 0, a, k => Int.le_refl _
  | n + 1, a, k => by
    have m0 := markL_mono Str.mkE_mono a.labels (k + 1 + 1)
    have m1 := markL_mono (Term.mkN_mono n) a.kids (markL Str.mkE a.labels (k + 1 + 1)).2
    rw [Term.mkN_succ]
    dsimp only
    omega
theorem Term.mkN_ok : ∀ (n : Nat) (a : Term) (k : Int), Term.oN n a → Term.oN n (Term.mkN n a k).1
  | 0, a, k, h => h
  | n + 1, a, k, h => ⟨Nat.le_trans (mtxt_sz _) (by decide), okL_mark Str.mkE_ok h.2.1, okL_mark (Term.mkN_ok n) h.2.2⟩
theorem Term.mkN_idem : ∀ (n : Nat) (a : Term) (k : Int), Term.mkN n (Term.mkN n a k).1 k = Term.mkN n a k
  | 0, a, k => rfl
  | n + 1, a, k => by
    simp only [Term.mkN_succ, markL_idem Str.mkE_idem, markL_idem (Term.mkN_idem n)]
theorem markTermS_0 (k : Int) : RetM env.P 27 [some (rowL 4 (Term.pO 0) [])] [.row 0 0, .i .i64 k] (fun r H => r = .i .i64 k ∧ H = [some (rowL 4 (Term.pO 0) [])]) := by
  refine ret_ofM (nt := 42) (rvs := [.tmp 4]) Try.func27 rfl rfl rfl rfl (fun X hX => ?_)
  conv => whnf
  refine loopN 0 (fun i => [(5, .i .i64 i), (1, .i .i64 k)]) (fun i => [some (.arr ⟨4, 0, elE (Term.pO 0) [], .arr⟩)]) (fun i => True) ⟨trivial, ?_⟩
  repeat' (first | omega | (with_reducible show (_ : Int) < _; dsimp only; omega) | (with_reducible show (_ : Nat) ≤ _; dsimp only; omega) | ((with_reducible show SrcOk _ _ _) <;> (first | exact srcOk_1 rfl | exact srcOk_L (fun _ => ⟨rfl, rfl⟩) | exact srcOk_E (fun _ => ⟨rfl, rfl⟩))) | ((conv => whnf) <;> (first | exact arr_same rfl rfl (fun a j => low_cells rfl) | refine And.intro ?_ ?_ | (intro _h; first | contradiction | (try simp only [dd] at _h)) | (refine dt_go ?_) | exact rfl | exact True.intro | exact dkk | exact dks | (refine wrap_succ ?_; omega))))
  exact endM_self ⟨rfl, rfl⟩
theorem markTermS_g (n : Nat) (hc : ∀ (l : List Term) (k : Int), 0 ≤ k → (markL (Term.mkN n) l k).2 ≤ 4611686018427387904 → okL (Term.oN n) l → RetM env.P 27 [some (rowL 4 (Term.pO n) l)] [.row 0 l.length, .i .i64 k] (fun r H => r = .i .i64 (markL (Term.mkN n) l k).2 ∧ H = [some (rowL 4 (Term.pO n) (markL (Term.mkN n) l k).1)])) (l : List Term) (k : Int) (h0 : 0 ≤ k) (hk : (markL (Term.mkN (n + 1)) l k).2 ≤ 4611686018427387904) (hl : okL (Term.oN (n + 1)) l) : RetM env.P 27 [some (rowL 4 (Term.pO (n + 1)) l)] [.row 0 l.length, .i .i64 k] (fun r H => r = .i .i64 (markL (Term.mkN (n + 1)) l k).2 ∧ H = [some (rowL 4 (Term.pO (n + 1)) (markL (Term.mkN (n + 1)) l k).1)]) := by
  have hl1 := hl.1
  have hmono := Term.mkN_mono (n + 1)
  refine ret_ofM (nt := 42) (rvs := [.tmp 4]) Try.func27 rfl rfl rfl rfl (fun X hX => ?_)
  conv => whnf
  refine loopNT l.length (fun i => [(5, .i .i64 i), (1, .i .i64 (mkC (Term.mkN (n + 1)) l k i))]) (fun i => [some (.arr ⟨4, l.length, elE (Term.pO (n + 1)) (mkL (Term.mkN (n + 1)) l k i), .arr⟩)]) (fun i => MarkUp (Term.mkN (n + 1)) l k i) ⟨markUp_zero hmono h0 hk, ?_⟩
  repeat' (first | omega | (with_reducible show (_ : Int) < _; dsimp only; omega) | (with_reducible show (_ : Nat) ≤ _; dsimp only; omega) | ((with_reducible show SrcOk _ _ _) <;> (first | exact srcOk_1 rfl | exact srcOk_L (fun _ => ⟨rfl, rfl⟩) | exact srcOk_E (fun _ => ⟨rfl, rfl⟩))) | ((conv => whnf) <;> (first | exact mkC_zero.symm | exact arr_same mkL_zero rfl (fun a j => low_cells rfl) | (rename_i i _ hM; have hi : i < l.length := (by omega); have q1 := hM.le hi; have q2 := hM.lo; rw [Term.mkN_succ] at q1; dsimp only at q1; have m0 := markL_mono Str.mkE_mono (l.getD i default).labels (mkC (Term.mkN (n + 1)) l k i + 1 + 1); have m1 := markL_mono (Term.mkN_mono n) (l.getD i default).kids (markL Str.mkE (l.getD i default).labels (mkC (Term.mkN (n + 1)) l k i + 1 + 1)).2; have hik := hl.2 i hi; (first | refine .inl ⟨_, markText_ok _ (by simp (disch := omega) only [wrap_in, Int.toNat_natCast, mkL_at hi]; omega) (by simp (disch := omega) only [wrap_in, Int.toNat_natCast, mkL_at hi]; omega), ?_⟩ | refine ⟨_, markText_ok _ (by simp (disch := omega) only [wrap_in, Int.toNat_natCast, mkL_at hi]; omega) (by simp (disch := omega) only [wrap_in, Int.toNat_natCast, mkL_at hi]; omega), ?_⟩); rintro _ rfl) | (refine .inr (.inl (.inl ⟨[1], _, _, _, markStringS_ok _ _ (by simp (disch := omega) only [wrap_in, Int.toNat_natCast, mkL_at hi]; omega) (by simp (disch := omega) only [wrap_in, Int.toNat_natCast, mkL_at hi]; omega) (by simp (disch := omega) only [Int.toNat_natCast, mkL_at hi]; exact hik.2.1.1), viewT, ⟨rfl, rfl⟩, ?_⟩)); rintro _ _ ⟨rfl, rfl⟩; refine ⟨rfl, _, lokT, ?_⟩) | (refine .inr (.inl (.inl ⟨[2], _, _, _, hc _ _ (by simp (disch := omega) only [wrap_in, Int.toNat_natCast, mkL_at hi]; omega) (by simp (disch := omega) only [wrap_in, Int.toNat_natCast, mkL_at hi]; omega) (by simp (disch := omega) only [Int.toNat_natCast, mkL_at hi]; exact hik.2.2), viewT, ⟨rfl, rfl⟩, ?_⟩)); rintro _ _ ⟨rfl, rfl⟩; refine ⟨rfl, _, lokT, ?_⟩) | refine And.intro ?_ ?_ | (intro _h; first | contradiction | (try simp only [dd] at _h)) | (refine dt_go ?_) | exact rfl | exact True.intro | exact dkk | exact dks | (refine wrap_succ ?_; omega))))
  · refine roundNT_turn (turn_close (id := 0) (j := 2) (id' := 1) rfl (by omega) (show 2 < 4 by decide) (by simp only [upd, Nat.beq_refl, Int.toNat_natCast]; rfl) rfl (by decide) rfl (rowO_le (by first | exact Nat.le_refl _ | (simp only [markL_len]; exact Nat.le_refl _)))) ?_
    refine roundNT_turn (turn_close (id := 0) (j := 3) (id' := 2) rfl (by omega) (show 3 < 4 by decide) (by simp only [upd, Nat.beq_refl, Int.toNat_natCast]; rfl) rfl (by decide) rfl (rowO_le (by first | exact Nat.le_refl _ | (simp only [markL_len]; exact Nat.le_refl _)))) ?_
    refine roundNT_end ?_
    repeat' (first | omega | (with_reducible show (_ : Int) < _; dsimp only; omega) | (with_reducible show (_ : Nat) ≤ _; dsimp only; omega) | ((with_reducible show SrcOk _ _ _) <;> (first | exact srcOk_1 rfl | exact srcOk_L (fun _ => ⟨rfl, rfl⟩) | exact srcOk_E (fun _ => ⟨rfl, rfl⟩))) | ((conv => whnf) <;> (first | exact markUp_succ hM h0 | refine And.intro ?_ ?_ | (intro _h; first | contradiction | (try simp only [dd] at _h)) | (refine dt_go ?_) | exact rfl | exact True.intro | exact dkk | exact dks | (refine wrap_succ ?_; omega))))
    · rw [mkC_succ hi]
      simp only [Term.mkN_succ]
      simp (disch := omega) only [wrap_in, Int.toNat_natCast, mkL_at hi]
    · conv => whnf
      refine arr_set (mkL_succ hi) (by rw [mkL_len]; omega) rfl (fun a j => low_cells rfl) ?_ ?_
      · intro j hj
        rcases (show j = 0 ∨ j = 1 ∨ j = 2 ∨ j = 3 by omega) with rfl | rfl | rfl | rfl
        all_goals (simp (disch := omega) only [upd, Nat.beq_refl, wrap_in, Int.toNat_natCast, mkL_at hi, Term.mkN_succ]; (try simp only [Term.pO, owL, markL_len]); rfl)
      · intro a j hne
        simp only [upd, beq_ff hne, Bool.and_false, cond_false, Int.toNat_natCast]
  · exact endM_self ⟨congrArg _ (mkC_end (by omega)), rowL_end (by omega)⟩
theorem markTermS_n : ∀ (n : Nat) (l : List Term) (k : Int), 0 ≤ k → (markL (Term.mkN n) l k).2 ≤ 4611686018427387904 → okL (Term.oN n) l → RetM env.P 27 [some (rowL 4 (Term.pO n) l)] [.row 0 l.length, .i .i64 k] (fun r H => r = .i .i64 (markL (Term.mkN n) l k).2 ∧ H = [some (rowL 4 (Term.pO n) (markL (Term.mkN n) l k).1)])
  | 0, l, k, h0, hk, hl => by
    obtain rfl := Term.oN_nil hl
    exact markTermS_0 k
  | n + 1, l, k, h0, hk, hl => markTermS_g n (markTermS_n n) l k h0 hk hl
noncomputable def Term.mk_ (n : Nat) (a : Term) (k : Int) : Term × Int := (⟨a.kind, a.name, (markL Str.mkE a.labels k).1, (markL (Term.mkN n) a.kids (markL Str.mkE a.labels k).2).1⟩, (markL (Term.mkN n) a.kids (markL Str.mkE a.labels k).2).2)
theorem Term.mk_mono (n : Nat) (a : Term) (k : Int) : k ≤ (Term.mk_ n a k).2 := by
  have m0 := markL_mono Str.mkE_mono a.labels k
  have m1 := markL_mono (Term.mkN_mono n) a.kids (markL Str.mkE a.labels k).2
  simp only [Term.mk_]
  omega
theorem Term.mk_ok (n : Nat) (a : Term) (k : Int) (h : Term.oN (n + 1) a) : Term.oN (n + 1) (Term.mk_ n a k).1 := ⟨h.1, okL_mark Str.mkE_ok h.2.1, okL_mark (Term.mkN_ok n) h.2.2⟩
theorem Term.mk_idem (n : Nat) (a : Term) (k : Int) : Term.mk_ n (Term.mk_ n a k).1 k = Term.mk_ n a k := by simp only [Term.mk_, markL_idem Str.mkE_idem, markL_idem (Term.mkN_idem n)]
theorem markTerm_m (n : Nat) (a : Term) (k : Int) (h0 : 0 ≤ k) (hk : (Term.mk_ n a k).2 ≤ 4611686018427387904) (h : Term.oN (n + 1) a) : RetM env.P 10 (Term.rowsO n a) [.agg a.resO, .i .i64 k] (fun r H => r = .i .i64 (Term.mk_ n a k).2 ∧ H = Term.rowsO n (Term.mk_ n a k).1) := by
  simp only [Term.mk_] at hk
  have m0 := markL_mono Str.mkE_mono a.labels k
  have m1 := markL_mono (Term.mkN_mono n) a.kids (markL Str.mkE a.labels k).2
  refine ret_ofM (nt := 14) (rvs := [.tmp 4]) Try.func10 rfl rfl rfl rfl (fun X hX => ?_)
  repeat' (first | omega | (with_reducible show (_ : Int) < _; dsimp only; omega) | (with_reducible show (_ : Nat) ≤ _; dsimp only; omega) | ((with_reducible show SrcOk _ _ _) <;> (first | exact srcOk_1 rfl | exact srcOk_L (fun _ => ⟨rfl, rfl⟩) | exact srcOk_E (fun _ => ⟨rfl, rfl⟩))) | ((conv => whnf) <;> (first | (refine .inr (.inl (.inl ⟨[0], _, _, _, markStringS_ok _ k (by omega) (by omega) h.2.1.1, viewT, ⟨rfl, rfl⟩, ?_⟩)); rintro _ _ ⟨rfl, rfl⟩; refine ⟨rfl, _, lokT, ?_⟩) | (refine .inr (.inl (.inl ⟨[1], _, _, _, markTermS_n n _ (markL Str.mkE a.labels k).2 (by omega) (by omega) h.2.2, viewT, ⟨rfl, rfl⟩, ?_⟩)); rintro _ _ ⟨rfl, rfl⟩; refine ⟨rfl, _, lokT, ?_⟩) | refine And.intro ?_ ?_ | (intro _h; first | contradiction | (try simp only [dd] at _h)) | (refine dt_go ?_) | exact rfl | exact True.intro | exact dkk | exact dks | (refine wrap_succ ?_; omega))))
  exact endM_pick [0, 1] (Term.rowsO n (Term.mk_ n a k).1) (.i .i64 (Term.mk_ n a k).2) viewT rfl rfl (by rw [hX]; exact keepK (n := 2) rfl rfl) ⟨rfl, rfl⟩
theorem heldTermS_0 (k : Int) : Ret env.P 29 [slL 4 (Term.pN 0) [], .i .i64 k] (fun r => r = .i .i64 k) := by
  have hl0 : ([] : List Term).length = 0 := rfl
  refine ret_of (nt := 50) (rvs := [.tmp 4]) Try.func29 rfl rfl rfl rfl (fun X => ?_)
  repeat' (first | omega | (with_reducible show (_ : Int) < _; dsimp only; omega) | (with_reducible show (_ : Nat) ≤ _; dsimp only; omega) | ((with_reducible show SrcOk _ _ _) <;> (first | exact srcOk_1 rfl | exact srcOk_L (fun _ => ⟨rfl, rfl⟩) | exact srcOk_E (fun _ => ⟨rfl, rfl⟩))) | ((conv => whnf) <;> (first | refine loopN 0 (fun i => [(5, .i .i64 i), (1, .i .i64 k)]) (fun i => []) (fun i => True) ⟨trivial, ?_⟩ | refine And.intro ?_ ?_ | (intro _h; first | contradiction | (try simp only [dd] at _h)) | (refine dt_go ?_) | exact rfl | exact True.intro | exact dkk | exact dks | (refine wrap_succ ?_; omega))))
  all_goals first | rfl | omega | trace_state
theorem heldTermS_g (n : Nat) (hc : ∀ (l : List Term) (k : Int), 0 ≤ k → (markL (Term.mkN n) l k).2 ≤ 4611686018427387904 → okL (Term.oN n) l → Ret env.P 29 [slL 4 (Term.pN n) l, .i .i64 k] (fun r => r = .i .i64 (heldI l (markL (Term.mkN n) l k)))) (l : List Term) (k : Int) (h0 : 0 ≤ k) (hk : (markL (Term.mkN (n + 1)) l k).2 ≤ 4611686018427387904) (hl : okL (Term.oN (n + 1)) l) : Ret env.P 29 [slL 4 (Term.pN (n + 1)) l, .i .i64 k] (fun r => r = .i .i64 (heldI l (markL (Term.mkN (n + 1)) l k))) := by
  have hl1 := hl.1
  have hmono := Term.mkN_mono (n + 1)
  have hor : ∀ (l : List Term) (k : Int), 0 ≤ k → (markL (Term.mkN n) l k).2 ≤ 4611686018427387904 → okL (Term.oN n) l → Ret env.P 29 [slL 4 (Term.pN n) l, .i .i64 k] (fun y => (l = (markL (Term.mkN n) l k).1 ∧ k ≤ (markL (Term.mkN n) l k).2 ∧ y = .i .i64 (markL (Term.mkN n) l k).2) ∨ (¬ l = (markL (Term.mkN n) l k).1 ∧ y = .i .i64 (-1))) := fun l k h0 hk hl => (hc l k h0 hk hl).mono fun y hy => by
    subst hy
    obtain ⟨h1, h2⟩ | ⟨h1, h2⟩ := heldI_cases l (markL (Term.mkN n) l k)
    · exact .inl ⟨h1, markL_mono (Term.mkN_mono n) l k, by rw [h2]⟩
    · exact .inr ⟨h1, by rw [h2]⟩
  clear hc
  refine ret_of (nt := 50) (rvs := [.tmp 4]) Try.func29 rfl rfl rfl rfl (fun X => ?_)
  repeat' (first | omega | (with_reducible show (_ : Int) < _; dsimp only; omega) | (with_reducible show (_ : Nat) ≤ _; dsimp only; omega) | ((with_reducible show SrcOk _ _ _) <;> (first | exact srcOk_1 rfl | exact srcOk_L (fun _ => ⟨rfl, rfl⟩) | exact srcOk_E (fun _ => ⟨rfl, rfl⟩))) | ((conv => whnf) <;> (first | refine loopN l.length (fun i => [(5, .i .i64 i), (1, .i .i64 (mkC (Term.mkN (n + 1)) l k i))]) (fun i => []) (fun i => HeldUp (Term.mkN (n + 1)) l k i) ⟨heldUp_zero, ?_⟩ | exact mkC_zero.symm | (rename_i i _ hU hlt; have hi : i < l.length := (by omega); have hq := held_rng hmono hU hi; have hok := hl.2 i hi; rw [Term.mkN_succ] at hq; dsimp only at hq; obtain ⟨q1, q2⟩ := hq; have m0 := markL_mono Str.mkE_mono (l.getD i default).labels (mkC (Term.mkN (n + 1)) l k i + 1 + 1); have m1 := markL_mono (Term.mkN_mono n) (l.getD i default).kids (markL Str.mkE (l.getD i default).labels (mkC (Term.mkN (n + 1)) l k i + 1 + 1)).2; (first | refine .inl ⟨_, markText_ok _ (by (try simp (disch := omega) only [wrap_in, Int.toNat_natCast]); omega) (by (try simp (disch := omega) only [wrap_in, Int.toNat_natCast]); omega), ?_⟩ | refine ⟨_, markText_ok _ (by (try simp (disch := omega) only [wrap_in, Int.toNat_natCast]); omega) (by (try simp (disch := omega) only [wrap_in, Int.toNat_natCast]); omega), ?_⟩); (try rintro _ rfl)) | ((first | refine .inl ⟨_, heldStringS_or _ _ (by (try simp (disch := omega) only [wrap_in, Int.toNat_natCast]); omega) (by (try simp (disch := omega) only [wrap_in, Int.toNat_natCast]); omega) (by (try simp only [Int.toNat_natCast]); exact hok.2.1.1), ?_⟩ | refine ⟨_, heldStringS_or _ _ (by (try simp (disch := omega) only [wrap_in, Int.toNat_natCast]); omega) (by (try simp (disch := omega) only [wrap_in, Int.toNat_natCast]); omega) (by (try simp only [Int.toNat_natCast]); exact hok.2.1.1), ?_⟩); rintro _ (⟨_, _, rfl⟩ | ⟨_, rfl⟩)) | ((first | refine .inl ⟨_, hor _ _ (by (try simp (disch := omega) only [wrap_in, Int.toNat_natCast]); omega) (by (try simp (disch := omega) only [wrap_in, Int.toNat_natCast]); omega) (by (try simp only [Int.toNat_natCast]); exact hok.2.2), ?_⟩ | refine ⟨_, hor _ _ (by (try simp (disch := omega) only [wrap_in, Int.toNat_natCast]); omega) (by (try simp (disch := omega) only [wrap_in, Int.toNat_natCast]); omega) (by (try simp only [Int.toNat_natCast]); exact hok.2.2), ?_⟩); rintro _ (⟨_, _, rfl⟩ | ⟨_, rfl⟩)) | refine And.intro ?_ ?_ | (intro _h; first | contradiction | (try simp only [dd] at _h)) | (refine dt_go ?_) | exact rfl | exact True.intro | exact dkk | exact dks | (refine wrap_succ ?_; omega))))
  all_goals (first | (conv => whnf) | skip)
  all_goals (try simp only [Int.toNat_natCast] at *)
  all_goals first
    | exact leaf_i (held_end ‹HeldUp _ l k _› (by omega))
    | (have q := held_rng hmono ‹HeldUp (Term.mkN (n + 1)) l k _› (by omega)
       simp only [Term.mkN_succ] at q
       have q1 := q.1
       have q2 := q.2
       clear q
       have m0 := held_m0 (Term.mkN_mono n) q2
       have m1 := held_m0 Str.mkE_mono (Int.le_trans m0 q2)
       (try simp (disch := omega) only [wrap_in, bne_iff_ne, ne_eq, bne_eq_false_iff_eq] at *)
       first
         | (exfalso; omega)
         | (rw [mkC_succ (by omega)]; done)
         | (rw [mkC_succ (by omega)]; rfl)
         | exact heldUp_succ ‹_› (Term.eta ‹_› ‹_› ‹_› ‹_›)
         | (refine leaf_i (held_no ‹HeldUp (Term.mkN (n + 1)) l k _› (by omega) fun e => ?_); first | (have e1 := congrArg (fun a => a.kind) e; simp only [Term.mkN_succ] at e1; contradiction) | (have e1 := congrArg (fun a => a.name) e; simp only [Term.mkN_succ] at e1; contradiction) | (have e1 := congrArg (fun a => a.labels) e; simp only [Term.mkN_succ] at e1; contradiction) | (have e1 := congrArg (fun a => a.kids) e; simp only [Term.mkN_succ] at e1; contradiction))
         | trace_state)
theorem heldTermS_n : ∀ (n : Nat) (l : List Term) (k : Int), 0 ≤ k → (markL (Term.mkN n) l k).2 ≤ 4611686018427387904 → okL (Term.oN n) l → Ret env.P 29 [slL 4 (Term.pN n) l, .i .i64 k] (fun r => r = .i .i64 (heldI l (markL (Term.mkN n) l k)))
  | 0, l, k, h0, hk, hl => by
    obtain rfl := Term.oN_nil hl
    rw [heldI_eq (show ([] : List Term) = (markL (Term.mkN 0) [] k).1 from rfl)]
    exact heldTermS_0 k
  | n + 1, l, k, h0, hk, hl => heldTermS_g n (heldTermS_n n) l k h0 hk hl
theorem heldTermS_or (n : Nat) (l : List Term) (k : Int) (h0 : 0 ≤ k) (hk : (markL (Term.mkN n) l k).2 ≤ 4611686018427387904) (hl : okL (Term.oN n) l) : Ret env.P 29 [slL 4 (Term.pN n) l, .i .i64 k] (fun y => (l = (markL (Term.mkN n) l k).1 ∧ k ≤ (markL (Term.mkN n) l k).2 ∧ y = .i .i64 (markL (Term.mkN n) l k).2) ∨ (¬ l = (markL (Term.mkN n) l k).1 ∧ y = .i .i64 (-1))) :=
  (heldTermS_n n l k h0 hk hl).mono fun y hy => by
    subst hy
    obtain ⟨h1, h2⟩ | ⟨h1, h2⟩ := heldI_cases l (markL (Term.mkN n) l k)
    · exact .inl ⟨h1, markL_mono (Term.mkN_mono n) l k, by rw [h2]⟩
    · exact .inr ⟨h1, by rw [h2]⟩
theorem heldTerm_m (n : Nat) (a : Term) (k : Int) (h0 : 0 ≤ k) (hk : (Term.mk_ n a k).2 ≤ 4611686018427387904) (h : Term.oN (n + 1) a) : Ret env.P 11 [.agg (Term.pN (n + 1) a), .i .i64 k] (fun r => r = .i .i64 (heldI a (Term.mk_ n a k))) := by
  simp only [Term.mk_] at hk
  have m0 := markL_mono Str.mkE_mono a.labels k
  have m1 := markL_mono (Term.mkN_mono n) a.kids (markL Str.mkE a.labels k).2
  refine ret_of (nt := 18) (rvs := [.tmp 4]) Try.func11 rfl rfl rfl rfl (fun X => ?_)
  repeat' (first | omega | (with_reducible show (_ : Int) < _; dsimp only; omega) | (with_reducible show (_ : Nat) ≤ _; dsimp only; omega) | ((with_reducible show SrcOk _ _ _) <;> (first | exact srcOk_1 rfl | exact srcOk_L (fun _ => ⟨rfl, rfl⟩) | exact srcOk_E (fun _ => ⟨rfl, rfl⟩))) | ((conv => whnf) <;> (first | ((first | refine .inl ⟨_, heldStringS_or _ k (by omega) (by omega) h.2.1.1, ?_⟩ | refine ⟨_, heldStringS_or _ k (by omega) (by omega) h.2.1.1, ?_⟩); rintro _ (⟨_, _, rfl⟩ | ⟨_, rfl⟩)) | ((first | refine .inl ⟨_, heldTermS_or n _ (markL Str.mkE a.labels k).2 (by omega) (by omega) h.2.2, ?_⟩ | refine ⟨_, heldTermS_or n _ (markL Str.mkE a.labels k).2 (by omega) (by omega) h.2.2, ?_⟩); rintro _ (⟨_, _, rfl⟩ | ⟨_, rfl⟩)) | refine And.intro ?_ ?_ | (intro _h; first | contradiction | (try simp only [dd] at _h)) | (refine dt_go ?_) | exact rfl | exact True.intro | exact dkk | exact dks | (refine wrap_succ ?_; omega))))
  all_goals (first | (conv => whnf) | skip)
  all_goals first
    | omega
    | exact leaf_i (heldI_eq (r := Term.mk_ n a k) (by simp only [Term.mk_]; exact Term.eta rfl rfl ‹_› ‹_›)).symm
    | (refine leaf_i (heldI_ne (r := Term.mk_ n a k) fun e => ?_).symm; first | (have e1 := congrArg (fun a => a.labels) e; simp only [Term.mk_] at e1; contradiction) | (have e1 := congrArg (fun a => a.kids) e; simp only [Term.mk_] at e1; contradiction))
    | trace_state
end Go.Proofs.Ytllcemegnggpfaa
