/-
  Typ, with slices held alone, at any depth: what the laws' functions do with it.
-/
import Derived.Test.YtgjihfinbaopcaaVToB
import Derived.Test.YtgjihfinbaopcaaVTType
namespace Go.Proofs.Ytgjihfinbaopcaa
open Go Go.RowKit
set_option linter.unusedVariables false
set_option linter.unusedSimpArgs false

noncomputable def Typ.pO (n : Nat) : Typ → List AV := Nat.rec (motive := fun _ => Typ → List AV) (fun _ => []) (fun _ ih a => [.i .i64 a.kind, .s a.name, owL 1 strC a.labels, owL 4 ih a.kids]) n
theorem shrC_ow {k sz n : Nat} {H : Hp} {g : Nat → Nat → AV} : shrC k H (.ow sz n g) = .sl sz n (fun i j => shrC (k - 1) H (g i j)) := by cases k <;> rfl
theorem shr_owA {α : Type} [Inhabited α] {sz k : Nat} {H : Hp} {cO c : α → List AV} {l : List α} [h : Shr 0 cO c] : Wk (shrC k H (owL sz cO l)) (slL sz c l) := by
  unfold owL
  rw [shrC_ow]
  exact shr_L (d := 0) (k := k - 1) rfl
theorem Typ.pO_hold : ∀ n, HoldC (Typ.pO n)
  | 0 => ⟨fun a j => trivial⟩
  | n + 1 => ⟨fun a => idf_cons trivial (idf_cons trivial (idf_cons owL_idf (idf_cons (owL_idf (h := Typ.pO_hold n)) idf_nil)))⟩
instance Typ.pO_holdI (n : Nat) : HoldC (Typ.pO n) := Typ.pO_hold n
theorem Typ.pO_free : ∀ n, FreeC (Typ.pO n)
  | 0 => ⟨fun a j => trivial⟩
  | n + 1 => ⟨fun a => free_cons trivial (free_cons trivial (free_cons owL_free (free_cons (owL_free (h := Typ.pO_free n)) free_nil)))⟩
instance Typ.pO_freeI (n : Nat) : FreeC (Typ.pO n) := Typ.pO_free n
theorem Typ.pO_shr : ∀ n, Shr 0 (Typ.pO n) (Typ.pN n)
  | 0 => ⟨fun H k a => .nil⟩
  | n + 1 => ⟨fun H k a => .cons (stay_shr rfl) (.cons (stay_shr rfl) (.cons shr_owA (.cons (shr_owA (h := Typ.pO_shr n)) .nil)))⟩
instance Typ.pO_shrI (n : Nat) : Shr 0 (Typ.pO n) (Typ.pN n) := Typ.pO_shr n
theorem Typ.pO_pl (n : Nat) (a : Typ) : (Typ.pO n a).all pl1 = true := by cases n <;> rfl
theorem viewT {π : List Nat} {H H0 : Hp} (hn : nodupB π = true := by exact rfl) (h : ViewL H (sig π H.length) π.length π H0 := by repeat' (first | exact ViewL.nil | refine ViewL.cons rfl (RowBack.self ?_) ?_ | exact rowPl_L (fun _ => rfl) | exact rowPl_L (Typ.pO_pl _) | exact rowPl_box rfl)) : ViewOk π H H0 := view_of hn h
theorem lokT {σ : Nat → Nat} {L : Hp} (h : RowsPl L := by repeat' (first | exact RowsPl.nil | refine RowsPl.cons ?_ ?_ | refine RowsPl.none ?_ | exact rowPl_L (fun _ => rfl) | exact rowPl_L (Typ.pO_pl _) | exact rowPl_box rfl)) : LOk σ L L := lok_pl h
def Typ.resO (a : Typ) : List AV := [.i .i64 a.kind, .s a.name, .row 0 a.labels.length, .row 1 a.kids.length]
noncomputable def Typ.rowsO (m : Nat) (a : Typ) : Hp := [some (rowL 1 strC a.labels), some (rowL 4 (Typ.pO m) a.kids)]

set_option maxRecDepth 8000 in
theorem toTypeSO_0 : RetM env.P 21 [] [slL 4 (Typ.pN 0) []] (fun r H => r = .row 0 0 ∧ H = [some (rowL 4 (Typ.pO 0) [])]) := by
  have hl0 : ([] : List Typ).length = 0 := rfl
  refine ret_ofM (nt := 23) (rvs := [.tmp 2]) Try.func21 rfl rfl rfl rfl (fun X hX => ?_)
  conv => whnf
  refine ⟨⟨by simp, by simp, by simp, by simp⟩, ?_⟩
  conv => whnf
  refine loopN ([] : List Typ).length (fun k => [(4, .i .i64 k)]) (fun k => [some (.arr ⟨4, ([] : List Typ).length, fillE k (elE (Typ.pO 0) ([] : List Typ)) (fun _ j => [AV.i .i64 0, AV.s ByteArray.empty, AV.nils, AV.nils].getD j .any), .arr⟩)]) (fun k => True) ⟨trivial, ?_⟩
  repeat' (first | exact aa | ((conv => whnf) <;> (first | exact arr_start rfl (fun _ _ => low_cells rfl) (fun _ _ => low_cells rfl) | exact arr_round rfl rfl (fun _ _ => rfl) (fun _ _ => low_cells rfl) (fun _ _ => low_cells rfl) | refine And.intro ?_ ?_ | (intro _h; first | contradiction | (try simp only [dd] at _h)) | (refine dt_go ?_) | exact rfl | exact True.intro | exact dkk | exact dks | (refine wrap_succ ?_; omega))))
  exact endM_rowL (l := []) (c := Typ.pO 0) rfl (fun i j hi hj => absurd hi (Nat.not_lt_zero _)) ⟨rfl, rfl⟩

set_option maxRecDepth 8000 in
theorem toTypeSO_g (m : Nat) (l : List Typ) (hl : l.length ≤ 1048576) (hc : ∀ k, k < l.length → RetM env.P 7 [] [.agg (Typ.pN (m + 1) (l.getD k default))] (fun r H => r = .agg (l.getD k default).resO ∧ H = Typ.rowsO m (l.getD k default))) : RetM env.P 21 [] [slL 4 (Typ.pN (m + 1)) l] (fun r H => r = .row 0 l.length ∧ H = [some (rowL 4 (Typ.pO (m + 1)) l)]) := by
  refine ret_ofM (nt := 23) (rvs := [.tmp 2]) Try.func21 rfl rfl rfl rfl (fun X hX => ?_)
  conv => whnf
  refine ⟨⟨by omega, by omega, by dsimp only; omega, by omega⟩, ?_⟩
  conv => whnf
  refine loopNT l.length (fun k => [(4, .i .i64 k)]) (fun k => [some (.arr ⟨4, l.length, fillE k (elE (Typ.pO (m + 1)) l) (fun _ j => [AV.i .i64 0, AV.s ByteArray.empty, AV.nils, AV.nils].getD j .any), .arr⟩)]) (fun k => True) ⟨trivial, ?_⟩
  repeat' (first | exact aa | ((conv => whnf) <;> (first | (refine .inr (.inl (.inl ⟨[], _, _, _, hc _ (by omega), viewT, ⟨rfl, rfl⟩, ?_⟩)); rintro _ _ ⟨rfl, rfl⟩; refine ⟨rfl, _, lokT, ?_⟩) | exact arr_start rfl (fun _ _ => low_cells rfl) (fun _ _ => low_cells rfl) | refine And.intro ?_ ?_ | (intro _h; first | contradiction | (try simp only [dd] at _h)) | (refine dt_go ?_) | exact rfl | exact True.intro | exact dkk | exact dks | (refine wrap_succ ?_; omega))))
  · have hi : ‹Nat› < l.length := by omega
    conv => whnf
    refine roundNT_turn (turn_close (id := 0) (j := 2) (id' := 1) rfl (by omega) (show 2 < 4 by decide) (by simp only [upd, Nat.beq_refl, Int.toNat_natCast]; rfl) rfl (by decide) rfl (rowO_le (Nat.le_refl _))) ?_
    refine roundNT_turn (turn_close (id := 0) (j := 3) (id' := 2) rfl (by omega) (show 3 < 4 by decide) (by simp only [upd, Nat.beq_refl, Int.toNat_natCast]; rfl) rfl (by decide) rfl (rowO_le (Nat.le_refl _))) ?_
    refine roundNT_end ?_
    repeat' (first | exact aa | ((conv => whnf) <;> (first | refine And.intro ?_ ?_ | (intro _h; first | contradiction | (try simp only [dd] at _h)) | (refine dt_go ?_) | exact rfl | exact True.intro | exact dkk | exact dks | (refine wrap_succ ?_; omega))))
    conv => whnf
    refine arr_fill rfl (fun _ _ => low_cells rfl) (fun _ _ => low_cells rfl) ?_ ?_
    · intro j hj
      rcases (show j = 0 ∨ j = 1 ∨ j = 2 ∨ j = 3 by omega) with rfl | rfl | rfl | rfl
      all_goals (simp only [upd, Nat.beq_refl, Int.toNat_natCast]; rfl)
    · intro a j hne
      simp only [upd, beq_ff hne, Bool.and_false, cond_false, Int.toNat_natCast]
  · exact endM_rowL (l := l) (c := Typ.pO (m + 1)) rfl (fun i j hi hj => fill_end (by omega)) ⟨rfl, rfl⟩

set_option maxRecDepth 8000 in
theorem toTypeO_m (m : Nat) : ∀ a : Typ, Typ.oN (m + 1) a → RetM env.P 7 [] [.agg (Typ.pN (m + 1) a)] (fun r H => r = .agg a.resO ∧ H = Typ.rowsO m a) := by
  induction m with
  | zero =>
    intro a h
    have hk := Typ.oN_nil (h.2.2)
    obtain ⟨kind, name, labels, ks⟩ := a
    dsimp only at hk
    subst hk
    refine ret_ofM (nt := 19) (rvs := [.cell 2 29]) Try.func7 rfl rfl rfl rfl (fun X hX => ?_)
    repeat' (first | exact aa | ((conv => whnf) <;> (first | (refine .inr (.inl (.inl ⟨[], _, _, _, toStringSO_ok _ (h.2.1), viewT, ⟨rfl, rfl⟩, ?_⟩)); rintro _ _ ⟨rfl, rfl⟩; refine ⟨rfl, _, lokT, ?_⟩) | (refine .inr (.inl (.inl ⟨[], _, _, _, toTypeSO_0, viewT, ⟨rfl, rfl⟩, ?_⟩)); rintro _ _ ⟨rfl, rfl⟩; refine ⟨rfl, _, lokT, ?_⟩) | refine And.intro ?_ ?_ | (intro _h; first | contradiction | (try simp only [dd] at _h)) | (refine dt_go ?_) | exact rfl | exact True.intro | exact dkk | exact dks | (refine wrap_succ ?_; omega))))
    exact endM_pick [3, 4] (Typ.rowsO 0 ⟨kind, name, labels, []⟩) (.agg (Typ.resO ⟨kind, name, labels, []⟩)) viewT rfl rfl (fun k hk => by rw [hX] at hk; exact absurd hk (Nat.not_lt_zero _)) ⟨rfl, rfl⟩
  | succ m ih =>
    intro a h
    refine ret_ofM (nt := 19) (rvs := [.cell 2 29]) Try.func7 rfl rfl rfl rfl (fun X hX => ?_)
    repeat' (first | exact aa | ((conv => whnf) <;> (first | (refine .inr (.inl (.inl ⟨[], _, _, _, toStringSO_ok _ (h.2.1), viewT, ⟨rfl, rfl⟩, ?_⟩)); rintro _ _ ⟨rfl, rfl⟩; refine ⟨rfl, _, lokT, ?_⟩) | (refine .inr (.inl (.inl ⟨[], _, _, _, toTypeSO_g m a.kids (h.2.2).1 (fun k hk => ih _ ((h.2.2).2 k hk)), viewT, ⟨rfl, rfl⟩, ?_⟩)); rintro _ _ ⟨rfl, rfl⟩; refine ⟨rfl, _, lokT, ?_⟩) | refine And.intro ?_ ?_ | (intro _h; first | contradiction | (try simp only [dd] at _h)) | (refine dt_go ?_) | exact rfl | exact True.intro | exact dkk | exact dks | (refine wrap_succ ?_; omega))))
    exact endM_pick [3, 4] (Typ.rowsO (m + 1) a) (.agg a.resO) viewT rfl rfl (fun k hk => by rw [hX] at hk; exact absurd hk (Nat.not_lt_zero _)) ⟨rfl, rfl⟩
theorem toTypeO_ok (a : Typ) (h : Typ.ok a) : RetM env.P 7 [] [.agg a.cs] (fun r H => r = .agg a.resO ∧ H = Typ.rowsO a.kd a) := toTypeO_m a.kd a h

/-! ### Marks -/
noncomputable def Typ.mkN (n : Nat) : Typ → Int → Typ × Int := Nat.rec (motive := fun _ => Typ → Int → Typ × Int) (fun a k => (a, k)) (fun _ ih a k => (⟨k, mtxt (k + 1), (markL Str.mkE a.labels (k + 1 + 1)).1, (markL ih a.kids (markL Str.mkE a.labels (k + 1 + 1)).2).1⟩, (markL ih a.kids (markL Str.mkE a.labels (k + 1 + 1)).2).2)) n
theorem Typ.mkN_succ (n : Nat) (a : Typ) (k : Int) : Typ.mkN (n + 1) a k = (⟨k, mtxt (k + 1), (markL Str.mkE a.labels (k + 1 + 1)).1, (markL (Typ.mkN n) a.kids (markL Str.mkE a.labels (k + 1 + 1)).2).1⟩, (markL (Typ.mkN n) a.kids (markL Str.mkE a.labels (k + 1 + 1)).2).2) := rfl
theorem Typ.mkN_mono : ∀ (n : Nat) (a : Typ) (k : Int), k ≤ (Typ.mkN n a k).2
  | 0, a, k => Int.le_refl _
  | n + 1, a, k => by
    have m0 := markL_mono Str.mkE_mono a.labels (k + 1 + 1)
    have m1 := markL_mono (Typ.mkN_mono n) a.kids (markL Str.mkE a.labels (k + 1 + 1)).2
    rw [Typ.mkN_succ]
    dsimp only
    omega
theorem Typ.mkN_ok : ∀ (n : Nat) (a : Typ) (k : Int), Typ.oN n a → Typ.oN n (Typ.mkN n a k).1
  | 0, a, k, h => h
  | n + 1, a, k, h => ⟨Nat.le_trans (mtxt_sz _) (by decide), okL_mark Str.mkE_ok h.2.1, okL_mark (Typ.mkN_ok n) h.2.2⟩
theorem Typ.mkN_idem : ∀ (n : Nat) (a : Typ) (k : Int), Typ.mkN n (Typ.mkN n a k).1 k = Typ.mkN n a k
  | 0, a, k => rfl
  | n + 1, a, k => by
    simp only [Typ.mkN_succ, markL_idem Str.mkE_idem, markL_idem (Typ.mkN_idem n)]
theorem tlen {n : Nat} {a : Typ} (h : Typ.oN (n + 1) a) : a.labels.length ≤ 1048576 := h.2.1.1

set_option maxRecDepth 8000 in
theorem markTypeS_0 (k : Int) : RetM env.P 28 [some (rowL 4 (Typ.pO 0) [])] [.row 0 0, .i .i64 k] (fun r H => r = .i .i64 k ∧ H = [some (rowL 4 (Typ.pO 0) [])]) := by
  refine ret_ofM (nt := 42) (rvs := [.tmp 4]) Try.func28 rfl rfl rfl rfl (fun X hX => ?_)
  conv => whnf
  refine loopN 0 (fun i => [(5, .i .i64 i), (1, .i .i64 k)]) (fun i => [some (.arr ⟨4, 0, elE (Typ.pO 0) [], .arr⟩)]) (fun i => True) ⟨trivial, ?_⟩
  repeat' (first | exact aa | ((conv => whnf) <;> (first | exact arr_same rfl rfl (fun a j => low_cells rfl) | refine And.intro ?_ ?_ | (intro _h; first | contradiction | (try simp only [dd] at _h)) | (refine dt_go ?_) | exact rfl | exact True.intro | exact dkk | exact dks | (refine wrap_succ ?_; omega))))
  exact endM_self ⟨rfl, rfl⟩
set_option maxRecDepth 8000 in
theorem markTypeS_g (n : Nat) (hc : ∀ (l : List Typ) (k : Int), 0 ≤ k → (markL (Typ.mkN n) l k).2 ≤ 4611686018427387904 → okL (Typ.oN n) l → RetM env.P 28 [some (rowL 4 (Typ.pO n) l)] [.row 0 l.length, .i .i64 k] (fun r H => r = .i .i64 (markL (Typ.mkN n) l k).2 ∧ H = [some (rowL 4 (Typ.pO n) (markL (Typ.mkN n) l k).1)])) (l : List Typ) (k : Int) (h0 : 0 ≤ k) (hk : (markL (Typ.mkN (n + 1)) l k).2 ≤ 4611686018427387904) (hl : okL (Typ.oN (n + 1)) l) : RetM env.P 28 [some (rowL 4 (Typ.pO (n + 1)) l)] [.row 0 l.length, .i .i64 k] (fun r H => r = .i .i64 (markL (Typ.mkN (n + 1)) l k).2 ∧ H = [some (rowL 4 (Typ.pO (n + 1)) (markL (Typ.mkN (n + 1)) l k).1)]) := by
  have hl1 := hl.1
  have hmono := Typ.mkN_mono (n + 1)
  refine ret_ofM (nt := 42) (rvs := [.tmp 4]) Try.func28 rfl rfl rfl rfl (fun X hX => ?_)
  conv => whnf
  refine loopNT l.length (fun i => [(5, .i .i64 i), (1, .i .i64 (mkC (Typ.mkN (n + 1)) l k i))]) (fun i => [some (.arr ⟨4, l.length, elE (Typ.pO (n + 1)) (mkL (Typ.mkN (n + 1)) l k i), .arr⟩)]) (fun i => MarkUp (Typ.mkN (n + 1)) l k i) ⟨markUp_zero hmono h0 hk, ?_⟩
  repeat' (first | exact aa | ((conv => whnf) <;> (first | exact mkC_zero.symm | exact arr_same mkL_zero rfl (fun a j => low_cells rfl) | (rename_i i _ hM; have hi : i < l.length := (by omega); have q1 := hM.le hi; have q2 := hM.lo; rw [Typ.mkN_succ] at q1; dsimp only at q1; have m0 := markL_mono Str.mkE_mono (l.getD i default).labels (mkC (Typ.mkN (n + 1)) l k i + 1 + 1); have m1 := markL_mono (Typ.mkN_mono n) (l.getD i default).kids (markL Str.mkE (l.getD i default).labels (mkC (Typ.mkN (n + 1)) l k i + 1 + 1)).2; have hik := hl.2 i hi; (first | refine .inl ⟨_, markText_ok _ (by simp (disch := omega) only [wrap_in, Int.toNat_natCast, mkL_at hi]; omega) (by simp (disch := omega) only [wrap_in, Int.toNat_natCast, mkL_at hi]; omega), ?_⟩ | refine ⟨_, markText_ok _ (by simp (disch := omega) only [wrap_in, Int.toNat_natCast, mkL_at hi]; omega) (by simp (disch := omega) only [wrap_in, Int.toNat_natCast, mkL_at hi]; omega), ?_⟩); rintro _ rfl) | (refine .inr (.inl (.inl ⟨[1], _, _, _, markStringS_ok _ _ (by simp (disch := omega) only [wrap_in, Int.toNat_natCast, mkL_at hi]; omega) (by simp (disch := omega) only [wrap_in, Int.toNat_natCast, mkL_at hi]; omega) (by simp (disch := omega) only [Int.toNat_natCast, mkL_at hi]; exact hik.2.1.1), viewT, ⟨rfl, rfl⟩, ?_⟩)); rintro _ _ ⟨rfl, rfl⟩; refine ⟨rfl, _, lokT, ?_⟩) | (refine .inr (.inl (.inl ⟨[2], _, _, _, hc _ _ (by simp (disch := omega) only [wrap_in, Int.toNat_natCast, mkL_at hi]; omega) (by simp (disch := omega) only [wrap_in, Int.toNat_natCast, mkL_at hi]; omega) (by simp (disch := omega) only [Int.toNat_natCast, mkL_at hi]; exact hik.2.2), viewT, ⟨rfl, rfl⟩, ?_⟩)); rintro _ _ ⟨rfl, rfl⟩; refine ⟨rfl, _, lokT, ?_⟩) | refine And.intro ?_ ?_ | (intro _h; first | contradiction | (try simp only [dd] at _h)) | (refine dt_go ?_) | exact rfl | exact True.intro | exact dkk | exact dks | (refine wrap_succ ?_; omega))))
  · refine roundNT_turn (turn_close (id := 0) (j := 2) (id' := 1) rfl (by omega) (show 2 < 4 by decide) (by simp only [upd, Nat.beq_refl, Int.toNat_natCast]; rfl) rfl (by decide) rfl (rowO_le (by first | exact Nat.le_refl _ | (simp only [markL_len]; exact Nat.le_refl _)))) ?_
    refine roundNT_turn (turn_close (id := 0) (j := 3) (id' := 2) rfl (by omega) (show 3 < 4 by decide) (by simp only [upd, Nat.beq_refl, Int.toNat_natCast]; rfl) rfl (by decide) rfl (rowO_le (by first | exact Nat.le_refl _ | (simp only [markL_len]; exact Nat.le_refl _)))) ?_
    refine roundNT_end ?_
    repeat' (first | exact aa | ((conv => whnf) <;> (first | exact markUp_succ hM h0 | refine And.intro ?_ ?_ | (intro _h; first | contradiction | (try simp only [dd] at _h)) | (refine dt_go ?_) | exact rfl | exact True.intro | exact dkk | exact dks | (refine wrap_succ ?_; omega))))
    · rw [mkC_succ hi]
      simp only [Typ.mkN_succ]
      simp (disch := omega) only [wrap_in, Int.toNat_natCast, mkL_at hi]
    · conv => whnf
      refine arr_set (mkL_succ hi) (by rw [mkL_len]; omega) rfl (fun a j => low_cells rfl) ?_ ?_
      · intro j hj
        rcases (show j = 0 ∨ j = 1 ∨ j = 2 ∨ j = 3 by omega) with rfl | rfl | rfl | rfl
        all_goals (simp (disch := omega) only [upd, Nat.beq_refl, wrap_in, Int.toNat_natCast, mkL_at hi, Typ.mkN_succ]; (try simp only [Typ.pO, owL, markL_len]); rfl)
      · intro a j hne
        simp only [upd, beq_ff hne, Bool.and_false, cond_false, Int.toNat_natCast]
  · exact endM_self ⟨congrArg _ (mkC_end (by omega)), rowL_end (by omega)⟩

theorem markTypeS_n : ∀ (n : Nat) (l : List Typ) (k : Int), 0 ≤ k → (markL (Typ.mkN n) l k).2 ≤ 4611686018427387904 → okL (Typ.oN n) l → RetM env.P 28 [some (rowL 4 (Typ.pO n) l)] [.row 0 l.length, .i .i64 k] (fun r H => r = .i .i64 (markL (Typ.mkN n) l k).2 ∧ H = [some (rowL 4 (Typ.pO n) (markL (Typ.mkN n) l k).1)])
  | 0, l, k, h0, hk, hl => by
    obtain rfl := Typ.oN_nil hl
    exact markTypeS_0 k
  | n + 1, l, k, h0, hk, hl => markTypeS_g n (markTypeS_n n) l k h0 hk hl
set_option maxRecDepth 8000 in
theorem markTypeS_nil (k : Int) : Ret env.P 28 [.nils, .i .i64 k] (fun r => r = .i .i64 k) := by
  refine ret_of (nt := 42) (rvs := [.tmp 4]) Try.func28 rfl rfl rfl rfl (fun X => ?_)
  repeat' (first | exact aa | ((conv => whnf) <;> (first | refine loopN 0 (fun i => [(5, .i .i64 i), (1, .i .i64 k)]) (fun i => []) (fun i => True) ⟨trivial, ?_⟩ | refine And.intro ?_ ?_ | (intro _h; first | contradiction | (try simp only [dd] at _h)) | (refine dt_go ?_) | exact rfl | exact True.intro | exact dkk | exact dks | (refine wrap_succ ?_; omega))))
  all_goals first | rfl | omega
noncomputable def Typ.mk_ (n : Nat) (a : Typ) (k : Int) : Typ × Int := (⟨a.kind, a.name, (markL Str.mkE a.labels k).1, (markL (Typ.mkN n) a.kids (markL Str.mkE a.labels k).2).1⟩, (markL (Typ.mkN n) a.kids (markL Str.mkE a.labels k).2).2)
theorem Typ.mk_mono (n : Nat) (a : Typ) (k : Int) : k ≤ (Typ.mk_ n a k).2 := by
  have m0 := markL_mono Str.mkE_mono a.labels k
  have m1 := markL_mono (Typ.mkN_mono n) a.kids (markL Str.mkE a.labels k).2
  simp only [Typ.mk_]
  omega
theorem Typ.mk_ok (n : Nat) (a : Typ) (k : Int) (h : Typ.oN (n + 1) a) : Typ.oN (n + 1) (Typ.mk_ n a k).1 := ⟨h.1, okL_mark Str.mkE_ok h.2.1, okL_mark (Typ.mkN_ok n) h.2.2⟩
theorem Typ.mk_idem (n : Nat) (a : Typ) (k : Int) : Typ.mk_ n (Typ.mk_ n a k).1 k = Typ.mk_ n a k := by simp only [Typ.mk_, markL_idem Str.mkE_idem, markL_idem (Typ.mkN_idem n)]
set_option maxRecDepth 8000 in
theorem markType_m (n : Nat) (a : Typ) (k : Int) (h0 : 0 ≤ k) (hk : (Typ.mk_ n a k).2 ≤ 4611686018427387904) (h : Typ.oN (n + 1) a) : RetM env.P 11 (Typ.rowsO n a) [.agg a.resO, .i .i64 k] (fun r H => r = .i .i64 (Typ.mk_ n a k).2 ∧ H = Typ.rowsO n (Typ.mk_ n a k).1) := by
  simp only [Typ.mk_] at hk
  have m0 := markL_mono Str.mkE_mono a.labels k
  have m1 := markL_mono (Typ.mkN_mono n) a.kids (markL Str.mkE a.labels k).2
  refine ret_ofM (nt := 14) (rvs := [.tmp 4]) Try.func11 rfl rfl rfl rfl (fun X hX => ?_)
  repeat' (first | exact aa | ((conv => whnf) <;> (first | (refine .inr (.inl (.inl ⟨[0], _, _, _, markStringS_ok _ k (by omega) (by omega) h.2.1.1, viewT, ⟨rfl, rfl⟩, ?_⟩)); rintro _ _ ⟨rfl, rfl⟩; refine ⟨rfl, _, lokT, ?_⟩) | (refine .inr (.inl (.inl ⟨[1], _, _, _, markTypeS_n n _ (markL Str.mkE a.labels k).2 (by omega) (by omega) h.2.2, viewT, ⟨rfl, rfl⟩, ?_⟩)); rintro _ _ ⟨rfl, rfl⟩; refine ⟨rfl, _, lokT, ?_⟩) | refine And.intro ?_ ?_ | (intro _h; first | contradiction | (try simp only [dd] at _h)) | (refine dt_go ?_) | exact rfl | exact True.intro | exact dkk | exact dks | (refine wrap_succ ?_; omega))))
  exact endM_pick [0, 1] (Typ.rowsO n (Typ.mk_ n a k).1) (.i .i64 (Typ.mk_ n a k).2) viewT rfl rfl (by rw [hX]; exact keepK (n := 2) rfl rfl) ⟨rfl, rfl⟩
set_option maxRecDepth 8000 in
theorem markType_nil (kd : Int) (nm : ByteArray) (k : Int) : Ret env.P 11 [.agg [AV.i .i64 kd, AV.s nm, AV.nils, AV.nils], .i .i64 k] (fun r => r = .i .i64 k) := by
  refine ret_of (nt := 14) (rvs := [.tmp 4]) Try.func11 rfl rfl rfl rfl (fun X => ?_)
  repeat' (first | exact aa | ((conv => whnf) <;> (first | refine And.intro ?_ ?_ | (intro _h; first | contradiction | (try simp only [dd] at _h)) | (refine dt_go ?_) | exact rfl | exact True.intro | exact dkk | exact dks | ((first | refine .inl ⟨_, markStringS_nil k, ?_⟩ | refine ⟨_, markStringS_nil k, ?_⟩); (try rintro _ rfl)) | ((first | refine .inl ⟨_, markTypeS_nil k, ?_⟩ | refine ⟨_, markTypeS_nil k, ?_⟩); (try rintro _ rfl)) | (refine wrap_succ ?_; omega))))
  all_goals rfl
set_option maxRecDepth 8000 in
theorem heldTypeS_0 (k : Int) : Ret env.P 44 [slL 4 (Typ.pN 0) [], .i .i64 k] (fun r => r = .i .i64 k) := by
  have hl0 : ([] : List Typ).length = 0 := rfl
  refine ret_of (nt := 50) (rvs := [.tmp 4]) Try.func44 rfl rfl rfl rfl (fun X => ?_)
  repeat' (first | exact aa | ((conv => whnf) <;> (first | refine loopN 0 (fun i => [(5, .i .i64 i), (1, .i .i64 k)]) (fun i => []) (fun i => True) ⟨trivial, ?_⟩ | refine And.intro ?_ ?_ | (intro _h; first | contradiction | (try simp only [dd] at _h)) | (refine dt_go ?_) | exact rfl | exact True.intro | exact dkk | exact dks | (refine wrap_succ ?_; omega))))
  all_goals first | rfl | omega | trace_state
set_option maxRecDepth 8000 in
theorem heldTypeS_g (n : Nat) (hc : ∀ (l : List Typ) (k : Int), 0 ≤ k → (markL (Typ.mkN n) l k).2 ≤ 4611686018427387904 → okL (Typ.oN n) l → Ret env.P 44 [slL 4 (Typ.pN n) l, .i .i64 k] (fun r => r = .i .i64 (heldI l (markL (Typ.mkN n) l k)))) (l : List Typ) (k : Int) (h0 : 0 ≤ k) (hk : (markL (Typ.mkN (n + 1)) l k).2 ≤ 4611686018427387904) (hl : okL (Typ.oN (n + 1)) l) : Ret env.P 44 [slL 4 (Typ.pN (n + 1)) l, .i .i64 k] (fun r => r = .i .i64 (heldI l (markL (Typ.mkN (n + 1)) l k))) := by
  have hl1 := hl.1
  have hmono := Typ.mkN_mono (n + 1)
  have hor : ∀ (l : List Typ) (k : Int), 0 ≤ k → (markL (Typ.mkN n) l k).2 ≤ 4611686018427387904 → okL (Typ.oN n) l → Ret env.P 44 [slL 4 (Typ.pN n) l, .i .i64 k] (fun y => (l = (markL (Typ.mkN n) l k).1 ∧ k ≤ (markL (Typ.mkN n) l k).2 ∧ y = .i .i64 (markL (Typ.mkN n) l k).2) ∨ (¬ l = (markL (Typ.mkN n) l k).1 ∧ y = .i .i64 (-1))) := fun l k h0 hk hl => (hc l k h0 hk hl).mono fun y hy => by
    subst hy
    obtain ⟨h1, h2⟩ | ⟨h1, h2⟩ := heldI_cases l (markL (Typ.mkN n) l k)
    · exact .inl ⟨h1, markL_mono (Typ.mkN_mono n) l k, by rw [h2]⟩
    · exact .inr ⟨h1, by rw [h2]⟩
  clear hc
  refine ret_of (nt := 50) (rvs := [.tmp 4]) Try.func44 rfl rfl rfl rfl (fun X => ?_)
  repeat' (first | exact aa | ((conv => whnf) <;> (first | refine loopN l.length (fun i => [(5, .i .i64 i), (1, .i .i64 (mkC (Typ.mkN (n + 1)) l k i))]) (fun i => []) (fun i => HeldUp (Typ.mkN (n + 1)) l k i) ⟨heldUp_zero, ?_⟩ | exact mkC_zero.symm | (rename_i i _ hU hlt; have hi : i < l.length := (by omega); have hq := held_rng hmono hU hi; have hok := hl.2 i hi; rw [Typ.mkN_succ] at hq; dsimp only at hq; obtain ⟨q1, q2⟩ := hq; have m0 := markL_mono Str.mkE_mono (l.getD i default).labels (mkC (Typ.mkN (n + 1)) l k i + 1 + 1); have m1 := markL_mono (Typ.mkN_mono n) (l.getD i default).kids (markL Str.mkE (l.getD i default).labels (mkC (Typ.mkN (n + 1)) l k i + 1 + 1)).2; (first | refine .inl ⟨_, markText_ok _ (by (try simp (disch := omega) only [wrap_in, Int.toNat_natCast]); omega) (by (try simp (disch := omega) only [wrap_in, Int.toNat_natCast]); omega), ?_⟩ | refine ⟨_, markText_ok _ (by (try simp (disch := omega) only [wrap_in, Int.toNat_natCast]); omega) (by (try simp (disch := omega) only [wrap_in, Int.toNat_natCast]); omega), ?_⟩); (try rintro _ rfl)) | ((first | refine .inl ⟨_, heldStringS_or _ _ (by (try simp (disch := omega) only [wrap_in, Int.toNat_natCast]); omega) (by (try simp (disch := omega) only [wrap_in, Int.toNat_natCast]); omega) (by (try simp only [Int.toNat_natCast]); exact hok.2.1.1), ?_⟩ | refine ⟨_, heldStringS_or _ _ (by (try simp (disch := omega) only [wrap_in, Int.toNat_natCast]); omega) (by (try simp (disch := omega) only [wrap_in, Int.toNat_natCast]); omega) (by (try simp only [Int.toNat_natCast]); exact hok.2.1.1), ?_⟩); rintro _ (⟨_, _, rfl⟩ | ⟨_, rfl⟩)) | ((first | refine .inl ⟨_, hor _ _ (by (try simp (disch := omega) only [wrap_in, Int.toNat_natCast]); omega) (by (try simp (disch := omega) only [wrap_in, Int.toNat_natCast]); omega) (by (try simp only [Int.toNat_natCast]); exact hok.2.2), ?_⟩ | refine ⟨_, hor _ _ (by (try simp (disch := omega) only [wrap_in, Int.toNat_natCast]); omega) (by (try simp (disch := omega) only [wrap_in, Int.toNat_natCast]); omega) (by (try simp only [Int.toNat_natCast]); exact hok.2.2), ?_⟩); rintro _ (⟨_, _, rfl⟩ | ⟨_, rfl⟩)) | refine And.intro ?_ ?_ | (intro _h; first | contradiction | (try simp only [dd] at _h)) | (refine dt_go ?_) | exact rfl | exact True.intro | exact dkk | exact dks | (refine wrap_succ ?_; omega))))
  all_goals (first | (conv => whnf) | skip)
  all_goals (try simp only [Int.toNat_natCast] at *)
  all_goals first
    | exact leaf_i (held_end ‹HeldUp _ l k _› (by omega))
    | (have q := held_rng hmono ‹HeldUp (Typ.mkN (n + 1)) l k _› (by omega)
       simp only [Typ.mkN_succ] at q
       have q1 := q.1
       have q2 := q.2
       clear q
       have m0 := held_m0 (Typ.mkN_mono n) q2
       have m1 := held_m0 Str.mkE_mono (Int.le_trans m0 q2)
       (try simp (disch := omega) only [wrap_in, bne_iff_ne, ne_eq, bne_eq_false_iff_eq] at *)
       first
         | (exfalso; omega)
         | (rw [mkC_succ (by omega)]; done)
         | (rw [mkC_succ (by omega)]; rfl)
         | exact heldUp_succ ‹_› (Typ.eta ‹_› ‹_› ‹_› ‹_›)
         | (refine leaf_i (held_no ‹HeldUp (Typ.mkN (n + 1)) l k _› (by omega) fun e => ?_); first | (have e1 := congrArg (fun a => a.kind) e; simp only [Typ.mkN_succ] at e1; contradiction) | (have e1 := congrArg (fun a => a.name) e; simp only [Typ.mkN_succ] at e1; contradiction) | (have e1 := congrArg (fun a => a.labels) e; simp only [Typ.mkN_succ] at e1; contradiction) | (have e1 := congrArg (fun a => a.kids) e; simp only [Typ.mkN_succ] at e1; contradiction))
         | trace_state)

theorem heldTypeS_n : ∀ (n : Nat) (l : List Typ) (k : Int), 0 ≤ k → (markL (Typ.mkN n) l k).2 ≤ 4611686018427387904 → okL (Typ.oN n) l → Ret env.P 44 [slL 4 (Typ.pN n) l, .i .i64 k] (fun r => r = .i .i64 (heldI l (markL (Typ.mkN n) l k)))
  | 0, l, k, h0, hk, hl => by
    obtain rfl := Typ.oN_nil hl
    rw [heldI_eq (show ([] : List Typ) = (markL (Typ.mkN 0) [] k).1 from rfl)]
    exact heldTypeS_0 k
  | n + 1, l, k, h0, hk, hl => heldTypeS_g n (heldTypeS_n n) l k h0 hk hl
theorem heldTypeS_or (n : Nat) (l : List Typ) (k : Int) (h0 : 0 ≤ k) (hk : (markL (Typ.mkN n) l k).2 ≤ 4611686018427387904) (hl : okL (Typ.oN n) l) : Ret env.P 44 [slL 4 (Typ.pN n) l, .i .i64 k] (fun y => (l = (markL (Typ.mkN n) l k).1 ∧ k ≤ (markL (Typ.mkN n) l k).2 ∧ y = .i .i64 (markL (Typ.mkN n) l k).2) ∨ (¬ l = (markL (Typ.mkN n) l k).1 ∧ y = .i .i64 (-1))) :=
  (heldTypeS_n n l k h0 hk hl).mono fun y hy => by
    subst hy
    obtain ⟨h1, h2⟩ | ⟨h1, h2⟩ := heldI_cases l (markL (Typ.mkN n) l k)
    · exact .inl ⟨h1, markL_mono (Typ.mkN_mono n) l k, by rw [h2]⟩
    · exact .inr ⟨h1, by rw [h2]⟩
set_option maxRecDepth 8000 in
theorem heldType_m (n : Nat) (a : Typ) (k : Int) (h0 : 0 ≤ k) (hk : (Typ.mk_ n a k).2 ≤ 4611686018427387904) (h : Typ.oN (n + 1) a) : Ret env.P 30 [.agg (Typ.pN (n + 1) a), .i .i64 k] (fun r => r = .i .i64 (heldI a (Typ.mk_ n a k))) := by
  simp only [Typ.mk_] at hk
  have m0 := markL_mono Str.mkE_mono a.labels k
  have m1 := markL_mono (Typ.mkN_mono n) a.kids (markL Str.mkE a.labels k).2
  refine ret_of (nt := 18) (rvs := [.tmp 4]) Try.func30 rfl rfl rfl rfl (fun X => ?_)
  repeat' (first | exact aa | ((conv => whnf) <;> (first | ((first | refine .inl ⟨_, heldStringS_or _ k (by omega) (by omega) h.2.1.1, ?_⟩ | refine ⟨_, heldStringS_or _ k (by omega) (by omega) h.2.1.1, ?_⟩); rintro _ (⟨_, _, rfl⟩ | ⟨_, rfl⟩)) | ((first | refine .inl ⟨_, heldTypeS_or n _ (markL Str.mkE a.labels k).2 (by omega) (by omega) h.2.2, ?_⟩ | refine ⟨_, heldTypeS_or n _ (markL Str.mkE a.labels k).2 (by omega) (by omega) h.2.2, ?_⟩); rintro _ (⟨_, _, rfl⟩ | ⟨_, rfl⟩)) | refine And.intro ?_ ?_ | (intro _h; first | contradiction | (try simp only [dd] at _h)) | (refine dt_go ?_) | exact rfl | exact True.intro | exact dkk | exact dks | (refine wrap_succ ?_; omega))))
  all_goals (first | (conv => whnf) | skip)
  all_goals first
    | omega
    | exact leaf_i (heldI_eq (r := Typ.mk_ n a k) (by simp only [Typ.mk_]; exact Typ.eta rfl rfl ‹_› ‹_›)).symm
    | (refine leaf_i (heldI_ne (r := Typ.mk_ n a k) fun e => ?_).symm; first | (have e1 := congrArg (fun a => a.labels) e; simp only [Typ.mk_] at e1; contradiction) | (have e1 := congrArg (fun a => a.kids) e; simp only [Typ.mk_] at e1; contradiction))
    | trace_state
theorem heldType_or (n : Nat) (a : Typ) (k : Int) (h0 : 0 ≤ k) (hk : (Typ.mk_ n a k).2 ≤ 4611686018427387904) (h : Typ.oN (n + 1) a) : Ret env.P 30 [.agg (Typ.pN (n + 1) a), .i .i64 k] (fun y => (a = (Typ.mk_ n a k).1 ∧ k ≤ (Typ.mk_ n a k).2 ∧ y = .i .i64 (Typ.mk_ n a k).2) ∨ (¬ a = (Typ.mk_ n a k).1 ∧ y = .i .i64 (-1))) :=
  (heldType_m n a k h0 hk h).mono fun y hy => by
    subst hy
    obtain ⟨h1, h2⟩ | ⟨h1, h2⟩ := heldI_cases a (Typ.mk_ n a k)
    · exact .inl ⟨h1, Typ.mk_mono n a k, by rw [h2]⟩
    · exact .inr ⟨h1, by rw [h2]⟩

/-! ### How many marks there are -/
theorem szSt_dn {a : ByteArray} {v : Int} (hn : ¬ szSt a v < 0) : szSt a v ≤ v := by
  have := szSt_eq hn
  omega
theorem szF_mk {α : Type} {g : α → Int → Int} {f : α → Int → α × Int} (h : ∀ a v, ¬ g a v < 0 → g a v ≤ v ∧ ∀ k, (f a k).2 ≤ k + 2 + 2 * (v - g a v)) : ∀ (l : List α) (v : Int), ¬ szF g l v < 0 → szF g l v ≤ v ∧ ∀ k, (markL f l k).2 ≤ k + 2 * l.length + 2 * (v - szF g l v)
  | [], v, _ => ⟨Int.le_refl _, fun k => by show k ≤ k + 2 * ((0 : Nat) : Int) + 2 * (v - v); omega⟩
  | x :: r, v, hn => by
    rw [szF_cons] at hn ⊢
    by_cases c : g x v < 0
    · rw [if_pos c] at hn; omega
    rw [if_neg c] at hn ⊢
    obtain ⟨h1, h2⟩ := h x v c
    obtain ⟨h3, h4⟩ := szF_mk h r (g x v) hn
    refine ⟨by omega, fun k => ?_⟩
    have h5 := h2 k
    have h6 := h4 (f x k).2
    show (markL f r (f x k).2).2 ≤ k + 2 * ((r.length + 1 : Nat) : Int) + _
    omega
theorem szLs_mk {α : Type} {g : α → Int → Int} {f : α → Int → α × Int} (h : ∀ a v, ¬ g a v < 0 → g a v ≤ v ∧ ∀ k, (f a k).2 ≤ k + 2 + 2 * (v - g a v)) (l : List α) (v : Int) (hn : ¬ szLs g l v < 0) : szLs g l v ≤ v ∧ ∀ k, (markL f l k).2 ≤ k + 2 * (v - szLs g l v) := by
  unfold szLs at hn ⊢
  by_cases c : v - l.length < 0
  · rw [if_pos c] at hn; omega
  rw [if_neg c] at hn ⊢
  obtain ⟨h1, h2⟩ := szF_mk h l _ hn
  exact ⟨by omega, fun k => by have := h2 k; omega⟩
theorem Str.mkE_sz (a : ByteArray) (v : Int) (hn : ¬ szSt a v < 0) : szSt a v ≤ v ∧ ∀ k, (Str.mkE a k).2 ≤ k + 2 + 2 * (v - szSt a v) := by
  have := szSt_dn hn
  exact ⟨this, fun k => by simp only [Str.mkE]; omega⟩
theorem Typ.zN_inv {n : Nat} {a : Typ} {v : Int} (hn : ¬ Typ.zN (n + 1) a v < 0) : ¬ szSt a.name v < 0 ∧ ¬ szLs szSt a.labels (szSt a.name v) < 0 ∧ ¬ szLs (Typ.zN n) a.kids (szLs szSt a.labels (szSt a.name v)) < 0 ∧ Typ.zN (n + 1) a v = szLs (Typ.zN n) a.kids (szLs szSt a.labels (szSt a.name v)) := by
  have e : Typ.zN (n + 1) a v = (if (szSt a.name v) < 0 then -1 else if ((szLs szSt) a.labels (szSt a.name v)) < 0 then -1 else if (szLs (Typ.zN n) a.kids ((szLs szSt) a.labels (szSt a.name v))) < 0 then -1 else (szLs (Typ.zN n) a.kids ((szLs szSt) a.labels (szSt a.name v)))) := rfl
  rw [e] at hn ⊢
  by_cases c1 : (szSt a.name v) < 0
  · rw [if_pos c1] at hn; omega
  rw [if_neg c1] at hn ⊢
  by_cases c2 : ((szLs szSt) a.labels (szSt a.name v)) < 0
  · rw [if_pos c2] at hn; omega
  rw [if_neg c2] at hn ⊢
  by_cases c3 : (szLs (Typ.zN n) a.kids ((szLs szSt) a.labels (szSt a.name v))) < 0
  · rw [if_pos c3] at hn; omega
  rw [if_neg c3]
  exact ⟨c1, c2, c3, rfl⟩
theorem Typ.mkN_sz : ∀ (n : Nat) (a : Typ) (v : Int), ¬ Typ.zN n a v < 0 → Typ.zN n a v ≤ v ∧ ∀ k, (Typ.mkN n a k).2 ≤ k + 2 + 2 * (v - Typ.zN n a v)
  | 0, a, v, hn => (hn (by show (-1 : Int) < 0; decide)).elim
  | n + 1, a, v, hn => by
    obtain ⟨c1, c2, c3, e⟩ := Typ.zN_inv hn
    rw [e]
    have h1 := szSt_dn c1
    obtain ⟨h2, h3⟩ := szLs_mk Str.mkE_sz _ _ c2
    obtain ⟨h4, h5⟩ := szLs_mk (Typ.mkN_sz n) _ _ c3
    refine ⟨by omega, fun k => ?_⟩
    have h6 := h3 (k + 1 + 1)
    have h7 := h5 (markL Str.mkE a.labels (k + 1 + 1)).2
    rw [Typ.mkN_succ]
    dsimp only
    omega
theorem Typ.mk_sz {a : Typ} {v : Int} (h0 : 0 ≤ v) (hv : v ≤ 1048576) (hn : ¬ Typ.sz a v < 0) (k : Int) : (Typ.mk_ a.kd a k).2 ≤ k + 2097152 := by
  obtain ⟨c1, c2, c3, e⟩ := Typ.zN_inv (n := a.kd) hn
  have h1 := szSt_dn c1
  obtain ⟨h2, h3⟩ := szLs_mk Str.mkE_sz _ _ c2
  obtain ⟨h4, h5⟩ := szLs_mk (Typ.mkN_sz _) _ _ c3
  have h6 := h3 k
  have h7 := h5 (markL Str.mkE a.labels k).2
  simp only [Typ.mk_]
  omega
end Go.Proofs.Ytgjihfinbaopcaa
