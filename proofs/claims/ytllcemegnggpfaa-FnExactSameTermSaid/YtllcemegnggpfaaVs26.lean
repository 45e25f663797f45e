/- Texts for VTermOkP. -/
import Derived.Test.YtllcemegnggpfaaVs25
namespace Go.Proofs.Ytllcemegnggpfaa
open Go Go.RowKit
set_option linter.unusedVariables false
set_option linter.unusedSimpArgs false
set_option maxRecDepth 8000
noncomputable def Term.pO (n : Nat) : Term → List AV := Nat.rec (motive := fun _ => Term → List AV) (fun _ => []) (fun _ ih a => [.i .i64 a.kind, .s a.name, owL 1 strC a.labels, owL 4 ih a.kids]) n
theorem shrC_ow {k sz n : Nat} {H : Hp} {g : Nat → Nat → AV} : shrC k H (.ow sz n g) = .sl sz n (fun i j => shrC (k - 1) H (g i j)) := by cases k <;> rfl
theorem shr_owA {α : Type} [Inhabited α] {sz k : Nat} {H : Hp} {cO c : α → List AV} {l : List α} [h : Shr 0 cO c] : Wk (shrC k H (owL sz cO l)) (slL sz c l) := by
  unfold owL
  rw [shrC_ow]
  exact shr_L (d := 0) (k := k - 1) rfl
theorem Term.pO_hold : ∀ n, HoldC (Term.pO n)
  | 0 => ⟨fun a j => trivial⟩
  | n + 1 => ⟨fun a => idf_cons trivial (idf_cons trivial (idf_cons owL_idf (idf_cons (owL_idf (h := Term.pO_hold n)) idf_nil)))⟩
instance Term.pO_holdI (n : Nat) : HoldC (Term.pO n) := Term.pO_hold n
theorem Term.pO_free : ∀ n, FreeC (Term.pO n)
  | 0 => ⟨fun a j => trivial⟩
  | n + 1 => ⟨fun a => free_cons trivial (free_cons trivial (free_cons owL_free (free_cons (owL_free (h := Term.pO_free n)) free_nil)))⟩
instance Term.pO_freeI (n : Nat) : FreeC (Term.pO n) := Term.pO_free n
theorem Term.pO_shr : ∀ n, Shr 0 (Term.pO n) (Term.pN n)
  | 0 => ⟨fun H k a => .nil⟩
  | n + 1 => ⟨fun H k a => .cons (stay_shr rfl) (.cons (stay_shr rfl) (.cons shr_owA (.cons (shr_owA (h := Term.pO_shr n)) .nil)))⟩
instance Term.pO_shrI (n : Nat) : Shr 0 (Term.pO n) (Term.pN n) := Term.pO_shr n
theorem Term.pO_pl (n : Nat) (a : Term) : (Term.pO n a).all pl1 = true := by cases n <;> rfl
theorem viewT {π : List Nat} {H H0 : Hp} (hn : nodupB π = true := by exact rfl) (h : ViewL H (sig π H.length) π.length π H0 := by repeat' (first | exact ViewL.nil | refine ViewL.cons rfl (RowBack.self ?_) ?_ | exact rowPl_L (fun _ => rfl) | exact rowPl_L (Term.pO_pl _) | exact rowPl_box rfl)) : ViewOk π H H0 := view_of hn h
theorem lokT {σ : Nat → Nat} {L : Hp} (h : RowsPl L := by repeat' (first | exact RowsPl.nil | refine RowsPl.cons ?_ ?_ | refine RowsPl.none ?_ | exact rowPl_L (fun _ => rfl) | exact rowPl_L (Term.pO_pl _) | exact rowPl_box rfl)) : LOk σ L L := lok_pl h
def Term.resO (a : Term) : List AV := [.i .i64 a.kind, .s a.name, .row 0 a.labels.length, .row 1 a.kids.length]
noncomputable def Term.rowsO (m : Nat) (a : Term) : Hp := [some (rowL 1 strC a.labels), some (rowL 4 (Term.pO m) a.kids)]
noncomputable def Term.mkN (n : Nat) : Term → Int → Term × Int := Nat.rec (motive := fun _ => Term → Int → Term × Int) (fun a k => (a, k)) (fun _ ih a k => (⟨k, mtxt (k + 1), (markL Str.mkE a.labels (k + 1 + 1)).1, (markL ih a.kids (markL Str.mkE a.labels (k + 1 + 1)).2).1⟩, (markL ih a.kids (markL Str.mkE a.labels (k + 1 + 1)).2).2)) n
theorem Term.mkN_succ (n : Nat) (a : Term) (k : Int) : Term.mkN (n + 1) a k = (⟨k, mtxt (k + 1), (markL Str.mkE a.labels (k + 1 + 1)).1, (markL (Term.mkN n) a.kids (markL Str.mkE a.labels (k + 1 + 1)).2).1⟩, (markL (Term.mkN n) a.kids (markL Str.mkE a.labels (k + 1 + 1)).2).2) := rfl
theorem szSt_dn {a : ByteArray} {v : Int} (hn : ¬ szSt a v < 0) : szSt a v ≤ v := by
  have := szSt_eq hn
  omega
theorem szF_mk {α : Type} {g : α → Int → Int} {f : α → Int → α × Int} (h : ∀ a v, ¬ g a v < 0 → g a v ≤ v ∧ ∀ k, (f a k).2 ≤ k + 2 + 2 * (v - g a v)) : ∀ (l : List α) (v : Int), ¬ szF g l v < 0 → szF g l v ≤ v ∧ ∀ k, (markL f l k).2 ≤ k + 2 * l.length + 2 * (v - szF g l v)
  | [], v, _ => ⟨Int.le_refl _, fun k => by show k ≤ k + 2 * ((0 : Nat) : Int) + 2 * (v - v); omega⟩
  | x :: r, v, hn => by
    rw [szF_cons] at hn ⊢
    by_cases c : g x v < 0
    · rw [if_pos c] at hn; omega
    rw [if_neg c] at hn ⊢
    obtain ⟨h1, h2⟩ := h x v c
    obtain ⟨h3, h4⟩ := szF_mk h r (g x v) hn
    refine ⟨by omega, fun k => ?_⟩
    have h5 := h2 k
    have h6 := h4 (f x k).2
    show (markL f r (f x k).2).2 ≤ k + 2 * ((r.length + 1 : Nat) : Int) + _
    omega
theorem szLs_mk {α : Type} {g : α → Int → Int} {f : α → Int → α × Int} (h : ∀ a v, ¬ g a v < 0 → g a v ≤ v ∧ ∀ k, (f a k).2 ≤ k + 2 + 2 * (v - g a v)) (l : List α) (v : Int) (hn : ¬ szLs g l v < 0) : szLs g l v ≤ v ∧ ∀ k, (markL f l k).2 ≤ k + 2 * (v - szLs g l v) := by
  unfold szLs at hn ⊢
  by_cases c : v - l.length < 0
  · rw [if_pos c] at hn; omega
  rw [if_neg c] at hn ⊢
  obtain ⟨h1, h2⟩ := szF_mk h l _ hn
  exact ⟨by omega, fun k => by have := h2 k; omega⟩
theorem Str.mkE_sz (a : ByteArray) (v : Int) (hn : ¬ szSt a v < 0) : szSt a v ≤ v ∧ ∀ k, (Str.mkE a k).2 ≤ k + 2 + 2 * (v - szSt a v) := by
  have := szSt_dn hn
  exact ⟨this, fun k => by simp only [Str.mkE]; omega⟩
theorem Term.zN_inv {n : Nat} {a : Term} {v : Int} (hn : ¬ Term.zN (n + 1) a v < 0) : ¬ szSt a.name v < 0 ∧ ¬ szLs szSt a.labels (szSt a.name v) < 0 ∧ ¬ szLs (Term.zN n) a.kids (szLs szSt a.labels (szSt a.name v)) < 0 ∧ Term.zN (n + 1) a v = szLs (Term.zN n) a.kids (szLs szSt a.labels (szSt a.name v)) := by
  have e : Term.zN (n + 1) a v = (if (szSt a.name v) < 0 then -1 else if ((szLs szSt) a.labels (szSt a.name v)) < 0 then -1 else if (szLs (Term.zN n) a.kids ((szLs szSt) a.labels (szSt a.name v))) < 0 then -1 else (szLs (Term.zN n) a.kids ((szLs szSt) a.labels (szSt a.name v)))) := rfl
  rw [e] at hn ⊢
  by_cases c1 : (szSt a.name v) < 0
  · rw [if_pos c1] at hn; omega
  rw [if_neg c1] at hn ⊢
  by_cases c2 : ((szLs szSt) a.labels (szSt a.name v)) < 0
  · rw [if_pos c2] at hn; omega
  rw [if_neg c2] at hn ⊢
  by_cases c3 : (szLs (Term.zN n) a.kids ((szLs szSt) a.labels (szSt a.name v))) < 0
  · rw [if_pos c3] at hn; omega
  rw [if_neg c3]
  exact ⟨c1, c2, c3, rfl⟩
theorem Term.mkN_sz : ∀ (n : Nat) (a : Term) (v : Int), ¬ Term.zN n a v < 0 → Term.zN n a v ≤ v ∧ ∀ k, (Term.mkN n a k).2 ≤ k + 2 + 2 * (v - Term.zN n a v)
  | 0, a, v, hn => (hn (by show (-1 : Int) < 0; decide)).elim
  | n + 1, a, v, hn => by
    obtain ⟨c1, c2, c3, e⟩ := Term.zN_inv hn
    rw [e]
    have h1 := szSt_dn c1
    obtain ⟨h2, h3⟩ := szLs_mk Str.mkE_sz _ _ c2
    obtain ⟨h4, h5⟩ := szLs_mk (Term.mkN_sz n) _ _ c3
    refine ⟨by omega, fun k => ?_⟩
    have h6 := h3 (k + 1 + 1)
    have h7 := h5 (markL Str.mkE a.labels (k + 1 + 1)).2
    rw [Term.mkN_succ]
    dsimp only
    omega
section
attribute [local irreducible] IntKind.wrap
def plL : List ByteArray := kwT.take 11
def mdL : List ByteArray := kwT.drop 11
theorem lit_el {α : Type} [Inhabited α] {c : α → List AV} {l : List α} {i j : Nat} (hi : i < l.length) : litE (l.map c) i j = elE c l i j := by
  unfold litE elE
  congr 1
  rw [List.getD_eq_getElem?_getD (l := l.map c), List.getElem?_map, List.getElem?_eq_getElem hi, List.getD_eq_getElem?_getD (l := l), List.getElem?_eq_getElem hi]
  rfl
theorem lit_ow {α : Type} [Inhabited α] {c : α → List AV} {l : List α} {css : List (List AV)} {n sz : Nat} (hc : css = l.map c) (hn : n = l.length) : ∀ i j, i < n → j < sz → OwEq (litE css i j) (elE c l i j) := fun i j hi hj => by
  subst hc
  rw [lit_el (by omega)]
  exact .refl _
theorem l06Plain_ok : RetM env.P 60 [] [] (fun r H => r = .row 0 11 ∧ H = [some (rowL 1 strC plL)]) := by
  refine ret_ofM (nt := 2) (rvs := [.tmp 0]) Try.func60 rfl rfl rfl rfl (fun X hX => ?_)
  repeat' (first | omega | (with_reducible show (_ : Int) < _; dsimp only; omega) | (with_reducible show (_ : Nat) ≤ _; dsimp only; omega) | ((with_reducible show SrcOk _ _ _) <;> (first | exact srcOk_1 rfl | exact srcOk_L (fun _ => ⟨rfl, rfl⟩) | exact srcOk_E (fun _ => ⟨rfl, rfl⟩))) | ((conv => whnf) <;> (first | refine And.intro ?_ ?_ | (intro _h; first | contradiction | (try simp only [dd] at _h)) | (refine dt_go ?_) | exact rfl | exact True.intro | exact dkk | exact dks | (refine wrap_succ ?_; omega))))
  conv => whnf
  refine endM_turn (turn_eq (id := 0) (x := rowL 1 strC plL) rfl rfl rfl rfl rfl (lit_ow rfl rfl)) ?_
  exact endM_pick [0] [some (rowL 1 strC plL)] (.row 0 11) viewA rfl rfl (fun k hk => by rw [hX] at hk; exact absurd hk (Nat.not_lt_zero _)) ⟨rfl, rfl⟩
theorem l06Made_ok : Ret env.P 61 [] (fun r => r = slL 1 strC mdL) := by
  refine Ret.ofFrz ?_
  refine ret_ofM (nt := 2) (rvs := [.tmp 0]) Try.func61 rfl rfl rfl rfl (fun X hX => ?_)
  repeat' (first | omega | (with_reducible show (_ : Int) < _; dsimp only; omega) | (with_reducible show (_ : Nat) ≤ _; dsimp only; omega) | ((with_reducible show SrcOk _ _ _) <;> (first | exact srcOk_1 rfl | exact srcOk_L (fun _ => ⟨rfl, rfl⟩) | exact srcOk_E (fun _ => ⟨rfl, rfl⟩))) | ((conv => whnf) <;> (first | refine And.intro ?_ ?_ | (intro _h; first | contradiction | (try simp only [dd] at _h)) | (refine dt_go ?_) | exact rfl | exact True.intro | exact dkk | exact dks | (refine wrap_succ ?_; omega))))
  conv => whnf
  exact endM_self (frz0 (frz_cell rfl (shr_litL (d := 0) (k := 4) (cO := strC) (l := mdL) rfl rfl)) rfl)
structure KwTo (w : ByteArray) (k : Nat) : Prop where
  h : ∀ j, j < k → ¬ kwT.getD j default = w
theorem KwTo.zero (w : ByteArray) : KwTo w 0 := ⟨fun j hj => absurd hj (Nat.not_lt_zero _)⟩
theorem KwTo.next {w : ByteArray} {k : Nat} (h : KwTo w k) (hk : ¬ kwT.getD k default = w) : KwTo w (k + 1) := ⟨fun j hj => by
  by_cases e : j = k
  · subst e; exact hk
  · exact h.h j (by omega)⟩
theorem KwTo.found {w : ByteArray} {k : Nat} (h : KwTo w k) (hlt : k < 23) (hk : kwT.getD k default = w) : kdOf w = ((k + 1 : Nat) : Int) := by
  have e : kwT.findIdx? (fun x => decide (x = w)) = some k := by
    rw [List.findIdx?_eq_some_iff_getElem]
    have hl : k < kwT.length := hlt
    refine ⟨hl, ?_, fun j hj => ?_⟩
    · rw [List.getD_eq_getElem?_getD, List.getElem?_eq_getElem hl] at hk
      simpa using hk
    · have := h.h j hj
      have hl2 : j < kwT.length := Nat.lt_trans hj hl
      rw [List.getD_eq_getElem?_getD, List.getElem?_eq_getElem hl2] at this
      simpa using this
  unfold kdOf
  rw [e]
theorem KwTo.none {w : ByteArray} {k : Nat} (h : KwTo w k) (hk : 23 ≤ k) : kdOf w = 0 := by
  have e : kwT.findIdx? (fun x => decide (x = w)) = .none := by
    rw [List.findIdx?_eq_none_iff]
    intro x hx
    obtain ⟨j, hj, rfl⟩ := List.mem_iff_getElem.1 hx
    have hl : j < 23 := hj
    have := h.h j (by omega)
    rw [List.getD_eq_getElem?_getD, List.getElem?_eq_getElem hj] at this
    simpa using this
  unfold kdOf
  rw [e]
theorem kw_cat : ∀ i j, i < 11 + 12 → j < 1 → OwEq (catE 11 (elE strC plL) (elE strC mdL) i j) (elE strC kwT i j) := fun i j hi hj => by
  rw [catE_at]
  by_cases h : i < 11
  · rw [if_pos h]
    have e : elE strC plL i j = elE strC kwT i j := by
      unfold elE plL
      congr 2
      rw [List.getD_eq_getElem?_getD, List.getD_eq_getElem?_getD, List.getElem?_take, if_pos h]
    rw [e]; exact .refl _
  · rw [if_neg h]
    have e : elE strC mdL (i - 11) j = elE strC kwT i j := by
      unfold elE mdL
      congr 2
      rw [List.getD_eq_getElem?_getD, List.getD_eq_getElem?_getD, List.getElem?_drop, show 11 + (i - 11) = i by omega]
    rw [e]; exact .refl _
set_option maxRecDepth 8000 in
theorem l06Kind_ok (w : ByteArray) : Ret env.P 68 [.s w] (fun r => r = .i .i64 (kdOf w)) := by
  have h23 : kwT.length = 23 := rfl
  have h12 : mdL.length = 12 := rfl
  refine ret_of (nt := 22) (rvs := [.tmp 2]) Try.func68 rfl rfl rfl rfl (fun X => ?_)
  repeat' (first | omega | (with_reducible show (_ : Int) < _; dsimp only; omega) | (with_reducible show (_ : Nat) ≤ _; dsimp only; omega) | ((with_reducible show SrcOk _ _ _) <;> (first | exact srcOk_1 rfl | exact srcOk_L (fun _ => ⟨rfl, rfl⟩) | exact srcOk_E (fun _ => ⟨rfl, rfl⟩))) | ((conv => whnf) <;> (first | (refine lw_turn _ (turn_eq (id := 1) (x := rowL 1 strC kwT) rfl rfl rfl rfl rfl kw_cat) ?_; refine loopN 23 (fun i => [(4, .i .i64 i)]) (fun i => [none, some (.arr ⟨1, 23, elE strC kwT, .arr⟩)]) (fun i => KwTo w i) ⟨.zero w, ?_⟩) | exact arr_same rfl rfl (fun a j => low_cells rfl) | refine And.intro ?_ ?_ | (intro _h; first | contradiction | (try simp only [dd] at _h)) | (refine dt_go ?_) | exact rfl | exact True.intro | exact dkk | exact dks | (refine .inr (.inl (.inl ⟨[], _, _, _, l06Plain_ok, viewA, ⟨rfl, rfl⟩, ?_⟩)); (rintro _ _ ⟨rfl, rfl⟩) <;> (refine ⟨rfl, _, lokA, ?_⟩)) | ((first | refine .inl ⟨_, l06Made_ok, ?_⟩ | refine ⟨_, l06Made_ok, ?_⟩); (try rintro _ rfl)) | (refine wrap_succ ?_; omega))))
  all_goals (try simp only [Int.toNat_natCast] at *)
  all_goals first | omega | (conv => whnf) | skip
  all_goals first
    | exact KwTo.next ‹_› ‹_›
    | exact leaf_i (KwTo.none ‹_› (by omega)).symm
    | (rename_i k _ hk _
       rw [hk.found (by omega) ‹_›]
       exact leaf_i (by rw [wrap_in (by omega) (by omega)]; rfl))
    | trace_state
theorem Reserved_ok (w : ByteArray) : Ret env.P 95 [.s w] (fun r => r = .b (decide (0 < kdOf w))) := by
  refine ret_of (nt := 6) (rvs := [.tmp 2]) Try.func95 rfl rfl rfl rfl (fun X => ?_)
  repeat' (first | omega | (with_reducible show (_ : Int) < _; dsimp only; omega) | (with_reducible show (_ : Nat) ≤ _; dsimp only; omega) | ((with_reducible show SrcOk _ _ _) <;> (first | exact srcOk_1 rfl | exact srcOk_L (fun _ => ⟨rfl, rfl⟩) | exact srcOk_E (fun _ => ⟨rfl, rfl⟩))) | ((conv => whnf) <;> (first | refine And.intro ?_ ?_ | (intro _h; first | contradiction | (try simp only [dd] at _h)) | (refine dt_go ?_) | exact rfl | exact True.intro | exact dkk | exact dks | ((first | refine .inl ⟨_, l06Kind_ok w, ?_⟩ | refine ⟨_, l06Kind_ok w, ?_⟩); (try rintro _ rfl)) | (refine wrap_succ ?_; omega))))
  all_goals exact rfl
theorem fresh_t (L : List Tok) (hL : LexOk L) (a : Nat) (ha : a < L.length) (h : (tkL L a).kind = 1 ∧ nmB (tkL L a).text ∧ kdOf (tkL L a).text = 0) : RetM env.P 73 [some (boxRow (pB L a false))] [.ptr 0 0 0] (fun r H => r = .s (tkL L a).text ∧ H = [some (boxRow (pB L (a + 1) false))]) := by
  have h2 := h.2.2
  refine ret_ofM (nt := 12) (rvs := [.tmp 2]) Try.func73 rfl rfl rfl rfl (fun X hX => ?_)
  repeat' (first | omega | (with_reducible show (_ : Int) < _; dsimp only; omega) | (with_reducible show (_ : Nat) ≤ _; dsimp only; omega) | ((with_reducible show SrcOk _ _ _) <;> (first | exact srcOk_1 rfl | exact srcOk_L (fun _ => ⟨rfl, rfl⟩) | exact srcOk_E (fun _ => ⟨rfl, rfl⟩))) | ((conv => whnf) <;> (first | refine And.intro ?_ ?_ | (intro _h; first | contradiction | (try simp only [dd] at _h)) | (refine dt_go ?_) | exact rfl | exact True.intro | exact dkk | exact dks | ((first | refine .inl ⟨_, Ret.wk (by exact .cons (tWk_rfcp rfl rfl) .nil) (peek_ok L hL a ha), ?_⟩ | refine ⟨_, Ret.wk (by exact .cons (tWk_rfcp rfl rfl) .nil) (peek_ok L hL a ha), ?_⟩); (try rintro _ rfl)) | ((first | refine .inl ⟨_, Reserved_ok _, ?_⟩ | refine ⟨_, Reserved_ok _, ?_⟩); (try rintro _ rfl)) | (refine .inr (.inl (.inl ⟨[0], _, _, _, name_t L hL a ha ⟨h.1, h.2.1⟩, viewA, ⟨rfl, rfl⟩, ?_⟩)); (rintro _ _ ⟨rfl, rfl⟩) <;> (refine ⟨rfl, _, lokA, ?_⟩)) | (refine wrap_succ ?_; omega))))
  all_goals (conv => whnf)
  all_goals first
    | (exfalso; omega)
    | exact endM_self ⟨rfl, rfl⟩
    | trace_state
theorem fresh_f (L : List Tok) (hL : LexOk L) (a : Nat) (ha : a < L.length) (h : ¬ ((tkL L a).kind = 1 ∧ nmB (tkL L a).text ∧ kdOf (tkL L a).text = 0)) : RetM env.P 73 [some (boxRow (pB L a false))] [.ptr 0 0 0] (fun r H => r = .s ⟨#[]⟩ ∧ H = [some (boxRow (pB L a true))]) := by
  by_cases hk : kdOf (tkL L a).text = 0
  · refine ret_ofM (nt := 12) (rvs := [.tmp 2]) Try.func73 rfl rfl rfl rfl (fun X hX => ?_)
    repeat' (first | omega | (with_reducible show (_ : Int) < _; dsimp only; omega) | (with_reducible show (_ : Nat) ≤ _; dsimp only; omega) | ((with_reducible show SrcOk _ _ _) <;> (first | exact srcOk_1 rfl | exact srcOk_L (fun _ => ⟨rfl, rfl⟩) | exact srcOk_E (fun _ => ⟨rfl, rfl⟩))) | ((conv => whnf) <;> (first | refine And.intro ?_ ?_ | (intro _h; first | contradiction | (try simp only [dd] at _h)) | (refine dt_go ?_) | exact rfl | exact True.intro | exact dkk | exact dks | ((first | refine .inl ⟨_, Ret.wk (by exact .cons (tWk_rfcp rfl rfl) .nil) (peek_ok L hL a ha), ?_⟩ | refine ⟨_, Ret.wk (by exact .cons (tWk_rfcp rfl rfl) .nil) (peek_ok L hL a ha), ?_⟩); (try rintro _ rfl)) | ((first | refine .inl ⟨_, Reserved_ok _, ?_⟩ | refine ⟨_, Reserved_ok _, ?_⟩); (try rintro _ rfl)) | (refine .inr (.inl (.inl ⟨[0], _, _, _, name_f L hL a ha (fun q => h ⟨q.1, q.2, hk⟩), viewA, ⟨rfl, rfl⟩, ?_⟩)); (rintro _ _ ⟨rfl, rfl⟩) <;> (refine ⟨rfl, _, lokA, ?_⟩)) | (refine wrap_succ ?_; omega))))
    all_goals (conv => whnf)
    all_goals first
      | (exfalso; omega)
      | exact endM_self ⟨rfl, rfl⟩
      | trace_state
  · have h0 := (kd_rng (tkL L a).text).1
    refine ret_ofM (nt := 12) (rvs := [.tmp 2]) Try.func73 rfl rfl rfl rfl (fun X hX => ?_)
    repeat' (first | omega | (with_reducible show (_ : Int) < _; dsimp only; omega) | (with_reducible show (_ : Nat) ≤ _; dsimp only; omega) | ((with_reducible show SrcOk _ _ _) <;> (first | exact srcOk_1 rfl | exact srcOk_L (fun _ => ⟨rfl, rfl⟩) | exact srcOk_E (fun _ => ⟨rfl, rfl⟩))) | ((conv => whnf) <;> (first | refine And.intro ?_ ?_ | (intro _h; first | contradiction | (try simp only [dd] at _h)) | (refine dt_go ?_) | exact rfl | exact True.intro | exact dkk | exact dks | ((first | refine .inl ⟨_, Ret.wk (by exact .cons (tWk_rfcp rfl rfl) .nil) (peek_ok L hL a ha), ?_⟩ | refine ⟨_, Ret.wk (by exact .cons (tWk_rfcp rfl rfl) .nil) (peek_ok L hL a ha), ?_⟩); (try rintro _ rfl)) | ((first | refine .inl ⟨_, Reserved_ok _, ?_⟩ | refine ⟨_, Reserved_ok _, ?_⟩); (try rintro _ rfl)) | (refine .inr (.inr ⟨_, (fun X => turn_box (id := 0) (ds := pB L a true) rfl rfl rfl (.cons (.refl _) (.cons (.refl _) (.cons (.refl _) .nil)))), (fun i _ q => (by cases q)), .inl ⟨[0], _, _, _, name_b L hL a ha, viewA, ⟨rfl, rfl⟩, ?_⟩⟩); rintro _ _ ⟨rfl, rfl⟩; refine ⟨rfl, _, lokA, ?_⟩) | (refine wrap_succ ?_; omega))))
    all_goals (conv => whnf)
    all_goals first
      | (exfalso; omega)
      | exact endM_self ⟨rfl, rfl⟩
      | trace_state
theorem fresh_b (L : List Tok) (hL : LexOk L) (a : Nat) (ha : a < L.length) : RetM env.P 73 [some (boxRow (pB L a true))] [.ptr 0 0 0] (fun r H => r = .s ⟨#[]⟩ ∧ H = [some (boxRow (pB L a true))]) := by
  refine ret_ofM (nt := 12) (rvs := [.tmp 2]) Try.func73 rfl rfl rfl rfl (fun X hX => ?_)
  repeat' (first | omega | (with_reducible show (_ : Int) < _; dsimp only; omega) | (with_reducible show (_ : Nat) ≤ _; dsimp only; omega) | ((with_reducible show SrcOk _ _ _) <;> (first | exact srcOk_1 rfl | exact srcOk_L (fun _ => ⟨rfl, rfl⟩) | exact srcOk_E (fun _ => ⟨rfl, rfl⟩))) | ((conv => whnf) <;> (first | refine And.intro ?_ ?_ | (intro _h; first | contradiction | (try simp only [dd] at _h)) | (refine dt_go ?_) | exact rfl | exact True.intro | exact dkk | exact dks | ((first | refine .inl ⟨_, Ret.wk (by exact .cons (tWk_rfcp rfl rfl) .nil) (peek_ok L hL a ha), ?_⟩ | refine ⟨_, Ret.wk (by exact .cons (tWk_rfcp rfl rfl) .nil) (peek_ok L hL a ha), ?_⟩); (try rintro _ rfl)) | ((first | refine .inl ⟨_, Reserved_ok _, ?_⟩ | refine ⟨_, Reserved_ok _, ?_⟩); (try rintro _ rfl)) | (refine .inr (.inr ⟨_, (fun X => turn_box (id := 0) (ds := pB L a true) rfl rfl rfl (.cons (.refl _) (.cons (.refl _) (.cons (.refl _) .nil)))), (fun i _ q => (by cases q)), .inl ⟨[0], _, _, _, name_b L hL a ha, viewA, ⟨rfl, rfl⟩, ?_⟩⟩); rintro _ _ ⟨rfl, rfl⟩; refine ⟨rfl, _, lokA, ?_⟩) | (refine .inr (.inl (.inl ⟨[0], _, _, _, name_b L hL a ha, viewA, ⟨rfl, rfl⟩, ?_⟩)); (rintro _ _ ⟨rfl, rfl⟩) <;> (refine ⟨rfl, _, lokA, ?_⟩)) | (refine wrap_succ ?_; omega))))
  all_goals (conv => whnf)
  all_goals first
    | exact endM_self ⟨rfl, rfl⟩
    | trace_state
theorem more_lt (L : List Tok) (hL : LexOk L) (a : Nat) (ha : a < L.length) (n m : Int) (h : ¬ m ≤ n) (ht : isT L ⟨#[44]⟩ a) : RetM env.P 72 [some (boxRow (pB L a false))] [.ptr 0 0 0, .i .i64 n, .i .i64 m] (fun r H => r = .tup [] ∧ H = [some (boxRow (pB L (a + 1) false))]) := by
  refine ret_ofM (nt := 14) (rvs := []) Try.func72 rfl rfl rfl rfl (fun X hX => ?_)
  repeat' (first | omega | (with_reducible show (_ : Int) < _; dsimp only; omega) | (with_reducible show (_ : Nat) ≤ _; dsimp only; omega) | ((with_reducible show SrcOk _ _ _) <;> (first | exact srcOk_1 rfl | exact srcOk_L (fun _ => ⟨rfl, rfl⟩) | exact srcOk_E (fun _ => ⟨rfl, rfl⟩))) | ((conv => whnf) <;> (first | refine And.intro ?_ ?_ | (intro _h; first | contradiction | (try simp only [dd] at _h)) | (refine dt_go ?_) | exact rfl | exact True.intro | exact dkk | exact dks | (refine .inr (.inl (.inl ⟨[0], _, _, _, must_t L hL a ha _ ht, viewA, ⟨rfl, rfl⟩, ?_⟩)); (rintro _ _ ⟨rfl, rfl⟩) <;> (refine ⟨rfl, _, lokA, ?_⟩)) | (refine wrap_succ ?_; omega))))
  all_goals (conv => whnf)
  all_goals first
    | (exfalso; omega)
    | exact endM_self ⟨rfl, rfl⟩
    | trace_state
theorem more_no (L : List Tok) (hL : LexOk L) (a : Nat) (ha : a < L.length) (n m : Int) (h : ¬ m ≤ n) (ht : ¬ isT L ⟨#[44]⟩ a) : RetM env.P 72 [some (boxRow (pB L a false))] [.ptr 0 0 0, .i .i64 n, .i .i64 m] (fun r H => r = .tup [] ∧ H = [some (boxRow (pB L a true))]) := by
  refine ret_ofM (nt := 14) (rvs := []) Try.func72 rfl rfl rfl rfl (fun X hX => ?_)
  repeat' (first | omega | (with_reducible show (_ : Int) < _; dsimp only; omega) | (with_reducible show (_ : Nat) ≤ _; dsimp only; omega) | ((with_reducible show SrcOk _ _ _) <;> (first | exact srcOk_1 rfl | exact srcOk_L (fun _ => ⟨rfl, rfl⟩) | exact srcOk_E (fun _ => ⟨rfl, rfl⟩))) | ((conv => whnf) <;> (first | refine And.intro ?_ ?_ | (intro _h; first | contradiction | (try simp only [dd] at _h)) | (refine dt_go ?_) | exact rfl | exact True.intro | exact dkk | exact dks | (refine .inr (.inl (.inl ⟨[0], _, _, _, must_f L hL a ha _ ht, viewA, ⟨rfl, rfl⟩, ?_⟩)); (rintro _ _ ⟨rfl, rfl⟩) <;> (refine ⟨rfl, _, lokA, ?_⟩)) | (refine wrap_succ ?_; omega))))
  all_goals (conv => whnf)
  all_goals first
    | (exfalso; omega)
    | exact endM_self ⟨rfl, rfl⟩
    | trace_state
theorem more_ge (L : List Tok) (a : Nat) (n m : Int) (h : m ≤ n) : RetM env.P 72 [some (boxRow (pB L a false))] [.ptr 0 0 0, .i .i64 n, .i .i64 m] (fun r H => r = .tup [] ∧ H = [some (boxRow (pB L a true))]) := by
  refine ret_ofM (nt := 14) (rvs := []) Try.func72 rfl rfl rfl rfl (fun X hX => ?_)
  repeat' (first | omega | (with_reducible show (_ : Int) < _; dsimp only; omega) | (with_reducible show (_ : Nat) ≤ _; dsimp only; omega) | ((with_reducible show SrcOk _ _ _) <;> (first | exact srcOk_1 rfl | exact srcOk_L (fun _ => ⟨rfl, rfl⟩) | exact srcOk_E (fun _ => ⟨rfl, rfl⟩))) | ((conv => whnf) <;> (first | refine And.intro ?_ ?_ | (intro _h; first | contradiction | (try simp only [dd] at _h)) | (refine dt_go ?_) | exact rfl | exact True.intro | exact dkk | exact dks | (refine .inr (.inr ⟨_, (fun X => turn_box (id := 0) (ds := pB L a true) rfl rfl rfl (.cons (.refl _) (.cons (.refl _) (.cons (.refl _) .nil)))), (fun i _ q => (by cases q)), .inl ⟨[0], _, _, _, must_b L a _, viewA, ⟨rfl, rfl⟩, ?_⟩⟩); rintro _ _ ⟨rfl, rfl⟩; refine ⟨rfl, _, lokA, ?_⟩) | (refine .inr (.inl (.inl ⟨[0], _, _, _, must_b L a _, viewA, ⟨rfl, rfl⟩, ?_⟩)); (rintro _ _ ⟨rfl, rfl⟩) <;> (refine ⟨rfl, _, lokA, ?_⟩)) | (refine wrap_succ ?_; omega))))
  all_goals (conv => whnf)
  all_goals first
    | (exfalso; omega)
    | exact endM_self ⟨rfl, rfl⟩
    | trace_state
theorem more_b (L : List Tok) (a : Nat) (n m : Int) : RetM env.P 72 [some (boxRow (pB L a true))] [.ptr 0 0 0, .i .i64 n, .i .i64 m] (fun r H => r = .tup [] ∧ H = [some (boxRow (pB L a true))]) := by
  refine ret_ofM (nt := 14) (rvs := []) Try.func72 rfl rfl rfl rfl (fun X hX => ?_)
  repeat' (first | omega | (with_reducible show (_ : Int) < _; dsimp only; omega) | (with_reducible show (_ : Nat) ≤ _; dsimp only; omega) | ((with_reducible show SrcOk _ _ _) <;> (first | exact srcOk_1 rfl | exact srcOk_L (fun _ => ⟨rfl, rfl⟩) | exact srcOk_E (fun _ => ⟨rfl, rfl⟩))) | ((conv => whnf) <;> (first | refine And.intro ?_ ?_ | (intro _h; first | contradiction | (try simp only [dd] at _h)) | (refine dt_go ?_) | exact rfl | exact True.intro | exact dkk | exact dks | (refine .inr (.inr ⟨_, (fun X => turn_box (id := 0) (ds := pB L a true) rfl rfl rfl (.cons (.refl _) (.cons (.refl _) (.cons (.refl _) .nil)))), (fun i _ q => (by cases q)), .inl ⟨[0], _, _, _, must_b L a _, viewA, ⟨rfl, rfl⟩, ?_⟩⟩); rintro _ _ ⟨rfl, rfl⟩; refine ⟨rfl, _, lokA, ?_⟩) | (refine .inr (.inl (.inl ⟨[0], _, _, _, must_b L a _, viewA, ⟨rfl, rfl⟩, ?_⟩)); (rintro _ _ ⟨rfl, rfl⟩) <;> (refine ⟨rfl, _, lokA, ?_⟩)) | (refine wrap_succ ?_; omega))))
  all_goals (conv => whnf)
  all_goals first
    | exact endM_self ⟨rfl, rfl⟩
    | trace_state
end
section
attribute [local irreducible] IntKind.wrap
theorem take_o (L : List Tok) (hL : LexOk L) (a : Nat) (t : ByteArray) (ha : a < L.length) : RetM env.P 71 [some (boxRow (pB L a false))] [.ptr 0 0 0, .s t] (fun r H => (isT L t a ∧ a + 1 < L.length ∧ r = .kb true ∧ H = [some (boxRow (pB L (a + 1) false))]) ∨ (¬ isT L t a ∧ r = .kb false ∧ H = [some (boxRow (pB L a false))])) := by
  by_cases h : isT L t a
  · exact (take_t L hL a ha t h).mono fun r H e => .inl ⟨h, hL.isT_lt ha h, e.1, e.2⟩
  · exact (take_f L hL a ha t h).mono fun r H e => .inr ⟨h, e.1, e.2⟩
theorem must_o (L : List Tok) (hL : LexOk L) (a : Nat) (t : ByteArray) (ha : a < L.length) : RetM env.P 69 [some (boxRow (pB L a false))] [.ptr 0 0 0, .s t] (fun r H => (pNeed L t a = some (a + 1) ∧ a + 1 < L.length ∧ r = .tup [] ∧ H = [some (boxRow (pB L (a + 1) false))]) ∨ (pNeed L t a = none ∧ r = .tup [] ∧ H = [some (boxRow (pB L a true))])) := by
  by_cases h : isT L t a
  · exact (must_t L hL a ha t h).mono fun r H e => .inl ⟨if_pos h, hL.isT_lt ha h, e.1, e.2⟩
  · exact (must_f L hL a ha t h).mono fun r H e => .inr ⟨if_neg h, e.1, e.2⟩
theorem name_o (L : List Tok) (hL : LexOk L) (a : Nat) (ha : a < L.length) : RetM env.P 67 [some (boxRow (pB L a false))] [.ptr 0 0 0] (fun r H => (∃ w, pName L a = some (w, a + 1) ∧ a + 1 < L.length ∧ r = .s w ∧ H = [some (boxRow (pB L (a + 1) false))]) ∨ (pName L a = none ∧ r = .s ⟨#[]⟩ ∧ H = [some (boxRow (pB L a true))])) := by
  by_cases h : (tkL L a).kind = 1 ∧ nmB (tkL L a).text
  · exact (name_t L hL a ha h).mono fun r H e => .inl ⟨_, if_pos h, hL.lt ha (by rw [h.1]; decide), e.1, e.2⟩
  · exact (name_f L hL a ha h).mono fun r H e => .inr ⟨if_neg h, e.1, e.2⟩
theorem fresh_o (L : List Tok) (hL : LexOk L) (a : Nat) (ha : a < L.length) : RetM env.P 73 [some (boxRow (pB L a false))] [.ptr 0 0 0] (fun r H => (∃ w, pIdent L a = some (w, a + 1) ∧ a + 1 < L.length ∧ r = .s w ∧ H = [some (boxRow (pB L (a + 1) false))]) ∨ (pIdent L a = none ∧ r = .s ⟨#[]⟩ ∧ H = [some (boxRow (pB L a true))])) := by
  by_cases h : (tkL L a).kind = 1 ∧ nmB (tkL L a).text ∧ kdOf (tkL L a).text = 0
  · exact (fresh_t L hL a ha h).mono fun r H e => .inl ⟨_, if_pos h, hL.lt ha (by rw [h.1]; decide), e.1, e.2⟩
  · exact (fresh_f L hL a ha h).mono fun r H e => .inr ⟨if_neg h, e.1, e.2⟩
def PPs {α : Type} (L : List Tok) (o : Option (α × Nat)) (R : α → AV) (r : AV) (H : Hp) : Prop :=
  (∃ x a', o = some (x, a') ∧ a' < L.length ∧ r = R x ∧ H = [some (boxRow (pB L a' false))]) ∨ (o = none ∧ ∃ x a', a' < L.length ∧ r = R x ∧ H = [some (boxRow (pB L a' true))])
structure SpT (L : List Tok) (d : Nat) : Prop where
  f : ∀ (a : Nat) (D : Int), a < L.length → D = d → RetM env.P 40 [some (boxRow (pB L a false))] [.ptr 0 0 0, .i .i64 D] (PPs L (pTerm L d a) (fun x => .agg (Term.pN (d + 1) x)))
  b : ∀ (a : Nat) (D : Int), a < L.length → D = d → RetM env.P 40 [some (boxRow (pB L a true))] [.ptr 0 0 0, .i .i64 D] (fun r H => ∃ x a', a' < L.length ∧ r = .agg (Term.pN (d + 1) x) ∧ H = [some (boxRow (pB L a' true))])
theorem endP {X : Ctx} {H H1 : Hp} {r r1 : AV} {post : AV → Hp → Prop} (hv : ViewOk [0] H H1) (hw : WkC (shr (outM [0] 0 H) r) r1) (hp : post r1 H1) : EndM X H r (FrzP [0] post) := endM_self ⟨H1, r1, hv, hw, hp⟩
theorem wk2 {n m : Nat} {g : Nat → Nat → AV} {t0 t1 : Term} (hm : m = 2) (h00 : Wk (g 0 0) (.i .i64 t0.kind)) (h01 : Wk (g 0 1) (.s t0.name)) (h02 : Wk (g 0 2) (slL 1 strC t0.labels)) (h03 : Wk (g 0 3) (slL 4 (Term.pN n) t0.kids))
    (h10 : Wk (g 1 0) (.i .i64 t1.kind)) (h11 : Wk (g 1 1) (.s t1.name)) (h12 : Wk (g 1 2) (slL 1 strC t1.labels)) (h13 : Wk (g 1 3) (slL 4 (Term.pN n) t1.kids)) : Wk (.sl 4 m g) (slL 4 (Term.pN (n + 1)) [t0, t1]) := by
  subst hm
  refine Wk.sl fun i j hi hj => ?_
  rcases (show i = 0 ∨ i = 1 by omega) with rfl | rfl
  · rcases (show j = 0 ∨ j = 1 ∨ j = 2 ∨ j = 3 by omega) with rfl | rfl | rfl | rfl
    · exact h00
    · exact h01
    · exact h02
    · exact h03
  · rcases (show j = 0 ∨ j = 1 ∨ j = 2 ∨ j = 3 by omega) with rfl | rfl | rfl | rfl
    · exact h10
    · exact h11
    · exact h12
    · exact h13
set_option maxRecDepth 8000 in
set_option maxHeartbeats 4000000 in
theorem res_f (L : List Tok) (hL : LexOk L) (d : Nat) (hd : d ≤ 100) (hT : SpT L d) (a : Nat) (D : Int) (ha : a < L.length) (hD : D = d + 1) : RetM env.P 70 [some (boxRow (pB L a false))] [.ptr 0 0 0, .i .i64 D] (PPs L (pRes L (pTerm L d) a) (fun ts => slL 4 (Term.pN (d + 1)) ts)) := by
  refine RetM.frz [0] rfl (plainH_box (by rfl)) ?_
  have hw : IntKind.i64.wrap (D - 1) = d := by rw [wrap_in (by omega) (by omega)]; omega
  refine ret_ofM (nt := 33) (rvs := [.tmp 4]) Try.func70 rfl rfl rfl rfl (fun X hX => ?_)
  repeat' (first | omega | (with_reducible show (_ : Int) < _; dsimp only; omega) | (with_reducible show (_ : Nat) ≤ _; dsimp only; omega) | ((with_reducible show SrcOk _ _ _) <;> (first | exact srcOk_1 rfl | exact srcOk_L (fun _ => ⟨rfl, rfl⟩) | exact srcOk_E (fun _ => ⟨rfl, rfl⟩))) | ((conv => whnf) <;> (first | refine And.intro ?_ ?_ | (intro _h; first | contradiction | (try simp only [dd] at _h)) | (refine dt_go ?_) | exact rfl | exact True.intro | exact dkk | exact dks | (refine .inr (.inl (.inl ⟨[0], _, _, _, take_o L hL _ _ ?_, viewA, ⟨rfl, rfl⟩, ?_⟩)); rotate_left 1; (rintro _ _ (⟨_, _, rfl, rfl⟩ | ⟨_, rfl, rfl⟩)) <;> (refine ⟨rfl, _, lokA, ?_⟩)) | (refine .inr (.inl (.inl ⟨[0], _, _, _, take_b L _ _, viewA, ⟨rfl, rfl⟩, ?_⟩)); (rintro _ _ ⟨rfl, rfl⟩) <;> (refine ⟨rfl, _, lokA, ?_⟩)) | (refine .inr (.inl (.inl ⟨[0], _, _, _, must_o L hL _ _ ?_, viewA, ⟨rfl, rfl⟩, ?_⟩)); rotate_left 1; (rintro _ _ (⟨_, _, rfl, rfl⟩ | ⟨_, rfl, rfl⟩)) <;> (refine ⟨rfl, _, lokA, ?_⟩)) | (refine .inr (.inl (.inl ⟨[0], _, _, _, must_b L _ _, viewA, ⟨rfl, rfl⟩, ?_⟩)); (rintro _ _ ⟨rfl, rfl⟩) <;> (refine ⟨rfl, _, lokA, ?_⟩)) | (refine .inr (.inl (.inl ⟨[0], _, _, _, hT.f _ _ ?_ hw, viewA, ⟨rfl, rfl⟩, ?_⟩)); rotate_left 1; (rintro _ _ (⟨x, a', hp, ha', rfl, rfl⟩ | ⟨hp, x, a', ha', rfl, rfl⟩)) <;> (refine ⟨rfl, _, lokA, ?_⟩)) | (refine .inr (.inl (.inl ⟨[0], _, _, _, hT.b _ _ ?_ hw, viewA, ⟨rfl, rfl⟩, ?_⟩)); rotate_left 1; (rintro _ _ ⟨x, a', ha', rfl, rfl⟩) <;> (refine ⟨rfl, _, lokA, ?_⟩)) | (refine wrap_succ ?_; omega))))
  all_goals (conv => whnf)
  all_goals first
    | (refine endP (view_of rfl (.cons rfl (.self (rowPl_box rfl)) .nil)) (frz_cell rfl (wk2 (n := d) (t0 := _) (t1 := _) rfl (.refl _) (.refl _) (.refl _) (.refl _) (.refl _) (.refl _) (.refl _) (.refl _))) ?_
       first
         | exact .inl ⟨_, _, by simp [pRes, pRes0, pRes1, *], by assumption, rfl, rfl⟩
         | exact .inr ⟨by simp [pRes, pRes0, pRes1, *], _, _, by assumption, rfl, rfl⟩)
    | (refine endP (view_of rfl (.cons rfl (.self (rowPl_box rfl)) .nil)) (frz_cell rfl (wk2 (n := d) (t0 := _) (t1 := unitM) rfl (.refl _) (.refl _) (.refl _) (.refl _) (.refl _) (.refl _) Wk.nilS0 Wk.nilS0)) ?_
       first
         | exact .inl ⟨_, _, by simp [pRes, pRes0, pRes1, *], by assumption, rfl, rfl⟩
         | exact .inr ⟨by simp [pRes, pRes0, pRes1, *], _, _, by assumption, rfl, rfl⟩)
    | (refine endP (view_of rfl (.cons rfl (.self (rowPl_box rfl)) .nil)) (frz_cell rfl (wk2 (n := d) (t0 := unitM) (t1 := _) rfl (.refl _) (.refl _) Wk.nilS0 Wk.nilS0 (.refl _) (.refl _) (.refl _) (.refl _))) ?_
       first
         | exact .inl ⟨_, _, by simp [pRes, pRes0, pRes1, *], by assumption, rfl, rfl⟩
         | exact .inr ⟨by simp [pRes, pRes0, pRes1, *], _, _, by assumption, rfl, rfl⟩)
    | (refine endP (view_of rfl (.cons rfl (.self (rowPl_box rfl)) .nil)) (frz_cell rfl (wk2 (n := d) (t0 := unitM) (t1 := unitM) rfl (.refl _) (.refl _) Wk.nilS0 Wk.nilS0 (.refl _) (.refl _) Wk.nilS0 Wk.nilS0)) ?_
       first
         | exact .inl ⟨_, _, by simp [pRes, pRes0, pRes1, *], by assumption, rfl, rfl⟩
         | exact .inr ⟨by simp [pRes, pRes0, pRes1, *], _, _, by assumption, rfl, rfl⟩)
    | trace_state
end
theorem turn_eqG {X : Ctx} {H : Hp} {id : Nat} {r x : Row} (hr : H[id]? = some (some r)) (h1 : x.sz = r.sz) (h2 : x.cap = r.cap) (hk : x.k.isMp = r.k.isMp) (hkm : r.k.isMp = false) (hes : ∀ i j, i < r.cap → j < r.sz → ∀ (w : World) (S : Nat → Prop) (blk : Nat → BC) (u : Value) (fp : List Nat), Own w S blk (H.set id (some x)) (r.es i j) u fp → Own w S blk (H.set id (some x)) (x.es i j) u fp) : Turn X H (H.set id (some x)) := fun w blk FP hR he => by
  obtain ⟨xsz, xcap, xes, xk⟩ := x
  dsimp only at h1 h2 hk hes
  subst h1 h2
  have hS : ∀ b, X.S FP H w.heap.size b → X.S FP (H.set id (some ⟨r.sz, r.cap, xes, xk⟩)) w.heap.size b := fun b hb => (S_set X FP hr b).2 hb
  have hext := HExt.set (H := H) (r1 := ⟨r.sz, r.cap, xes, xk⟩) blk hr rfl rfl
  refine ⟨blk, FP, ⟨fun k r' hk' => ?_, fun i j r1 r2 hi hj hij => ?_, fun b hb => ⟨hb.2.1, hb.2.2⟩⟩, hext, ?_, hS⟩
  · rcases set_cases hr hk' with ⟨rfl, rfl⟩ | ⟨hne, hk'⟩
    · refine ⟨?_, (hR.rows k r hr).2⟩
      rcases ((hR.rows k r hr).1.mono (fun b hb => ⟨hS b hb, rfl⟩) hext fun _ _ => rfl) with ⟨q1, q2, q3⟩ | ⟨h0, hle, hmp, hb, ty, cur, F, e1, e2, hall, e3, e4, e5⟩
      · refine .inl ⟨q1, q2, .inl ⟨hk.trans hkm, ?_⟩⟩
        rcases q3 with ⟨_, h⟩ | e | ⟨ak, fm, sts, e, _⟩
        · exact h
        · rw [e] at hkm; cases hkm
        · rw [e] at hkm; cases hkm
      · refine .inr ⟨h0, hle, hk.trans hmp, hb, ty, cur, F, e1, e2, hall, fun i j hi hj => ?_, e4, e5⟩
        obtain ⟨u, hu, ho, hc⟩ := e3 i j hi hj
        exact ⟨u, hu, ho, hes i j hi hj _ _ _ _ _ hc⟩
    · obtain ⟨h1, h2⟩ := hR.rows k r' hk'
      exact ⟨h1.mono (fun b hb => ⟨hS b hb, rfl⟩) hext fun _ _ => rfl, h2⟩
  · rcases set_cases hr hi with ⟨hi1, _⟩ | ⟨hne, hi'⟩ <;> rcases set_cases hr hj with ⟨hj1, _⟩ | ⟨hne', hj'⟩
    · omega
    · subst hi1; exact hR.apart i j r r2 hr hj' hij
    · subst hj1; exact hR.apart i j r1 r hi' hr hij
    · exact hR.apart i j r1 r2 hi' hj' hij
  · rintro b ⟨k, r', hk', hb⟩
    rcases set_cases hr hk' with ⟨rfl, rfl⟩ | ⟨hne, hk'⟩
    · exact ⟨k, r, hr, hb⟩
    · exact ⟨k, r', hk', hb⟩
theorem own_nils {w : World} {S : Nat → Prop} {blk : Nat → BC} {H : Hp} {u : Value} {fp : List Nat} {sz : Nat} {g : Nat → Nat → AV} (h : Own w S blk H .nils u fp) : Own w S blk H (.sl sz 0 g) u fp := by
  cases h with
  | plain h =>
    rw [inv_nils h]
    exact .plain (.sl0 none 0 (Nat.zero_le _))
theorem snoc_own {α : Type} [Inhabited α] {k sz : Nat} {c : α → List AV} {l : List α} {a : α} {g : Nat → Nat → AV} {w : World} {S : Nat → Prop} {blk : Nat → BC} {H : Hp} {u : Value} {fp : List Nat} (hk : k = l.length) (hg : ∀ j, j < sz → Own w S blk H (g 0 j) u fp → Own w S blk H ((c a).getD j .any) u fp) {i j : Nat} (hi : i < k + 1) (hj : j < sz) (h : Own w S blk H (catE k (elE c l) g i j) u fp) : Own w S blk H (elE c (l ++ [a]) i j) u fp := by
  rw [catE_at] at h
  unfold elE at h ⊢
  rw [getD_snoc]
  by_cases h' : i < k
  · rw [if_pos h'] at h
    rw [if_pos (by omega)]
    exact h
  · rw [if_neg h', show i - k = 0 by omega] at h
    rw [if_neg (by omega), if_pos (by omega)]
    exact hg j hj h
end Go.Proofs.Ytllcemegnggpfaa
