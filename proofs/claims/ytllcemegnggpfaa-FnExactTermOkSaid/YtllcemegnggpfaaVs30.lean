/- Texts for VTermOkP. -/
import Derived.Test.YtllcemegnggpfaaVs29
namespace Go.Proofs.Ytllcemegnggpfaa
open Go Go.RowKit
set_option linter.unusedVariables false
set_option linter.unusedSimpArgs false
set_option maxRecDepth 8000
section
attribute [local irreducible] IntKind.wrap
inductive KbTo : AV → AV → Prop
  | refl (x : AV) : KbTo x x
  | b {x y : Bool} (h : x = y) : KbTo (.b x) (.kb y)
theorem Own.kto {w : World} {S : Nat → Prop} {blk : Nat → BC} {H : Hp} {x y : AV} {u : Value} {fp : List Nat} (h : Own w S blk H x u fp) (e : KbTo x y) : Own w S blk H y u fp := by
  cases e with
  | refl => exact h
  | b e =>
    subst e
    cases h with
    | plain h => cases h with
      | b => exact .plain (.kb _)
inductive KbToL : List AV → List AV → Prop
  | nil : KbToL [] []
  | cons {x y : AV} {xs ys : List AV} (h : KbTo x y) (r : KbToL xs ys) : KbToL (x :: xs) (y :: ys)
theorem KbToL.len {xs ys : List AV} (h : KbToL xs ys) : xs.length = ys.length := by
  induction h with
  | nil => rfl
  | cons _ _ ih => simp [ih]
theorem KbToL.getD {xs ys : List AV} (h : KbToL xs ys) : ∀ j, KbTo (xs.getD j .any) (ys.getD j .any) := by
  induction h with
  | nil => exact fun j => .refl _
  | cons h _ ih => intro j; cases j with
    | zero => exact h
    | succ j => simpa using ih j
theorem turn_boxK {X : Ctx} {H : Hp} {id : Nat} {r : Row} {ds : List AV} (hr : H[id]? = some (some r)) (hk : r.k = .box) (hc : r.cap = 1) (h : KbToL (cellsAt (r.es 0) 0 r.sz) ds) : Turn X H (H.set id (some (boxRow ds))) :=
  turn_eqG hr (by rw [← cellsAt_length (r.es 0) r.sz 0]; exact h.len.symm) hc.symm (by rw [hk]; rfl) (by rw [hk]; rfl) fun i j hi hj => by
    obtain rfl : i = 0 := by omega
    have := h.getD j
    have e : (cellsAt (r.es 0) 0 r.sz).getD j .any = r.es 0 j := by
      have hl : j < (cellsAt (r.es 0) 0 r.sz).length := by rw [cellsAt_length]; exact hj
      rw [List.getD_eq_getElem?_getD, List.getElem?_eq_getElem hl]
      have := (cellsAt_get (r.es 0) r.sz 0 j _ (List.getElem?_eq_getElem hl)).2
      rw [Nat.zero_add] at this
      exact this
    rw [e] at this
    exact fun w S blk u fp ho => ho.kto this
set_option maxHeartbeats 4000000 in
theorem term_b (L : List Tok) (hL : LexOk L) (m : Nat) (a : Nat) (D : Int) (ha : a < L.length) : RetM env.P 40 [some (boxRow (pB L a true))] [.ptr 0 0 0, .i .i64 D] (fun r H => ∃ x a', a' < L.length ∧ r = .agg (Term.pN (m + 1) x) ∧ H = [some (boxRow (pB L a' true))]) := by
  refine RetM.frz [0] rfl (plainH_box (by rfl)) ?_
  refine ret_ofM (nt := 101) (rvs := [.cell 4 25]) Try.func40 rfl rfl rfl rfl (fun X hX => ?_)
  repeat' (first | omega | (with_reducible show (_ : Int) < _; dsimp only; omega) | (with_reducible show (_ : Nat) ≤ _; dsimp only; omega) | ((with_reducible show SrcOk _ _ _) <;> (first | exact srcOk_1 rfl | exact srcOk_L (fun _ => ⟨rfl, rfl⟩) | exact srcOk_E (fun _ => ⟨rfl, rfl⟩))) | ((conv => whnf) <;> (first | refine And.intro ?_ ?_ | (intro _h; first | contradiction | (try simp only [dd] at _h)) | (refine dt_go ?_) | exact rfl | exact True.intro | exact dkk | exact dks | (refine .inr (.inr ⟨_, (fun X => turn_box (id := 0) (ds := (pB L a true)) rfl rfl rfl (.cons (.refl _) (.cons (.refl _) (.cons (.refl _) .nil)))), (fun i _ q => (by cases q)), .inl ⟨[0], _, _, _, name_b L hL _ ha, viewA, ⟨rfl, rfl⟩, ?_⟩⟩); rintro _ _ ⟨rfl, rfl⟩; refine ⟨rfl, _, lokA, ?_⟩) | ((first | refine .inl ⟨_, l06Kind_ok _, ?_⟩ | refine ⟨_, l06Kind_ok _, ?_⟩); (try rintro _ rfl)) | (refine wrap_succ ?_; omega))))
  all_goals (conv => whnf)
  all_goals exact endP (view_of rfl (.cons rfl (.self (rowPl_box rfl)) .nil)) (frz_agg (.cons (.refl _) (.cons (.refl _) (.cons Wk.nilS0 (.cons Wk.nilS0 .nil))))) ⟨⟨kdOf ⟨#[]⟩, ⟨#[]⟩, [], []⟩, a, ha, rfl, rfl⟩
set_option maxHeartbeats 4000000 in
theorem term_0 (L : List Tok) (hL : LexOk L) (m : Nat) (a : Nat) (ha : a < L.length) : RetM env.P 40 [some (boxRow (pB L a false))] [.ptr 0 0 0, .i .i64 0] (fun r H => ∃ x a', a' < L.length ∧ r = .agg (Term.pN (m + 1) x) ∧ H = [some (boxRow (pB L a' true))]) := by
  refine RetM.frz [0] rfl (plainH_box (by rfl)) ?_
  refine ret_ofM (nt := 101) (rvs := [.cell 4 25]) Try.func40 rfl rfl rfl rfl (fun X hX => ?_)
  repeat' (first | omega | (with_reducible show (_ : Int) < _; dsimp only; omega) | (with_reducible show (_ : Nat) ≤ _; dsimp only; omega) | ((with_reducible show SrcOk _ _ _) <;> (first | exact srcOk_1 rfl | exact srcOk_L (fun _ => ⟨rfl, rfl⟩) | exact srcOk_E (fun _ => ⟨rfl, rfl⟩))) | ((conv => whnf) <;> (first | (refine .inr (.inr ⟨_, (fun X => turn_boxK (id := 0) (ds := pB L a true) rfl rfl rfl (.cons (.refl _) (.cons (.refl _) (.cons (.b (by decide)) .nil)))), (fun i _ q => (by cases q)), .inl ⟨[0], _, _, _, name_b L hL _ ha, viewA, ⟨rfl, rfl⟩, ?_⟩⟩); rintro _ _ ⟨rfl, rfl⟩ <;> refine ⟨rfl, _, lokA, ?_⟩) | refine And.intro ?_ ?_ | (intro _h; first | contradiction | (try simp only [dd] at _h)) | (refine dt_go ?_) | exact rfl | exact True.intro | exact dkk | exact dks | ((first | refine .inl ⟨_, l06Kind_ok _, ?_⟩ | refine ⟨_, l06Kind_ok _, ?_⟩); (try rintro _ rfl)) | (refine wrap_succ ?_; omega))))
  all_goals (conv => whnf)
  all_goals exact endP (view_of rfl (.cons rfl (.self (rowPl_box rfl)) .nil)) (frz_agg (.cons (.refl _) (.cons (.refl _) (.cons Wk.nilS0 (.cons Wk.nilS0 .nil))))) ⟨⟨kdOf ⟨#[]⟩, ⟨#[]⟩, [], []⟩, a, ha, rfl, rfl⟩
section
variable {E : Env} {nt : Nat} {X : Ctx} {f : Fr} {H : Hp}
theorem lw_sub {P : Program} {c : Code} {Q : Exit → Fr → Hp → Prop} {g : Fr} (hf : frP f g) (h : LW P nt X c g H Q) : LW P nt X c f H Q :=
  ⟨fun a w ⟨blk, FP, s⟩ => h.pw a w ⟨blk, FP, s.refr (g := g) fun t hc => by
    rcases frP_lk hf t with q | q
    · rw [q]; exact .any _
    · rw [q]; exact hc⟩⟩
end
theorem wkt1 {n m : Nat} {g : Nat → Nat → AV} {t0 : Term} (hm : m = 1) (h00 : Wk (g 0 0) (.i .i64 t0.kind)) (h01 : Wk (g 0 1) (.s t0.name)) (h02 : Wk (g 0 2) (slL 1 strC t0.labels)) (h03 : Wk (g 0 3) (slL 4 (Term.pN n) t0.kids)) : Wk (.sl 4 m g) (slL 4 (Term.pN (n + 1)) [t0]) := by
  subst hm
  refine Wk.sl fun i j hi hj => ?_
  obtain rfl : i = 0 := by omega
  rcases (show j = 0 ∨ j = 1 ∨ j = 2 ∨ j = 3 by omega) with rfl | rfl | rfl | rfl
  · exact h00
  · exact h01
  · exact h02
  · exact h03
noncomputable def pTu (L : List Tok) (P : Nat → Option (Term × Nat)) (i : Nat) : Option (List Term × Nat) := match pNeed L ⟨#[60]⟩ i with
  | none => none
  | some i => pList L P 5 [] i
theorem pT_no {L : List Tok} {d a : Nat} (hw : pName L a = none) : pTerm L (d + 1) a = none := by simp [pTerm, hw]
theorem pT_nm {L : List Tok} {d a i : Nat} {w : ByteArray} (hw : pName L a = some (w, i)) (hk : kdOf w = 0) : pTerm L (d + 1) a = some (⟨30, w, [], []⟩, i) := by simp [pTerm, hw, hk]
theorem pT_ne {L : List Tok} {d a i : Nat} {w : ByteArray} (hw : pName L a = some (w, i)) (hk : ¬ kdOf w = 0) : pTerm L (d + 1) a = pRest L (pTerm L d) (kdOf w) i := by simp [pTerm, hw, hk]
theorem pRest_tup {L : List Tok} {P : Nat → Option (Term × Nat)} {k : Int} {i : Nat} (hk : k = 15) : pRest L P k i = match pTu L P i with
    | none => none
    | some (ts, i) => some (⟨k, ⟨#[]⟩, [], ts⟩, i) := by
  subst hk
  simp only [pRest, pTu]
  cases pNeed L ⟨#[60]⟩ i with
  | none => simp
  | some j => simp only []; cases pList L P 5 [] j <;> simp
theorem pRest_lab {L : List Tok} {P : Nat → Option (Term × Nat)} {k : Int} {i : Nat} (h0 : 16 ≤ k) (h1 : k ≤ 19) : pRest L P k i = match pLb L P k i with
    | none => none
    | some (x, i) => some (⟨k, ⟨#[]⟩, x.1, x.2⟩, i) := by
  unfold pRest pLb
  rw [if_neg (by omega), if_neg (by omega), if_neg (by omega), if_neg (by omega), if_neg (by omega)]
  cases pNeed L ⟨#[123]⟩ i with
  | none => simp
  | some j => simp only []; cases pLabs L P k 15 [] [] j <;> simp
set_option maxHeartbeats 40000000 in
theorem term_f (L : List Tok) (hL : LexOk L) (d : Nat) (hd : d ≤ 100) (hT : SpT L d) (a : Nat) (D : Int) (ha : a < L.length) (hD : D = d + 1) : RetM env.P 40 [some (boxRow (pB L a false))] [.ptr 0 0 0, .i .i64 D] (PPs L (pTerm L (d + 1) a) (fun x => .agg (Term.pN (d + 2) x))) := by
  have hw : IntKind.i64.wrap (D - 1) = d := by rw [wrap_in (by omega) (by omega)]; omega
  refine RetM.frz [0] rfl (plainH_box (by rfl)) ?_
  refine ret_ofM (nt := 101) (rvs := [.cell 4 25]) Try.func40 rfl rfl rfl rfl (fun X hX => ?_)
  repeat' (first | omega | (with_reducible show (_ : Int) < _; dsimp only; omega) | (with_reducible show (_ : Nat) ≤ _; dsimp only; omega) | ((with_reducible show SrcOk _ _ _) <;> (first | exact srcOk_1 rfl | exact srcOk_L (fun _ => ⟨rfl, rfl⟩) | exact srcOk_E (fun _ => ⟨rfl, rfl⟩))) | ((conv => whnf) <;> (first | (refine .inr (.inr ⟨_, (fun X => turn_boxK (id := 0) (ds := pB L a false) rfl rfl rfl (.cons (.refl _) (.cons (.refl _) (.cons (.b (by first | exact decide_eq_false (by omega) | (simp only [decide_eq_false_iff_not]; omega))) .nil)))), (fun i _ q => (by cases q)), .inl ⟨[0], _, _, _, name_o L hL _ ha, viewA, ⟨rfl, rfl⟩, ?_⟩⟩); rintro _ _ (⟨w, hw1, hw2, rfl, rfl⟩ | ⟨hw1, rfl, rfl⟩) <;> refine ⟨rfl, _, lokA, ?_⟩) | (refine .inr (.inr ⟨_, (fun X => turn_box (id := 2) (ds := tB d (kdOf w) [] []) rfl rfl rfl (.cons (.refl _) (.cons (.refl _) (.cons (.nil _ _) (.cons (.nil _ _) .nil))))), (fun i _ q => (by cases q)), .inl ⟨[0, 2], _, _, _, labs_f L hL d hd hT _ _ _ (by assumption) hD, viewA, ⟨rfl, rfl⟩, ?_⟩⟩); rintro _ _ ⟨rfl, (⟨ls, ts, a', hpl, ha', rfl⟩ | ⟨hpl, ls, ts, a', ha', rfl⟩)⟩ <;> refine ⟨rfl, _, lokA, ?_⟩) | ((with_reducible show LW _ _ _ _ _ _ _); refine lw_sub (g := [(0, .ptr 0 0 0), (1, .i .i64 D), (4, .ptr 1 0 0), (6, .ptr 2 0 0)]) (by repeat' (first | exact trivial | refine And.intro rfl ?_)) ?_; refine lw_turn _ (turn_box (id := 2) (ds := tU d (kdOf w) []) rfl rfl rfl (.cons (.refl _) (.cons (.refl _) (.cons (.refl _) (.cons (.nil _ _) .nil))))) ?_; first | refine loopFT (fun y : USt => []) (fun y => y.rowI L d (kdOf w)) (UsI L (pTerm L d) (pTu L (pTerm L d) (a + 1))) USt.mu (.ok [] (a + 1 + 1)) ⟨⟨by simp, by assumption, by simp [pTu, *]⟩, ?_⟩ | refine loopFT (fun y : USt => []) (fun y => y.rowI L d (kdOf w)) (UsI L (pTerm L d) (pTu L (pTerm L d) (a + 1))) USt.mu (.bad [] (a + 1)) ⟨⟨by simp, by assumption, by simp [pTu, *]⟩, ?_⟩) | ((with_reducible show ∀ _, UsI _ _ _ _ → _); refine UsI.both (fun ts i hl1 hi ho => ?_) (fun ts i hl1 hi ho => ?_)) | ((with_reducible show DT _ _ _ 21 _ _ _ _); refine dt_cutR (by repeat' (first | exact trivial | refine And.intro rfl ?_)) (ru21_ok L d (kdOf w) D hT hd hD hw ts i (by omega) hi) (UtI.both (fun t i2 hp2 hi2 => ?_) (fun t i2 hp2 hi2 => ?_))) | refine And.intro ?_ ?_ | (intro _h; first | contradiction | (try simp only [dd] at _h)) | (refine dt_go ?_) | exact rfl | exact True.intro | exact dkk | exact dks | ((first | refine .inl ⟨_, l06Kind_ok _, ?_⟩ | refine ⟨_, l06Kind_ok _, ?_⟩); (try rintro _ rfl)) | (refine .inr (.inl (.inl ⟨[0], _, _, _, must_o L hL _ _ ?_, viewA, ⟨rfl, rfl⟩, ?_⟩)); rotate_left 1; (rintro _ _ (⟨_hm, _, rfl, rfl⟩ | ⟨_hm, rfl, rfl⟩)) <;> (refine ⟨rfl, _, lokA, ?_⟩)) | (refine .inr (.inl (.inl ⟨[0], _, _, _, must_b L _ _, viewA, ⟨rfl, rfl⟩, ?_⟩)); (rintro _ _ ⟨rfl, rfl⟩) <;> (refine ⟨rfl, _, lokA, ?_⟩)) | (refine .inr (.inl (.inl ⟨[0], _, _, _, hT.f _ _ ?_ hw, viewA, ⟨rfl, rfl⟩, ?_⟩)); rotate_left 1; (rintro _ _ (⟨x, a', hp, ha', rfl, rfl⟩ | ⟨hp, x, a', ha', rfl, rfl⟩)) <;> (refine ⟨rfl, _, lokA, ?_⟩)) | (refine .inr (.inl (.inl ⟨[0], _, _, _, hT.b _ _ ?_ hw, viewA, ⟨rfl, rfl⟩, ?_⟩)); rotate_left 1; (rintro _ _ ⟨x, a', ha', rfl, rfl⟩) <;> (refine ⟨rfl, _, lokA, ?_⟩)) | (refine .inr (.inl (.inl ⟨[0], _, _, _, res_f L hL d hd hT _ _ ?_ hD, viewA, ⟨rfl, rfl⟩, ?_⟩)); rotate_left 1; (rintro _ _ (⟨x, a', hp, ha', rfl, rfl⟩ | ⟨hp, x, a', ha', rfl, rfl⟩)) <;> (refine ⟨rfl, _, lokA, ?_⟩)) | (refine .inr (.inl (.inl ⟨[0], _, _, _, fresh_o L hL _ ?_, viewA, ⟨rfl, rfl⟩, ?_⟩)); rotate_left 1; (rintro _ _ (⟨v, hp, _, rfl, rfl⟩ | ⟨hp, rfl, rfl⟩)) <;> (refine ⟨rfl, _, lokA, ?_⟩)) | (refine .inr (.inl (.inl ⟨[0], _, _, _, fresh_b L hL _ ?_, viewA, ⟨rfl, rfl⟩, ?_⟩)); rotate_left 1; (rintro _ _ ⟨rfl, rfl⟩) <;> (refine ⟨rfl, _, lokA, ?_⟩)) | (refine .inr (.inl (.inl ⟨[0], _, _, _, take_o L hL _ _ ?_, viewA, ⟨rfl, rfl⟩, ?_⟩)); rotate_left 1; (rintro _ _ (⟨_ht, _, rfl, rfl⟩ | ⟨_ht, rfl, rfl⟩)) <;> (refine ⟨rfl, _, lokA, ?_⟩)) | (refine .inr (.inl (.inl ⟨[0], _, _, _, take_b L _ _, viewA, ⟨rfl, rfl⟩, ?_⟩)); (rintro _ _ ⟨rfl, rfl⟩) <;> (refine ⟨rfl, _, lokA, ?_⟩)) | (refine .inr (.inl (.inl ⟨[0], _, _, _, more_o L hL _ ?_ _ _, viewA, ⟨rfl, rfl⟩, ?_⟩)); rotate_left 1; (rintro _ _ (⟨hn, _hm, _, rfl, rfl⟩ | ⟨hm, rfl, rfl⟩)) <;> (refine ⟨rfl, _, lokA, ?_⟩)) | (refine .inr (.inl (.inl ⟨[0], _, _, _, more_b L _ _ _, viewA, ⟨rfl, rfl⟩, ?_⟩)); (rintro _ _ ⟨rfl, rfl⟩) <;> (refine ⟨rfl, _, lokA, ?_⟩)) | (refine wrap_succ ?_; omega))))
  all_goals (first | (conv => whnf) | skip)
  all_goals try (have hkr := kd_rng w)
  all_goals first
    | (have _g := ls; refine endP (r1 := .agg (Term.pN (d + 2) ⟨kdOf w, ⟨#[]⟩, ls, ts⟩)) (view_of rfl (.cons rfl (.self (rowPl_box rfl)) .nil)) (frz_agg (.cons (.refl _) (.cons (.refl _) (.cons (by first | exact Wk.nilS0 | exact shr_L (d := 0) (k := 4) rfl | exact shr_L (d := 0) (k := 5) rfl | exact Wk.refl _) (.cons (by first | exact Wk.nilS0 | exact shr_L (d := 0) (k := 4) rfl | exact shr_L (d := 0) (k := 5) rfl | exact wkt1 rfl (.refl _) (.refl _) (.refl _) (.refl _) | exact Wk.refl _) .nil))))) ?_; first | exact .inl ⟨⟨kdOf w, ⟨#[]⟩, ls, ts⟩, _, by (rw [pT_ne hw1 (by omega), pRest_lab (by omega) (by omega), hpl]), by assumption, rfl, rfl⟩ | exact .inr ⟨by (rw [pT_ne hw1 (by omega), pRest_lab (by omega) (by omega), hpl]), ⟨kdOf w, ⟨#[]⟩, ls, ts⟩, _, by assumption, rfl, rfl⟩)
    | (have _g := t; refine endP (r1 := .agg (Term.pN (d + 2) ⟨kdOf w, ⟨#[]⟩, [], ts ++ [t]⟩)) (view_of rfl (.cons rfl (.self (rowPl_box rfl)) .nil)) (frz_agg (.cons (.refl _) (.cons (.refl _) (.cons (by first | exact Wk.nilS0 | exact shr_L (d := 0) (k := 4) rfl | exact shr_L (d := 0) (k := 5) rfl | exact Wk.refl _) (.cons (by first | exact Wk.nilS0 | exact shr_L (d := 0) (k := 4) rfl | exact shr_L (d := 0) (k := 5) rfl | exact wkt1 rfl (.refl _) (.refl _) (.refl _) (.refl _) | exact Wk.refl _) .nil))))) ?_; first | exact .inl ⟨⟨kdOf w, ⟨#[]⟩, [], ts ++ [t]⟩, _, by (rw [pT_ne hw1 (by omega), pRest_tup (by omega), uls_end hp2 (by assumption) ho]), by assumption, rfl, rfl⟩ | exact .inr ⟨by (rw [pT_ne hw1 (by omega), pRest_tup (by omega), uls_end hp2 (by assumption) ho]), ⟨kdOf w, ⟨#[]⟩, [], ts ++ [t]⟩, _, by assumption, rfl, rfl⟩)
    | (have _g := ts; refine endP (r1 := .agg (Term.pN (d + 2) ⟨kdOf w, ⟨#[]⟩, [], ts⟩)) (view_of rfl (.cons rfl (.self (rowPl_box rfl)) .nil)) (frz_agg (.cons (.refl _) (.cons (.refl _) (.cons (by first | exact Wk.nilS0 | exact shr_L (d := 0) (k := 4) rfl | exact shr_L (d := 0) (k := 5) rfl | exact Wk.refl _) (.cons (by first | exact Wk.nilS0 | exact shr_L (d := 0) (k := 4) rfl | exact shr_L (d := 0) (k := 5) rfl | exact wkt1 rfl (.refl _) (.refl _) (.refl _) (.refl _) | exact Wk.refl _) .nil))))) ?_; first | exact .inl ⟨⟨kdOf w, ⟨#[]⟩, [], ts⟩, _, by (rw [pT_ne hw1 (by omega), pRest_tup (by omega), ho]), by assumption, rfl, rfl⟩ | exact .inr ⟨by (rw [pT_ne hw1 (by omega), pRest_tup (by omega), ho]), ⟨kdOf w, ⟨#[]⟩, [], ts⟩, _, by assumption, rfl, rfl⟩)
    | (have _g := v; refine endP (r1 := .agg (Term.pN (d + 2) ⟨kdOf w, v, [], []⟩)) (view_of rfl (.cons rfl (.self (rowPl_box rfl)) .nil)) (frz_agg (.cons (.refl _) (.cons (.refl _) (.cons (by first | exact Wk.nilS0 | exact shr_L (d := 0) (k := 4) rfl | exact shr_L (d := 0) (k := 5) rfl | exact Wk.refl _) (.cons (by first | exact Wk.nilS0 | exact shr_L (d := 0) (k := 4) rfl | exact shr_L (d := 0) (k := 5) rfl | exact wkt1 rfl (.refl _) (.refl _) (.refl _) (.refl _) | exact Wk.refl _) .nil))))) ?_; first | exact .inl ⟨⟨kdOf w, v, [], []⟩, _, by (rw [pT_ne hw1 (by omega)]; simp [pRest, *]), by assumption, rfl, rfl⟩ | exact .inr ⟨by (rw [pT_ne hw1 (by omega)]; simp [pRest, *]), ⟨kdOf w, v, [], []⟩, _, by assumption, rfl, rfl⟩)
    | (have _g : Term := x; refine endP (r1 := .agg (Term.pN (d + 2) ⟨kdOf w, ⟨#[]⟩, [], [x]⟩)) (view_of rfl (.cons rfl (.self (rowPl_box rfl)) .nil)) (frz_agg (.cons (.refl _) (.cons (.refl _) (.cons (by first | exact Wk.nilS0 | exact shr_L (d := 0) (k := 4) rfl | exact shr_L (d := 0) (k := 5) rfl | exact Wk.refl _) (.cons (by first | exact Wk.nilS0 | exact shr_L (d := 0) (k := 4) rfl | exact shr_L (d := 0) (k := 5) rfl | exact wkt1 rfl (.refl _) (.refl _) (.refl _) (.refl _) | exact Wk.refl _) .nil))))) ?_; first | exact .inl ⟨⟨kdOf w, ⟨#[]⟩, [], [x]⟩, _, by (rw [pT_ne hw1 (by omega)]; simp [pRest, *]), by assumption, rfl, rfl⟩ | exact .inr ⟨by (rw [pT_ne hw1 (by omega)]; simp [pRest, *]), ⟨kdOf w, ⟨#[]⟩, [], [x]⟩, _, by assumption, rfl, rfl⟩)
    | (have _g : List Term := x; refine endP (r1 := .agg (Term.pN (d + 2) ⟨kdOf w, ⟨#[]⟩, [], x⟩)) (view_of rfl (.cons rfl (.self (rowPl_box rfl)) .nil)) (frz_agg (.cons (.refl _) (.cons (.refl _) (.cons (by first | exact Wk.nilS0 | exact shr_L (d := 0) (k := 4) rfl | exact shr_L (d := 0) (k := 5) rfl | exact Wk.refl _) (.cons (by first | exact Wk.nilS0 | exact shr_L (d := 0) (k := 4) rfl | exact shr_L (d := 0) (k := 5) rfl | exact wkt1 rfl (.refl _) (.refl _) (.refl _) (.refl _) | exact Wk.refl _) .nil))))) ?_; first | exact .inl ⟨⟨kdOf w, ⟨#[]⟩, [], x⟩, _, by (rw [pT_ne hw1 (by omega)]; simp [pRest, *]), by assumption, rfl, rfl⟩ | exact .inr ⟨by (rw [pT_ne hw1 (by omega)]; simp [pRest, *]), ⟨kdOf w, ⟨#[]⟩, [], x⟩, _, by assumption, rfl, rfl⟩)
    | (have _g : kdOf w = 0 := (by assumption); refine endP (r1 := .agg (Term.pN (d + 2) ⟨30, w, [], []⟩)) (view_of rfl (.cons rfl (.self (rowPl_box rfl)) .nil)) (frz_agg (.cons (.refl _) (.cons (.refl _) (.cons (by first | exact Wk.nilS0 | exact shr_L (d := 0) (k := 4) rfl | exact shr_L (d := 0) (k := 5) rfl | exact Wk.refl _) (.cons (by first | exact Wk.nilS0 | exact shr_L (d := 0) (k := 4) rfl | exact shr_L (d := 0) (k := 5) rfl | exact wkt1 rfl (.refl _) (.refl _) (.refl _) (.refl _) | exact Wk.refl _) .nil))))) ?_; first | exact .inl ⟨⟨30, w, [], []⟩, _, by exact pT_nm hw1 (by assumption), by assumption, rfl, rfl⟩ | exact .inr ⟨by exact pT_nm hw1 (by assumption), ⟨30, w, [], []⟩, _, by assumption, rfl, rfl⟩)
    | (have _g := w; refine endP (r1 := .agg (Term.pN (d + 2) ⟨kdOf w, ⟨#[]⟩, [], []⟩)) (view_of rfl (.cons rfl (.self (rowPl_box rfl)) .nil)) (frz_agg (.cons (.refl _) (.cons (.refl _) (.cons (by first | exact Wk.nilS0 | exact shr_L (d := 0) (k := 4) rfl | exact shr_L (d := 0) (k := 5) rfl | exact Wk.refl _) (.cons (by first | exact Wk.nilS0 | exact shr_L (d := 0) (k := 4) rfl | exact shr_L (d := 0) (k := 5) rfl | exact wkt1 rfl (.refl _) (.refl _) (.refl _) (.refl _) | exact Wk.refl _) .nil))))) ?_; first | exact .inl ⟨⟨kdOf w, ⟨#[]⟩, [], []⟩, _, by (rw [pT_ne hw1 (by omega)]; first | (have hle : kdOf w ≤ 11 := (by omega); simp [pRest, hle]) | simp [pRest, *]), by assumption, rfl, rfl⟩ | exact .inr ⟨by (rw [pT_ne hw1 (by omega)]; first | (have hle : kdOf w ≤ 11 := (by omega); simp [pRest, hle]) | simp [pRest, *]), ⟨kdOf w, ⟨#[]⟩, [], []⟩, _, by assumption, rfl, rfl⟩)
    | (skip; refine endP (r1 := .agg (Term.pN (d + 2) ⟨kdOf ⟨#[]⟩, ⟨#[]⟩, [], []⟩)) (view_of rfl (.cons rfl (.self (rowPl_box rfl)) .nil)) (frz_agg (.cons (.refl _) (.cons (.refl _) (.cons (by first | exact Wk.nilS0 | exact shr_L (d := 0) (k := 4) rfl | exact shr_L (d := 0) (k := 5) rfl | exact Wk.refl _) (.cons (by first | exact Wk.nilS0 | exact shr_L (d := 0) (k := 4) rfl | exact shr_L (d := 0) (k := 5) rfl | exact wkt1 rfl (.refl _) (.refl _) (.refl _) (.refl _) | exact Wk.refl _) .nil))))) ?_; first | exact .inl ⟨⟨kdOf ⟨#[]⟩, ⟨#[]⟩, [], []⟩, _, by exact pT_no hw1, by assumption, rfl, rfl⟩ | exact .inr ⟨by exact pT_no hw1, ⟨kdOf ⟨#[]⟩, ⟨#[]⟩, [], []⟩, _, by assumption, rfl, rfl⟩)
    | skip
  all_goals try first
    | refine roundET_turn (turn_close (id := 2) (i := 0) (j := 3) (id' := 6) (n := (ts ++ [t]).length) rfl (show 0 < 1 by decide) (show 3 < 4 by decide) rfl rfl (show 2 ≠ 6 by decide) rfl (rowO_L (c := Term.pN (d + 1)) (l := ts ++ [t]))) ?_
  all_goals try (refine roundET_turn (turn_box (id := 2) (ds := tU d (kdOf w) (ts ++ [t])) rfl rfl rfl (.cons (.refl _) (.cons (.refl _) (.cons (.refl _) (.cons (.refl _) .nil))))) ?_; refine roundET_end ?_)
  all_goals try first
    | (have hG := uls_go hl1 hp2 (by assumption) hn (by assumption) ho
       refine ⟨.ok (ts ++ [t]) _, [], ⟨hG.1, (by assumption), hG.2⟩, (by have := hG.1; simp only [USt.mu, List.length_append, List.length_singleton] at this ⊢; omega), ?_⟩)
    | refine ⟨.bad (ts ++ [t]) _, [], ⟨(by simp only [List.length_append, List.length_singleton]; omega), (by assumption), by first | exact uls_n1 hp2 ho | exact uls_n3 hl1 hp2 (by assumption) hm ho⟩, (by simp only [USt.mu]; omega), ?_⟩
  repeat' (first | omega | (with_reducible show (_ : Int) < _; dsimp only; omega) | (with_reducible show (_ : Nat) ≤ _; dsimp only; omega) | ((with_reducible show SrcOk _ _ _) <;> (first | exact srcOk_1 rfl | exact srcOk_L (fun _ => ⟨rfl, rfl⟩) | exact srcOk_E (fun _ => ⟨rfl, rfl⟩))) | ((conv => whnf) <;> (first | exact fx_T (show 2 < 3 by decide) | exact low_cells rfl | exact keeps0_nil _ _ | refine And.intro ?_ ?_ | (intro _h; first | contradiction | (try simp only [dd] at _h)) | (refine dt_go ?_) | exact rfl | exact True.intro | exact dkk | exact dks | (refine wrap_succ ?_; omega))))
end
end Go.Proofs.Ytllcemegnggpfaa
