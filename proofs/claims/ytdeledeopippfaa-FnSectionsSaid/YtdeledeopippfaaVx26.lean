/- Texts for VSectionsP. -/
import Derived.Test.YtdeledeopippfaaVx24
import Derived.Test.YtdeledeopippfaaVx25
namespace Go.Proofs.Ytdeledeopippfaa
open Go Go.RowKit
set_option linter.unusedVariables false
set_option linter.unusedSimpArgs false
section
attribute [local irreducible] IntKind.wrap
def Core.csO (a : Core) : List AV := [.s a.name, .i .i64 a.params, .i .i64 a.locals, .b a.result, owL 2 Ins.cs a.code]
instance : HoldC Core.csO := ⟨fun a => (idf_cons trivial (idf_cons trivial (idf_cons trivial (idf_cons trivial (idf_cons owL_idf idf_nil)))))⟩
instance : FreeC Core.csO := ⟨fun a => (free_cons trivial (free_cons trivial (free_cons trivial (free_cons trivial (free_cons owL_free free_nil)))))⟩
instance : Shr 1 Core.csO Core.cs := ⟨fun H k a => (.cons (.refl _) (.cons (.refl _) (.cons (.refl _) (.cons (.refl _) (.cons (shr_ow (d := 0) (k := k + 0)) .nil)))))⟩
structure ImD (l : List Import) : Prop where
  len : l.length ≤ 2
  p : ∀ k, k < l.length → 0 ≤ (l.getD k default).params ∧ (l.getD k default).params ≤ 2
structure CoD (l : List Core) : Prop where
  pos : 1 ≤ l.length
  len : l.length ≤ 3
  p : ∀ k, k < l.length → 0 ≤ (l.getD k default).params ∧ (l.getD k default).params ≤ 2
def DeedP (s : Src) (im : List Import) (co : List Core) (c n : Nat) (r : AV) (H : Hp) : Prop := ∃ (l : List Ins) (t : Src) (k : Nat), (AllG l ∧ l.length ≤ n) ∧ (s.at' ≤ t.at' ∧ t.at' ≤ s.at' + c ∧ t.code.length = s.code.length) ∧ k = l.length ∧ r = .row 3 k ∧ H = [some (boxRow t.cs), some (rowL 3 Import.cs im), some (rowL 5 Core.csO co), some (rowL 2 Ins.cs l)]
structure VcS where
  k : Nat
  l : List Ins
  n : Nat
  t : Src
structure VcI (s : Src) (c v m : Nat) (y : VcS) : Prop where
  hk : y.k ≤ m
  hg : AllG y.l
  hn : y.n = y.l.length
  hv : y.n ≤ y.k * v
  lo : s.at' ≤ y.t.at'
  hi : y.t.at' ≤ s.at' + y.k * c
  cd : y.t.code.length = s.code.length
theorem VcI.zero {s : Src} {c v m : Nat} : VcI s c v m ⟨0, [], 0, s⟩ := ⟨Nat.zero_le _, (fun x hx => by cases hx), rfl, Nat.zero_le _, Int.le_refl _, by show s.at' ≤ s.at' + ((0 : Nat) : Int) * c; omega, rfl⟩
theorem VcI.next {s t : Src} {c v m k3 : Nat} {y : VcS} {l : List Ins} (h : VcI s c v m y) (hk : y.k < m) (hl : AllG l ∧ l.length ≤ v) (h3 : k3 = l.length) (ht : y.t.at' ≤ t.at' ∧ t.at' ≤ y.t.at' + c ∧ t.code.length = y.t.code.length) : VcI s c v m ⟨y.k + 1, y.l ++ l, y.n + k3, t⟩ := by
  have h1 := h.hn
  have h2 := h.hv
  have h4 := h.lo
  have h5 := h.hi
  have h6 := h.cd
  refine ⟨hk, h.hg.app hl.1, ?_, ?_, ?_, ?_, ?_⟩
  · show y.n + k3 = (y.l ++ l).length
    rw [List.length_append]; omega
  · show y.n + k3 ≤ (y.k + 1) * v
    rw [Nat.add_mul, Nat.one_mul]; omega
  · show s.at' ≤ t.at'
    omega
  · show t.at' ≤ s.at' + ((y.k + 1 : Nat) : Int) * c
    rw [Int.natCast_add, Int.add_mul]
    have : ((1 : Nat) : Int) * (c : Int) = c := by simp
    omega
  · show t.code.length = s.code.length
    omega
theorem VcI.sm {s : Src} {y : VcS} (h : VcI s 32 6 2 y) : y.n ≤ 12 ∧ (s.at' ≤ y.t.at' ∧ y.t.at' ≤ s.at' + 64 ∧ y.t.code.length = s.code.length) := by
  obtain ⟨h1, h2, h3, h4, h5, h6, h7⟩ := h
  have : y.k * 6 ≤ 2 * 6 := Nat.mul_le_mul_right _ h1
  have h8 : y.k * 32 ≤ 2 * 32 := Nat.mul_le_mul_right _ h1
  omega
theorem vc_rm {s : Src} {y : VcS} (h : VcI s 32 6 2 y) (h1 : 0 ≤ s.at') (h2 : s.at' + 96 ≤ 100000000) (h3 : s.code.length ≤ 2000000) : y.t.rm 32 := by
  have q := h.sm
  exact Src.rm_i (by omega) (by omega) (by omega)
theorem lit_len {n m : Nat} (h : n ≤ 1000) (hm : m ≤ 1000) : n + m ≤ 9223372036854775807 := by omega
theorem val1_32 (s : Src) (h : s.rm 32) (lc : Int) (hl : 0 ≤ lc ∧ lc ≤ 6) : RetM env.P 75 [some (boxRow s.cs)] [.ptr 0 0 0, .i .i64 lc, .i .i64 1] (CodeP s 32 6) := val_1 s h lc hl 1 rfl
theorem im_p {l : List Import} (h : ImD l) {v : Int} (h0 : 0 ≤ v ∧ (v = 0 ∨ v < (l.length : Int))) (hp : 0 < (l.length : Int)) : (l.getD v.toNat default).params ≤ 2 := (h.p v.toNat (by omega)).2
theorem co_p {l : List Core} (h : CoD l) {v : Int} (h0 : 0 ≤ v ∧ (v = 0 ∨ v < (l.length : Int))) : (l.getD v.toNat default).params ≤ 2 := (h.p v.toNat (by have := h.pos; omega)).2
theorem good_host {l : List Import} (h : ImD l) {v : Int} (h0 : 0 ≤ v ∧ (v = 0 ∨ v < (l.length : Int))) : Ins.good ⟨33, v⟩ = true := decide_eq_true ⟨⟨by dsimp only; omega, by dsimp only; omega⟩, h0.1, by show v ≤ 11; have := h.len; omega⟩
theorem good_call {l : List Core} (h : CoD l) {v : Int} (h0 : 0 ≤ v ∧ (v = 0 ∨ v < (l.length : Int))) : Ins.good ⟨32, v⟩ = true := decide_eq_true ⟨⟨by dsimp only; omega, by dsimp only; omega⟩, h0.1, by show v ≤ 7; have := h.len; omega⟩
theorem EG.at {e : Nat → Nat → AV} {n : Nat} {l : List Ins} (h : EG e n l) : ∀ i j, i < n → j < 2 → OwEq (e i j) (elE Ins.cs l i j) := fun i j hi hj => h.els i j (by rw [← h.len]; exact hi) hj
theorem VcI.eg {s : Src} {c v m : Nat} {y : VcS} (h : VcI s c v m y) : EG (elE Ins.cs y.l) y.n y.l := ⟨.el, h.hg, h.hn⟩
theorem rho_3 {X : Ctx} {x y z : Option Row} {r : List Nat} {q : Nat} (hX : X.H0 = [x, y, z]) (h : q < X.H0.length) (h0 : rhoF r 0 = 0) (h1 : rhoF r 1 = 1) (h2 : rhoF r 2 = 2) : rhoF r q = q := by
  rw [hX] at h
  have h' : q < 3 := h
  rcases (show q = 0 ∨ q = 1 ∨ q = 2 by omega) with rfl | rfl | rfl
  · exact h0
  · exact h1
  · exact h2
theorem endD {X : Ctx} {H : Hp} {s t : Src} {y0 y1 y2 : Option Row} {c n k id : Nat} {x : Row} {l : List Ins} {im : List Import} {co : List Core} (hX : X.H0 = [y0, y1, y2]) (hid : nodupB [0, 1, 2, id] = true) (h0 : H[0]? = some (some (boxRow t.cs))) (hi : H[1]? = some (some (rowL 3 Import.cs im))) (hc : H[2]? = some (some (rowL 5 Core.csO co))) (hr : H[id]? = some (some x)) (h1 : x.sz = 2) (h2 : x.cap = k) (h3 : x.k = .arr) (he : EG x.es k l) (hn : k ≤ n) (ht : s.at' ≤ t.at' ∧ t.at' ≤ s.at' + c ∧ t.code.length = s.code.length) : EndM X H (.row id k) (DeedP s im co c n) := by
  have hl : id < H.length := (List.getElem?_eq_some_iff.1 hr).1
  have hk := he.len
  have hne : ∀ j, j < 3 → ¬ id = j := fun j hj e => by
    subst e
    rcases (show id = 0 ∨ id = 1 ∨ id = 2 by omega) with rfl | rfl | rfl <;> exact absurd hid (by decide)
  have st : ∀ {j : Nat} {z : Option (Option Row)}, j < 3 → H[j]? = z → (H.set id (some (rowL 2 Ins.cs l)))[j]? = z := fun hj e => by rw [List.getElem?_set_ne (hne _ hj)]; exact e
  have h1' : (H.set id (some (rowL 2 Ins.cs l)))[id]? = some (some (rowL 2 Ins.cs l)) := by rw [List.getElem?_set_self hl]
  refine endM_turn (turn_eq hr (x := rowL 2 Ins.cs l) h1.symm (by show l.length = x.cap; omega) (by rw [h3]; rfl) (by rw [h3]; rfl) (fun i j hi hj => he.els i j (by omega) (by omega))) ?_
  exact endM_pick [0, 1, 2, id] [some (boxRow t.cs), some (rowL 3 Import.cs im), some (rowL 5 Core.csO co), some (rowL 2 Ins.cs l)] (.row 3 k) (view_of hid (.cons (st (by decide) h0) (.self (rowPl_box rfl)) (.cons (st (by decide) hi) (.self (rowPl_L fun _ => rfl)) (.cons (st (by decide) hc) (.self (rowPl_L fun _ => rfl)) (.cons h1' (.self (rowPl_L fun _ => rfl)) .nil))))) rfl rfl (by rw [hX]; exact keepK (n := 3) rfl rfl) ⟨l, t, k, ⟨he.g, by omega⟩, ht, hk, rfl, rfl⟩
set_option maxRecDepth 8000 in
set_option maxHeartbeats 4000000 in
theorem l15Calls_ok (im : List Import) (co : List Core) (hI : ImD im) (hC : CoD co) (pg : Int) (s : Src) (h : s.rm 100) (lc : Int) (hl : 0 ≤ lc ∧ lc ≤ 6) : RetM env.P 84 [some (boxRow s.cs), some (rowL 3 Import.cs im), some (rowL 5 Core.csO co)] [.ptr 0 0 0, .agg [.i .i64 pg, .row 1 im.length, .row 2 co.length], .i .i64 lc] (DeedP s im co 100 20) := by
  obtain ⟨q1, q2, q3⟩ := h
  have i1 := hI.len
  have c1 := hC.pos
  have c2 := hC.len
  refine ret_ofM (nt := 83) (rvs := [.tmp 6]) Try.func84 rfl rfl rfl rfl (fun X hX => ?_)
  repeat' (first | omega | (with_reducible show (_ : Int) < _; dsimp only; omega) | (with_reducible show (_ : Nat) ≤ _; dsimp only; omega) | ((with_reducible show SrcOk _ _ _) <;> (first | exact srcOk_1 rfl | exact srcOk_L (fun _ => ⟨rfl, rfl⟩) | exact srcOk_E (fun _ => ⟨rfl, rfl⟩))) | ((conv => whnf) <;> (first | (refine Src.rm_i ?_ ?_ ?_) | refine And.intro ?_ ?_ | (intro _h; first | contradiction | (try simp only [dd] at _h)) | (refine dt_go ?_) | exact rfl | exact True.intro | exact dkk | exact dks | (refine .inr (.inl (.inl ⟨[0], _, _, _, one_ex _ ?_ 2 (by decide), viewA, ⟨rfl, rfl⟩, ?_⟩)); rotate_left 1; (rintro _ _ ⟨b1, t1, ht1, rfl, rfl⟩) <;> (refine ⟨rfl, _, lokA, ?_⟩)) | (refine .inr (.inl (.inl ⟨[0], _, _, _, pick_ex _ ?_ _ ?_, viewA, ⟨rfl, rfl⟩, ?_⟩)); rotate_left 2; (rintro _ _ ⟨v2, t2, hv2, ht2, rfl, rfl⟩) <;> (refine ⟨rfl, _, lokA, ?_⟩)) | (refine wrap_succ ?_; omega))))
  all_goals (conv => whnf)
  all_goals refine lw_del 62 ?_
  all_goals refine loopFT (fun y : VcS => [(11, .i .i64 y.k), (10, .row 5 y.n)]) (fun y => [some (.box y.t.cs), none, none, none, none, some (.arr ⟨2, y.n, elE Ins.cs y.l, .arr⟩)]) (fun y => VcI t2 32 6 2 y) (fun y => 2 - y.k) ⟨0, [], 0, t2⟩ ⟨VcI.zero, ?_⟩
  all_goals have hrm : ∀ y : VcS, VcI t2 32 6 2 y → y.t.rm 32 := fun y hy => vc_rm hy (by omega) (by omega) (by omega)
  all_goals have hln : ∀ y : VcS, VcI t2 32 6 2 y → y.n ≤ 12 := fun y hy => hy.sm.1
  all_goals repeat' (first | omega | (with_reducible show (_ : Int) < _; dsimp only; omega) | (with_reducible show (_ : Nat) ≤ _; dsimp only; omega) | ((with_reducible show SrcOk _ _ _) <;> (first | exact srcOk_1 rfl | exact srcOk_L (fun _ => ⟨rfl, rfl⟩) | exact srcOk_E (fun _ => ⟨rfl, rfl⟩))) | ((conv => whnf) <;> (first | (refine dt_goH 0 [] rfl ?_) | exact hrm _ ‹_› | exact lbz_zero rfl rfl | exact low_cells rfl | exact srcOk_1 rfl | exact low_lit rfl | (have _h := hln _ ‹VcI t2 32 6 2 _›; exact lit_cap (by omega) (by omega) (show 16 ≤ 1000 by decide)) | (have _h := hln _ ‹VcI t2 32 6 2 _›; exact lit_len (by omega) (by omega)) | refine And.intro ?_ ?_ | (intro _h; first | contradiction | (try simp only [dd] at _h)) | (refine dt_go ?_) | exact rfl | exact True.intro | exact dkk | exact dks | (refine .inr (.inl (.inl ⟨[0], _, _, _, val1_32 _ ?_ _ hl, viewA, ⟨rfl, rfl⟩, ?_⟩)); rotate_left 1; (rintro _ _ ⟨l, t3, k3, hl3, ht3, hk3, rfl, rfl⟩) <;> (refine ⟨rfl, _, lokA, ?_⟩)) | (refine wrap_succ ?_; omega))))
  all_goals (rename VcS => y; rename VcI t2 32 6 2 y => hy)
  all_goals (have hs := hy.sm)
  all_goals first
    | have hp := im_p hI hv2 ‹_›
    | skip
  all_goals have hp' := fun h => co_p hC (v := v2) h
  all_goals first
    | (have _g : (y.k : Int) < _ := ‹_›
       conv => whnf
       refine roundET_turn (turn_eq (id := 7) (x := ⟨2, y.n + k3, elE Ins.cs (y.l ++ l), .arr⟩) rfl rfl rfl rfl rfl (hy.eg.cat (EG.el hl3 hk3)).at) ?_
       refine roundET_end ?_
       refine ⟨⟨y.k + 1, y.l ++ l, y.n + k3, t3⟩, [0, 1, 2, 3, 4, 7], hy.next (by omega) hl3 hk3 ht3, (by show 2 - (y.k + 1) < 2 - y.k; omega), ?_⟩
       repeat' (first | omega | (with_reducible show (_ : Int) < _; dsimp only; omega) | (with_reducible show (_ : Nat) ≤ _; dsimp only; omega) | ((with_reducible show SrcOk _ _ _) <;> (first | exact srcOk_1 rfl | exact srcOk_L (fun _ => ⟨rfl, rfl⟩) | exact srcOk_E (fun _ => ⟨rfl, rfl⟩))) | ((conv => whnf) <;> (first | exact arr_same rfl rfl (fun a j => low_cells rfl) | exact low_cells rfl | exact rho_3 hX ‹_› rfl rfl rfl | exact rfl | refine And.intro ?_ ?_ | (intro _h; first | contradiction | (try simp only [dd] at _h)) | (refine dt_go ?_) | exact rfl | exact True.intro | exact dkk | exact dks | (refine wrap_succ ?_; omega)))))
    | (conv => whnf
       exact endD hX rfl rfl rfl rfl rfl rfl rfl rfl (hy.eg.cat (EG.one ⟨33, v2⟩ rfl (good_host hI hv2))) (by omega) (by omega))
    | (conv => whnf
       exact endD hX rfl rfl rfl rfl rfl rfl rfl rfl (hy.eg.cat (EG.one ⟨32, v2⟩ rfl (good_call hC hv2))) (by omega) (by omega))
    | (conv => whnf
       exact endD hX rfl rfl rfl rfl rfl rfl rfl rfl ((hy.eg.cat (EG.one ⟨33, v2⟩ rfl (good_host hI hv2))).cat (EG.one ⟨5, 0⟩ rfl (good_no (by decide) rfl))) (by omega) (by omega))
    | (conv => whnf
       exact endD hX rfl rfl rfl rfl rfl rfl rfl rfl ((hy.eg.cat (EG.one ⟨32, v2⟩ rfl (good_call hC hv2))).cat (EG.one ⟨5, 0⟩ rfl (good_no (by decide) rfl))) (by omega) (by omega))
    | trace_state
end
end Go.Proofs.Ytdeledeopippfaa
