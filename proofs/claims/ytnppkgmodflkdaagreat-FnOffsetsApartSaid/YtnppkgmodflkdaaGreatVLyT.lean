/-
  Rows' cells, said otherwise.
-/
import Derived.Test.YtnppkgmodflkdaaGreatVX
import Derived.Test.YtnppkgmodflkdaaGreatVTOwn
import Derived.Test.YtnppkgmodflkdaaGreatVTpO
import Derived.Test.YtnppkgmodflkdaaGreatVTpQ
import Derived.Test.YtnppkgmodflkdaaGreatVLyE
import Derived.Test.YtnppkgmodflkdaaGreatVTpD
namespace Go.Proofs.YtnppkgmodflkdaaGreat
open Go Go.RowKit
set_option linter.unusedVariables false
set_option linter.unusedSimpArgs false

/-- A row's cells, said otherwise by a law of its own. -/
theorem turn_eqG {X : Ctx} {H : Hp} {id : Nat} {r x : Row} (hr : H[id]? = some (some r)) (h1 : x.sz = r.sz) (h2 : x.cap = r.cap) (hk : x.k.isMp = r.k.isMp) (hkm : r.k.isMp = false) (hes : ∀ i j, i < r.cap → j < r.sz → ∀ (w : World) (S : Nat → Prop) (blk : Nat → BC) (u : Value) (fp : List Nat), Own w S blk (H.set id (some x)) (r.es i j) u fp → Own w S blk (H.set id (some x)) (x.es i j) u fp) : Turn X H (H.set id (some x)) := fun w blk FP hR he => by
  obtain ⟨xsz, xcap, xes, xk⟩ := x
  dsimp only at h1 h2 hk hes
  subst h1 h2
  have hS : ∀ b, X.S FP H w.heap.size b → X.S FP (H.set id (some ⟨r.sz, r.cap, xes, xk⟩)) w.heap.size b := fun b hb => (S_set X FP hr b).2 hb
  have hext := HExt.set (H := H) (r1 := ⟨r.sz, r.cap, xes, xk⟩) blk hr rfl rfl
  refine ⟨blk, FP, ⟨fun k r' hk' => ?_, fun i j r1 r2 hi hj hij => ?_, fun b hb => ⟨hb.2.1, hb.2.2⟩⟩, hext, ?_, hS⟩
  · rcases set_cases hr hk' with ⟨rfl, rfl⟩ | ⟨hne, hk'⟩
    · refine ⟨?_, (hR.rows k r hr).2⟩
      rcases ((hR.rows k r hr).1.mono (fun b hb => ⟨hS b hb, rfl⟩) hext fun _ _ => rfl) with ⟨q1, q2, q3⟩ | ⟨h0, hle, hmp, hb, ty, cur, F, e1, e2, hall, e3, e4, e5⟩
      · refine .inl ⟨q1, q2, .inl ⟨hk.trans hkm, ?_⟩⟩
        rcases q3 with ⟨_, h⟩ | e | ⟨ak, fm, sts, e, _⟩
        · exact h
        · rw [e] at hkm; cases hkm
        · rw [e] at hkm; cases hkm
      · refine .inr ⟨h0, hle, hk.trans hmp, hb, ty, cur, F, e1, e2, hall, fun i j hi hj => ?_, e4, e5⟩
        obtain ⟨u, hu, ho, hc⟩ := e3 i j hi hj
        exact ⟨u, hu, ho, hes i j hi hj _ _ _ _ _ hc⟩
    · obtain ⟨h1, h2⟩ := hR.rows k r' hk'
      exact ⟨h1.mono (fun b hb => ⟨hS b hb, rfl⟩) hext fun _ _ => rfl, h2⟩
  · rcases set_cases hr hi with ⟨hi1, _⟩ | ⟨hne, hi'⟩ <;> rcases set_cases hr hj with ⟨hj1, _⟩ | ⟨hne', hj'⟩
    · omega
    · subst hi1; exact hR.apart i j r r2 hr hj' hij
    · subst hj1; exact hR.apart i j r1 r hi' hr hij
    · exact hR.apart i j r1 r2 hi' hj' hij
  · rintro b ⟨k, r', hk', hb⟩
    rcases set_cases hr hk' with ⟨rfl, rfl⟩ | ⟨hne, hk'⟩
    · exact ⟨k, r, hr, hb⟩
    · exact ⟨k, r', hk', hb⟩

theorem own_nils {w : World} {S : Nat → Prop} {blk : Nat → BC} {H : Hp} {u : Value} {fp : List Nat} {sz : Nat} {g : Nat → Nat → AV} (h : Own w S blk H .nils u fp) : Own w S blk H (.sl sz 0 g) u fp := by
  cases h with
  | plain h =>
    rw [inv_nils h]
    exact .plain (.sl0 none 0 (Nat.zero_le _))
theorem snoc_own {α : Type} [Inhabited α] {k sz : Nat} {c : α → List AV} {l : List α} {a : α} {g : Nat → Nat → AV} {w : World} {S : Nat → Prop} {blk : Nat → BC} {H : Hp} {u : Value} {fp : List Nat} (hk : k = l.length) (hg : ∀ j, j < sz → Own w S blk H (g 0 j) u fp → Own w S blk H ((c a).getD j .any) u fp) {i j : Nat} (hi : i < k + 1) (hj : j < sz) (h : Own w S blk H (catE k (elE c l) g i j) u fp) : Own w S blk H (elE c (l ++ [a]) i j) u fp := by
  rw [catE_at] at h
  unfold elE at h ⊢
  rw [getD_snoc]
  by_cases h' : i < k
  · rw [if_pos h'] at h
    rw [if_pos (by omega)]
    exact h
  · rw [if_neg h', show i - k = 0 by omega] at h
    rw [if_neg (by omega), if_pos (by omega)]
    exact hg j hj h
end Go.Proofs.YtnppkgmodflkdaaGreat

namespace Go.Proofs.YtnppkgmodflkdaaGreat
open Go Go.RowKit
set_option linter.unusedVariables false
set_option linter.unusedSimpArgs false
attribute [local irreducible] IntKind.wrap

theorem any_all (s : Src) (hs : s.rm 4000) : RetM env.P 76 [some (boxRow s.cs)] [.ptr 0 0 0] (LtP 4000 s) := RetM.mono (any_of (fun q hq s hs D hD => draw_O q (by omega) s hs D hD) (some_C 1 (by decide)) s hs) fun r H h => h
/-- A drawn type, at one level. -/
structure T14 (a : Typ) : Prop where
  o : Typ.oN 13 a
  np : a.np ≤ 2000
theorem oN_le {n : Nat} {a : Typ} : ∀ k, Typ.oN n a → Typ.oN (n + k) a
  | 0, h => h
  | k + 1, h => Typ.oN_up _ _ (oN_le k h)
def LtQ (s : Src) (r : AV) (H : Hp) : Prop := ∃ (a : Typ) (t : Src), T14 a ∧ (s.at' ≤ t.at' ∧ t.at' ≤ s.at' + 5000 ∧ t.code.length = s.code.length) ∧ r = .agg (Typ.pN 14 a) ∧ H = [some (boxRow t.cs)]
theorem l09_fix (s : Src) (hs : s.rm 5000) : RetM env.P 52 [some (boxRow s.cs)] [.ptr 0 0 0] (LtQ s) := by
  refine RetM.frz [0] rfl (plainH_box (by rfl)) (RetM.mono (l09_of any_all s hs) fun r H h => ?_)
  obtain ⟨n, a, t, ⟨hn, ho, hp⟩, ht, rfl, rfl⟩ := h
  have h13 : Typ.oN 13 a := by
    have := oN_le (12 - n) ho
    rwa [show n + 1 + (12 - n) = 13 by omega] at this
  have e : (Typ.pN (n + 2) a).map (shrC 5 (outM [0] 0 [some (boxRow t.cs)])) = Typ.pN (n + 2) a := rfl
  refine ⟨[some (boxRow t.cs)], .agg (Typ.pN 14 a), view_of rfl (.cons rfl (.self (rowPl_box rfl)) .nil), frz_agg ?_, a, t, ⟨h13, hp⟩, ht, rfl, rfl⟩
  rw [e]
  exact Typ.conv _ _ _ (Typ.oN_fN _ _ (Typ.oN_up _ _ ho)) (Typ.oN_fN _ _ (Typ.oN_up _ _ h13))
theorem at_snoc {p : Typ → Prop} {l : List Typ} {a : Typ} (h : ∀ j, j < l.length → p (l.getD j default)) (ha : p a) : ∀ j, j < (l ++ [a]).length → p ((l ++ [a]).getD j default) := fun j hj => by
  rw [List.length_append, List.length_singleton] at hj
  rw [List.getD_eq_getElem?_getD]
  by_cases q : j < l.length
  · rw [List.getElem?_append_left q, ← List.getD_eq_getElem?_getD]
    exact h j q
  · obtain rfl : j = l.length := by omega
    rw [List.getElem?_append_right (Nat.le_refl _), Nat.sub_self]
    exact ha
structure TwI (w : Int) (t1 : Src) (y : TpS) : Prop where
  al : ∀ j, j < y.l.length → T14 (y.l.getD j default)
  i0 : 0 ≤ y.i
  il : y.i + y.l.length = w
  lo : t1.at' ≤ y.t.at'
  hi : y.t.at' + y.i * 5000 ≤ t1.at' + w * 5000
  cd : y.t.code.length = t1.code.length
theorem TwI.zero {w : Int} {t1 : Src} (h : 0 ≤ w) : TwI w t1 ⟨w, [], t1⟩ := ⟨fun j hj => absurd hj (Nat.not_lt_zero _), h, by show w + ((0 : Nat) : Int) = w; omega, Int.le_refl _, Int.le_refl _, rfl⟩
theorem TwI.next {w : Int} {t1 : Src} {y : TpS} (h : TwI w t1 y) (hi : 0 < y.i) {a : Typ} {t2 : Src} (ha : T14 a) (ht : y.t.at' ≤ t2.at' ∧ t2.at' ≤ y.t.at' + 5000 ∧ t2.code.length = y.t.code.length) : TwI w t1 ⟨y.i - 1, y.l ++ [a], t2⟩ := by
  refine ⟨at_snoc h.al ha, by show 0 ≤ y.i - 1; omega, ?_, by have := h.lo; show t1.at' ≤ t2.at'; omega, by have := h.hi; show t2.at' + (y.i - 1) * 5000 ≤ _; omega, by have := h.cd; show t2.code.length = _; omega⟩
  have := h.il
  show y.i - 1 + ((y.l ++ [a]).length : Int) = w
  rw [List.length_append, List.length_singleton]
  omega
/-- The second loop's state: the types, the source. -/
structure TuS where
  l : List Typ
  t : Src
structure TwJ (t1 : Src) (y : TuS) : Prop where
  al : ∀ j, j < y.l.length → T14 (y.l.getD j default)
  le : y.l.length ≤ 25
  lo : t1.at' ≤ y.t.at'
  hi : y.t.at' ≤ t1.at' + y.l.length
  cd : y.t.code.length = t1.code.length
theorem TwJ.zero {l : List Typ} {t1 : Src} (h : ∀ j, j < l.length → T14 (l.getD j default)) (hl : l.length ≤ 25) : TwJ t1 ⟨l, t1⟩ := ⟨h, hl, Int.le_refl _, by show t1.at' ≤ t1.at' + (l.length : Int); omega, rfl⟩
def tyU8 : Typ := ⟨3, ByteArray.empty, [], []⟩
theorem u8_14 : T14 tyU8 := ⟨⟨Nat.zero_le _, ⟨Nat.zero_le _, fun k hk => absurd hk (Nat.not_lt_zero _)⟩, ⟨Nat.zero_le _, fun k hk => absurd hk (Nat.not_lt_zero _)⟩⟩, by rw [Typ.np_eq]; exact (show 1 ≤ 2000 by decide)⟩
theorem TwJ.next {t1 : Src} {y : TuS} (h : TwJ t1 y) {v : Int} (hv : 0 ≤ v ∧ (v = 0 ∨ v < 2)) (hlt : (y.l.length : Int) < IntKind.i64.wrap (24 + v)) {t2 : Src} (ht : y.t.at' ≤ t2.at' ∧ t2.at' ≤ y.t.at' + 1 ∧ t2.code.length = y.t.code.length) : TwJ t1 ⟨y.l ++ [tyU8], t2⟩ := by
  rw [wrap_in (by omega) (by omega)] at hlt
  have e : (y.l ++ [tyU8]).length = y.l.length + 1 := by rw [List.length_append]; rfl
  refine ⟨at_snoc h.al u8_14, by show (y.l ++ [tyU8]).length ≤ 25; omega, by have := h.lo; show t1.at' ≤ t2.at'; omega, ?_, by have := h.cd; show t2.code.length = _; omega⟩
  have := h.hi
  show t2.at' ≤ t1.at' + ((y.l ++ [tyU8]).length : Int)
  omega
/-- The drawn types, owned. -/
def TsP (s : Src) (r : AV) (H : Hp) : Prop := ∃ (l : List Typ) (t : Src), (l.length ≤ 25 ∧ ∀ j, j < l.length → T14 (l.getD j default)) ∧ r = .row 1 l.length ∧ H = [some (boxRow t.cs), some (rowL 4 (Typ.pN 14) l)]
set_option maxRecDepth 8000 in
set_option maxHeartbeats 600000 in
theorem l09Types_ok (s : Src) (hs : s.rm 30000) : RetM env.P 26 [some (boxRow s.cs)] [.ptr 0 0 0] (TsP s) := by
  have hs' := hs
  unfold Src.rm at hs'
  have hrm : ∀ (t1 : Src) (y : TpS) (v : Int), (0 ≤ v ∧ (v = 0 ∨ v < 5)) → (s.at' ≤ t1.at' ∧ t1.at' ≤ s.at' + 1 ∧ t1.code.length = s.code.length) → TwI v t1 y → y.t.rm 5000 := fun t1 y v hv h1 hy => by
    have := hy.lo
    have := hy.hi
    have := hy.cd
    have := hy.i0
    exact Src.rm_i (by omega) (by omega) (by omega)
  have hrm2 : ∀ (t1 : Src) (y : TpS) (v : Int), (0 ≤ v ∧ (v = 0 ∨ v < 5)) → (s.at' ≤ t1.at' ∧ t1.at' ≤ s.at' + 1 ∧ t1.code.length = s.code.length) → TwI v t1 y → (s.at' ≤ y.t.at' ∧ y.t.at' ≤ s.at' + 20001 ∧ y.t.code.length = s.code.length) ∧ y.l.length ≤ 4 := fun t1 y v hv h1 hy => by
    have := hy.lo
    have := hy.hi
    have := hy.cd
    have := hy.i0
    have := hy.il
    exact ⟨⟨by omega, by omega, by omega⟩, by omega⟩
  have hrm3 : ∀ (t2 : Src) (y : TuS), (s.at' ≤ t2.at' ∧ t2.at' ≤ s.at' + 20002 ∧ t2.code.length = s.code.length) → TwJ t2 y → y.t.rm 1 := fun t2 y h1 hy => by
    have := hy.lo
    have := hy.hi
    have := hy.cd
    have := hy.le
    exact Src.rm_i (by omega) (by omega) (by omega)
  have hrm1 : ∀ (t1 : Src) (y : TpS) (v : Int), (0 ≤ v ∧ (v = 0 ∨ v < 5)) → (s.at' ≤ t1.at' ∧ t1.at' ≤ s.at' + 1 ∧ t1.code.length = s.code.length) → TwI v t1 y → y.t.rm 1 := fun t1 y v hv h1 hy => by
    obtain ⟨h2, h3⟩ := hrm2 t1 y v hv h1 hy
    exact Src.rm_i (by omega) (by omega) (by omega)
  have hst : ∀ (t1 : Src) (y : TpS) (v : Int) (t3 : Src), (0 ≤ v ∧ (v = 0 ∨ v < 5)) → (s.at' ≤ t1.at' ∧ t1.at' ≤ s.at' + 1 ∧ t1.code.length = s.code.length) → TwI v t1 y → (y.t.at' ≤ t3.at' ∧ t3.at' ≤ y.t.at' + 1 ∧ t3.code.length = y.t.code.length) → (s.at' ≤ t3.at' ∧ t3.at' ≤ s.at' + 20002 ∧ t3.code.length = s.code.length) ∧ TwJ t3 ⟨y.l, t3⟩ := fun t1 y v t3 hv h1 hy h3 => by
    obtain ⟨h2, h4⟩ := hrm2 t1 y v hv h1 hy
    exact ⟨⟨by omega, by omega, by omega⟩, TwJ.zero hy.al (by omega)⟩
  have hrs : s.rm 1 := Src.rm_i (by omega) (by omega) (by omega)
  refine ret_ofM (nt := 30) (rvs := [.tmp 2]) Tryz.func26 rfl rfl rfl rfl (fun X hX => ?_)
  repeat' (first | exact aa | ((conv => whnf) <;> (first | (refine dt_goH 0 [] rfl ?_) | exact hrs | exact hrm3 _ _ (hst _ _ _ _ hv ht1 ‹TwI v t1 _› ht3).1 ‹TwJ _ _› | (refine loopFT (fun y : TuS => [(3, .row 1 y.l.length)]) (fun y => [some (.box y.t.cs), some (.arr ⟨4, y.l.length, elE (Typ.pN 14) y.l, .arr⟩)]) (fun y => TwJ t3 y) (fun y => 25 - y.l.length) ⟨_, t3⟩ ⟨(hst _ _ _ _ hv ht1 ‹TwI v t1 _› ht3).2, ?_⟩) | (refine lw_del 5 ?_; refine loopFT (fun y : TpS => [(4, .i .i64 y.i), (3, .row 1 y.l.length)]) (fun y => [some (.box y.t.cs), some (.arr ⟨4, y.l.length, elE (Typ.pN 14) y.l, .arr⟩)]) (fun y => TwI v t1 y) (fun y => y.i.toNat) ⟨v, [], t1⟩ ⟨TwI.zero hv.1, ?_⟩) | exact hrm1 _ _ _ hv ht1 ‹_› | exact lbz_capC (show _ ≤ 1000 from Nat.le_trans (‹TwJ _ _› : TwJ _ _).le (by decide)) (show 72 ≤ 1000 by decide) | exact lbz_capM (show _ ≤ 1000 from Nat.le_trans (‹TwJ _ _› : TwJ _ _).le (by decide)) | exact hrm _ _ _ hv ht1 ‹_› | exact lbz_zero rfl rfl | exact low_cells rfl | exact lbz_capC (show _ ≤ 1000 from Nat.le_trans (hrm2 _ _ _ hv ht1 ‹_›).2 (by decide)) (show 72 ≤ 1000 by decide) | exact lbz_capM (show _ ≤ 1000 from Nat.le_trans (hrm2 _ _ _ hv ht1 ‹_›).2 (by decide)) | exact srcOk_1 rfl | refine And.intro ?_ ?_ | (intro _h; first | contradiction | (try simp only [dd] at _h)) | (refine dt_go ?_) | exact rfl | exact True.intro | exact dkk | exact dks | (refine .inr (.inl (.inl ⟨[0], _, _, _, pick_ex _ ?_ 2 (by decide), viewA, ⟨rfl, rfl⟩, ?_⟩)); rotate_left 1; rintro _ _ ⟨v4, t4, hv4, ht4, rfl, rfl⟩; refine ⟨rfl, _, lokA, ?_⟩) | (refine .inr (.inl (.inl ⟨[0], _, _, _, pick_ex _ ?_ 5 (by decide), viewA, ⟨rfl, rfl⟩, ?_⟩)); rotate_left 1; rintro _ _ ⟨v, t1, hv, ht1, rfl, rfl⟩; refine ⟨rfl, _, lokA, ?_⟩) | (refine .inr (.inl (.inl ⟨[0], _, _, _, one_ex _ ?_ 20 (by decide), viewA, ⟨rfl, rfl⟩, ?_⟩)); rotate_left 1; rintro _ _ ⟨b3, t3, ht3, rfl, rfl⟩; refine ⟨rfl, _, lokA, ?_⟩) | (refine .inr (.inl (.inl ⟨[0], _, _, _, l09_fix _ ?_, viewA, ⟨rfl, rfl⟩, ?_⟩)); rotate_left 1; rintro _ _ ⟨a, t2, ha, ht2, rfl, rfl⟩; refine ⟨rfl, _, lokA, ?_⟩) | (refine wrap_succ ?_; omega))))
  all_goals (conv => whnf)
  all_goals (try exact arr_same rfl rfl (fun a j => low_cells rfl))
  · rename_i y hy
    have hi : 0 < y.i := _h
    have he : IntKind.i64.wrap (y.i - 1) = y.i - 1 := by
      have := hy.il
      exact wrap_in (by omega) (by omega)
    refine roundET_turn (turn_eq (id := 3) (x := rowL 4 (Typ.pN 14) (y.l ++ [a])) rfl rfl lbz_len.symm rfl rfl (snoc_eq (l := y.l) (sz := 4) (a := a) (c := Typ.pN 14) rfl (fun j hj => by
      rcases (show j = 0 ∨ j = 1 ∨ j = 2 ∨ j = 3 by omega) with rfl | rfl | rfl | rfl <;> exact .refl _))) ?_
    refine roundET_end ?_
    refine ⟨⟨y.i - 1, y.l ++ [a], t2⟩, [0, 3], hy.next hi ‹T14 a› (by omega), (by show (y.i - 1).toNat < y.i.toNat; omega), ?_⟩
    repeat' (first | exact aa | ((conv => whnf) <;> (first | exact he | exact lbz_len | exact arr_same rfl rfl (fun a j => low_cells rfl) | exact low_cells rfl | exact rho_1 hX ‹_› rfl | refine And.intro ?_ ?_ | (intro _h; first | contradiction | (try simp only [dd] at _h)) | (refine dt_go ?_) | exact rfl | exact True.intro | exact dkk | exact dks | (refine wrap_succ ?_; omega))))
  · rename_i y hy
    have hlt : (y.l.length : Int) < IntKind.i64.wrap (24 + v4) := _h
    have q5 : IntKind.i64.wrap (24 + v4) ≤ 25 := by rw [wrap_in (by omega) (by omega)]; omega
    refine roundET_turn (turn_eqG (id := 3) (x := rowL 4 (Typ.pN 14) (y.l ++ [tyU8])) rfl rfl lbz_len.symm rfl rfl (fun i j hi hj w S blk u fp h => snoc_own (l := y.l) (sz := 4) (a := tyU8) (c := Typ.pN 14) rfl (fun j hj h => by
      rcases (show j = 0 ∨ j = 1 ∨ j = 2 ∨ j = 3 by omega) with rfl | rfl | rfl | rfl
      · exact h
      · exact h
      · exact own_nils h
      · exact own_nils h) hi hj h)) ?_
    refine roundET_end ?_
    refine ⟨⟨y.l ++ [tyU8], t4⟩, [0, 3], hy.next hv4 hlt (by omega), (by show 25 - (y.l ++ [tyU8]).length < 25 - y.l.length; rw [List.length_append]; show 25 - (y.l.length + 1) < _; omega), ?_⟩
    repeat' (first | exact aa | ((conv => whnf) <;> (first | exact lbz_len | exact arr_same rfl rfl (fun a j => low_cells rfl) | exact low_cells rfl | exact rho_1 hX ‹_› rfl | refine And.intro ?_ ?_ | (intro _h; first | contradiction | (try simp only [dd] at _h)) | (refine dt_go ?_) | exact rfl | exact True.intro | exact dkk | exact dks | (refine wrap_succ ?_; omega))))
  · rename_i y hy
    have q2 := hy.le
    exact endM_pick [0, 1] [some (boxRow t4.cs), some (rowL 4 (Typ.pN 14) y.l)] (.row 1 y.l.length) (view_of rfl (.cons rfl (.self (rowPl_box rfl)) (.cons rfl (.self (rowPl_L fun _ => rfl)) .nil))) rfl rfl (by rw [hX]; exact keepK (n := 1) rfl rfl) ⟨y.l, t4, ⟨q2, hy.al⟩, rfl, rfl⟩
  · rename_i y hy _
    have q2 := hy.il
    have q3 := hy.i0
    exact endM_pick [0, 1] [some (boxRow t3.cs), some (rowL 4 (Typ.pN 14) y.l)] (.row 1 y.l.length) (view_of rfl (.cons rfl (.self (rowPl_box rfl)) (.cons rfl (.self (rowPl_L fun _ => rfl)) .nil))) rfl rfl (by rw [hX]; exact keepK (n := 1) rfl rfl) ⟨y.l, t3, ⟨by omega, hy.al⟩, rfl, rfl⟩
end Go.Proofs.YtnppkgmodflkdaaGreat

namespace Go.Proofs.YtnppkgmodflkdaaGreat
open Go Go.RowKit
set_option linter.unusedVariables false
set_option linter.unusedSimpArgs false
attribute [local irreducible] IntKind.wrap

/-- Types that are valid and not too many. -/
structure TsOk (l : List Typ) : Prop where
  le : l.length ≤ 24
  al : ∀ k, k < l.length → (l.getD k default).good
theorem ts_any {l : List Typ} : (l.any fun x => !pb x.good) = false ↔ ∀ k, k < l.length → (l.getD k default).good := by
  rw [List.any_eq_false]
  constructor
  · intro h k hk
    have := h _ (List.getElem_mem hk)
    rw [List.getD_eq_getElem?_getD, List.getElem?_eq_getElem hk]
    have h2 : pb (l[k]).good = true := by simpa using this
    exact pb_t.mp h2
  · intro h x hx
    obtain ⟨k, hk, rfl⟩ := List.getElem_of_mem hx
    have := h k hk
    rw [List.getD_eq_getElem?_getD, List.getElem?_eq_getElem hk] at this
    have h2 : pb (l[k]).good = true := pb_t.mpr this
    simpa using h2
theorem ts_pb {l : List Typ} (h : l.length ≤ 24) : (!l.any fun x => !pb x.good) = pb (TsOk l) := by
  by_cases q : ∀ k, k < l.length → (l.getD k default).good
  · rw [ts_any.2 q, pb_t.mpr ⟨h, q⟩]; rfl
  · rw [pb_f.mpr (fun r => q r.al), eq_true_of_ne_false (fun e => q (ts_any.1 e))]; rfl
/-- What is asked of a list of arguments. -/
structure TsR (n : Nat) (l : List Typ) : Prop where
  le : l.length ≤ 1048576
  o : ∀ k, k < l.length → Typ.oN (n + 1) (l.getD k default)
  np : ∀ k, k < l.length → (l.getD k default).np ≤ 1000000000000000
theorem typesOk1_ok {n : Nat} {a : Typ} (h : Typ.oN (n + 1) a) (hp : a.np ≤ 1000000000000000) : Ret env.P 55 [.agg (Typ.pN (n + 1) a)] (fun r => r = .b (!pb a.good)) := by
  have h1 := typeOk_impl h hp
  refine ret_of (nt := 6) (rvs := [.tmp 2]) Tryz.func55 rfl rfl rfl rfl (fun X => ?_)
  repeat' (first | exact aa | ((conv => whnf) <;> (first | refine And.intro ?_ ?_ | (intro _h; first | contradiction | (try simp only [dd] at _h)) | (refine dt_go ?_) | exact rfl | exact True.intro | exact dkk | exact dks | ((first | refine .inl ⟨_, h1, ?_⟩ | refine ⟨_, h1, ?_⟩); (try rintro _ rfl)) | (refine wrap_succ ?_; omega))))
theorem typesOk_ok {n : Nat} {l : List Typ} (h : TsR n l) : Ret env.P 28 [slL 4 (Typ.pN (n + 1)) l] (fun r => r = .b (pb (TsOk l))) := by
  have hl := h.le
  have hc := containsFuncTy_ok n l 55 rfl (fun x => !pb x.good) hl (fun k hk => typesOk1_ok (h.o k hk) (h.np k hk))
  refine ret_of (nt := 11) (rvs := [.tmp 2]) Tryz.func28 rfl rfl rfl rfl (fun X => ?_)
  repeat' (first | exact aa | ((conv => whnf) <;> (first | refine And.intro ?_ ?_ | (intro _h; first | contradiction | (try simp only [dd] at _h)) | (refine dt_go ?_) | exact rfl | exact True.intro | exact dkk | exact dks | ((first | refine .inl ⟨_, hc, ?_⟩ | refine ⟨_, hc, ?_⟩); (try rintro _ rfl)) | (refine wrap_succ ?_; omega))))
  all_goals (conv => whnf)
  all_goals first
    | exact leaf_b (ts_pb (by omega))
    | exact leaf_f (fun q => by have := q.le; omega)
    | trace_state
theorem sumK_24 {l : List Typ} (h : ∀ k, k < l.length → (l.getD k default).good) : ∀ k, k ≤ l.length → sumK Typ.np l k ≤ k * 24
  | 0, _ => by rw [sumK_zero]; exact Nat.zero_le _
  | k + 1, hk => by
    rw [sumK_succ _ hk]
    have := sumK_24 h k (by omega)
    have := (h k hk).2.1
    omega
theorem TsOk.el {l : List Typ} (h : TsOk l) : ElB l := ⟨fun k hk => Typ.al_p (h.al k hk).2.2, fun k hk => Typ.sz_b (h.al k hk).2.2, by have := sumK_24 h.al _ (Nat.le_refl _); have := h.le; omega⟩
theorem ts_al {n : Nat} {l : List Typ} (h : TsR n l) (hg : TsOk l) : ∀ k, k < l.length → Ret env.P 35 [.agg (Typ.pN (n + 1) (l.getD k default))] (fun r => r = .i .i64 ((l.getD k default).al : Nat)) := fun k hk => alignOf_n (n + 1) _ (h.o k hk) (hg.al k hk).2.2
theorem ts_sz {n : Nat} {l : List Typ} (h : TsR n l) (hg : TsOk l) : ∀ k, k < l.length → Ret env.P 36 [.agg (Typ.pN (n + 1) (l.getD k default))] (fun r => r = .i .i64 ((l.getD k default).sz' : Nat)) := fun k hk => sizeOf_n (n + 1) _ (h.o k hk) (hg.al k hk).2.2 (by have := (hg.al k hk).2.1; omega)
theorem partsAt_impl {n : Nat} {l : List Typ} (h : TsR n l) : Ret env.P 7 [slL 4 (Typ.pN (n + 1)) l] (fun r => (TsOk l ∧ r = slL 1 intC (offL l l.length)) ∨ (¬ TsOk l ∧ r = .nils)) := by
  have h1 := typesOk_ok h
  have h2 := fun q : TsOk l => partsAt_fz n l q.el (ts_al h q) (ts_sz h q)
  refine ret_of (nt := 14) (rvs := [.tmp 2]) Tryz.func7 rfl rfl rfl rfl (fun X => ?_)
  repeat' (first | exact aa | ((conv => whnf) <;> (first | refine And.intro ?_ ?_ | (intro _h; first | contradiction | (try simp only [dd] at _h)) | (refine dt_go ?_) | exact rfl | exact True.intro | exact dkk | exact dks | ((first | refine .inl ⟨_, h1, ?_⟩ | refine ⟨_, h1, ?_⟩); (try rintro _ rfl)) | ((first | refine .inl ⟨_, h2 (Classical.not_not.1 ‹¬¬TsOk l›), ?_⟩ | refine ⟨_, h2 (Classical.not_not.1 ‹¬¬TsOk l›), ?_⟩); (try rintro _ rfl)) | (refine wrap_succ ?_; omega))))
  all_goals (conv => whnf)
  all_goals first
    | exact .inl ⟨Classical.not_not.1 ‹_›, rfl⟩
    | exact .inr ⟨‹¬ TsOk l›, rfl⟩
    | trace_state
theorem totalSize_impl {n : Nat} {l : List Typ} (h : TsR n l) : Ret env.P 8 [slL 4 (Typ.pN (n + 1)) l] (fun r => r = .i .i64 (ifG (TsOk l) (rup (endK Typ.al Typ.sz' l l.length) (maxK Typ.al 1 l l.length)))) := by
  have h1 := typesOk_ok h
  have h2 := fun q : TsOk l => totalSize_ok n l q.el (ts_al h q) (ts_sz h q)
  refine ret_of (nt := 8) (rvs := [.tmp 2]) Tryz.func8 rfl rfl rfl rfl (fun X => ?_)
  repeat' (first | exact aa | ((conv => whnf) <;> (first | refine And.intro ?_ ?_ | (intro _h; first | contradiction | (try simp only [dd] at _h)) | (refine dt_go ?_) | exact rfl | exact True.intro | exact dkk | exact dks | ((first | refine .inl ⟨_, h1, ?_⟩ | refine ⟨_, h1, ?_⟩); (try rintro _ rfl)) | ((first | refine .inl ⟨_, h2 (Classical.not_not.1 ‹¬¬TsOk l›), ?_⟩ | refine ⟨_, h2 (Classical.not_not.1 ‹¬¬TsOk l›), ?_⟩); (try rintro _ rfl)) | (refine wrap_succ ?_; omega))))
  all_goals (conv => whnf)
  all_goals first
    | exact leaf_i (ifG_t (Classical.not_not.1 ‹_›))
    | exact leaf_i (ifG_f ‹_›)
    | trace_state
theorem totalAlign_impl {n : Nat} {l : List Typ} (h : TsR n l) : Ret env.P 9 [slL 4 (Typ.pN (n + 1)) l] (fun r => r = .i .i64 (ifG (TsOk l) (maxK Typ.al 1 l l.length))) := by
  have h1 := typesOk_ok h
  have h2 := fun q : TsOk l => greatestAlign_ok n l h.le (ts_al h q)
  refine ret_of (nt := 8) (rvs := [.tmp 2]) Tryz.func9 rfl rfl rfl rfl (fun X => ?_)
  repeat' (first | exact aa | ((conv => whnf) <;> (first | refine And.intro ?_ ?_ | (intro _h; first | contradiction | (try simp only [dd] at _h)) | (refine dt_go ?_) | exact rfl | exact True.intro | exact dkk | exact dks | ((first | refine .inl ⟨_, h1, ?_⟩ | refine ⟨_, h1, ?_⟩); (try rintro _ rfl)) | ((first | refine .inl ⟨_, h2 (Classical.not_not.1 ‹¬¬TsOk l›), ?_⟩ | refine ⟨_, h2 (Classical.not_not.1 ‹¬¬TsOk l›), ?_⟩); (try rintro _ rfl)) | (refine wrap_succ ?_; omega))))
  all_goals (conv => whnf)
  all_goals first
    | exact leaf_i (ifG_t (Classical.not_not.1 ‹_›))
    | exact leaf_i (ifG_f ‹_›)
    | trace_state
end Go.Proofs.YtnppkgmodflkdaaGreat

namespace Go.Proofs.YtnppkgmodflkdaaGreat
open Go Go.RowKit
set_option linter.unusedVariables false
set_option linter.unusedSimpArgs false
attribute [local irreducible] IntKind.wrap

theorem numSizeS_ok (k : Int) : Ret env.P 86 [.i .i64 k] (fun r => r = .i .i64 (numSz k : Nat)) := by
  refine ret_of (nt := 21) (rvs := [.tmp 2]) Tryz.func86 rfl rfl rfl rfl (fun X => ?_)
  repeat' (first | exact aa | ((conv => whnf) <;> (first | refine And.intro ?_ ?_ | (intro _h; first | contradiction | (try simp only [dd] at _h)) | (refine dt_go ?_) | exact rfl | exact True.intro | exact dkk | exact dks | (refine wrap_succ ?_; omega))))
  all_goals (conv => whnf)
  all_goals (refine leaf_i ?_; unfold numSz; first | (subst_vars; rfl) | (repeat' split) <;> omega)
theorem l10Up_ok {x a : Nat} (h : 1 ≤ a) (h1 : x + a ≤ 1000000000) : Ret env.P 58 [.i .i64 (x : Int), .i .i64 (a : Int)] (fun r => r = .i .i64 (rup x a : Nat)) := by
  have e := div_up h h1
  refine ret_of (nt := 13) (rvs := [.tmp 4]) Tryz.func58 rfl rfl rfl rfl (fun X => ?_)
  repeat' (first | exact aa | ((conv => whnf) <;> (first | refine And.intro ?_ ?_ | (intro _h; first | contradiction | (try simp only [dd] at _h)) | (refine dt_go ?_) | exact rfl | exact True.intro | exact dkk | exact dks | (refine wrap_succ ?_; omega))))
  all_goals (conv => whnf)
  all_goals first
    | exact leaf_i e
    | trace_state
theorem l00MaxN_ok (x y : Nat) : Ret env.P 59 [.i .i64 (x : Int), .i .i64 (y : Int)] (fun r => r = .i .i64 (max x y : Nat)) := (l00Max_ok _ _).mono fun r h => by
  rw [h]
  exact leaf_i (by split <;> omega)
set_option maxRecDepth 8000 in
theorem l09Cases_ok {n : Nat} {a : Typ} (h : Typ.oN (n + 1) a) (hk : a.kind = 13 → 1 ≤ a.kids.length) : Ret env.P 88 [.agg (Typ.pN (n + 1) a)] (fun r => r = slL 4 (Typ.pN (n + 1)) a.cas) := by
  refine Ret.ofFrz (RetM.wk (.cons (Typ.lift h) .nil) ?_)
  refine ret_ofM (nt := 18) (rvs := [.tmp 2]) Tryz.func88 rfl rfl rfl rfl (fun X hX => ?_)
  repeat' (first | exact aa | ((conv => whnf) <;> (first | refine And.intro ?_ ?_ | (intro _h; first | contradiction | (try simp only [dd] at _h)) | (refine dt_go ?_) | exact rfl | exact True.intro | exact dkk | exact dks | (refine wrap_succ ?_; omega))))
  all_goals (conv => whnf)
  · refine endM_self (frz0 (r1 := slL 4 (Typ.pN (n + 1)) [unitT, a.kids.getD 0 default]) (frz_cell rfl (shr_cas2 (k := 3))) ?_)
    unfold Typ.cas
    rw [if_pos ‹_›]
  · refine endM_self (frz0 (r1 := slL 4 (Typ.pN (n + 1)) a.kids) (frz_cell rfl (.refl _)) ?_)
    unfold Typ.cas
    rw [if_neg (by omega), if_pos (by omega)]
  · refine endM_self (frz0 (r1 := slL 4 (Typ.pN (n + 1)) a.kids) (frz_cell rfl (.refl _)) ?_)
    unfold Typ.cas
    rw [if_neg (by omega), if_pos (by omega)]
  · refine endM_self (frz0 (r1 := slL 4 (Typ.pN (n + 1)) []) (frz_cell rfl Wk.nilS0) ?_)
    unfold Typ.cas
    rw [if_neg (by omega), if_neg (by omega)]
/-- Size and alignment, by the reference. -/
def ShC (n : Nat) (a : Typ) : Prop := Ret env.P 57 [.agg (Typ.pN n a)] (fun r => r = .tup [.i .i64 (a.sz' : Nat), .i .i64 (a.al : Nat)])
set_option maxRecDepth 8000 in
theorem l09Most_ok (n : Nat) (l : List Typ) (hl : l.length ≤ 1048576) (hq : ∀ k, k < l.length → ShC (n + 1) (l.getD k default)) : Ret env.P 87 [slL 4 (Typ.pN (n + 1)) l] (fun r => r = .tup [.i .i64 (maxK Typ.sz' 0 l l.length : Nat), .i .i64 (maxK Typ.al 1 l l.length : Nat)]) := by
  refine ret_of (nt := 31) (rvs := [.tmp 2, .tmp 3]) Tryz.func87 rfl rfl rfl rfl (fun X => ?_)
  repeat' (first | exact aa | ((conv => whnf) <;> (first | refine loopN l.length (fun k => [(6, .i .i64 k), (4, .i .i64 (maxK Typ.sz' 0 l k : Nat)), (5, .i .i64 (maxK Typ.al 1 l k : Nat))]) (fun k => []) (fun k => True) ⟨trivial, ?_⟩ | refine And.intro ?_ ?_ | (intro _h; first | contradiction | (try simp only [dd] at _h)) | (refine dt_go ?_) | exact rfl | exact True.intro | exact dkk | exact dks | ((first | refine .inl ⟨_, hq _ (by omega), ?_⟩ | refine ⟨_, hq _ (by omega), ?_⟩); (try rintro _ rfl)) | ((first | refine .inl ⟨_, l00MaxN_ok _ _, ?_⟩ | refine ⟨_, l00MaxN_ok _ _, ?_⟩); (try rintro _ rfl)) | (refine wrap_succ ?_; omega))))
  all_goals (try simp only [Int.toNat_natCast] at *)
  all_goals first
    | rfl
    | (rename_i k _ _
       conv => whnf
       obtain rfl : k = l.length := by omega
       rfl)
    | trace_state
set_option maxRecDepth 8000 in
set_option maxHeartbeats 1000000 in
theorem l09Parts_own (n : Nat) (l : List Typ) (hb : ElB l) (hq : ∀ k, k < l.length → ShC (n + 1) (l.getD k default)) : RetM env.P 33 [] [slL 4 (Typ.pN (n + 1)) l] (fun r H => r = .tup [.row 0 l.length, .i .i64 (rup (endK Typ.al Typ.sz' l l.length) (maxK Typ.al 1 l l.length) : Nat), .i .i64 (maxK Typ.al 1 l l.length : Nat)] ∧ H = [some (rowL 1 intC (offL l l.length))]) := by
  have hl : l.length ≤ 1000 := hb.len
  have hof : ∀ k, k ≤ l.length → (offL l k).length ≤ 1000 := fun k hk => by rw [offL_len]; omega
  have hA : ∀ k, k < l.length → Ret env.P 58 [.i .i64 (endK Typ.al Typ.sz' l k : Nat), .i .i64 ((l.getD k default).al : Nat)] (fun r => r = .i .i64 (rup (endK Typ.al Typ.sz' l k) (Typ.al (l.getD k default)) : Nat)) := fun k hk => l10Up_ok (hb.al k hk).pos.1 (by have := hb.bd (k := k) (by omega); have := (hb.al k hk).pos.2; omega)
  have hm := (maxK_p2 (f := Typ.al) hb.al (Nat.le_refl l.length)).1
  have hm1 := hm.pos
  have hE := l10Up_ok hm1.1 (x := endK Typ.al Typ.sz' l l.length) (by have := hb.bd (Nat.le_refl _); omega)
  refine ret_ofM (nt := 44) (rvs := [.tmp 2, .tmp 3, .tmp 4]) Tryz.func33 rfl rfl rfl rfl (fun X hX => ?_)
  repeat' (first | exact aa | ((conv => whnf) <;> (first | (refine lw_del 11 ?_; refine loopFT (fun k : Nat => [(8, .i .i64 k), (7, .row 0 (offL l k).length), (5, .i .i64 (endK Typ.al Typ.sz' l k : Nat)), (6, .i .i64 (maxK Typ.al 1 l k : Nat))]) (fun k => [some (.arr ⟨1, (offL l k).length, elE intC (offL l k), .arr⟩)]) (fun k => k ≤ l.length) (fun k => l.length - k) 0 ⟨Nat.zero_le _, ?_⟩) | exact lbz_zero rfl rfl | exact low_cells rfl | exact lbz_capC (hof _ (by omega)) (show 8 ≤ 1000 by decide) | exact lbz_capM (hof _ (by omega)) | exact srcOk_1 rfl | refine And.intro ?_ ?_ | (intro _h; first | contradiction | (try simp only [dd] at _h)) | (refine dt_go ?_) | exact rfl | exact True.intro | exact dkk | exact dks | ((first | refine .inl ⟨_, hq _ (by omega), ?_⟩ | refine ⟨_, hq _ (by omega), ?_⟩); (try rintro _ rfl)) | ((first | refine .inl ⟨_, hA _ (by omega), ?_⟩ | refine ⟨_, hA _ (by omega), ?_⟩); (try rintro _ rfl)) | ((first | refine .inl ⟨_, l00MaxN_ok _ _, ?_⟩ | refine ⟨_, l00MaxN_ok _ _, ?_⟩); (try rintro _ rfl)) | (refine wrap_succ ?_; omega))))
  all_goals (try simp only [Int.toNat_natCast] at *)
  · rename_i k _
    have hk : k < l.length := by omega
    have he : IntKind.i64.wrap (((rup (endK Typ.al Typ.sz' l k) (Typ.al (l.getD k default)) : Nat) : Int) + ((l.getD k default).sz' : Nat)) = (endK Typ.al Typ.sz' l (k + 1) : Nat) := by
      have := hb.bd (k := k + 1) hk
      have e : endK Typ.al Typ.sz' l (k + 1) = rup (endK Typ.al Typ.sz' l k) (Typ.al (l.getD k default)) + (l.getD k default).sz' := rfl
      rw [wrap_in (by omega) (by omega), e]
      omega
    conv => whnf
    refine roundET_turn (turn_eq (id := 2) (x := rowL 1 intC (offL l (k + 1))) rfl rfl lbz_len.symm rfl rfl (snoc_eq (l := offL l k) (sz := 1) (a := ((rup (endK Typ.al Typ.sz' l k) (Typ.al (l.getD k default)) : Nat) : Int)) (c := intC) rfl (fun j hj => ?_))) ?_
    · obtain rfl : j = 0 := by omega
      exact .refl _
    refine roundET_end ?_
    refine ⟨k + 1, [2], hk, (by show l.length - (k + 1) < l.length - k; omega), ?_⟩
    repeat' (first | exact aa | ((conv => whnf) <;> (first | exact arr_same rfl rfl (fun a j => low_cells rfl) | exact low_cells rfl | exact lbz_len | exact he | exact lbz_rho hX ‹_› | exact rfl | refine And.intro ?_ ?_ | (intro _h; first | contradiction | (try simp only [dd] at _h)) | (refine dt_go ?_) | exact rfl | exact True.intro | exact dkk | exact dks | (refine wrap_succ ?_; omega))))
  · rename_i k _
    have hk : k = l.length := by omega
    subst hk
    repeat' (first | exact aa | ((conv => whnf) <;> (first | refine And.intro ?_ ?_ | (intro _h; first | contradiction | (try simp only [dd] at _h)) | (refine dt_go ?_) | exact rfl | exact True.intro | exact dkk | exact dks | ((first | refine .inl ⟨_, hE, ?_⟩ | refine ⟨_, hE, ?_⟩); (try rintro _ rfl)) | (refine wrap_succ ?_; omega))))
    conv => whnf
    exact endM_pick [0] [some (rowL 1 intC (offL l l.length))] (.tup [.row 0 l.length, .i .i64 (rup (endK Typ.al Typ.sz' l l.length) (maxK Typ.al 1 l l.length) : Nat), .i .i64 (maxK Typ.al 1 l l.length : Nat)]) (view_of rfl (.cons rfl (.self (rowPl_L fun _ => rfl)) .nil)) (by rw [offL_len]; rfl) rfl (fun k hk => by rw [hX] at hk; exact absurd hk (Nat.not_lt_zero _)) ⟨rfl, rfl⟩
theorem l09Parts_ok (n : Nat) (l : List Typ) (hb : ElB l) (hq : ∀ k, k < l.length → ShC (n + 1) (l.getD k default)) : Ret env.P 33 [slL 4 (Typ.pN (n + 1)) l] (fun r => r = .tup [slL 1 intC (offL l l.length), .i .i64 (rup (endK Typ.al Typ.sz' l l.length) (maxK Typ.al 1 l l.length) : Nat), .i .i64 (maxK Typ.al 1 l l.length : Nat)]) := by
  refine Ret.ofFrz (RetM.mono (l09Parts_own n l hb hq) fun r H h => ?_)
  obtain ⟨rfl, rfl⟩ := h
  exact frz0 (frz_tup (.cons (shr_L (d := 0) (k := 4) (offL_len l _).symm) (.cons (.refl _) (.cons (.refl _) .nil)))) rfl
end Go.Proofs.YtnppkgmodflkdaaGreat

namespace Go.Proofs.YtnppkgmodflkdaaGreat
open Go Go.RowKit
set_option linter.unusedVariables false
set_option linter.unusedSimpArgs false
attribute [local irreducible] IntKind.wrap

theorem leafP {a b x y : Nat} (h : (a : Int) = (x : Nat)) (h' : (b : Int) = (y : Nat)) : AV.tup [.i .i64 (a : Int), .i .i64 (b : Int)] = .tup [.i .i64 (x : Nat), .i .i64 (y : Nat)] := by rw [h, h']
theorem leafI {a b : Int} {x y : Nat} (h : a = (x : Nat)) (h' : b = (y : Nat)) : AV.tup [.i .i64 a, .i .i64 b] = .tup [.i .i64 (x : Nat), .i .i64 (y : Nat)] := by rw [h, h']
theorem num_k {k : Int} (h : 0 < ((numSz k : Nat) : Int)) : ¬ (k = 1 ∨ k = 18 ∨ k = 11 ∨ k = 12 ∨ k = 19 ∨ (k = 15 ∨ k = 16) ∨ (k = 13 ∨ k = 14 ∨ k = 17)) := by
  intro q
  have : numSz k = 0 := by
    unfold numSz
    rw [if_neg (by omega), if_neg (by omega), if_neg (by omega), if_neg (by omega)]
  rw [this] at h
  exact absurd h (by decide)
theorem num_z {k : Int} (h : ¬ 0 < ((numSz k : Nat) : Int)) : ¬ ((2 ≤ k ∧ k ≤ 10) ∨ (20 ≤ k ∧ k ≤ 23)) := by
  intro q
  have := (numSz_p2 q).pos
  omega
theorem sz_cs' {a : Typ} (h : isCs a.kind) (h1 : a.kind = 13 → a.kids.length = 1) : ((rup (rup 1 (maxK Typ.al 1 a.cas a.cas.length) + maxK Typ.sz' 0 a.cas a.cas.length) (maxK Typ.al 1 a.cas a.cas.length) : Nat) : Int) = (szG Typ.sz' a : Nat) := by
  have e := Int.ofNat_inj.1 (al_cs h h1)
  rw [← Typ.al_eq] at e
  have q := sz_cs h h1
  rw [← e] at q
  exact q
set_option maxRecDepth 8000 in
theorem unit_shape (n : Nat) : ShC (n + 1) unitT := by
  unfold ShC
  rw [unit_sz, unit_al]
  refine ret_of (nt := 59) (rvs := [.tmp 2, .tmp 3]) Tryz.func57 rfl rfl rfl rfl (fun X => ?_)
  repeat' (first | exact aa | ((conv => whnf) <;> (first | refine And.intro ?_ ?_ | (intro _h; first | contradiction | (try simp only [dd] at _h)) | (refine dt_go ?_) | exact rfl | exact True.intro | exact dkk | exact dks | ((first | refine .inl ⟨_, numSizeS_ok _, ?_⟩ | refine ⟨_, numSizeS_ok _, ?_⟩); (try rintro _ rfl)) | (refine wrap_succ ?_; omega))))
  all_goals (conv => whnf)
  all_goals trace_state
set_option maxRecDepth 8000 in
set_option maxHeartbeats 2000000 in
theorem shape_n : ∀ (n : Nat) (a : Typ), Typ.oN n a → a.sh → a.np ≤ 1000 → ShC n a
  | 0, a, h, _, _ => h.elim
  | n + 1, a, h, hs, hp1 => by
    obtain ⟨hp, hkid⟩ := Typ.sh_eq.1 hs
    have hl := Typ.oN_len h
    have h13 : a.kind = 13 → a.kids.length = 1 := fun e => (hp.ks.k1 (by omega)).1
    have ih : ∀ k, k < a.kids.length → ShC n (a.kids.getD k default) := fun k hk => shape_n n _ (Typ.oN_kid h hk) (hkid k hk) (by have := Typ.np_kid hk; omega)
    have hP := l09Parts_ok n a.kids (kidsB hs hp1) (fun k hk => Ret.wk (.cons (Typ.down (Typ.oN_kid h hk)) .nil) (ih k hk))
    have hM := l09Most_ok (n + 1) a.cas (cas_len hl) (cas_all (p := fun b => ShC (n + 2) b) (unit_shape _) (fun e => by rw [h13 e]; exact Nat.le_refl _) (fun k hk => Ret.wk (.cons (Typ.dn2 (Typ.oN_kid h hk)) .nil) (ih k hk)))
    have hC := l09Cases_ok (Typ.oN_up _ _ h) (fun e => by rw [h13 e]; exact Nat.le_refl _)
    have hN := numSizeS_ok a.kind
    have hv : 1 ≤ a.kind ∧ a.kind ≤ 23 := by
      by_cases q : (12 ≤ a.kind ∧ a.kind ≤ 17) ∨ a.kind = 22 ∨ a.kind = 23
      · omega
      · exact (hp.ks.k7 q).1
    have hlb : a.kind = 19 → 1 ≤ a.labels.length ∧ a.labels.length ≤ 16 := fun e => ⟨(hp.l1 (by unfold isLab; omega)).lo, (hp.l1 (by unfold isLab; omega)).hi⟩
    have hm := cas_p2 hs
    have hm1 := hm.pos
    have hx := up1_le hm
    have hy := cas_szB hs hp1
    have hU1 := l10Up_ok hm1.1 (x := 1) (by omega)
    have hU : Ret env.P 58 [.i .i64 (IntKind.i64.wrap (((rup 1 (maxK Typ.al 1 a.cas a.cas.length) : Nat) : Int) + (maxK Typ.sz' 0 a.cas a.cas.length : Nat))), .i .i64 (maxK Typ.al 1 a.cas a.cas.length : Nat)] (fun r => r = .i .i64 (rup (rup 1 (maxK Typ.al 1 a.cas a.cas.length) + maxK Typ.sz' 0 a.cas a.cas.length) (maxK Typ.al 1 a.cas a.cas.length) : Nat)) := by
      rw [wrap_in (by omega) (by omega), ← Int.natCast_add]
      exact l10Up_ok hm1.1 (by omega)
    unfold ShC
    rw [Typ.sz_eq, Typ.al_eq]
    refine Ret.wk (.cons (Typ.lift h) .nil) ?_
    refine ret_of (nt := 59) (rvs := [.tmp 2, .tmp 3]) Tryz.func57 rfl rfl rfl rfl (fun X => ?_)
    repeat' (first | exact aa | ((conv => whnf) <;> (first | refine And.intro ?_ ?_ | (intro _h; first | contradiction | (try simp only [dd] at _h)) | (refine dt_go ?_) | exact rfl | exact True.intro | exact dkk | exact dks | ((first | refine .inl ⟨_, hP, ?_⟩ | refine ⟨_, hP, ?_⟩); (try rintro _ rfl)) | ((first | refine .inl ⟨_, hC, ?_⟩ | refine ⟨_, hC, ?_⟩); (try rintro _ rfl)) | ((first | refine .inl ⟨_, hM, ?_⟩ | refine ⟨_, hM, ?_⟩); (try rintro _ rfl)) | ((first | refine .inl ⟨_, hN, ?_⟩ | refine ⟨_, hN, ?_⟩); (try rintro _ rfl)) | ((first | refine .inl ⟨_, hU1, ?_⟩ | refine ⟨_, hU1, ?_⟩); (try rintro _ rfl)) | ((first | refine .inl ⟨_, hU, ?_⟩ | refine ⟨_, hU, ?_⟩); (try rintro _ rfl)) | (refine wrap_succ ?_; omega))))
    all_goals clear hP hC hM hN hU1 hU ih
    all_goals (conv => whnf)
    all_goals first
      | exact leafI (sz_8 (by omega)) (al_4 (by omega))
      | exact leafI (sz_18 (by omega)) (al_1 (by omega))
      | exact leafI (sz_1 (by omega)) (al_1 (by omega))
      | exact leafI (sz_1 (by have := num_z (k := a.kind) (by assumption); omega)) (al_1 (by have := num_z (k := a.kind) (by assumption); omega))
      | exact leafI (sz_no (num_k ‹_›)) (al_no (num_k ‹_›))
      | exact leafI ((show (2 : Int) = (((a.labels.length + 7) / 8 : Nat) : Int) by have := hlb (by omega); omega).trans (sz_19 (by omega))) ((show (2 : Int) = (((a.labels.length + 7) / 8 : Nat) : Int) by have := hlb (by omega); omega).trans (al_19 (by omega)))
      | exact leafI ((show (1 : Int) = (((a.labels.length + 7) / 8 : Nat) : Int) by have := hlb (by omega); omega).trans (sz_19 (by omega))) ((show (1 : Int) = (((a.labels.length + 7) / 8 : Nat) : Int) by have := hlb (by omega); omega).trans (al_19 (by omega)))
      | exact leafI (sz_cs' (by unfold isCs; omega) h13) (al_cs (by unfold isCs; omega) h13)
      | exact leafI (sz_tu (by unfold isTu; omega)) (al_tu (by unfold isTu; omega))
      | trace_state
end Go.Proofs.YtnppkgmodflkdaaGreat

namespace Go.Proofs.YtnppkgmodflkdaaGreat
open Go Go.RowKit
set_option linter.unusedVariables false
set_option linter.unusedSimpArgs false
attribute [local irreducible] IntKind.wrap

structure GoodTo (l : List Typ) (k : Nat) : Prop where
  h : ∀ j, j < k → (l.getD j default).good
theorem GoodTo.zero (l : List Typ) : GoodTo l 0 := ⟨fun j hj => absurd hj (Nat.not_lt_zero _)⟩
theorem GoodTo.next {l : List Typ} {k : Nat} (h : GoodTo l k) (h1 : ¬ ¬ (l.getD k default).good) : GoodTo l (k + 1) := ⟨fun j hj => by
  rcases Nat.lt_or_eq_of_le (Nat.le_of_lt_succ hj) with q | rfl
  · exact h.h j q
  · exact Classical.not_not.1 h1⟩
theorem dec_ts {l : List Typ} {k : Nat} (h : GoodTo l k) (hk : l.length ≤ k ∨ 24 < l.length) : decide ((l.length : Int) ≤ 24) = pb (TsOk l) := by
  by_cases q : l.length ≤ 24
  · rw [decide_eq_true (by omega), pb_t.mpr ⟨q, fun j hj => h.h j (by omega)⟩]
  · rw [decide_eq_false (by omega), pb_f.mpr (fun r => q r.le)]
set_option maxRecDepth 8000 in
theorem l09Ok_ok {n : Nat} {l : List Typ} (h : TsR n l) : Ret env.P 32 [slL 4 (Typ.pN (n + 1)) l] (fun r => r = .b (pb (TsOk l))) := by
  have hl := h.le
  have hT : ∀ k, k < l.length → Ret env.P 48 [.agg (Typ.pN (n + 1) (l.getD k default))] (fun r => r = .b (pb (l.getD k default).good)) := fun k hk => typeOk_spec (h.o k hk)
  refine ret_of (nt := 23) (rvs := [.tmp 2]) Tryz.func32 rfl rfl rfl rfl (fun X => ?_)
  repeat' (first | exact aa | ((conv => whnf) <;> (first | refine loopN l.length (fun k => [(3, .i .i64 k)]) (fun k => []) (fun k => GoodTo l k) ⟨.zero l, ?_⟩ | exact GoodTo.next ‹_› ‹_› | refine And.intro ?_ ?_ | (intro _h; first | contradiction | (try simp only [dd] at _h)) | (refine dt_go ?_) | exact rfl | exact True.intro | exact dkk | exact dks | ((first | refine .inl ⟨_, hT _ (by omega), ?_⟩ | refine ⟨_, hT _ (by omega), ?_⟩); (try rintro _ rfl)) | (refine wrap_succ ?_; omega))))
  all_goals (try simp only [Int.toNat_natCast] at *)
  all_goals (conv => whnf)
  all_goals first
    | exact GoodTo.next ‹_› ‹_›
    | exact leaf_f (fun q => ‹¬ Typ.good _› (q.al _ (by omega)))
    | (rename_i k _ hk _
       exact leaf_b (dec_ts (k := k) hk (by omega)))
    | (rename_i k _ hk
       exact leaf_b (dec_ts (k := k) hk (by omega)))
    | trace_state
end Go.Proofs.YtnppkgmodflkdaaGreat

namespace Go.Proofs.YtnppkgmodflkdaaGreat
open Go Go.RowKit
set_option linter.unusedVariables false
set_option linter.unusedSimpArgs false
attribute [local irreducible] IntKind.wrap

theorem partsAtS_ok {n : Nat} {l : List Typ} (h : TsR n l) : Ret env.P 10 [slL 4 (Typ.pN (n + 1)) l] (fun r => (TsOk l ∧ r = slL 1 intC (offL l l.length)) ∨ (¬ TsOk l ∧ r = slL 1 intC [])) := by
  have h1 := l09Ok_ok h
  have h2 := fun q : TsOk l => l09Parts_ok n l q.el (fun k hk => shape_n (n + 1) _ (h.o k hk) (q.al k hk).2.2 (by have := (q.al k hk).2.1; omega))
  refine Ret.ofFrz ?_
  refine ret_ofM (nt := 17) (rvs := [.tmp 2]) Tryz.func10 rfl rfl rfl rfl (fun X hX => ?_)
  repeat' (first | exact aa | ((conv => whnf) <;> (first | refine And.intro ?_ ?_ | (intro _h; first | contradiction | (try simp only [dd] at _h)) | (refine dt_go ?_) | exact rfl | exact True.intro | exact dkk | exact dks | ((first | refine .inl ⟨_, h1, ?_⟩ | refine ⟨_, h1, ?_⟩); (try rintro _ rfl)) | ((first | refine .inl ⟨_, h2 (Classical.not_not.1 ‹¬¬TsOk l›), ?_⟩ | refine ⟨_, h2 (Classical.not_not.1 ‹¬¬TsOk l›), ?_⟩); (try rintro _ rfl)) | (refine wrap_succ ?_; omega))))
  all_goals (conv => whnf)
  all_goals first
    | exact endM_self (frz0 (frz_cell rfl (.refl _)) (.inl ⟨Classical.not_not.1 ‹_›, rfl⟩))
    | exact endM_self (frz0 (r1 := slL 1 intC []) (frz_cell rfl (Wk.sl fun i j hi hj => absurd hi (Nat.not_lt_zero _))) (.inr ⟨‹¬ TsOk l›, rfl⟩))
    | trace_state
theorem totalAlignS_ok {n : Nat} {l : List Typ} (h : TsR n l) : Ret env.P 11 [slL 4 (Typ.pN (n + 1)) l] (fun r => r = .i .i64 (ifG (TsOk l) (maxK Typ.al 1 l l.length))) := by
  have h1 := l09Ok_ok h
  have h2 := fun q : TsOk l => l09Parts_ok n l q.el (fun k hk => shape_n (n + 1) _ (h.o k hk) (q.al k hk).2.2 (by have := (q.al k hk).2.1; omega))
  refine ret_of (nt := 16) (rvs := [.tmp 2]) Tryz.func11 rfl rfl rfl rfl (fun X => ?_)
  repeat' (first | exact aa | ((conv => whnf) <;> (first | refine And.intro ?_ ?_ | (intro _h; first | contradiction | (try simp only [dd] at _h)) | (refine dt_go ?_) | exact rfl | exact True.intro | exact dkk | exact dks | ((first | refine .inl ⟨_, h1, ?_⟩ | refine ⟨_, h1, ?_⟩); (try rintro _ rfl)) | ((first | refine .inl ⟨_, h2 (Classical.not_not.1 ‹¬¬TsOk l›), ?_⟩ | refine ⟨_, h2 (Classical.not_not.1 ‹¬¬TsOk l›), ?_⟩); (try rintro _ rfl)) | (refine wrap_succ ?_; omega))))
  all_goals (conv => whnf)
  all_goals first
    | exact leaf_i (ifG_t (Classical.not_not.1 ‹_›))
    | exact leaf_i (ifG_f ‹_›)
    | trace_state
end Go.Proofs.YtnppkgmodflkdaaGreat

namespace Go.Proofs.YtnppkgmodflkdaaGreat
open Go Go.RowKit
set_option linter.unusedVariables false
set_option linter.unusedSimpArgs false
attribute [local irreducible] IntKind.wrap

theorem offL_get {l : List Typ} : ∀ (m k : Nat), k < m → (offL l m).getD k default = (rup (endK Typ.al Typ.sz' l k) (Typ.al (l.getD k default)) : Nat)
  | 0, k, h => absurd h (Nat.not_lt_zero _)
  | m + 1, k, h => by
    show (offL l m ++ [_]).getD k default = _
    rw [List.getD_eq_getElem?_getD]
    rcases Nat.lt_or_eq_of_le (Nat.le_of_lt_succ h) with q | rfl
    · rw [List.getElem?_append_left (by rw [offL_len]; exact q), ← List.getD_eq_getElem?_getD]
      exact offL_get m k q
    · rw [List.getElem?_append_right (by rw [offL_len]; exact Nat.le_refl _), offL_len, Nat.sub_self]
      rfl
theorem tmod_d {x y : Nat} (h : y ∣ x) : (x : Int).tmod (y : Int) = 0 := Int.tmod_eq_zero_of_dvd (Int.natCast_dvd_natCast.2 h)
/-- One element. -/
theorem apart_one {l : List Typ} (h : TsOk l) {k : Nat} (hk : k < l.length) : (1 : Int) ≤ ((l.getD k default).al : Nat) ∧ ((offL l l.length).getD k default).tmod ((l.getD k default).al : Nat) = 0 ∧ ((endK Typ.al Typ.sz' l k : Nat) : Int) ≤ (offL l l.length).getD k default ∧ IntKind.i64.wrap ((offL l l.length).getD k default - (endK Typ.al Typ.sz' l k : Nat)) < ((l.getD k default).al : Nat) ∧ ((maxK Typ.al 1 l l.length : Nat) : Int).tmod ((l.getD k default).al : Nat) = 0 ∧ IntKind.i64.wrap ((offL l l.length).getD k default + ((l.getD k default).sz' : Nat)) = (endK Typ.al Typ.sz' l (k + 1) : Nat) := by
  have hb := h.el
  have ha := hb.al k hk
  have h1 := up_le (x := endK Typ.al Typ.sz' l k) ha.pos.1
  have h2 := hb.bd (k := k) (by omega)
  have h3 := hb.bd (k := k + 1) hk
  have h4 := ha.pos.2
  have h5 := (maxK_p2 (f := Typ.al) hb.al (Nat.le_refl l.length)).2 k hk
  have e : endK Typ.al Typ.sz' l (k + 1) = rup (endK Typ.al Typ.sz' l k) (Typ.al (l.getD k default)) + (l.getD k default).sz' := rfl
  rw [offL_get _ _ hk]
  refine ⟨by have := ha.pos.1; omega, tmod_d (up_dvd _ _), by omega, ?_, tmod_d h5, ?_⟩
  · rw [wrap_in (by omega) (by omega)]
    omega
  · rw [wrap_in (by omega) (by omega)]
    omega
/-- The end. -/
theorem apart_end {l : List Typ} (h : TsOk l) : (1 : Int) ≤ (maxK Typ.al 1 l l.length : Nat) ∧ ((rup (endK Typ.al Typ.sz' l l.length) (maxK Typ.al 1 l l.length) : Nat) : Int).tmod (maxK Typ.al 1 l l.length : Nat) = 0 ∧ ((endK Typ.al Typ.sz' l l.length : Nat) : Int) ≤ (rup (endK Typ.al Typ.sz' l l.length) (maxK Typ.al 1 l l.length) : Nat) ∧ IntKind.i64.wrap (((rup (endK Typ.al Typ.sz' l l.length) (maxK Typ.al 1 l l.length) : Nat) : Int) - (endK Typ.al Typ.sz' l l.length : Nat)) < (maxK Typ.al 1 l l.length : Nat) := by
  have hb := h.el
  have hm := (maxK_p2 (f := Typ.al) hb.al (Nat.le_refl l.length)).1.pos
  have h1 := up_le (x := endK Typ.al Typ.sz' l l.length) hm.1
  have h2 := hb.bd (Nat.le_refl l.length)
  refine ⟨by omega, tmod_d (up_dvd _ _), by omega, ?_⟩
  rw [wrap_in (by omega) (by omega)]
  omega
end Go.Proofs.YtnppkgmodflkdaaGreat

namespace Go.Proofs.YtnppkgmodflkdaaGreat
open Go Go.RowKit
set_option linter.unusedVariables false
set_option linter.unusedSimpArgs false
attribute [local irreducible] IntKind.wrap

theorem drawParts_of (l : List UInt8) (hl : l.length ≤ 1048576) : RetM env.P 6 [] [slL 1 byteC l] (fun r H => ∃ ts : List Typ, (ts.length ≤ 25 ∧ ∀ j, j < ts.length → T14 (ts.getD j default)) ∧ r = slL 4 (Typ.pN 14) ts ∧ H = []) := by
  refine RetM.frz [] rfl plainH_nil ?_
  refine ret_ofM (nt := 6) (rvs := [.tmp 2]) Tryz.func6 rfl rfl rfl rfl (fun X hX => ?_)
  repeat' (first | exact aa | ((conv => whnf) <;> (first | refine And.intro ?_ ?_ | (intro _h; first | contradiction | (try simp only [dd] at _h)) | (refine dt_go ?_) | exact rfl | exact True.intro | exact dkk | exact dks | (refine .inr (.inl (.inl ⟨[], _, _, _, from_gen l hl, viewA, ⟨rfl, rfl⟩, ?_⟩)); rintro _ _ ⟨s, ⟨hs1, hs2⟩, rfl, rfl⟩; refine ⟨rfl, _, lokA, ?_⟩) | (refine .inr (.inl (.inl ⟨[0], _, _, _, l09Types_ok s (Src.rm_i (by omega) (by omega) (by omega)), viewA, ⟨rfl, rfl⟩, ?_⟩)); rintro _ _ ⟨ts, t, hts, rfl, rfl⟩; refine ⟨rfl, _, lokA, ?_⟩) | (refine wrap_succ ?_; omega))))
  all_goals (conv => whnf)
  all_goals exact endM_self ⟨[], slL 4 (Typ.pN 14) ts, view_none, frz_cell rfl (shr_L (d := 0) (k := 4) rfl), ts, hts, rfl, rfl⟩
theorem offs_sl {l : List Typ} : slL 1 intC (offL l l.length) = .sl 1 l.length (elE intC (offL l l.length)) := by
  show AV.sl 1 (offL l l.length).length _ = _
  rw [offL_len]
  rfl
theorem ts_R {l : List Typ} (h : l.length ≤ 25 ∧ ∀ j, j < l.length → T14 (l.getD j default)) : TsR 13 l := ⟨by omega, fun k hk => Typ.oN_up _ _ (h.2 k hk).o, fun k hk => by have := (h.2 k hk).np; omega⟩
set_option maxRecDepth 8000 in
set_option maxHeartbeats 8000000 in
theorem apartLaw_of (l m : List UInt8) : RetM env.P 3 [] [slL 1 byteC l, slL 1 byteC m] (fun r H => (r = .b true ∨ r = .kb true) ∧ H = []) := by
  by_cases hl : 1048576 < (l.length : Int) ∨ 1048576 < (m.length : Int)
  · have hb := b10Long_ok l m
    rw [pb_t.mpr hl] at hb
    refine ret_ofM (nt := 117) (rvs := [.tmp 4]) Tryz.func3 rfl rfl rfl rfl (fun X hX => ?_)
    repeat' (first | exact aa | ((conv => whnf) <;> (first | refine And.intro ?_ ?_ | (intro _h; first | contradiction | (try simp only [dd] at _h)) | (refine dt_go ?_) | exact rfl | exact True.intro | exact dkk | exact dks | ((first | refine .inl ⟨_, hb, ?_⟩ | refine ⟨_, hb, ?_⟩); (try rintro _ rfl)) | (refine wrap_succ ?_; omega))))
    all_goals (conv => whnf)
    all_goals exact endM_pick [] [] (.kb true) (view_of rfl .nil) rfl rfl (fun k hk => by rw [hX] at hk; exact absurd hk (Nat.not_lt_zero _)) ⟨.inr rfl, rfl⟩
  · have hb := b10Long_ok l m
    rw [pb_f.mpr hl] at hb
    refine ret_ofM (nt := 117) (rvs := [.tmp 4]) Tryz.func3 rfl rfl rfl rfl (fun X hX => ?_)
    repeat' (first | exact aa | ((conv => whnf) <;> (first | refine And.intro ?_ ?_ | (intro _h; first | contradiction | (try simp only [dd] at _h)) | (refine dt_go ?_) | exact rfl | exact True.intro | exact dkk | exact dks | ((first | refine .inl ⟨_, hb, ?_⟩ | refine ⟨_, hb, ?_⟩); (try rintro _ rfl)) | (refine .inr (.inl (.inl ⟨[], _, _, _, drawParts_of l (by omega), viewA, ⟨rfl, rfl⟩, ?_⟩)); rintro _ _ ⟨ts, hts, rfl, rfl⟩; refine ⟨rfl, _, lokA, ?_⟩) | (refine wrap_succ ?_; omega))))
    have hR := ts_R hts
    have hP0 := partsAt_impl hR
    have hS := totalSize_impl hR
    have hA := totalAlign_impl hR
    have hQ0 := partsAtS_ok hR
    have hB := totalAlignS_ok hR
    have hlen := hts.1
    by_cases hg : TsOk ts
    · have hP : Ret env.P 7 [slL 4 (Typ.pN 14) ts] (fun r => r = .sl 1 ts.length (elE intC (offL ts ts.length))) := hP0.mono fun r h => by
        rcases h with h | h
        · rw [h.2]; exact offs_sl
        · exact absurd hg h.1
      have hQ : Ret env.P 10 [slL 4 (Typ.pN 14) ts] (fun r => r = .sl 1 ts.length (elE intC (offL ts ts.length))) := hQ0.mono fun r h => by
        rcases h with h | h
        · rw [h.2]; exact offs_sl
        · exact absurd hg h.1
      rw [← ifG_t hg] at hS hA hB
      obtain ⟨e1, e2, e3, e4⟩ := apart_end hg
      have hF : ∀ k, k < ts.length → _ := fun k hk => apart_one hg hk
      have hE : ∀ k, k ≤ ts.length → ¬ (k : Int) < ts.length → ((endK Typ.al Typ.sz' ts k : Nat) : Int) ≤ (rup (endK Typ.al Typ.sz' ts ts.length) (maxK Typ.al 1 ts ts.length) : Nat) ∧ IntKind.i64.wrap (((rup (endK Typ.al Typ.sz' ts ts.length) (maxK Typ.al 1 ts ts.length) : Nat) : Int) - (endK Typ.al Typ.sz' ts k : Nat)) < (maxK Typ.al 1 ts ts.length : Nat) := fun k hk hk' => by
        obtain rfl : k = ts.length := by omega
        exact ⟨e3, e4⟩
      clear e3 e4
      generalize offL ts ts.length = os at *
      generalize maxK Typ.al 1 ts ts.length = al at *
      generalize (rup (endK Typ.al Typ.sz' ts ts.length) al) = sz at *
      repeat' (first | exact aa | ((conv => whnf) <;> (first | (exfalso; exact ‹¬True› trivial) | (exfalso; exact ‹¬ (_ : Int) ≤ (sz : Int)› (hE _ ‹_› ‹_›).1) | (exfalso; exact ‹¬ (sz : Int).tmod (al : Int) = 0› e2) | refine loopN ts.length (fun k => [(10, .i .i64 k), (9, .i .i64 (endK Typ.al Typ.sz' ts k : Nat))]) (fun k => []) (fun k => True) ⟨trivial, ?_⟩ | refine And.intro ?_ ?_ | (intro _h; first | contradiction | (try simp only [dd] at _h)) | (refine dt_go ?_) | exact rfl | exact True.intro | exact dkk | exact dks | ((first | refine .inl ⟨_, hP, ?_⟩ | refine ⟨_, hP, ?_⟩); (try rintro _ rfl)) | ((first | refine .inl ⟨_, hQ, ?_⟩ | refine ⟨_, hQ, ?_⟩); (try rintro _ rfl)) | ((first | refine .inl ⟨_, hS, ?_⟩ | refine ⟨_, hS, ?_⟩); (try rintro _ rfl)) | ((first | refine .inl ⟨_, hA, ?_⟩ | refine ⟨_, hA, ?_⟩); (try rintro _ rfl)) | ((first | refine .inl ⟨_, hB, ?_⟩ | refine ⟨_, hB, ?_⟩); (try rintro _ rfl)) | (refine wrap_succ ?_; omega))))
      · rename_i k _ _
        have hk : k < ts.length := by omega
        obtain ⟨f1, f2, f3, f4, f5, f6⟩ := hF k hk
        have hgk := hg.al k hk
        have hok := hR.o k hk
        have hnk := hgk.2.1
        have hAk := alignOf_impl hok (by omega)
        have hSk := sizeOf_impl hok (by omega)
        rw [← ifG_t hgk] at hAk hSk
        repeat' (first | exact aa | ((conv => whnf) <;> (first | (exfalso; exact ‹¬True› trivial) | (exfalso; exact ‹¬ _ = (0 : Int)› f2) | (exfalso; exact ‹¬ _ = (0 : Int)› f5) | exact f6 | (exfalso; exact absurd ‹os.getD _ default < _› (Int.not_lt.2 f3)) | (exfalso; exact absurd ‹_ ≤ IntKind.i64.wrap _› (Int.not_le.2 f4)) | refine And.intro ?_ ?_ | (intro _h; first | contradiction | (try simp only [dd] at _h)) | (refine dt_go ?_) | exact rfl | exact True.intro | exact dkk | exact dks | ((first | refine .inl ⟨_, hAk, ?_⟩ | refine ⟨_, hAk, ?_⟩); (try rintro _ rfl)) | ((first | refine .inl ⟨_, hSk, ?_⟩ | refine ⟨_, hSk, ?_⟩); (try rintro _ rfl)) | (refine wrap_succ ?_; omega))))
        all_goals trace_state
      all_goals (conv => whnf)
      all_goals exact endM_pick [] [] (.b (decide _)) (view_of rfl .nil) rfl rfl (fun k hk => by rw [hX] at hk; exact absurd hk (Nat.not_lt_zero _)) ⟨.inl (congrArg AV.b (decide_eq_true (hE _ ‹_› ‹_›).2)), rfl⟩
    · have hP : Ret env.P 7 [slL 4 (Typ.pN 14) ts] (fun r => r = .nils) := hP0.mono fun r h => by
        rcases h with h | h
        · exact absurd h.1 hg
        · exact h.2
      have hQ : Ret env.P 10 [slL 4 (Typ.pN 14) ts] (fun r => r = slL 1 intC []) := hQ0.mono fun r h => by
        rcases h with h | h
        · exact absurd h.1 hg
        · exact h.2
      rw [← ifG_f hg] at hS hA hB
      repeat' (first | exact aa | ((conv => whnf) <;> (first | (exfalso; exact ‹¬True› trivial) | refine And.intro ?_ ?_ | (intro _h; first | contradiction | (try simp only [dd] at _h)) | (refine dt_go ?_) | exact rfl | exact True.intro | exact dkk | exact dks | ((first | refine .inl ⟨_, hP, ?_⟩ | refine ⟨_, hP, ?_⟩); (try rintro _ rfl)) | ((first | refine .inl ⟨_, hQ, ?_⟩ | refine ⟨_, hQ, ?_⟩); (try rintro _ rfl)) | ((first | refine .inl ⟨_, hS, ?_⟩ | refine ⟨_, hS, ?_⟩); (try rintro _ rfl)) | ((first | refine .inl ⟨_, hA, ?_⟩ | refine ⟨_, hA, ?_⟩); (try rintro _ rfl)) | ((first | refine .inl ⟨_, hB, ?_⟩ | refine ⟨_, hB, ?_⟩); (try rintro _ rfl)) | (refine wrap_succ ?_; omega))))
      all_goals (conv => whnf)
      all_goals exact endM_pick [] [] (.b true) (view_of rfl .nil) rfl rfl (fun k hk => by rw [hX] at hk; exact absurd hk (Nat.not_lt_zero _)) ⟨.inl rfl, rfl⟩
end Go.Proofs.YtnppkgmodflkdaaGreat
