/- Texts for VSectionsP. -/
import Derived.Test.YtdeledeopippfaaVx13
namespace Go.Proofs.Ytdeledeopippfaa
open Go Go.RowKit
set_option linter.unusedVariables false
set_option linter.unusedSimpArgs false
section
variable {E : Env} {P : Program} {nt : Nat} {X : Ctx} {f f' : Fr} {H H' : Hp} {a : Act} {w : World} {blk : Nat → BC} {FP : Nat → List Nat}
def RC (H H' : Hp) (r : Nat → Nat) (v v' : AV) : Prop :=
  ∀ (w : World) (S S' : Nat → Prop) (blk : Nat → BC) (u : Value) (fp : List Nat), (∀ b, S b → S' b) → Own w S blk H' v' u fp → Own w S' (fun j => blk (r j)) H v u fp
theorem rc_any {r : Nat → Nat} {v' : AV} (h : v'.isOw = false) : RC H H' r .any v' := fun w S S' blk u fp hS ho => by
  cases ho with
  | plain h => exact .plain (.any u)
  | ow0 => cases h
  | ow => cases h
theorem rc_free {r : Nat → Nat} {v : AV} (hv : v.idfO) : RC H H' r v v := by
  intro w S S' blk u fp hS ho
  induction ho with
  | @plain x u h =>
    have hi : x.idf := by
      cases x with
      | ow => cases h
      | _ => exact hv
    exact .plain ((h.free hi).mono (fun b hb => ⟨hS b hb, rfl⟩) (HExt.refl _ _))
  | ow0 a => exact .ow0 a
  | ow b cap ty cur U F hb hcur hn hm h0 h1 hc hf hu hF ih =>
    exact .ow b cap ty cur U F hb hcur hn hm h0 h1 hc hf (fun i j hi hj => ih i j hi hj (hv i j hi hj)) hF
theorem rc_ptr {r : Nat → Nat} {id id' j off : Nat} (hid : id' = r id) (hr : ∀ x, H'[id']? = some (some x) → ∃ y, H[id]? = some (some y) ∧ y.sz = x.sz ∧ y.cap = x.cap) (hd : H'[id']? = some none → H[id]? = some none) : RC H H' r (.ptr id j off) (.ptr id' j off) := by
  intro w S S' blk u fp hS ho
  have h := ho.conc rfl
  have hfp : fp = [] := by cases ho; rfl
  subst hfp
  subst hid
  refine .plain ?_
  cases h with
  | ptr x hx hj ho =>
    obtain ⟨y, hy, h1, h2⟩ := hr x hx
    have := Conc.ptr (w := w) (S := S') (blk := fun j => blk (r j)) (j := j) (off := off) y hy (by omega) (by omega)
    rwa [h1] at this
  | ptrD hx => exact .ptrD (hd hx) _
theorem rc_row {r : Nat → Nat} {id id' n : Nat} (hid : id' = r id) (hr : ∀ x, H'[id']? = some (some x) → ∃ y, H[id]? = some (some y) ∧ y.sz = x.sz ∧ y.cap = x.cap) (hd : H'[id']? = some none → H[id]? = some none) : RC H H' r (.row id n) (.row id' n) := by
  intro w S S' blk u fp hS ho
  have h := ho.conc rfl
  have hfp : fp = [] := by cases ho; rfl
  subst hfp
  subst hid
  refine .plain ?_
  cases h with
  | row x hx hn hc h0 hm =>
    obtain ⟨y, hy, h1, h2⟩ := hr x hx
    exact Conc.row (w := w) (S := S') (blk := fun j => blk (r j)) (n := n) y hy (by omega) (by omega) h0 hm
  | row0 x hx hr' h0 a =>
    obtain ⟨y, hy, h1, h2⟩ := hr x hx
    exact .row0 y hy (by omega) h0 a
  | rowD hx => exact .rowD (hd hx) _
theorem rc_rs {r : Nat → Nat} {id id' o n : Nat} (hid : id' = r id) (hr : ∀ x, H'[id']? = some (some x) → ∃ y, H[id]? = some (some y) ∧ y.sz = x.sz ∧ y.cap = x.cap) (hd : H'[id']? = some none → H[id]? = some none) : RC H H' r (.rs id o n) (.rs id' o n) := by
  intro w S S' blk u fp hS ho
  have h := ho.conc rfl
  have hfp : fp = [] := by cases ho; rfl
  subst hfp
  subst hid
  refine .plain ?_
  cases h with
  | rs x hx hn hc hm a ha =>
    obtain ⟨y, hy, h1, h2⟩ := hr x hx
    exact Conc.rs (w := w) (S := S') (blk := fun j => blk (r j)) (o := o) (n := n) y hy (by omega) (by omega) hm a (by rw [h1]; exact ha)
  | rsD hx => exact .rsD (hd hx) _
theorem rc_mp {r : Nat → Nat} {id id' : Nat} (hid : id' = r id) (hr : ∀ x, H'[id']? = some (some x) → ∃ y, H[id]? = some (some y) ∧ y.sz = x.sz ∧ y.cap = x.cap) (hd : H'[id']? = some none → H[id]? = some none) : RC H H' r (.mp id) (.mp id') := by
  intro w S S' blk u fp hS ho
  have h := ho.conc rfl
  have hfp : fp = [] := by cases ho; rfl
  subst hfp
  subst hid
  refine .plain ?_
  cases h with
  | mp x hx =>
    obtain ⟨y, hy, h1, h2⟩ := hr x hx
    exact Conc.mp (w := w) (S := S') (blk := fun j => blk (r j)) y hy
  | mpD hx => exact .mpD (hd hx) _
def RCc (H H' : Hp) (r : Nat → Nat) (v v' : AV) : Prop :=
  ∀ (w : World) (S S' : Nat → Prop) (blk : Nat → BC) (u : Value), (∀ b, S b → S' b) → Conc w S blk H' v' u → Conc w S' (fun j => blk (r j)) H v u
theorem StB.ren {r : Nat → Nat} (s : StB nt X f' H' blk FP a w)
    (hrow : ∀ (j : Nat) (x : Row), H[j]? = some (some x) → ∃ y, H'[r j]? = some (some y) ∧ y.sz = x.sz ∧ y.cap = x.cap ∧ RKle y.k x.k ∧ ∀ i k, i < x.cap → k < x.sz → RC H H' r (x.es i k) (y.es i k))
    (hinj : ∀ (i j : Nat) (x y : Row), H[i]? = some (some x) → H[j]? = some (some y) → r i = r j → i = j)
    (hfr : ∀ t, RCc H H' r (lk f t) (lk f' t)) (hX : X.H0.length ≤ H.length) (hr : ∀ id x, id < X.H0.length → H[id]? = some (some x) → r id = id) : StB nt X f H (fun j => blk (r j)) (fun j => FP (r j)) a w := by
  have hS : ∀ b, X.S FP H' w.heap.size b → X.S (fun j => FP (r j)) H w.heap.size b := fun b hb => ⟨hb.1, hb.2.1, fun id x hx => by
    obtain ⟨y, hy, _⟩ := hrow id x hx
    exact hb.2.2 _ y hy⟩
  refine ⟨s.defers, s.size, s.keeps, fun id x hx => ?_, fun i j x y hi hj hne => ?_, fun t => ?_, fun id x hx => ?_⟩
  · obtain ⟨y, hy, h1, h2, hkk, h3⟩ := hrow id x hx
    obtain ⟨q1, q2⟩ := s.rows _ y hy
    refine ⟨?_, q2⟩
    rcases q1 with q1 | ⟨h0, hle, hmp, hb, ty, cur, F, e1, e2, hall, e3, e4, e5⟩
    · refine .inl ⟨h2 ▸ q1.1, q1.2.1, ?_⟩
      generalize y.k = yk at q1 hkk
      generalize x.k = xk at hkk ⊢
      cases hkk with
      | refl => exact q1.2.2
      | mp ak f sts =>
        rcases q1.2.2 with ⟨e, _⟩ | e | ⟨_, _, _, e, e2, e3⟩
        · cases e
        · cases e
        · cases e
          exact .inr (.inr ⟨ak, f, [], rfl, e2, e3.less⟩)
    · rw [h1] at e2
      refine .inr ⟨by omega, by omega, by rw [hkk.isMp]; exact hmp, hb, ty, cur, F, e1, e2, hall, fun i k hi hk => ?_, fun i k hi hk => e4 i k (by omega) (by omega), fun i k i' k' a1 a2 a3 a4 => e5 i k i' k' (by omega) (by omega) (by omega) (by omega)⟩
      obtain ⟨u, hu, ho, hc⟩ := e3 i k (by omega) (by omega)
      rw [h1] at hu
      exact ⟨u, hu, ho, h3 i k hi hk w _ _ blk u _ hS hc⟩
  · obtain ⟨x', hx', _⟩ := hrow i x hi
    obtain ⟨y', hy', _⟩ := hrow j y hj
    exact s.apart _ _ x' y' hx' hy' fun e => hne (hinj i j x y hi hj e)
  · exact hfr t w _ _ blk _ hS (s.fr t)
  · have hlt : id < X.H0.length := (List.getElem?_eq_some_iff.1 hx).1
    cases hy : H[id]? with
    | none => rw [List.getElem?_eq_none_iff] at hy; omega
    | some y =>
      cases y with
      | none => exact .inl rfl
      | some y =>
        have hid := hr id y hlt hy
        obtain ⟨z, hz, h1, h2, _⟩ := hrow id y hy
        rw [hid] at hz
        rcases s.ext id x hx with h | ⟨r0, r', e, h', g1, g2, g3⟩
        · rw [hz] at h; cases h
        · rw [hz] at h'
          cases h'
          exact .inr ⟨r0, y, e, rfl, by omega, by omega, by rw [hid]; exact g3⟩
def rhoF (l : List Nat) (j : Nat) : Nat := match l[j]? with | some k => k | none => j
def dimP (H H' : Hp) (r : List Nat) (id : Nat) : Prop :=
  match H[id]?, H'[rhoF r id]? with
  | some (some x), some (some y) => y.sz = x.sz ∧ y.cap = x.cap
  | some none, _ => True
  | _, _ => False
def rcP0 (H H' : Hp) (r : List Nat) (v v' : AV) : Prop :=
  match v, v' with
  | .any, .ow .. => False
  | .any, _ => True
  | .i k n, .i k' n' => k' = k ∧ n' = n
  | .b x, .b y => y = x
  | .b x, .kb y => y = x
  | .kb x, .kb y => y = x
  | .s x, .s y => y = x
  | .nils, .nils => True
  | .nilp, .nilp => True
  | .sl sz n g, .nils => n = 0
  | .sl sz n g, .sl sz' n' g' => sz' = sz ∧ n' = n ∧ ∀ i j, i < n → j < sz → g' i j = g i j
  | .rf m g, .rf m' g' => m' = m ∧ ∀ j, j < m → g' j = g j
  | .ow sz n g, .ow sz' n' g' => sz' = sz ∧ n' = n ∧ ∀ i j, i < n → j < sz → g' i j = g i j
  | .ptr id j off, .ptr id' j' off' => id' = rhoF r id ∧ j' = j ∧ off' = off ∧ dimP H H' r id
  | .row id n, .row id' n' => id' = rhoF r id ∧ n' = n ∧ dimP H H' r id
  | .rs id o n, .rs id' o' n' => id' = rhoF r id ∧ o' = o ∧ n' = n ∧ dimP H H' r id
  | .mp id, .mp id' => id' = rhoF r id ∧ dimP H H' r id
  | .fm ak f, .fm ak' f' => ak' = ak ∧ f' = f
  | .fn g [], .fn g' [] => g' = g
  | _, _ => False
def rcPL0 (H H' : Hp) (r : List Nat) : List AV → List AV → Prop
  | [], [] => True
  | [v], [v'] => rcP0 H H' r v v'
  | v :: vs, v' :: vs' => rcP0 H H' r v v' ∧ rcPL0 H H' r vs vs'
  | _, _ => False
def rcP1 (H H' : Hp) (r : List Nat) (v v' : AV) : Prop :=
  match v, v' with
  | .fn g cs, .fn g' cs' => g' = g ∧ rcPL0 H H' r cs cs'
  | v, v' => rcP0 H H' r v v'
def rcPL (H H' : Hp) (r : List Nat) : List AV → List AV → Prop
  | [], [] => True
  | [v], [v'] => rcP1 H H' r v v'
  | v :: vs, v' :: vs' => rcP1 H H' r v v' ∧ rcPL H H' r vs vs'
  | _, _ => False
def rcP (H H' : Hp) (r : List Nat) (v v' : AV) : Prop :=
  match v, v' with
  | .agg cs, .agg cs' => rcPL H H' r cs cs'
  | .fn g cs, .fn g' cs' => g' = g ∧ rcPL H H' r cs cs'
  | .ow .., _ => False
  | v, v' => rcP1 H H' r v v'
theorem dimP_c {r : List Nat} {id : Nat} (h : dimP H H' r id) : H[id]? = some none ∨ ((∀ x, H'[rhoF r id]? = some (some x) → ∃ y, H[id]? = some (some y) ∧ y.sz = x.sz ∧ y.cap = x.cap) ∧ (H'[rhoF r id]? = some none → H[id]? = some none)) := by
  unfold dimP at h
  split at h
  · rename_i x y hx hy
    rw [hy]
    exact .inr ⟨(fun z hz => by cases hz; exact ⟨x, hx, h.1.symm, h.2.symm⟩), (fun e => by cases e)⟩
  · rename_i hx
    exact .inl hx
  · cases h
theorem rcP0_ok {r : List Nat} {v v' : AV} (h : rcP0 H H' r v v') : RC H H' (rhoF r) v v' := by
  unfold rcP0 at h
  split at h
  · cases h
  · rename_i hne
    refine rc_any ?_
    cases v' with
    | ow sz n g => exact absurd rfl (hne sz n g)
    | _ => rfl
  · obtain ⟨h1, h2⟩ := h; subst h1; subst h2; exact rc_free trivial
  · cases h; exact rc_free trivial
  · cases h
    intro w S S' blk u fp hS ho
    have hfp : fp = [] := by cases ho; rfl
    subst hfp
    rw [inv_kb (ho.conc rfl)]
    exact .plain (.b _)
  · cases h; exact rc_free trivial
  · cases h; exact rc_free trivial
  · exact rc_free trivial
  · exact rc_free trivial
  · subst h
    intro w S S' blk u fp hS ho
    have hfp : fp = [] := by cases ho; rfl
    subst hfp
    rw [inv_nils (ho.conc rfl)]
    exact .plain (.sl0 _ 0 (Nat.zero_le _))
  · obtain ⟨rfl, rfl, h⟩ := h
    intro w S S' blk u fp hS ho
    have hfp : fp = [] := by cases ho; rfl
    subst hfp
    have hc := ho.conc rfl
    refine .plain ?_
    cases hc with
    | sl0 a cap hm => exact .sl0 a cap hm
    | sl b o cap U hb hn hm hc hf hu =>
      refine .sl b o cap U (hS b hb) hn hm hc (fun i j hi hj => h i j hi hj ▸ hf i j hi hj) (fun i j hi hj => ?_)
      rw [← h i j hi hj]
      exact ((hu i j hi hj).free (hf i j hi hj)).mono (fun b hb => ⟨hS b hb, rfl⟩) (HExt.refl _ _)
  · obtain ⟨rfl, h⟩ := h
    intro w S S' blk u fp hS ho
    have hfp : fp = [] := by cases ho; rfl
    subst hfp
    obtain ⟨b, o, U, rfl, hb, hc, hu, hf⟩ := inv_rf (ho.conc rfl)
    refine .plain (.rf b o U (hS b hb) hc (fun j hj => h j hj ▸ hf j hj) (fun j hj => ?_))
    rw [← h j hj]
    exact ((hu j hj).free (hf j hj)).mono (fun b hb => ⟨hS b hb, rfl⟩) (HExt.refl _ _)
  · obtain ⟨rfl, rfl, h⟩ := h
    intro w S S' blk u fp hS ho
    cases ho with
    | plain h => cases h
    | ow0 a => exact .ow0 a
    | ow b cap ty cur U F hb hcur hn hm h0 h1 hc hf hu hF =>
      refine .ow b cap ty cur U F hb hcur hn hm h0 h1 hc (fun i j hi hj => h i j hi hj ▸ hf i j hi hj) (fun i j hi hj => ?_) hF
      have e := h i j hi hj
      exact rc_free (e ▸ hf i j hi hj) w S S' blk _ _ hS (e ▸ hu i j hi hj)
  · obtain ⟨rfl, rfl, rfl, h⟩ := h
    rcases dimP_c h with h | h
    · intro w S S' blk u fp hS ho
      have hfp : fp = [] := by cases ho; rfl
      subst hfp
      exact .plain (.ptrD h u)
    · exact rc_ptr rfl h.1 h.2
  · obtain ⟨rfl, rfl, h⟩ := h
    rcases dimP_c h with h | h
    · intro w S S' blk u fp hS ho
      have hfp : fp = [] := by cases ho; rfl
      subst hfp
      exact .plain (.rowD h u)
    · exact rc_row rfl h.1 h.2
  · obtain ⟨rfl, rfl, rfl, h⟩ := h
    rcases dimP_c h with h | h
    · intro w S S' blk u fp hS ho
      have hfp : fp = [] := by cases ho; rfl
      subst hfp
      exact .plain (.rsD h u)
    · exact rc_rs rfl h.1 h.2
  · obtain ⟨rfl, h⟩ := h
    rcases dimP_c h with h | h
    · intro w S S' blk u fp hS ho
      have hfp : fp = [] := by cases ho; rfl
      subst hfp
      exact .plain (.mpD h u)
    · exact rc_mp rfl h.1 h.2
  · obtain ⟨rfl, rfl⟩ := h; exact rc_free trivial
  · cases h; exact rc_free rfl
  · cases h
theorem rcPL0_ok {r : List Nat} : ∀ {cs cs' : List AV}, rcPL0 H H' r cs cs' → cs.length = cs'.length ∧ ∀ (j : Nat) (c c' : AV), cs[j]? = some c → cs'[j]? = some c' → rcP0 H H' r c c'
  | [], [], _ => ⟨rfl, fun j c c' hj => by simp at hj⟩
  | [v], [v'], h => ⟨rfl, fun j c c' hj hj' => by
    cases j with
    | zero => cases hj; cases hj'; exact h
    | succ j => simp at hj⟩
  | v :: v2 :: vs, v' :: v2' :: vs', h => by
    obtain ⟨h1, h2⟩ := h
    obtain ⟨h3, h4⟩ := rcPL0_ok h2
    refine ⟨by simp only [List.length_cons] at h3 ⊢; omega, fun j c c' hj hj' => ?_⟩
    cases j with
    | zero => cases hj; cases hj'; exact h1
    | succ j => exact h4 j c c' (by simpa using hj) (by simpa using hj')
  | [], _ :: _, h => by cases h
  | [_], [], h => by cases h
  | [_], _ :: _ :: _, h => (show False from h.2).elim
  | _ :: _ :: _, [], h => by cases h
  | _ :: _ :: vs, [_], h => by
    have h2 := h.2
    cases vs <;> exact h2.elim
theorem rcP0_ow {r : List Nat} {v v' : AV} (h : rcP0 H H' r v v') (hv : v'.isOw = false) : v.isOw = false := by
  cases v with
  | ow sz n g => cases v' with
    | ow => cases hv
    | _ => exact h.elim
  | _ => rfl
theorem rcP0_c {r : List Nat} {v v' : AV} (h : rcP0 H H' r v v') : RCc H H' (rhoF r) v v' := fun w S S' blk u hS hc =>
  (rcP0_ok h w S S' blk u [] hS (.plain hc)).conc (rcP0_ow h (by cases hc <;> rfl))
theorem rcP1_ok {r : List Nat} {v v' : AV} (h : rcP1 H H' r v v') : RC H H' (rhoF r) v v' := by
  unfold rcP1 at h
  split at h
  · obtain ⟨rfl, h⟩ := h
    rename_i g cs cs'
    obtain ⟨h1, h2⟩ := rcPL0_ok h
    intro w S S' blk u fp hS ho
    have hfp : fp = [] := by cases ho; rfl
    subst hfp
    obtain ⟨us, rfl, hul, hu⟩ := inv_fn (ho.conc rfl)
    refine .plain (.fn _ _ us (hul.trans h1.symm) fun j c u hj hju => ?_)
    have hlt : j < cs'.length := by rw [← h1]; exact (List.getElem?_eq_some_iff.1 hj).1
    exact rcP0_c (h2 j c _ hj (List.getElem?_eq_getElem hlt)) w S S' blk u hS (hu j _ u (List.getElem?_eq_getElem hlt) hju)
  · exact rcP0_ok h
theorem rcPL_ok {r : List Nat} : ∀ {cs cs' : List AV}, rcPL H H' r cs cs' → cs.length = cs'.length ∧ ∀ (j : Nat) (c c' : AV), cs[j]? = some c → cs'[j]? = some c' → rcP1 H H' r c c'
  | [], [], _ => ⟨rfl, fun j c c' hj => by simp at hj⟩
  | [v], [v'], h => ⟨rfl, fun j c c' hj hj' => by
    cases j with
    | zero => cases hj; cases hj'; exact h
    | succ j => simp at hj⟩
  | v :: v2 :: vs, v' :: v2' :: vs', h => by
    obtain ⟨h1, h2⟩ := h
    obtain ⟨h3, h4⟩ := rcPL_ok h2
    refine ⟨by simp only [List.length_cons] at h3 ⊢; omega, fun j c c' hj hj' => ?_⟩
    cases j with
    | zero => cases hj; cases hj'; exact h1
    | succ j => exact h4 j c c' (by simpa using hj) (by simpa using hj')
  | [], _ :: _, h => by cases h
  | [_], [], h => by cases h
  | [_], _ :: _ :: _, h => (show False from h.2).elim
  | _ :: _ :: _, [], h => by cases h
  | _ :: _ :: vs, [_], h => by
    have h2 := h.2
    cases vs <;> exact h2.elim
theorem rcP1_ow {r : List Nat} {v v' : AV} (h : rcP1 H H' r v v') (hv : v'.isOw = false) : v.isOw = false := by
  cases v with
  | ow sz n g => cases v' with
    | ow => cases hv
    | _ => exact h.elim
  | _ => rfl
theorem rcP1_c {r : List Nat} {v v' : AV} (h : rcP1 H H' r v v') : RCc H H' (rhoF r) v v' := fun w S S' blk u hS hc =>
  (rcP1_ok h w S S' blk u [] hS (.plain hc)).conc (rcP1_ow h (by cases hc <;> rfl))
theorem rcP_c {r : List Nat} {v v' : AV} (h : rcP H H' r v v') : RCc H H' (rhoF r) v v' := by
  have lst : ∀ {cs cs' : List AV}, rcPL H H' r cs cs' → ∀ (w : World) (S S' : Nat → Prop) (blk : Nat → BC) (us : List Value), (∀ b, S b → S' b) → us.length = cs'.length → (∀ (j : Nat) (c : AV) (u : Value), cs'[j]? = some c → us[j]? = some u → Conc w S blk H' c u) →
      us.length = cs.length ∧ ∀ (j : Nat) (c : AV) (u : Value), cs[j]? = some c → us[j]? = some u → Conc w S' (fun j => blk (rhoF r j)) H c u := by
    intro cs cs' h w S S' blk us hS hul hu
    obtain ⟨h1, h2⟩ := rcPL_ok h
    refine ⟨hul.trans h1.symm, fun j c u hj hju => ?_⟩
    have hlt : j < cs'.length := by rw [← h1]; exact (List.getElem?_eq_some_iff.1 hj).1
    exact rcP1_c (h2 j c _ hj (List.getElem?_eq_getElem hlt)) w S S' blk u hS (hu j _ u (List.getElem?_eq_getElem hlt) hju)
  intro w S S' blk u hS hc
  unfold rcP at h
  split at h
  · obtain ⟨us, rfl, hul, hu⟩ := inv_agg hc
    obtain ⟨h1, h2⟩ := lst h w S S' blk us hS hul hu
    exact .agg _ us h1 h2
  · obtain ⟨rfl, h⟩ := h
    obtain ⟨us, rfl, hul, hu⟩ := inv_fn hc
    obtain ⟨h1, h2⟩ := lst h w S S' blk us hS hul hu
    exact .fn _ _ us h1 h2
  · cases h
  · exact rcP1_c h w S S' blk u hS hc
def asg : Code → List Nat
  | .region _ ops _ => ops.toList.filterMap (·.dst)
  | .seq a b => asg a ++ asg b
  | .cond _ a b => asg a ++ asg b
  | .block _ c => asg c
  | .loop c => asg c
  | _ => []
def delK (n : Nat) (ds : List Nat) : Fr → (Fr → Prop) → Prop
  | [], K => K []
  | (t, v) :: r, K => bif inL ds t then delK n ds r K else bif low n v then delK n (t :: ds) r fun r' => K ((t, v) :: r') else delK n (t :: ds) r K
def agK (H H' : Hp) (r : List Nat) (f' : Fr) : Fr → Prop
  | [] => True
  | [(t, v)] => rcP H H' r v (lk f' t)
  | (t, v) :: rest => rcP H H' r v (lk f' t) ∧ agK H H' r f' rest
theorem agK_ok {r : List Nat} {f' : Fr} : ∀ {L : Fr}, agK H H' r f' L → ∀ p ∈ L, rcP H H' r p.2 (lk f' p.1)
  | [], _, p, hp => by cases hp
  | [(t, v)], h, p, hp => by
    rcases List.mem_cons.1 hp with rfl | hp
    · exact h
    · cases hp
  | (t, v) :: q :: rest, h, p, hp => by
    rcases List.mem_cons.1 hp with rfl | hp
    · exact h.1
    · exact agK_ok h.2 p hp
inductive RowI where
  | box (cs : List AV)
  | arr (r : Row)
  | mp (ak : Bool) (f : List Int → Int)
  | dead
def mpRow (ak : Bool) (f : List Int → Int) (sts : List (Int × List Int)) : Row := ⟨0, 0, fun _ _ => .any, .mp ak f sts⟩
def RowI.row : RowI → Option Row
  | .box cs => some (boxRow cs)
  | .arr r => some r
  | .mp ak f => some (mpRow ak f [])
  | .dead => none
def mkH : Hp → List (Option RowI) → Hp
  | H, [] => H
  | [], _ => []
  | r :: H, none :: l => r :: mkH H l
  | _ :: H, some i :: l => i.row :: mkH H l
theorem mkH_length : ∀ (H : Hp) (l : List (Option RowI)), (mkH H l).length = H.length
  | H, [] => by cases H <;> rfl
  | [], _ :: _ => rfl
  | r :: H, none :: l => by show (mkH H l).length + 1 = _; rw [mkH_length H l]; rfl
  | _ :: H, some i :: l => by show (mkH H l).length + 1 = _; rw [mkH_length H l]; rfl
def fx0 (r : List Nat) (n : Nat) : AV → Bool
  | .ptr k _ _ => Nat.blt k n && Nat.beq (rhoF r k) k
  | .row k _ => Nat.blt k n && Nat.beq (rhoF r k) k
  | .rs k _ _ => Nat.blt k n && Nat.beq (rhoF r k) k
  | .mp k => Nat.blt k n && Nat.beq (rhoF r k) k
  | .agg _ | .tup _ | .fn _ _ => false
  | _ => true
def fx (r : List Nat) (n : Nat) : AV → Bool
  | .ptr k _ _ => Nat.blt k n && Nat.beq (rhoF r k) k
  | .row k _ => Nat.blt k n && Nat.beq (rhoF r k) k
  | .rs k _ _ => Nat.blt k n && Nat.beq (rhoF r k) k
  | .mp k => Nat.blt k n && Nat.beq (rhoF r k) k
  | .agg _ | .tup _ => false
  | .fn _ cs => cs.all (fx0 r n)
  | _ => true
def fxA (r : List Nat) (n : Nat) : AV → Bool
  | .agg cs => cs.all (fx r n)
  | .tup cs => cs.all (fx r n)
  | .fn _ cs => cs.all (fx r n)
  | x => fx r n x
theorem fx_nil {n : Nat} {v : AV} (h : low1 n v = true) : fx [] n v = true := by
  have e : ∀ k, Nat.blt k n = true → (Nat.blt k n && Nat.beq (rhoF [] k) k) = true := fun k h => by simp [h, rhoF]
  cases v <;> first | exact h | exact e _ h | cases h
theorem fxA_nil {n : Nat} {v : AV} (h : low n v = true) : fxA [] n v = true := by
  cases v with
  | agg cs => exact List.all_eq_true.2 fun c hc => fx_nil (List.all_eq_true.1 h c hc)
  | tup cs => exact List.all_eq_true.2 fun c hc => fx_nil (List.all_eq_true.1 h c hc)
  | fn g cs => exact List.all_eq_true.2 fun c hc => fx_nil (List.all_eq_true.1 h c hc)
  | _ => exact (fun v (h : low1 n v = true) (e : fxA [] n v = fx [] n v) => e.trans (fx_nil h)) _ h rfl
theorem fx_low {r : List Nat} {n : Nat} {v : AV} (h : low1 0 v = true) : fx r n v = true := by
  cases v with
  | ptr id _ _ => have : id < 0 := Nat.le_of_ble_eq_true h; omega
  | row id _ => have : id < 0 := Nat.le_of_ble_eq_true h; omega
  | rs id _ _ => have : id < 0 := Nat.le_of_ble_eq_true h; omega
  | mp id => have : id < 0 := Nat.le_of_ble_eq_true h; omega
  | fn g cs => cases h
  | _ => exact h
def rowP (H H' : Hp) (r : List Nat) (x y : Row) : Prop := y.sz = x.sz ∧ y.cap = x.cap ∧ RKle y.k x.k ∧ ∀ i k, i < x.cap → k < x.sz → rcP1 H H' r (x.es i k) (y.es i k)
def boxP (H H' : Hp) (r : List Nat) (x y : Row) : Prop := x.cap = 1 ∧ y.sz = x.sz ∧ y.cap = 1 ∧ y.k = x.k ∧ rcPL H H' r (cellsAt (x.es 0) 0 x.sz) (cellsAt (y.es 0) 0 x.sz)
theorem boxP_ok {r : List Nat} {x y : Row} (h : boxP H H' r x y) : rowP H H' r x y := by
  obtain ⟨h1, h2, h3, hk, h4⟩ := h
  refine ⟨h2, h3.trans h1.symm, hk ▸ .refl _, fun i k hi hk => ?_⟩
  obtain rfl : i = 0 := by omega
  obtain ⟨_, h5⟩ := rcPL_ok h4
  have l1 : k < (cellsAt (x.es 0) 0 x.sz).length := by rw [cellsAt_length]; exact hk
  have l2 : k < (cellsAt (y.es 0) 0 x.sz).length := by rw [cellsAt_length]; exact hk
  have := h5 k _ _ (List.getElem?_eq_getElem l1) (List.getElem?_eq_getElem l2)
  obtain ⟨_, e1⟩ := cellsAt_get (x.es 0) x.sz 0 k _ (List.getElem?_eq_getElem l1)
  obtain ⟨_, e2⟩ := cellsAt_get (y.es 0) x.sz 0 k _ (List.getElem?_eq_getElem l2)
  rw [e1, e2, Nat.zero_add] at this
  exact this
def mpP (ak : Bool) (f : List Int → Int) (y : Row) : Prop :=
  match y.k with
  | .mp ak' f' _ => y.sz = 0 ∧ y.cap = 0 ∧ ak' = ak ∧ f' = f
  | _ => False
theorem mpP_ok {r : List Nat} {ak : Bool} {f : List Int → Int} {y : Row} (h : mpP ak f y) : rowP H H' r (mpRow ak f []) y := by
  obtain ⟨sz, cap, es, k⟩ := y
  unfold mpP at h
  dsimp only at h
  cases k with
  | mp ak' f' sts =>
    obtain ⟨rfl, rfl, rfl, rfl⟩ := h
    exact ⟨rfl, rfl, .mp _ _ _, fun i k hi => by cases hi⟩
  | _ => cases h
def keepP (r : List Nat) (n : Nat) (x y : Row) : Prop :=
  match x.k with
  | .box => y = x ∧ x.cap = 1 ∧ (cellsAt (x.es 0) 0 x.sz).all (fx r n) = true
  | .arr => y = x ∧ ∀ i k, i < x.cap → k < x.sz → fx r n (x.es i k) = true
  | _ => y = x ∧ x.cap = 0
structure ArrP (r : List Nat) (n : Nat) (x y : Row) : Prop where
  sz : y.sz = x.sz
  cap : y.cap = x.cap
  k : y.k = x.k
  es : ∀ i k, i < x.cap → k < x.sz → y.es i k = x.es i k
  low : ∀ i k, i < x.cap → k < x.sz → fx r n (x.es i k) = true
def hpP (H H' : Hp) (r : List Nat) : Nat → List (Option RowI) → Hp → Prop
  | _, _, [] => True
  | j, [], none :: H0 => hpP H H' r (j + 1) [] H0
  | j, [], some x :: H0 => (match H'[rhoF r j]? with | some (some y) => keepP r H.length x y | _ => False) ∧ hpP H H' r (j + 1) [] H0
  | j, none :: l, none :: H0 => hpP H H' r (j + 1) l H0
  | j, none :: l, some x :: H0 => (match H'[rhoF r j]? with | some (some y) => keepP r H.length x y | _ => False) ∧ hpP H H' r (j + 1) l H0
  | j, some .dead :: l, _ :: H0 => hpP H H' r (j + 1) l H0
  | j, some (.box cs) :: l, _ :: H0 => (match H'[rhoF r j]? with | some (some y) => boxP H H' r (boxRow cs) y | _ => False) ∧ hpP H H' r (j + 1) l H0
  | j, some (.arr x) :: l, _ :: H0 => (match H'[rhoF r j]? with | some (some y) => ArrP r H.length x y | _ => False) ∧ hpP H H' r (j + 1) l H0
  | j, some (.mp ak f) :: l, _ :: H0 => (match H'[rhoF r j]? with | some (some y) => mpP ak f y | _ => False) ∧ hpP H H' r (j + 1) l H0
theorem hpP_dim {r : List Nat} : ∀ {l : List (Option RowI)} {H0 : Hp} {k j : Nat} {x : Row}, hpP H H' r k l H0 → (mkH H0 l)[j]? = some (some x) →
    ∃ y, H'[rhoF r (k + j)]? = some (some y) ∧ y.sz = x.sz ∧ y.cap = x.cap ∧ RKle y.k x.k ∧ (keepP r H.length x y ∨ ArrP r H.length x y ∨ rowP H H' r x y) := by
  intro l H0
  induction H0 generalizing l with
  | nil =>
    intro k j x h hj
    cases l with
    | nil => simp [mkH] at hj
    | cons => simp [mkH] at hj
  | cons x0 H0 ih =>
    intro k j x h hj
    have kp : ∀ {x y : Row}, keepP r H.length x y → y.sz = x.sz ∧ y.cap = x.cap ∧ RKle y.k x.k := by
      intro x y h
      unfold keepP at h
      split at h
      · obtain ⟨rfl, _⟩ := h; exact ⟨rfl, rfl, .refl _⟩
      · obtain ⟨rfl, _⟩ := h; exact ⟨rfl, rfl, .refl _⟩
      · obtain ⟨rfl, _⟩ := h; exact ⟨rfl, rfl, .refl _⟩
    have head : ∀ {x : Row}, (match H'[rhoF r k]? with | some (some y) => keepP r H.length x y | _ => False) → ∃ y, H'[rhoF r (k + 0)]? = some (some y) ∧ y.sz = x.sz ∧ y.cap = x.cap ∧ RKle y.k x.k ∧ (keepP r H.length x y ∨ ArrP r H.length x y ∨ rowP H H' r x y) := by
      intro x h
      split at h
      · rename_i y hy
        exact ⟨y, hy, (kp h).1, (kp h).2.1, (kp h).2.2, .inl h⟩
      · cases h
    have tail : ∀ {l : List (Option RowI)} {j : Nat}, hpP H H' r (k + 1) l H0 → (mkH H0 l)[j]? = some (some x) → ∃ y, H'[rhoF r (k + (j + 1))]? = some (some y) ∧ y.sz = x.sz ∧ y.cap = x.cap ∧ RKle y.k x.k ∧ (keepP r H.length x y ∨ ArrP r H.length x y ∨ rowP H H' r x y) := by
      intro l j h hj
      have := ih h hj
      rwa [show k + 1 + j = k + (j + 1) by omega] at this
    match l, x0, h, hj with
    | [], none, h, hj =>
      cases j with
      | zero => simp [mkH] at hj
      | succ j => exact tail (l := []) h (by rw [show mkH H0 [] = H0 by cases H0 <;> rfl]; simpa [mkH] using hj)
    | [], some z, h, hj =>
      cases j with
      | zero =>
        have : z = x := by simpa [mkH] using hj
        subst this
        exact head h.1
      | succ j => exact tail (l := []) h.2 (by rw [show mkH H0 [] = H0 by cases H0 <;> rfl]; simpa [mkH] using hj)
    | none :: l, none, h, hj =>
      cases j with
      | zero => simp [mkH] at hj
      | succ j => exact tail h (by simpa [mkH] using hj)
    | none :: l, some z, h, hj =>
      cases j with
      | zero =>
        have : z = x := by simpa [mkH] using hj
        subst this
        exact head h.1
      | succ j => exact tail h.2 (by simpa [mkH] using hj)
    | some .dead :: l, x0, h, hj =>
      replace h : hpP H H' r (k + 1) l H0 := by cases x0 <;> exact h
      cases j with
      | zero => simp [mkH, RowI.row] at hj
      | succ j => exact tail h (by simpa [mkH] using hj)
    | some (.box cs) :: l, x0, h, hj =>
      replace h : (match H'[rhoF r k]? with | some (some y) => boxP H H' r (boxRow cs) y | _ => False) ∧ hpP H H' r (k + 1) l H0 := by cases x0 <;> exact h
      cases j with
      | zero =>
        have : boxRow cs = x := by simpa [mkH, RowI.row] using hj
        subst this
        have h1 := h.1
        split at h1
        · rename_i y hy
          have h2 := boxP_ok h1
          exact ⟨y, hy, h2.1, h2.2.1, h2.2.2.1, .inr (.inr h2)⟩
        · cases h1
      | succ j => exact tail h.2 (by simpa [mkH] using hj)
    | some (.mp ak f) :: l, x0, h, hj =>
      replace h : (match H'[rhoF r k]? with | some (some y) => mpP ak f y | _ => False) ∧ hpP H H' r (k + 1) l H0 := by cases x0 <;> exact h
      cases j with
      | zero =>
        have : mpRow ak f [] = x := by simpa [mkH, RowI.row] using hj
        subst this
        have h1 := h.1
        split at h1
        · rename_i y hy
          have h2 := mpP_ok (H := H) (H' := H') (r := r) h1
          exact ⟨y, hy, h2.1, h2.2.1, h2.2.2.1, .inr (.inr h2)⟩
        · cases h1
      | succ j => exact tail h.2 (by simpa [mkH] using hj)
    | some (.arr z) :: l, x0, h, hj =>
      replace h : (match H'[rhoF r k]? with | some (some y) => ArrP r H.length z y | _ => False) ∧ hpP H H' r (k + 1) l H0 := by cases x0 <;> exact h
      cases j with
      | zero =>
        have : z = x := by simpa [mkH, RowI.row] using hj
        subst this
        have h1 := h.1
        split at h1
        · rename_i y hy
          exact ⟨y, hy, h1.sz, h1.cap, h1.k ▸ .refl _, .inr (.inl h1)⟩
        · cases h1
      | succ j => exact tail h.2 (by simpa [mkH] using hj)
def nodupB : List Nat → Bool
  | [] => true
  | x :: r => !inL r x && nodupB r
theorem nodupB_ok : ∀ {l : List Nat}, nodupB l = true → l.Nodup
  | [], _ => List.nodup_nil
  | x :: r, h => by
    unfold nodupB at h
    rw [Bool.and_eq_true, inL_eq] at h
    exact List.nodup_cons.2 ⟨by simpa using h.1, nodupB_ok h.2⟩
def rhoOk (r : List Nat) (n : Nat) : Bool := nodupB r && (r.length == n || r.isEmpty)
theorem rho_inj {r : List Nat} {n i j : Nat} (h : rhoOk r n = true) (hi : i < n) (hj : j < n) (e : rhoF r i = rhoF r j) : i = j := by
  unfold rhoOk at h
  rw [Bool.and_eq_true, Bool.or_eq_true] at h
  obtain ⟨h1, h2⟩ := h
  have hn := nodupB_ok h1
  rcases h2 with h2 | h2
  · have hl : r.length = n := by simpa using h2
    unfold rhoF at e
    have hi' : i < r.length := by omega
    have hj' : j < r.length := by omega
    rw [List.getElem?_eq_getElem hi', List.getElem?_eq_getElem hj'] at e
    have hp := List.pairwise_iff_getElem.1 hn
    rcases Nat.lt_trichotomy i j with h | h | h
    · exact absurd e (hp i j hi' hj' h)
    · exact h
    · exact absurd e.symm (hp j i hj' hi' h)
  · have : r = [] := by simpa using h2
    subst this
    simpa [rhoF] using e
theorem rc_fx0 {r : List Nat} {v : AV} (hd : ∀ j, j < H.length → rhoF r j = j → H[j]? = some none ∨ dimP H H' r j) (hv : fx0 r H.length v = true) : RC H H' (rhoF r) v v := by
  have main : ∀ {id : Nat}, (Nat.blt id H.length && Nat.beq (rhoF r id) id) = true → rhoF r id = id ∧ (H[id]? = some none ∨ dimP H H' r id) := by
    intro id h
    rw [Bool.and_eq_true] at h
    have h2 := Nat.eq_of_beq_eq_true h.2
    exact ⟨h2, hd id (Nat.le_of_ble_eq_true h.1) h2⟩
  cases v with
  | ptr id j off =>
    obtain ⟨h1, h | h2⟩ := main hv
    · intro w S S' blk u fp hS ho
      have hfp : fp = [] := by cases ho; rfl
      subst hfp
      exact .plain (.ptrD h u)
    · exact rcP1_ok (H := H) (H' := H') (r := r) (v := .ptr id j off) (v' := .ptr id j off) ⟨h1.symm, rfl, rfl, h2⟩
  | row id n =>
    obtain ⟨h1, h | h2⟩ := main hv
    · intro w S S' blk u fp hS ho
      have hfp : fp = [] := by cases ho; rfl
      subst hfp
      exact .plain (.rowD h u)
    · exact rcP1_ok (H := H) (H' := H') (r := r) (v := .row id n) (v' := .row id n) ⟨h1.symm, rfl, h2⟩
  | rs id o n =>
    obtain ⟨h1, h | h2⟩ := main hv
    · intro w S S' blk u fp hS ho
      have hfp : fp = [] := by cases ho; rfl
      subst hfp
      exact .plain (.rsD h u)
    · exact rcP1_ok (H := H) (H' := H') (r := r) (v := .rs id o n) (v' := .rs id o n) ⟨h1.symm, rfl, rfl, h2⟩
  | mp id =>
    obtain ⟨h1, h | h2⟩ := main hv
    · intro w S S' blk u fp hS ho
      have hfp : fp = [] := by cases ho; rfl
      subst hfp
      exact .plain (.mpD h u)
    · exact rcP1_ok (H := H) (H' := H') (r := r) (v := .mp id) (v' := .mp id) ⟨h1.symm, h2⟩
  | agg => cases hv
  | tup => cases hv
  | fn => cases hv
  | sl sz n g =>
    intro w S S' blk u fp hS ho
    have hfp : fp = [] := by cases ho; rfl
    subst hfp
    have hc := ho.conc rfl
    exact .plain ((hc.free hc.idf_sl).mono (fun b hb => ⟨hS b hb, rfl⟩) (HExt.refl _ _))
  | rf m g =>
    intro w S S' blk u fp hS ho
    have hfp : fp = [] := by cases ho; rfl
    subst hfp
    have hc := ho.conc rfl
    exact .plain ((hc.free hc.idf_rf).mono (fun b hb => ⟨hS b hb, rfl⟩) (HExt.refl _ _))
  | ow sz n g =>
    intro w S S' blk u fp hS ho
    cases ho with
    | plain h => cases h
    | ow0 a => exact .ow0 a
    | ow b cap ty cur U F hb hcur hn hm h0 h1 hc hf hu hF =>
      exact .ow b cap ty cur U F hb hcur hn hm h0 h1 hc hf (fun i j hi hj => rc_free (hf i j hi hj) w S S' blk _ _ hS (hu i j hi hj)) hF
  | _ => exact rc_free trivial
theorem rc_fx {r : List Nat} {v : AV} (hd : ∀ j, j < H.length → rhoF r j = j → H[j]? = some none ∨ dimP H H' r j) (hv : fx r H.length v = true) : RC H H' (rhoF r) v v := by
  cases v with
  | fn g cs =>
    intro w S S' blk u fp hS ho
    have hfp : fp = [] := by cases ho; rfl
    subst hfp
    obtain ⟨us, rfl, hul, hu⟩ := inv_fn (ho.conc rfl)
    refine .plain (.fn _ _ us hul fun j c u hj hju => ?_)
    have hc := hu j c u hj hju
    exact (rc_fx0 hd (List.all_eq_true.1 hv c (List.mem_of_getElem? hj)) w S S' blk u [] hS (.plain hc)).conc (by cases hc <;> rfl)
  | _ => exact rc_fx0 hd hv
theorem rcc_fx {r : List Nat} {v : AV} (hd : ∀ j, j < H.length → rhoF r j = j → H[j]? = some none ∨ dimP H H' r j) (hv : fxA r H.length v = true) : RCc H H' (rhoF r) v v := by
  have one : ∀ v, fx r H.length v = true → RCc H H' (rhoF r) v v := fun v hv w S S' blk u hS hc =>
    (rc_fx hd hv w S S' blk u [] hS (.plain hc)).conc (by cases hc <;> rfl)
  intro w S S' blk u hS hc
  cases v with
  | agg cs =>
    obtain ⟨us, rfl, hul, hu⟩ := inv_agg hc
    exact .agg _ us hul fun j c u hj hju => one c (List.all_eq_true.1 hv c (List.mem_of_getElem? hj)) w S S' blk u hS (hu j c u hj hju)
  | tup cs =>
    obtain ⟨us, rfl, hul, hu⟩ := inv_tup hc
    exact .tup _ us hul fun j c u hj hju => one c (List.all_eq_true.1 hv c (List.mem_of_getElem? hj)) w S S' blk u hS (hu j c u hj hju)
  | fn g cs =>
    obtain ⟨us, rfl, hul, hu⟩ := inv_fn hc
    exact .fn _ _ us hul fun j c u hj hju => one c (List.all_eq_true.1 hv c (List.mem_of_getElem? hj)) w S S' blk u hS (hu j c u hj hju)
  | _ => refine one _ ?_ w S S' blk u hS hc; exact hv
theorem lk_mem {L : Fr} {t : Nat} (h : t ∈ L.map (·.1)) : ∃ p ∈ L, p.1 = t ∧ lk L t = p.2 := by
  induction L with
  | nil => simp at h
  | cons p L ih =>
    obtain ⟨d, v⟩ := p
    rw [lk_cons]
    by_cases e : d = t
    · exact ⟨(d, v), by simp, e, by rw [if_pos e]⟩
    · have e' : ¬ t = d := fun h => e h.symm
      obtain ⟨p, hp, h1, h2⟩ := ih (by simpa [e'] using h)
      exact ⟨p, by simp [hp], h1, by rw [if_neg e]; exact h2⟩
theorem lk_not {L : Fr} {t : Nat} (h : t ∉ L.map (·.1)) : lk L t = .any := by
  induction L with
  | nil => rfl
  | cons p L ih =>
    obtain ⟨d, v⟩ := p
    simp at h
    rw [lk_cons, if_neg (fun e => h.1 e.symm)]
    exact ih (by simpa using h.2)
def keeps0 (r : List Nat) (H : Hp) (n : Nat) : Prop := ∀ id x, id < n → H[id]? = some (some x) → rhoF r id = id
theorem keeps0_nil (H : Hp) (n : Nat) : keeps0 [] H n := fun id x _ _ => by simp [rhoF]
theorem St.agree {r : List Nat} {L f0 : Fr} {l : List (Option RowI)} {H0 : Hp} (s : St nt X f' H' a w) (hr : rhoOk r H0.length = true) (hL : agK (mkH H0 l) H' r f' L)
    (h0 : ∀ p ∈ f0, lk f' p.1 = p.2 ∧ fxA r H0.length p.2 = true) (hH : hpP (mkH H0 l) H' r 0 l H0) (hX : X.H0.length ≤ H0.length) (hk : keeps0 r (mkH H0 l) X.H0.length) : St nt X (L ++ f0) (mkH H0 l) a w := by
  obtain ⟨blk, FP, s⟩ := s
  have hlen : (mkH H0 l).length = H0.length := mkH_length H0 l
  have hd : ∀ j, j < (mkH H0 l).length → rhoF r j = j → (mkH H0 l)[j]? = some none ∨ dimP (mkH H0 l) H' r j := by
    intro j hj hrj
    cases hx : (mkH H0 l)[j]? with
    | none => rw [List.getElem?_eq_none_iff] at hx; omega
    | some x =>
      cases x with
      | none => exact .inl rfl
      | some x =>
        right
        obtain ⟨y, hy, h2, h3, _⟩ := hpP_dim hH hx
        rw [Nat.zero_add] at hy
        unfold dimP
        rw [hx, hy]
        exact ⟨h2, h3⟩
  refine ⟨_, _, s.ren (r := rhoF r) (fun j x hx => ?_) (fun i j x y hi hj e => rho_inj hr (by rw [← hlen]; exact (List.getElem?_eq_some_iff.1 hi).1) (by rw [← hlen]; exact (List.getElem?_eq_some_iff.1 hj).1) e) (fun t => ?_) (by rw [hlen]; exact hX) hk⟩
  · obtain ⟨y, hy, h1, h2, hkk, h3⟩ := hpP_dim hH hx
    rw [Nat.zero_add] at hy
    refine ⟨y, hy, h1, h2, hkk, fun i k hi hkk => ?_⟩
    rcases h3 with h3 | h3 | h3
    · have hlow : y = x ∧ fx r (mkH H0 l).length (x.es i k) = true := by
        unfold keepP at h3
        split at h3
        · obtain ⟨e, hc, ha⟩ := h3
          refine ⟨e, ?_⟩
          obtain rfl : i = 0 := by omega
          have l1 : k < (cellsAt (x.es 0) 0 x.sz).length := by rw [cellsAt_length]; exact hkk
          obtain ⟨_, e1⟩ := cellsAt_get (x.es 0) x.sz 0 k _ (List.getElem?_eq_getElem l1)
          have := List.all_eq_true.1 ha _ (List.getElem_mem l1)
          rwa [e1, Nat.zero_add] at this
        · obtain ⟨e, ha⟩ := h3
          exact ⟨e, ha i k hi hkk⟩
        · obtain ⟨e, hc⟩ := h3
          omega
      rw [hlow.1]
      exact rc_fx hd hlow.2
    · rw [h3.es i k hi hkk]
      exact rc_fx hd (h3.low i k hi hkk)
    · exact rcP1_ok (h3.2.2.2 i k hi hkk)
  · by_cases ht : t ∈ (L ++ f0).map (·.1)
    · obtain ⟨p, hp, h1, h2⟩ := lk_mem ht
      rw [h2, ← h1]
      rcases List.mem_append.1 hp with hp | hp
      · exact rcP_c (agK_ok hL p hp)
      · obtain ⟨e1, e2⟩ := h0 p hp
        rw [e1]
        exact rcc_fx hd (by rw [hlen]; exact e2)
    · rw [lk_not ht]
      exact fun w S S' blk u hS hc => .any u
theorem delK_eq {n : Nat} : ∀ (f : Fr) (ds : List Nat) (K : Fr → Prop), delK n ds f K → ∃ f0, K f0 ∧ ∀ p ∈ f0, (lk f p.1 = p.2 ∧ inL ds p.1 = false) ∧ low n p.2 = true
  | [], ds, K, h => ⟨[], h, by simp⟩
  | (t, v) :: r, ds, K, h => by
    unfold delK at h
    cases hb : inL ds t with
    | true =>
      rw [hb, cond_true] at h
      obtain ⟨f0, hk, h0⟩ := delK_eq r ds K h
      refine ⟨f0, hk, fun p hp => ?_⟩
      obtain ⟨⟨h1, h2⟩, h3⟩ := h0 p hp
      refine ⟨⟨?_, h2⟩, h3⟩
      rw [lk_cons, if_neg]
      · exact h1
      · rintro rfl
        rw [hb] at h2
        cases h2
    | false =>
      rw [hb, cond_false] at h
      have rest : ∀ p : Nat × AV, (lk r p.1 = p.2 ∧ inL (t :: ds) p.1 = false) ∧ low n p.2 = true → (lk ((t, v) :: r) p.1 = p.2 ∧ inL ds p.1 = false) ∧ low n p.2 = true := by
        rintro p ⟨⟨h1, h2⟩, h3⟩
        have hne : ¬ t = p.1 := by
          intro e
          change (bif Nat.beq t p.1 then true else inL ds p.1) = false at h2
          rw [e, Nat.beq_refl] at h2
          cases h2
        refine ⟨⟨by rw [lk_cons, if_neg hne]; exact h1, ?_⟩, h3⟩
        change (bif Nat.beq t p.1 then true else inL ds p.1) = false at h2
        cases ht : Nat.beq t p.1 with
        | true => rw [ht] at h2; cases h2
        | false => rw [ht] at h2; exact h2
      cases hl : low n v with
      | true =>
        rw [hl, cond_true] at h
        obtain ⟨f0, hk, h0⟩ := delK_eq r (t :: ds) _ h
        refine ⟨(t, v) :: f0, hk, fun p hp => ?_⟩
        rcases List.mem_cons.1 hp with rfl | hp
        · exact ⟨⟨by rw [lk_cons, if_pos rfl], hb⟩, hl⟩
        · exact rest p (h0 p hp)
      | false =>
        rw [hl, cond_false] at h
        obtain ⟨f0, hk, h0⟩ := delK_eq r (t :: ds) _ h
        exact ⟨f0, hk, fun p hp => rest p (h0 p hp)⟩
def RoundEnd {α : Type} (X : Ctx) (f0 : Fr) (H0 : Hp) (vs : α → Fr) (hp : α → List (Option RowI)) (I : α → Prop) (μ : α → Nat) (x : α) (f' : Fr) (H' : Hp) : Prop :=
  ∃ (x' : α) (r : List Nat), I x' ∧ μ x' < μ x ∧ agK (mkH H0 (hp x')) H' r f' (vs x') ∧ f0.map (fun p => lk f' p.1) = f0.map (·.2) ∧ ((rhoOk r H0.length && f0.all fun p => fxA r H0.length p.2) = true ∧ (∀ id, id < X.H0.length → rhoF r id = id)) ∧ hpP (mkH H0 (hp x')) H' r 0 (hp x') H0
def RoundN (f0 : Fr) (H0 : Hp) (vs : Nat → Fr) (hp : Nat → List (Option RowI)) (I : Nat → Prop) (n k : Nat) (f' : Fr) (H' : Hp) : Prop :=
  (k < n ∧ I (k + 1)) ∧ agK (mkH H0 (hp (k + 1))) H' [] f' (vs (k + 1)) ∧ f0.map (fun p => lk f' p.1) = f0.map (·.2) ∧ hpP (mkH H0 (hp (k + 1))) H' [] 0 (hp (k + 1)) H0
theorem map_same {f0 f' : Fr} (h : f0.map (fun p => lk f' p.1) = f0.map (·.2)) : ∀ p ∈ f0, lk f' p.1 = p.2 := by
  induction f0 with
  | nil => intro p hp; cases hp
  | cons q f0 ih =>
    simp only [List.map_cons, List.cons.injEq] at h
    intro p hp
    rcases List.mem_cons.1 hp with rfl | hp
    · exact h.1
    · exact ih h.2 p hp
theorem rhoOk_nil (n : Nat) : rhoOk [] n = true := by simp [rhoOk, nodupB]
theorem loopN {c : Code} {Q : Exit → Fr → Hp → Prop} (n : Nat) (vs : Nat → Fr) (hp : Nat → List (Option RowI)) (I : Nat → Prop)
    (h : I 0 ∧ agK (mkH H (hp 0)) H [] f (vs 0) ∧ hpP (mkH H (hp 0)) H [] 0 (hp 0) H ∧
      delK H.length (asg c) f fun f0 => ∀ k, k ≤ n → I k → wpc E nt X c (vs k ++ f0) (mkH H (hp k)) (thn (RoundN f0 H vs hp I n k) Q)) :
    LW E.P nt X (.loop c) f H Q := by
  constructor
  obtain ⟨h0, h1, h2, h3⟩ := h
  obtain ⟨f0, h5, h6⟩ := delK_eq _ _ _ h3
  intro a w s
  have hX : X.H0.length ≤ H.length := by obtain ⟨_, _, s⟩ := s; exact s.ext.len
  have s0 : St nt X (vs 0 ++ f0) (mkH H (hp 0)) a w := s.agree (rhoOk_nil _) h1 (fun p hp => ⟨(h6 p hp).1.1, fxA_nil (h6 p hp).2⟩) h2 hX (keeps0_nil _ _)
  refine pw_loop (fun m f' H' => ∃ x, m = n - x ∧ x ≤ n ∧ I x ∧ f' = vs x ++ f0 ∧ H' = mkH H (hp x)) (n - 0) ⟨0, rfl, Nat.zero_le _, h0, rfl, rfl⟩ ?_ a w s0
  rintro m f' H' ⟨x, rfl, hx, hi, rfl, rfl⟩
  intro a w s
  refine wp_mono (wpc_ok c _ _ _ (h5 x hx hi) a w s) fun e a w l => ?_
  obtain ⟨f', H', q, s'⟩ := l
  cases e with
  | normal =>
    obtain ⟨⟨hlt, hi'⟩, ha, hb, hH⟩ := q
    refine ⟨_, _, ⟨n - (x + 1), by omega, x + 1, rfl, by omega, hi', rfl, rfl⟩, s'.agree (rhoOk_nil _) ha (fun p hp => ⟨map_same hb p hp, fxA_nil (h6 p hp).2⟩) hH hX (keeps0_nil _ _)⟩
  | exit id => exact ⟨f', H', q, s'⟩
  | goto l => exact ⟨f', H', q, s'⟩
  | ret => exact ⟨f', H', q, s'⟩
  | panic ch => exact ⟨f', H', q, s'⟩
  | outgrown => exact ⟨f', H', q, s'⟩
def RoundEndT {α : Type} (X : Ctx) (f0 : Fr) (H0 : Hp) (vs : α → Fr) (hp : α → List (Option RowI)) (I : α → Prop) (μ : α → Nat) (x : α) (f' : Fr) (H' : Hp) : Prop :=
  ∃ H1, Turn X H' H1 ∧ RoundEnd X f0 H0 vs hp I μ x f' H1
theorem lw_turn {c : Code} {Q : Exit → Fr → Hp → Prop} (H1 : Hp) (ht : Turn X H H1) (h : LW P nt X c f H1 Q) : LW P nt X c f H Q :=
  ⟨fun a w s => h.pw a w (s.turn ht)⟩
theorem loopFT {α : Type} {c : Code} {Q : Exit → Fr → Hp → Prop} (vs : α → Fr) (hp : α → List (Option RowI)) (I : α → Prop) (μ : α → Nat) (x0 : α)
    (h : I x0 ∧ agK (mkH H (hp x0)) H [] f (vs x0) ∧ hpP (mkH H (hp x0)) H [] 0 (hp x0) H ∧
      delK H.length (asg c) f fun f0 => ∀ x, I x → wpc E nt X c (vs x ++ f0) (mkH H (hp x)) (thn (RoundEndT X f0 H vs hp I μ x) Q)) :
    LW E.P nt X (.loop c) f H Q := by
  constructor
  obtain ⟨h0, h1, h2, h3⟩ := h
  obtain ⟨f0, h5, h6⟩ := delK_eq _ _ _ h3
  intro a w s
  have hX : X.H0.length ≤ H.length := by obtain ⟨_, _, s⟩ := s; exact s.ext.len
  have s0 : St nt X (vs x0 ++ f0) (mkH H (hp x0)) a w := s.agree (rhoOk_nil _) h1 (fun p hp => ⟨(h6 p hp).1.1, fxA_nil (h6 p hp).2⟩) h2 hX (keeps0_nil _ _)
  refine pw_loop (fun m f' H' => ∃ x, m = μ x ∧ I x ∧ f' = vs x ++ f0 ∧ H' = mkH H (hp x)) (μ x0) ⟨x0, rfl, h0, rfl, rfl⟩ ?_ a w s0
  rintro m f' H' ⟨x, rfl, hi, rfl, rfl⟩
  intro a w s
  refine wp_mono (wpc_ok c _ _ _ (h5 x hi) a w s) fun e a w l => ?_
  obtain ⟨f', H', q, s'⟩ := l
  cases e with
  | normal =>
    obtain ⟨H1, ht, x', r, hi', hlt, ha, hb, ⟨hr, hr0⟩, hH⟩ := q
    replace s' := s'.turn ht
    rw [Bool.and_eq_true] at hr
    refine ⟨_, _, ⟨μ x', hlt, x', rfl, hi', rfl, rfl⟩, s'.agree hr.1 ha (fun p hp => ⟨map_same hb p hp, List.all_eq_true.1 hr.2 p hp⟩) hH hX fun id x hid _ => hr0 id hid⟩
  | exit id => exact ⟨f', H', q, s'⟩
  | goto l => exact ⟨f', H', q, s'⟩
  | ret => exact ⟨f', H', q, s'⟩
  | panic ch => exact ⟨f', H', q, s'⟩
  | outgrown => exact ⟨f', H', q, s'⟩
end
end Go.Proofs.Ytdeledeopippfaa
