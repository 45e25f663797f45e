/-
  Loops: what holds of the slots and of the rows at a round's head is said as a function of a state; behind a round, rows may be renamed, and rows that the round made are dropped.
-/
import Derived.Test.YtgkclbbabfidaaaVF
namespace Go.Proofs.Ytgkclbbabfidaaa
open Go Go.RowKit
set_option linter.unusedVariables false
set_option linter.unusedSimpArgs false

section
variable {E : Env} {P : Program} {nt : Nat} {X : Ctx} {f f' : Fr} {H H' : Hp} {a : Act} {w : World} {blk : Nat → Nat} {FP : Nat → List Nat}

/-- What is so described among the rows H' may be so described among the rows H, whose row j is row r j there. -/
def RC (H H' : Hp) (r : Nat → Nat) (v v' : AV) : Prop :=
  ∀ (w : World) (S S' : Nat → Prop) (blk : Nat → Nat) (u : Value) (fp : List Nat), (∀ b, S b → S' b) → Own w S blk H' v' u fp → Own w S' (fun j => blk (r j)) H v u fp

theorem rc_any {r : Nat → Nat} {v' : AV} (h : v'.isOw = false) : RC H H' r .any v' := fun w S S' blk u fp hS ho => by
  cases ho with
  | plain h => exact .plain (.any u)
  | ow0 => cases h
  | ow => cases h

theorem rc_free {r : Nat → Nat} {v : AV} (hv : v.idfO) : RC H H' r v v := by
  intro w S S' blk u fp hS ho
  induction ho with
  | @plain x u h =>
    have hi : x.idf := by
      cases x with
      | ow => cases h
      | _ => exact hv
    exact .plain ((h.free hi).mono (fun b hb => ⟨hS b hb, rfl⟩) (HExt.refl _ _))
  | ow0 a => exact .ow0 a
  | ow b cap ty cur U F hb hcur hn hm h0 h1 hc hf hu hF ih =>
    exact .ow b cap ty cur U F hb hcur hn hm h0 h1 hc hf (fun i j hi hj => ih i j hi hj (hv i j hi hj)) hF

theorem rc_ptr {r : Nat → Nat} {id id' j off : Nat} (hid : id' = r id) (hr : ∀ x, H'[id']? = some (some x) → ∃ y, H[id]? = some (some y) ∧ y.sz = x.sz ∧ y.cap = x.cap) (hd : H'[id']? = some none → H[id]? = some none) : RC H H' r (.ptr id j off) (.ptr id' j off) := by
  intro w S S' blk u fp hS ho
  have h := ho.conc rfl
  have hfp : fp = [] := by cases ho; rfl
  subst hfp
  subst hid
  refine .plain ?_
  cases h with
  | ptr x hx hj ho =>
    obtain ⟨y, hy, h1, h2⟩ := hr x hx
    have := Conc.ptr (w := w) (S := S') (blk := fun j => blk (r j)) (j := j) (off := off) y hy (by omega) (by omega)
    rwa [h1] at this
  | ptrD hx => exact .ptrD (hd hx) _

theorem rc_row {r : Nat → Nat} {id id' n : Nat} (hid : id' = r id) (hr : ∀ x, H'[id']? = some (some x) → ∃ y, H[id]? = some (some y) ∧ y.sz = x.sz ∧ y.cap = x.cap) (hd : H'[id']? = some none → H[id]? = some none) : RC H H' r (.row id n) (.row id' n) := by
  intro w S S' blk u fp hS ho
  have h := ho.conc rfl
  have hfp : fp = [] := by cases ho; rfl
  subst hfp
  subst hid
  refine .plain ?_
  cases h with
  | row x hx hn h0 hm =>
    obtain ⟨y, hy, h1, h2⟩ := hr x hx
    have := Conc.row (w := w) (S := S') (blk := fun j => blk (r j)) (n := n) y hy (by omega) (by omega) (by omega)
    rwa [h2] at this
  | row0 x hx h0 a =>
    obtain ⟨y, hy, h1, h2⟩ := hr x hx
    exact .row0 y hy (by omega) a
  | rowD hx => exact .rowD (hd hx) _

/-- The same, of values that stand in slots. -/
def RCc (H H' : Hp) (r : Nat → Nat) (v v' : AV) : Prop :=
  ∀ (w : World) (S S' : Nat → Prop) (blk : Nat → Nat) (u : Value), (∀ b, S b → S' b) → Conc w S blk H' v' u → Conc w S' (fun j => blk (r j)) H v u

/-- Rows renamed, rows dropped. -/
theorem StB.ren {r : Nat → Nat} (s : StB nt X f' H' blk FP a w)
    (hrow : ∀ (j : Nat) (x : Row), H[j]? = some (some x) → ∃ y, H'[r j]? = some (some y) ∧ y.sz = x.sz ∧ y.cap = x.cap ∧ ∀ i k, i < x.cap → k < x.sz → RC H H' r (x.es i k) (y.es i k))
    (hinj : ∀ (i j : Nat) (x y : Row), H[i]? = some (some x) → H[j]? = some (some y) → r i = r j → i = j)
    (hfr : ∀ t, RCc H H' r (lk f t) (lk f' t)) : StB nt X f H (fun j => blk (r j)) (fun j => FP (r j)) a w := by
  have hS : ∀ b, X.S FP H' w.heap.size b → X.S (fun j => FP (r j)) H w.heap.size b := fun b hb => ⟨hb.1, hb.2.1, fun id x hx => by
    obtain ⟨y, hy, _⟩ := hrow id x hx
    exact hb.2.2 _ y hy⟩
  refine ⟨s.defers, s.size, s.keeps, fun id x hx => ?_, fun i j x y hi hj hne => ?_, fun t => ?_⟩
  · obtain ⟨y, hy, h1, h2, h3⟩ := hrow id x hx
    obtain ⟨q1, q2⟩ := s.rows _ y hy
    refine ⟨?_, q2⟩
    rcases q1 with q1 | ⟨h0, hb, ty, cur, F, e1, e2, e3, e4, e5⟩
    · exact .inl ⟨h2 ▸ q1.1, q1.2⟩
    · rw [h1, h2] at e2
      refine .inr ⟨by omega, hb, ty, cur, F, e1, e2, fun i k hi hk => ?_, fun i k hi hk => e4 i k (by omega) (by omega), fun i k i' k' a1 a2 a3 a4 => e5 i k i' k' (by omega) (by omega) (by omega) (by omega)⟩
      obtain ⟨u, hu, ho, hc⟩ := e3 i k (by omega) (by omega)
      rw [h1] at hu
      exact ⟨u, hu, ho, h3 i k hi hk w _ _ blk u _ hS hc⟩
  · obtain ⟨x', hx', _⟩ := hrow i x hi
    obtain ⟨y', hy', _⟩ := hrow j y hj
    exact s.apart _ _ x' y' hx' hy' fun e => hne (hinj i j x y hi hj e)
  · exact hfr t w _ _ blk _ hS (s.fr t)

/-! ### Reckoned -/

def rhoF (l : List Nat) (j : Nat) : Nat := match l[j]? with | some k => k | none => j

/-- The dimensions of row id agree. -/
def dimP (H H' : Hp) (r : List Nat) (id : Nat) : Prop :=
  match H[id]?, H'[rhoF r id]? with
  | some (some x), some (some y) => y.sz = x.sz ∧ y.cap = x.cap
  | some none, _ => True
  | _, _ => False

/-- v' may be taken for v. -/
def rcP1 (H H' : Hp) (r : List Nat) (v v' : AV) : Prop :=
  match v, v' with
  | .any, .ow .. => False
  | .any, _ => True
  | .i k n, .i k' n' => k' = k ∧ n' = n
  | .b x, .b y => y = x
  | .b x, .kb y => y = x
  | .kb x, .kb y => y = x
  | .s x, .s y => y = x
  | .nils, .nils => True
  | .nilp, .nilp => True
  | .sl sz n g, .nils => n = 0
  | .sl sz n g, .sl sz' n' g' => sz' = sz ∧ n' = n ∧ ∀ i j, i < n → j < sz → g' i j = g i j
  | .rf m g, .rf m' g' => m' = m ∧ ∀ j, j < m → g' j = g j
  | .ow sz n g, .ow sz' n' g' => sz' = sz ∧ n' = n ∧ ∀ i j, i < n → j < sz → g' i j = g i j
  | .ptr id j off, .ptr id' j' off' => id' = rhoF r id ∧ j' = j ∧ off' = off ∧ dimP H H' r id
  | .row id n, .row id' n' => id' = rhoF r id ∧ n' = n ∧ dimP H H' r id
  | .fn g [], .fn g' [] => g' = g
  | _, _ => False
def rcPL (H H' : Hp) (r : List Nat) : List AV → List AV → Prop
  | [], [] => True
  | [v], [v'] => rcP1 H H' r v v'
  | v :: vs, v' :: vs' => rcP1 H H' r v v' ∧ rcPL H H' r vs vs'
  | _, _ => False
def rcP (H H' : Hp) (r : List Nat) (v v' : AV) : Prop :=
  match v, v' with
  | .agg cs, .agg cs' => rcPL H H' r cs cs'
  | .fn g cs, .fn g' cs' => g' = g ∧ rcPL H H' r cs cs'
  | .ow .., _ => False
  | v, v' => rcP1 H H' r v v'

theorem dimP_c {r : List Nat} {id : Nat} (h : dimP H H' r id) : H[id]? = some none ∨ ((∀ x, H'[rhoF r id]? = some (some x) → ∃ y, H[id]? = some (some y) ∧ y.sz = x.sz ∧ y.cap = x.cap) ∧ (H'[rhoF r id]? = some none → H[id]? = some none)) := by
  unfold dimP at h
  split at h
  · rename_i x y hx hy
    rw [hy]
    exact .inr ⟨(fun z hz => by cases hz; exact ⟨x, hx, h.1.symm, h.2.symm⟩), (fun e => by cases e)⟩
  · rename_i hx
    exact .inl hx
  · cases h

theorem rcP1_ok {r : List Nat} {v v' : AV} (h : rcP1 H H' r v v') : RC H H' (rhoF r) v v' := by
  unfold rcP1 at h
  split at h
  · cases h
  · rename_i hne
    refine rc_any ?_
    cases v' with
    | ow sz n g => exact absurd rfl (hne sz n g)
    | _ => rfl
  · obtain ⟨h1, h2⟩ := h; subst h1; subst h2; exact rc_free trivial
  · cases h; exact rc_free trivial
  · cases h
    intro w S S' blk u fp hS ho
    have hfp : fp = [] := by cases ho; rfl
    subst hfp
    rw [inv_kb (ho.conc rfl)]
    exact .plain (.b _)
  · cases h; exact rc_free trivial
  · cases h; exact rc_free trivial
  · exact rc_free trivial
  · exact rc_free trivial
  · subst h
    intro w S S' blk u fp hS ho
    have hfp : fp = [] := by cases ho; rfl
    subst hfp
    rw [inv_nils (ho.conc rfl)]
    exact .plain (.sl0 _ 0 (Nat.zero_le _))
  · obtain ⟨rfl, rfl, h⟩ := h
    intro w S S' blk u fp hS ho
    have hfp : fp = [] := by cases ho; rfl
    subst hfp
    have hc := ho.conc rfl
    refine .plain ?_
    cases hc with
    | sl0 a cap hm => exact .sl0 a cap hm
    | sl b o cap U hb hn hm hc hf hu =>
      refine .sl b o cap U (hS b hb) hn hm hc (fun i j hi hj => h i j hi hj ▸ hf i j hi hj) (fun i j hi hj => ?_)
      rw [← h i j hi hj]
      exact ((hu i j hi hj).free (hf i j hi hj)).mono (fun b hb => ⟨hS b hb, rfl⟩) (HExt.refl _ _)
  · obtain ⟨rfl, h⟩ := h
    intro w S S' blk u fp hS ho
    have hfp : fp = [] := by cases ho; rfl
    subst hfp
    obtain ⟨b, o, U, rfl, hb, hc, hu, hf⟩ := inv_rf (ho.conc rfl)
    refine .plain (.rf b o U (hS b hb) hc (fun j hj => h j hj ▸ hf j hj) (fun j hj => ?_))
    rw [← h j hj]
    exact ((hu j hj).free (hf j hj)).mono (fun b hb => ⟨hS b hb, rfl⟩) (HExt.refl _ _)
  · obtain ⟨rfl, rfl, h⟩ := h
    intro w S S' blk u fp hS ho
    cases ho with
    | plain h => cases h
    | ow0 a => exact .ow0 a
    | ow b cap ty cur U F hb hcur hn hm h0 h1 hc hf hu hF =>
      refine .ow b cap ty cur U F hb hcur hn hm h0 h1 hc (fun i j hi hj => h i j hi hj ▸ hf i j hi hj) (fun i j hi hj => ?_) hF
      have e := h i j hi hj
      exact rc_free (e ▸ hf i j hi hj) w S S' blk _ _ hS (e ▸ hu i j hi hj)
  · obtain ⟨rfl, rfl, rfl, h⟩ := h
    rcases dimP_c h with h | h
    · intro w S S' blk u fp hS ho
      have hfp : fp = [] := by cases ho; rfl
      subst hfp
      exact .plain (.ptrD h u)
    · exact rc_ptr rfl h.1 h.2
  · obtain ⟨rfl, rfl, h⟩ := h
    rcases dimP_c h with h | h
    · intro w S S' blk u fp hS ho
      have hfp : fp = [] := by cases ho; rfl
      subst hfp
      exact .plain (.rowD h u)
    · exact rc_row rfl h.1 h.2
  · cases h; exact rc_free rfl
  · cases h

theorem rcPL_ok {r : List Nat} : ∀ {cs cs' : List AV}, rcPL H H' r cs cs' → cs.length = cs'.length ∧ ∀ (j : Nat) (c c' : AV), cs[j]? = some c → cs'[j]? = some c' → rcP1 H H' r c c'
  | [], [], _ => ⟨rfl, fun j c c' hj => by simp at hj⟩
  | [v], [v'], h => ⟨rfl, fun j c c' hj hj' => by
    cases j with
    | zero => cases hj; cases hj'; exact h
    | succ j => simp at hj⟩
  | v :: v2 :: vs, v' :: v2' :: vs', h => by
    obtain ⟨h1, h2⟩ := h
    obtain ⟨h3, h4⟩ := rcPL_ok h2
    refine ⟨by simp only [List.length_cons] at h3 ⊢; omega, fun j c c' hj hj' => ?_⟩
    cases j with
    | zero => cases hj; cases hj'; exact h1
    | succ j => exact h4 j c c' (by simpa using hj) (by simpa using hj')
  | [], _ :: _, h => by cases h
  | [_], [], h => by cases h
  | [_], _ :: _ :: _, h => (show False from h.2).elim
  | _ :: _ :: _, [], h => by cases h
  | _ :: _ :: vs, [_], h => by
    have h2 := h.2
    cases vs <;> exact h2.elim

theorem rcP1_ow {r : List Nat} {v v' : AV} (h : rcP1 H H' r v v') (hv : v'.isOw = false) : v.isOw = false := by
  cases v with
  | ow sz n g => cases v' with
    | ow => cases hv
    | _ => exact h.elim
  | _ => rfl

theorem rcP1_c {r : List Nat} {v v' : AV} (h : rcP1 H H' r v v') : RCc H H' (rhoF r) v v' := fun w S S' blk u hS hc =>
  (rcP1_ok h w S S' blk u [] hS (.plain hc)).conc (rcP1_ow h (by cases hc <;> rfl))

theorem rcP_c {r : List Nat} {v v' : AV} (h : rcP H H' r v v') : RCc H H' (rhoF r) v v' := by
  have lst : ∀ {cs cs' : List AV}, rcPL H H' r cs cs' → ∀ (w : World) (S S' : Nat → Prop) (blk : Nat → Nat) (us : List Value), (∀ b, S b → S' b) → us.length = cs'.length → (∀ (j : Nat) (c : AV) (u : Value), cs'[j]? = some c → us[j]? = some u → Conc w S blk H' c u) →
      us.length = cs.length ∧ ∀ (j : Nat) (c : AV) (u : Value), cs[j]? = some c → us[j]? = some u → Conc w S' (fun j => blk (rhoF r j)) H c u := by
    intro cs cs' h w S S' blk us hS hul hu
    obtain ⟨h1, h2⟩ := rcPL_ok h
    refine ⟨hul.trans h1.symm, fun j c u hj hju => ?_⟩
    have hlt : j < cs'.length := by rw [← h1]; exact (List.getElem?_eq_some_iff.1 hj).1
    exact rcP1_c (h2 j c _ hj (List.getElem?_eq_getElem hlt)) w S S' blk u hS (hu j _ u (List.getElem?_eq_getElem hlt) hju)
  intro w S S' blk u hS hc
  unfold rcP at h
  split at h
  · obtain ⟨us, rfl, hul, hu⟩ := inv_agg hc
    obtain ⟨h1, h2⟩ := lst h w S S' blk us hS hul hu
    exact .agg _ us h1 h2
  · obtain ⟨rfl, h⟩ := h
    obtain ⟨us, rfl, hul, hu⟩ := inv_fn hc
    obtain ⟨h1, h2⟩ := lst h w S S' blk us hS hul hu
    exact .fn _ _ us h1 h2
  · cases h
  · exact rcP1_c h w S S' blk u hS hc

/-- The slots that a piece of code writes. -/
def asg : Code → List Nat
  | .region _ ops _ => ops.toList.filterMap (·.dst)
  | .seq a b => asg a ++ asg b
  | .cond _ a b => asg a ++ asg b
  | .block _ c => asg c
  | .loop c => asg c
  | _ => []
/-- The frame without some slots, and without what is not plain. -/
def delK (n : Nat) (ds : List Nat) : Fr → (Fr → Prop) → Prop
  | [], K => K []
  | (t, v) :: r, K => bif inL ds t then delK n ds r K else bif low n v then delK n (t :: ds) r fun r' => K ((t, v) :: r') else delK n (t :: ds) r K

/-- The frame says of its slots what the list says. -/
def agK (H H' : Hp) (r : List Nat) (f' : Fr) : Fr → Prop
  | [] => True
  | [(t, v)] => rcP H H' r v (lk f' t)
  | (t, v) :: rest => rcP H H' r v (lk f' t) ∧ agK H H' r f' rest

theorem agK_ok {r : List Nat} {f' : Fr} : ∀ {L : Fr}, agK H H' r f' L → ∀ p ∈ L, rcP H H' r p.2 (lk f' p.1)
  | [], _, p, hp => by cases hp
  | [(t, v)], h, p, hp => by
    rcases List.mem_cons.1 hp with rfl | hp
    · exact h
    · cases hp
  | (t, v) :: q :: rest, h, p, hp => by
    rcases List.mem_cons.1 hp with rfl | hp
    · exact h.1
    · exact agK_ok h.2 p hp

/-- A row, as it is said to be at a round's head. -/
inductive RowI where
  | box (cs : List AV)
  | arr (r : Row)
  | dead
def RowI.row : RowI → Option Row
  | .box cs => some (boxRow cs)
  | .arr r => some r
  | .dead => none
/-- The rows at a round's head: as before the loop, but where it is said otherwise. -/
def mkH : Hp → List (Option RowI) → Hp
  | H, [] => H
  | [], _ => []
  | r :: H, none :: l => r :: mkH H l
  | _ :: H, some i :: l => i.row :: mkH H l
theorem mkH_length : ∀ (H : Hp) (l : List (Option RowI)), (mkH H l).length = H.length
  | H, [] => by cases H <;> rfl
  | [], _ :: _ => rfl
  | r :: H, none :: l => by show (mkH H l).length + 1 = _; rw [mkH_length H l]; rfl
  | _ :: H, some i :: l => by show (mkH H l).length + 1 = _; rw [mkH_length H l]; rfl

/-- A row is as it is said to be. -/
def rowP (H H' : Hp) (r : List Nat) (x y : Row) : Prop := y.sz = x.sz ∧ y.cap = x.cap ∧ ∀ i k, i < x.cap → k < x.sz → rcP1 H H' r (x.es i k) (y.es i k)
/-- Rows of one element, cell by cell. -/
def boxP (H H' : Hp) (r : List Nat) (x y : Row) : Prop := x.cap = 1 ∧ y.sz = x.sz ∧ y.cap = 1 ∧ rcPL H H' r (cellsAt (x.es 0) 0 x.sz) (cellsAt (y.es 0) 0 x.sz)
theorem boxP_ok {r : List Nat} {x y : Row} (h : boxP H H' r x y) : rowP H H' r x y := by
  obtain ⟨h1, h2, h3, h4⟩ := h
  refine ⟨h2, h3.trans h1.symm, fun i k hi hk => ?_⟩
  obtain rfl : i = 0 := by omega
  obtain ⟨_, h5⟩ := rcPL_ok h4
  have l1 : k < (cellsAt (x.es 0) 0 x.sz).length := by rw [cellsAt_length]; exact hk
  have l2 : k < (cellsAt (y.es 0) 0 x.sz).length := by rw [cellsAt_length]; exact hk
  have := h5 k _ _ (List.getElem?_eq_getElem l1) (List.getElem?_eq_getElem l2)
  obtain ⟨_, e1⟩ := cellsAt_get (x.es 0) x.sz 0 k _ (List.getElem?_eq_getElem l1)
  obtain ⟨_, e2⟩ := cellsAt_get (y.es 0) x.sz 0 k _ (List.getElem?_eq_getElem l2)
  rw [e1, e2, Nat.zero_add] at this
  exact this
/-- A row that is as it was. -/
def keepP (n : Nat) (x y : Row) : Prop :=
  match x.bx with
  | true => y = x ∧ x.cap = 1 ∧ (cellsAt (x.es 0) 0 x.sz).all (low1 n) = true
  | false => y = x ∧ ∀ i k, i < x.cap → k < x.sz → low1 n (x.es i k) = true

/-- A row of many elements is as it is said to be. -/
structure ArrP (n : Nat) (x y : Row) : Prop where
  sz : y.sz = x.sz
  cap : y.cap = x.cap
  es : ∀ i k, i < x.cap → k < x.sz → y.es i k = x.es i k
  low : ∀ i k, i < x.cap → k < x.sz → low1 n (x.es i k) = true

/-- All rows are as they are said to be: l says which are said to be something, H0 is what was before the loop. -/
def hpP (H H' : Hp) (r : List Nat) : Nat → List (Option RowI) → Hp → Prop
  | _, _, [] => True
  | j, [], none :: H0 => hpP H H' r (j + 1) [] H0
  | j, [], some x :: H0 => (match H'[rhoF r j]? with | some (some y) => keepP H.length x y | _ => False) ∧ hpP H H' r (j + 1) [] H0
  | j, none :: l, none :: H0 => hpP H H' r (j + 1) l H0
  | j, none :: l, some x :: H0 => (match H'[rhoF r j]? with | some (some y) => keepP H.length x y | _ => False) ∧ hpP H H' r (j + 1) l H0
  | j, some .dead :: l, _ :: H0 => hpP H H' r (j + 1) l H0
  | j, some (.box cs) :: l, _ :: H0 => (match H'[rhoF r j]? with | some (some y) => boxP H H' r (boxRow cs) y | _ => False) ∧ hpP H H' r (j + 1) l H0
  | j, some (.arr x) :: l, _ :: H0 => (match H'[rhoF r j]? with | some (some y) => ArrP H.length x y | _ => False) ∧ hpP H H' r (j + 1) l H0

/-- What is kept of a row's dimensions. -/
def dimK (H' : Hp) (r : List Nat) (j : Nat) (x : Row) (R : Row → Prop) : Prop := ∃ y, H'[rhoF r j]? = some (some y) ∧ R y

theorem hpP_dim {r : List Nat} : ∀ {l : List (Option RowI)} {H0 : Hp} {k j : Nat} {x : Row}, hpP H H' r k l H0 → (mkH H0 l)[j]? = some (some x) →
    ∃ y, H'[rhoF r (k + j)]? = some (some y) ∧ y.sz = x.sz ∧ y.cap = x.cap ∧ (keepP H.length x y ∨ ArrP H.length x y ∨ rowP H H' r x y) := by
  intro l H0
  induction H0 generalizing l with
  | nil =>
    intro k j x h hj
    cases l with
    | nil => simp [mkH] at hj
    | cons => simp [mkH] at hj
  | cons x0 H0 ih =>
    intro k j x h hj
    have kp : ∀ {x y : Row}, keepP H.length x y → y.sz = x.sz ∧ y.cap = x.cap := by
      intro x y h
      unfold keepP at h
      split at h
      · obtain ⟨rfl, _⟩ := h; exact ⟨rfl, rfl⟩
      · obtain ⟨rfl, _⟩ := h; exact ⟨rfl, rfl⟩
    have head : ∀ {x : Row}, (match H'[rhoF r k]? with | some (some y) => keepP H.length x y | _ => False) → ∃ y, H'[rhoF r (k + 0)]? = some (some y) ∧ y.sz = x.sz ∧ y.cap = x.cap ∧ (keepP H.length x y ∨ ArrP H.length x y ∨ rowP H H' r x y) := by
      intro x h
      split at h
      · rename_i y hy
        exact ⟨y, hy, (kp h).1, (kp h).2, .inl h⟩
      · cases h
    have tail : ∀ {l : List (Option RowI)} {j : Nat}, hpP H H' r (k + 1) l H0 → (mkH H0 l)[j]? = some (some x) → ∃ y, H'[rhoF r (k + (j + 1))]? = some (some y) ∧ y.sz = x.sz ∧ y.cap = x.cap ∧ (keepP H.length x y ∨ ArrP H.length x y ∨ rowP H H' r x y) := by
      intro l j h hj
      have := ih h hj
      rwa [show k + 1 + j = k + (j + 1) by omega] at this
    match l, x0, h, hj with
    | [], none, h, hj =>
      cases j with
      | zero => simp [mkH] at hj
      | succ j => exact tail (l := []) h (by rw [show mkH H0 [] = H0 by cases H0 <;> rfl]; simpa [mkH] using hj)
    | [], some z, h, hj =>
      cases j with
      | zero =>
        have : z = x := by simpa [mkH] using hj
        subst this
        exact head h.1
      | succ j => exact tail (l := []) h.2 (by rw [show mkH H0 [] = H0 by cases H0 <;> rfl]; simpa [mkH] using hj)
    | none :: l, none, h, hj =>
      cases j with
      | zero => simp [mkH] at hj
      | succ j => exact tail h (by simpa [mkH] using hj)
    | none :: l, some z, h, hj =>
      cases j with
      | zero =>
        have : z = x := by simpa [mkH] using hj
        subst this
        exact head h.1
      | succ j => exact tail h.2 (by simpa [mkH] using hj)
    | some .dead :: l, x0, h, hj =>
      replace h : hpP H H' r (k + 1) l H0 := by cases x0 <;> exact h
      cases j with
      | zero => simp [mkH, RowI.row] at hj
      | succ j => exact tail h (by simpa [mkH] using hj)
    | some (.box cs) :: l, x0, h, hj =>
      replace h : (match H'[rhoF r k]? with | some (some y) => boxP H H' r (boxRow cs) y | _ => False) ∧ hpP H H' r (k + 1) l H0 := by cases x0 <;> exact h
      cases j with
      | zero =>
        have : boxRow cs = x := by simpa [mkH, RowI.row] using hj
        subst this
        have h1 := h.1
        split at h1
        · rename_i y hy
          have h2 := boxP_ok h1
          exact ⟨y, hy, h2.1, h2.2.1, .inr (.inr h2)⟩
        · cases h1
      | succ j => exact tail h.2 (by simpa [mkH] using hj)
    | some (.arr z) :: l, x0, h, hj =>
      replace h : (match H'[rhoF r k]? with | some (some y) => ArrP H.length z y | _ => False) ∧ hpP H H' r (k + 1) l H0 := by cases x0 <;> exact h
      cases j with
      | zero =>
        have : z = x := by simpa [mkH, RowI.row] using hj
        subst this
        have h1 := h.1
        split at h1
        · rename_i y hy
          exact ⟨y, hy, h1.sz, h1.cap, .inr (.inl h1)⟩
        · cases h1
      | succ j => exact tail h.2 (by simpa [mkH] using hj)

def nodupB : List Nat → Bool
  | [] => true
  | x :: r => !inL r x && nodupB r
theorem nodupB_ok : ∀ {l : List Nat}, nodupB l = true → l.Nodup
  | [], _ => List.nodup_nil
  | x :: r, h => by
    unfold nodupB at h
    rw [Bool.and_eq_true, inL_eq] at h
    exact List.nodup_cons.2 ⟨by simpa using h.1, nodupB_ok h.2⟩
/-- A renaming that tells rows apart. -/
def rhoOk (r : List Nat) (n : Nat) : Bool := nodupB r && (r.length == n || r.isEmpty)

theorem rho_inj {r : List Nat} {n i j : Nat} (h : rhoOk r n = true) (hi : i < n) (hj : j < n) (e : rhoF r i = rhoF r j) : i = j := by
  unfold rhoOk at h
  rw [Bool.and_eq_true, Bool.or_eq_true] at h
  obtain ⟨h1, h2⟩ := h
  have hn := nodupB_ok h1
  rcases h2 with h2 | h2
  · have hl : r.length = n := by simpa using h2
    unfold rhoF at e
    have hi' : i < r.length := by omega
    have hj' : j < r.length := by omega
    rw [List.getElem?_eq_getElem hi', List.getElem?_eq_getElem hj'] at e
    have hp := List.pairwise_iff_getElem.1 hn
    rcases Nat.lt_trichotomy i j with h | h | h
    · exact absurd e (hp i j hi' hj' h)
    · exact h
    · exact absurd e.symm (hp j i hj' hi' h)
  · have : r = [] := by simpa using h2
    subst this
    simpa [rhoF] using e

/-- Rows that a kept description speaks of stay where they are. -/
def fixed (r : List Nat) (n : Nat) : Prop := ∀ j, j < n → rhoF r j = j

theorem rc_low {r : List Nat} {v : AV} (hd : ∀ j, j < H.length → H[j]? = some none ∨ (rhoF r j = j ∧ dimP H H' r j)) (hv : low1 H.length v = true) : RC H H' (rhoF r) v v := by
  cases v with
  | ptr id j off =>
    have hid : id < H.length := Nat.le_of_ble_eq_true hv
    rcases hd id hid with h | ⟨h1, h2⟩
    · intro w S S' blk u fp hS ho
      have hfp : fp = [] := by cases ho; rfl
      subst hfp
      exact .plain (.ptrD h u)
    · exact rcP1_ok (H := H) (H' := H') (r := r) (v := .ptr id j off) (v' := .ptr id j off) ⟨h1.symm, rfl, rfl, h2⟩
  | row id n =>
    have hid : id < H.length := Nat.le_of_ble_eq_true hv
    rcases hd id hid with h | ⟨h1, h2⟩
    · intro w S S' blk u fp hS ho
      have hfp : fp = [] := by cases ho; rfl
      subst hfp
      exact .plain (.rowD h u)
    · exact rcP1_ok (H := H) (H' := H') (r := r) (v := .row id n) (v' := .row id n) ⟨h1.symm, rfl, h2⟩
  | agg => cases hv
  | tup => cases hv
  | fn => cases hv
  | sl sz n g =>
    intro w S S' blk u fp hS ho
    have hfp : fp = [] := by cases ho; rfl
    subst hfp
    have hc := ho.conc rfl
    exact .plain ((hc.free hc.idf_sl).mono (fun b hb => ⟨hS b hb, rfl⟩) (HExt.refl _ _))
  | rf m g =>
    intro w S S' blk u fp hS ho
    have hfp : fp = [] := by cases ho; rfl
    subst hfp
    have hc := ho.conc rfl
    exact .plain ((hc.free hc.idf_rf).mono (fun b hb => ⟨hS b hb, rfl⟩) (HExt.refl _ _))
  | ow sz n g =>
    intro w S S' blk u fp hS ho
    cases ho with
    | plain h => cases h
    | ow0 a => exact .ow0 a
    | ow b cap ty cur U F hb hcur hn hm h0 h1 hc hf hu hF =>
      exact .ow b cap ty cur U F hb hcur hn hm h0 h1 hc hf (fun i j hi hj => rc_free (hf i j hi hj) w S S' blk _ _ hS (hu i j hi hj)) hF
  | _ => exact rc_free trivial

theorem rcc_low {r : List Nat} {v : AV} (hd : ∀ j, j < H.length → H[j]? = some none ∨ (rhoF r j = j ∧ dimP H H' r j)) (hv : low H.length v = true) : RCc H H' (rhoF r) v v := by
  have one : ∀ v, low1 H.length v = true → RCc H H' (rhoF r) v v := fun v hv w S S' blk u hS hc =>
    (rc_low hd hv w S S' blk u [] hS (.plain hc)).conc (by cases hc <;> rfl)
  intro w S S' blk u hS hc
  cases v with
  | agg cs =>
    obtain ⟨us, rfl, hul, hu⟩ := inv_agg hc
    exact .agg _ us hul fun j c u hj hju => one c (List.all_eq_true.1 hv c (List.mem_of_getElem? hj)) w S S' blk u hS (hu j c u hj hju)
  | tup cs =>
    obtain ⟨us, rfl, hul, hu⟩ := inv_tup hc
    exact .tup _ us hul fun j c u hj hju => one c (List.all_eq_true.1 hv c (List.mem_of_getElem? hj)) w S S' blk u hS (hu j c u hj hju)
  | fn g cs =>
    obtain ⟨us, rfl, hul, hu⟩ := inv_fn hc
    exact .fn _ _ us hul fun j c u hj hju => one c (List.all_eq_true.1 hv c (List.mem_of_getElem? hj)) w S S' blk u hS (hu j c u hj hju)
  | _ => refine one _ ?_ w S S' blk u hS hc; exact hv

theorem lk_mem {L : Fr} {t : Nat} (h : t ∈ L.map (·.1)) : ∃ p ∈ L, p.1 = t ∧ lk L t = p.2 := by
  induction L with
  | nil => simp at h
  | cons p L ih =>
    obtain ⟨d, v⟩ := p
    rw [lk_cons]
    by_cases e : d = t
    · exact ⟨(d, v), by simp, e, by rw [if_pos e]⟩
    · have e' : ¬ t = d := fun h => e h.symm
      obtain ⟨p, hp, h1, h2⟩ := ih (by simpa [e'] using h)
      exact ⟨p, by simp [hp], h1, by rw [if_neg e]; exact h2⟩
theorem lk_not {L : Fr} {t : Nat} (h : t ∉ L.map (·.1)) : lk L t = .any := by
  induction L with
  | nil => rfl
  | cons p L ih =>
    obtain ⟨d, v⟩ := p
    simp at h
    rw [lk_cons, if_neg (fun e => h.1 e.symm)]
    exact ih (by simpa using h.2)

/-- Which rows the renaming moves: none that a kept description may speak of. -/
def moves (r : List Nat) : Hp → Nat → Bool
  | [], _ => true
  | none :: H, j => moves r H (j + 1)
  | some _ :: H, j => Nat.beq (rhoF r j) j && moves r H (j + 1)
theorem moves_ok {r : List Nat} : ∀ {H : Hp} {k j : Nat} {x : Row}, moves r H k = true → H[j]? = some (some x) → rhoF r (k + j) = k + j
  | [], k, j, x, _, h => by simp at h
  | none :: H, k, j, x, h, hj => by
    cases j with
    | zero => simp at hj
    | succ j =>
      have := moves_ok (H := H) (k := k + 1) (j := j) (x := x) h (by simpa using hj)
      rwa [show k + 1 + j = k + (j + 1) by omega] at this
  | some z :: H, k, j, x, h, hj => by
    unfold moves at h
    rw [Bool.and_eq_true] at h
    cases j with
    | zero => exact Nat.eq_of_beq_eq_true h.1
    | succ j =>
      have := moves_ok (H := H) (k := k + 1) (j := j) (x := x) h.2 (by simpa using hj)
      rwa [show k + 1 + j = k + (j + 1) by omega] at this

theorem St.agree {r : List Nat} {L f0 : Fr} {l : List (Option RowI)} {H0 : Hp} (s : St nt X f' H' a w) (hr : rhoOk r H0.length = true) (hL : agK (mkH H0 l) H' r f' L)
    (h0 : ∀ p ∈ f0, lk f' p.1 = p.2 ∧ low H0.length p.2 = true) (hm : f0 = [] ∨ moves r (mkH H0 l) 0 = true) (hk : moves r (mkH H0 l) 0 = true) (hH : hpP (mkH H0 l) H' r 0 l H0) : St nt X (L ++ f0) (mkH H0 l) a w := by
  obtain ⟨blk, FP, s⟩ := s
  have hlen : (mkH H0 l).length = H0.length := mkH_length H0 l
  have hd : moves r (mkH H0 l) 0 = true → ∀ j, j < (mkH H0 l).length → (mkH H0 l)[j]? = some none ∨ (rhoF r j = j ∧ dimP (mkH H0 l) H' r j) := by
    intro hmv j hj
    cases hx : (mkH H0 l)[j]? with
    | none => rw [List.getElem?_eq_none_iff] at hx; omega
    | some x =>
      cases x with
      | none => exact .inl rfl
      | some x =>
        right
        have h1 := moves_ok hmv hx
        rw [Nat.zero_add] at h1
        refine ⟨h1, ?_⟩
        obtain ⟨y, hy, h2, h3, _⟩ := hpP_dim hH hx
        rw [Nat.zero_add] at hy
        unfold dimP
        rw [hx, hy]
        exact ⟨h2, h3⟩
  refine ⟨_, _, s.ren (r := rhoF r) (fun j x hx => ?_) (fun i j x y hi hj e => rho_inj hr (by rw [← hlen]; exact (List.getElem?_eq_some_iff.1 hi).1) (by rw [← hlen]; exact (List.getElem?_eq_some_iff.1 hj).1) e) (fun t => ?_)⟩
  · obtain ⟨y, hy, h1, h2, h3⟩ := hpP_dim hH hx
    rw [Nat.zero_add] at hy
    refine ⟨y, hy, h1, h2, fun i k hi hkk => ?_⟩
    rcases h3 with h3 | h3 | h3
    · have hlow : y = x ∧ low1 (mkH H0 l).length (x.es i k) = true := by
        unfold keepP at h3
        split at h3
        · obtain ⟨e, hc, ha⟩ := h3
          refine ⟨e, ?_⟩
          obtain rfl : i = 0 := by omega
          have l1 : k < (cellsAt (x.es 0) 0 x.sz).length := by rw [cellsAt_length]; exact hkk
          obtain ⟨_, e1⟩ := cellsAt_get (x.es 0) x.sz 0 k _ (List.getElem?_eq_getElem l1)
          have := List.all_eq_true.1 ha _ (List.getElem_mem l1)
          rwa [e1, Nat.zero_add] at this
        · obtain ⟨e, ha⟩ := h3
          exact ⟨e, ha i k hi hkk⟩
      rw [hlow.1]
      exact rc_low (hd hk) hlow.2
    · rw [h3.es i k hi hkk]
      exact rc_low (hd hk) (h3.low i k hi hkk)
    · exact rcP1_ok (h3.2.2 i k hi hkk)
  · by_cases ht : t ∈ (L ++ f0).map (·.1)
    · obtain ⟨p, hp, h1, h2⟩ := lk_mem ht
      rw [h2, ← h1]
      rcases List.mem_append.1 hp with hp | hp
      · exact rcP_c (agK_ok hL p hp)
      · obtain ⟨e1, e2⟩ := h0 p hp
        rw [e1]
        rcases hm with hm | hm
        · rw [hm] at hp; cases hp
        · exact rcc_low (hd hm) (by rw [hlen]; exact e2)
    · rw [lk_not ht]
      exact fun w S S' blk u hS hc => .any u

theorem delK_eq {n : Nat} : ∀ (f : Fr) (ds : List Nat) (K : Fr → Prop), delK n ds f K → ∃ f0, K f0 ∧ ∀ p ∈ f0, (lk f p.1 = p.2 ∧ inL ds p.1 = false) ∧ low n p.2 = true
  | [], ds, K, h => ⟨[], h, by simp⟩
  | (t, v) :: r, ds, K, h => by
    unfold delK at h
    cases hb : inL ds t with
    | true =>
      rw [hb, cond_true] at h
      obtain ⟨f0, hk, h0⟩ := delK_eq r ds K h
      refine ⟨f0, hk, fun p hp => ?_⟩
      obtain ⟨⟨h1, h2⟩, h3⟩ := h0 p hp
      refine ⟨⟨?_, h2⟩, h3⟩
      rw [lk_cons, if_neg]
      · exact h1
      · rintro rfl
        rw [hb] at h2
        cases h2
    | false =>
      rw [hb, cond_false] at h
      have rest : ∀ p : Nat × AV, (lk r p.1 = p.2 ∧ inL (t :: ds) p.1 = false) ∧ low n p.2 = true → (lk ((t, v) :: r) p.1 = p.2 ∧ inL ds p.1 = false) ∧ low n p.2 = true := by
        rintro p ⟨⟨h1, h2⟩, h3⟩
        have hne : ¬ t = p.1 := by
          intro e
          change (bif Nat.beq t p.1 then true else inL ds p.1) = false at h2
          rw [e, Nat.beq_refl] at h2
          cases h2
        refine ⟨⟨by rw [lk_cons, if_neg hne]; exact h1, ?_⟩, h3⟩
        change (bif Nat.beq t p.1 then true else inL ds p.1) = false at h2
        cases ht : Nat.beq t p.1 with
        | true => rw [ht] at h2; cases h2
        | false => rw [ht] at h2; exact h2
      cases hl : low n v with
      | true =>
        rw [hl, cond_true] at h
        obtain ⟨f0, hk, h0⟩ := delK_eq r (t :: ds) _ h
        refine ⟨(t, v) :: f0, hk, fun p hp => ?_⟩
        rcases List.mem_cons.1 hp with rfl | hp
        · exact ⟨⟨by rw [lk_cons, if_pos rfl], hb⟩, hl⟩
        · exact rest p (h0 p hp)
      | false =>
        rw [hl, cond_false] at h
        obtain ⟨f0, hk, h0⟩ := delK_eq r (t :: ds) _ h
        exact ⟨f0, hk, fun p hp => rest p (h0 p hp)⟩

/-- What a round must leave. -/
def RoundEnd {α : Type} (f0 : Fr) (H0 : Hp) (vs : α → Fr) (hp : α → List (Option RowI)) (I : α → Prop) (μ : α → Nat) (x : α) (f' : Fr) (H' : Hp) : Prop :=
  ∃ (x' : α) (r : List Nat), I x' ∧ μ x' < μ x ∧ agK (mkH H0 (hp x')) H' r f' (vs x') ∧ f0.map (fun p => lk f' p.1) = f0.map (·.2) ∧ (rhoOk r H0.length && moves r (mkH H0 (hp x')) 0) = true ∧ hpP (mkH H0 (hp x')) H' r 0 (hp x') H0
/-- The same for a counter: nothing renamed. -/
def RoundN (f0 : Fr) (H0 : Hp) (vs : Nat → Fr) (hp : Nat → List (Option RowI)) (I : Nat → Prop) (n k : Nat) (f' : Fr) (H' : Hp) : Prop :=
  (k < n ∧ I (k + 1)) ∧ agK (mkH H0 (hp (k + 1))) H' [] f' (vs (k + 1)) ∧ f0.map (fun p => lk f' p.1) = f0.map (·.2) ∧ hpP (mkH H0 (hp (k + 1))) H' [] 0 (hp (k + 1)) H0

theorem map_same {f0 f' : Fr} (h : f0.map (fun p => lk f' p.1) = f0.map (·.2)) : ∀ p ∈ f0, lk f' p.1 = p.2 := by
  induction f0 with
  | nil => intro p hp; cases hp
  | cons q f0 ih =>
    simp only [List.map_cons, List.cons.injEq] at h
    intro p hp
    rcases List.mem_cons.1 hp with rfl | hp
    · exact h.1
    · exact ih h.2 p hp

theorem moves_nil : ∀ (H : Hp) (k : Nat), moves [] H k = true
  | [], k => rfl
  | none :: H, k => moves_nil H (k + 1)
  | some x :: H, k => by unfold moves; rw [moves_nil H (k + 1)]; simp [rhoF]
theorem rhoOk_nil (n : Nat) : rhoOk [] n = true := by simp [rhoOk, nodupB]

/-- THE LOOP. -/
theorem loopF {α : Type} {c : Code} {Q : Exit → Fr → Hp → Prop} (vs : α → Fr) (hp : α → List (Option RowI)) (I : α → Prop) (μ : α → Nat) (x0 : α)
    (h : I x0 ∧ agK (mkH H (hp x0)) H [] f (vs x0) ∧ hpP (mkH H (hp x0)) H [] 0 (hp x0) H ∧
      delK H.length (asg c) f fun f0 => ∀ x, I x → wpc E nt X c (vs x ++ f0) (mkH H (hp x)) (thn (RoundEnd f0 H vs hp I μ x) Q)) :
    LW E.P nt X (.loop c) f H Q := by
  constructor
  obtain ⟨h0, h1, h2, h3⟩ := h
  obtain ⟨f0, h5, h6⟩ := delK_eq _ _ _ h3
  intro a w s
  have s0 : St nt X (vs x0 ++ f0) (mkH H (hp x0)) a w := s.agree (rhoOk_nil _) h1 (fun p hp => ⟨(h6 p hp).1.1, (h6 p hp).2⟩) (.inr (moves_nil _ _)) (moves_nil _ _) h2
  refine pw_loop (fun m f' H' => ∃ x, m = μ x ∧ I x ∧ f' = vs x ++ f0 ∧ H' = mkH H (hp x)) (μ x0) ⟨x0, rfl, h0, rfl, rfl⟩ ?_ a w s0
  rintro m f' H' ⟨x, rfl, hi, rfl, rfl⟩
  intro a w s
  refine wp_mono (wpc_ok c _ _ _ (h5 x hi) a w s) fun e a w l => ?_
  obtain ⟨f', H', q, s'⟩ := l
  cases e with
  | normal =>
    obtain ⟨x', r, hi', hlt, ha, hb, hr, hH⟩ := q
    rw [Bool.and_eq_true] at hr
    refine ⟨_, _, ⟨μ x', hlt, x', rfl, hi', rfl, rfl⟩, s'.agree hr.1 ha (fun p hp => ⟨map_same hb p hp, (h6 p hp).2⟩) (.inr hr.2) hr.2 hH⟩
  | exit id => exact ⟨f', H', q, s'⟩
  | goto l => exact ⟨f', H', q, s'⟩
  | ret => exact ⟨f', H', q, s'⟩
  | panic ch => exact ⟨f', H', q, s'⟩
  | outgrown => exact ⟨f', H', q, s'⟩

/-- A LOOP WITH A COUNTER. -/
theorem loopN {c : Code} {Q : Exit → Fr → Hp → Prop} (n : Nat) (vs : Nat → Fr) (hp : Nat → List (Option RowI)) (I : Nat → Prop)
    (h : I 0 ∧ agK (mkH H (hp 0)) H [] f (vs 0) ∧ hpP (mkH H (hp 0)) H [] 0 (hp 0) H ∧
      delK H.length (asg c) f fun f0 => ∀ k, k ≤ n → I k → wpc E nt X c (vs k ++ f0) (mkH H (hp k)) (thn (RoundN f0 H vs hp I n k) Q)) :
    LW E.P nt X (.loop c) f H Q := by
  constructor
  obtain ⟨h0, h1, h2, h3⟩ := h
  obtain ⟨f0, h5, h6⟩ := delK_eq _ _ _ h3
  intro a w s
  have s0 : St nt X (vs 0 ++ f0) (mkH H (hp 0)) a w := s.agree (rhoOk_nil _) h1 (fun p hp => ⟨(h6 p hp).1.1, (h6 p hp).2⟩) (.inr (moves_nil _ _)) (moves_nil _ _) h2
  refine pw_loop (fun m f' H' => ∃ x, m = n - x ∧ x ≤ n ∧ I x ∧ f' = vs x ++ f0 ∧ H' = mkH H (hp x)) (n - 0) ⟨0, rfl, Nat.zero_le _, h0, rfl, rfl⟩ ?_ a w s0
  rintro m f' H' ⟨x, rfl, hx, hi, rfl, rfl⟩
  intro a w s
  refine wp_mono (wpc_ok c _ _ _ (h5 x hx hi) a w s) fun e a w l => ?_
  obtain ⟨f', H', q, s'⟩ := l
  cases e with
  | normal =>
    obtain ⟨⟨hlt, hi'⟩, ha, hb, hH⟩ := q
    refine ⟨_, _, ⟨n - (x + 1), by omega, x + 1, rfl, by omega, hi', rfl, rfl⟩, s'.agree (rhoOk_nil _) ha (fun p hp => ⟨map_same hb p hp, (h6 p hp).2⟩) (.inr (moves_nil _ _)) (moves_nil _ _) hH⟩
  | exit id => exact ⟨f', H', q, s'⟩
  | goto l => exact ⟨f', H', q, s'⟩
  | ret => exact ⟨f', H', q, s'⟩
  | panic ch => exact ⟨f', H', q, s'⟩
  | outgrown => exact ⟨f', H', q, s'⟩

end
end Go.Proofs.Ytgkclbbabfidaaa
