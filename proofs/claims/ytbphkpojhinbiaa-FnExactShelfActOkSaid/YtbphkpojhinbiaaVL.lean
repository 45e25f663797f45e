/-
  Loops: what holds of the slots and of the rows at a round's head is said as a function of a state; behind a round, rows may be renamed, and rows that the round made are dropped.
-/
import Derived.Test.YtbphkpojhinbiaaVF
namespace Go.Proofs.Ytbphkpojhinbiaa
open Go Go.RowKit
set_option linter.unusedVariables false
set_option linter.unusedSimpArgs false

section
variable {E : Env} {P : Program} {nt : Nat} {X : Ctx} {f f' : Fr} {H H' : Hp} {a : Act} {w : World} {blk : Nat → Nat} {FP : Nat → List Nat}

/-- What is so described among the rows H' may be so described among the rows H, whose row j is row r j there. -/
def RC (H H' : Hp) (r : Nat → Nat) (v v' : AV) : Prop :=
  ∀ (w : World) (S S' : Nat → Prop) (blk : Nat → Nat) (u : Value) (fp : List Nat), (∀ b, S b → S' b) → Own w S blk H' v' u fp → Own w S' (fun j => blk (r j)) H v u fp

theorem rc_any {r : Nat → Nat} {v' : AV} (h : v'.isOw = false) : RC H H' r .any v' := fun w S S' blk u fp hS ho => by
  cases ho with
  | plain h => exact .plain (.any u)
  | ow0 => cases h
  | ow => cases h

/-- It speaks of no local row; it may be held alone. -/
def AV.idfO : AV → Prop
  | .ow sz n g => ∀ i j, i < n → j < sz → (g i j).idfO
  | x => x.idf

theorem rc_free {r : Nat → Nat} {v : AV} (hv : v.idfO) : RC H H' r v v := by
  intro w S S' blk u fp hS ho
  induction ho with
  | @plain x u h =>
    have hi : x.idf := by
      cases x with
      | ow => cases h
      | _ => exact hv
    exact .plain ((h.free hi).mono (fun b hb => ⟨hS b hb, rfl⟩) (HExt.refl _ _))
  | ow0 a => exact .ow0 a
  | ow b cap ty cur U F hb hcur hn hm h0 h1 hc hu hF ih =>
    exact .ow b cap ty cur U F hb hcur hn hm h0 h1 hc (fun i j hi hj => ih i j hi hj (hv i j hi hj)) hF

theorem rc_ptr {r : Nat → Nat} {id id' j off : Nat} (hid : id' = r id) (hr : ∀ x, H'[id']? = some (some x) → ∃ y, H[id]? = some (some y) ∧ y.sz = x.sz ∧ y.cap = x.cap) (hd : H'[id']? = some none → H[id]? = some none) : RC H H' r (.ptr id j off) (.ptr id' j off) := by
  intro w S S' blk u fp hS ho
  have h := ho.conc rfl
  have hfp : fp = [] := by cases ho; rfl
  subst hfp
  subst hid
  refine .plain ?_
  cases h with
  | ptr x hx hj ho =>
    obtain ⟨y, hy, h1, h2⟩ := hr x hx
    have := Conc.ptr (w := w) (S := S') (blk := fun j => blk (r j)) (j := j) (off := off) y hy (by omega) (by omega)
    rwa [h1] at this
  | ptrD hx => exact .ptrD (hd hx) _

theorem rc_row {r : Nat → Nat} {id id' n : Nat} (hid : id' = r id) (hr : ∀ x, H'[id']? = some (some x) → ∃ y, H[id]? = some (some y) ∧ y.sz = x.sz ∧ y.cap = x.cap) (hd : H'[id']? = some none → H[id]? = some none) : RC H H' r (.row id n) (.row id' n) := by
  intro w S S' blk u fp hS ho
  have h := ho.conc rfl
  have hfp : fp = [] := by cases ho; rfl
  subst hfp
  subst hid
  refine .plain ?_
  cases h with
  | row x hx hn h0 hm =>
    obtain ⟨y, hy, h1, h2⟩ := hr x hx
    have := Conc.row (w := w) (S := S') (blk := fun j => blk (r j)) (n := n) y hy (by omega) (by omega) (by omega)
    rwa [h2] at this
  | row0 x hx h0 a =>
    obtain ⟨y, hy, h1, h2⟩ := hr x hx
    exact .row0 y hy (by omega) a
  | rowD hx => exact .rowD (hd hx) _

/-- The same, of values that stand in slots. -/
def RCc (H H' : Hp) (r : Nat → Nat) (v v' : AV) : Prop :=
  ∀ (w : World) (S S' : Nat → Prop) (blk : Nat → Nat) (u : Value), (∀ b, S b → S' b) → Conc w S blk H' v' u → Conc w S' (fun j => blk (r j)) H v u

/-- Rows renamed, rows dropped. -/
theorem StB.ren {r : Nat → Nat} (s : StB nt X f' H' blk FP a w)
    (hrow : ∀ (j : Nat) (x : Row), H[j]? = some (some x) → ∃ y, H'[r j]? = some (some y) ∧ y.sz = x.sz ∧ y.cap = x.cap ∧ ∀ i k, i < x.cap → k < x.sz → RC H H' r (x.es i k) (y.es i k))
    (hinj : ∀ (i j : Nat) (x y : Row), H[i]? = some (some x) → H[j]? = some (some y) → r i = r j → i = j)
    (hfr : ∀ t, RCc H H' r (lk f t) (lk f' t)) : StB nt X f H (fun j => blk (r j)) (fun j => FP (r j)) a w := by
  have hS : ∀ b, X.S FP H' w.heap.size b → X.S (fun j => FP (r j)) H w.heap.size b := fun b hb => ⟨hb.1, hb.2.1, fun id x hx => by
    obtain ⟨y, hy, _⟩ := hrow id x hx
    exact hb.2.2 _ y hy⟩
  refine ⟨s.defers, s.size, s.keeps, fun id x hx => ?_, fun i j x y hi hj hne => ?_, fun t => ?_⟩
  · obtain ⟨y, hy, h1, h2, h3⟩ := hrow id x hx
    obtain ⟨q1, q2⟩ := s.rows _ y hy
    refine ⟨?_, q2⟩
    rcases q1 with q1 | ⟨h0, hb, ty, cur, F, e1, e2, e3, e4, e5⟩
    · exact .inl ⟨h2 ▸ q1.1, q1.2⟩
    · rw [h1, h2] at e2
      refine .inr ⟨by omega, hb, ty, cur, F, e1, e2, fun i k hi hk => ?_, fun i k hi hk => e4 i k (by omega) (by omega), fun i k i' k' a1 a2 a3 a4 => e5 i k i' k' (by omega) (by omega) (by omega) (by omega)⟩
      obtain ⟨u, hu, ho, hc⟩ := e3 i k (by omega) (by omega)
      rw [h1] at hu
      exact ⟨u, hu, ho, h3 i k hi hk w _ _ blk u _ hS hc⟩
  · obtain ⟨x', hx', _⟩ := hrow i x hi
    obtain ⟨y', hy', _⟩ := hrow j y hj
    exact s.apart _ _ x' y' hx' hy' fun e => hne (hinj i j x y hi hj e)
  · exact hfr t w _ _ blk _ hS (s.fr t)

/-! ### Reckoned -/

def rhoF (l : List Nat) (j : Nat) : Nat := match l[j]? with | some k => k | none => j

/-- The dimensions of row id agree. -/
def dimP (H H' : Hp) (r : List Nat) (id : Nat) : Prop :=
  match H[id]?, H'[rhoF r id]? with
  | some (some x), some (some y) => y.sz = x.sz ∧ y.cap = x.cap
  | some none, some none => True
  | _, _ => False

/-- v' may be taken for v. -/
def rcP1 (H H' : Hp) (r : List Nat) (v v' : AV) : Prop :=
  match v, v' with
  | .any, .ow .. => False
  | .any, _ => True
  | .i k n, .i k' n' => k' = k ∧ n' = n
  | .b x, .b y => y = x
  | .b x, .kb y => y = x
  | .kb x, .kb y => y = x
  | .s x, .s y => y = x
  | .nils, .nils => True
  | .nilp, .nilp => True
  | .sl sz n g, .nils => n = 0
  | .sl sz n g, .sl sz' n' g' => sz' = sz ∧ n' = n ∧ ∀ i j, i < n → j < sz → g' i j = g i j
  | .rf m g, .rf m' g' => m' = m ∧ ∀ j, j < m → g' j = g j
  | .ow sz n g, .ow sz' n' g' => sz' = sz ∧ n' = n ∧ ∀ i j, i < n → j < sz → g' i j = g i j ∧ (g i j).idfO
  | .ptr id j off, .ptr id' j' off' => id' = rhoF r id ∧ j' = j ∧ off' = off ∧ dimP H H' r id
  | .row id n, .row id' n' => id' = rhoF r id ∧ n' = n ∧ dimP H H' r id
  | .fn g [], .fn g' [] => g' = g
  | _, _ => False
def rcPL (H H' : Hp) (r : List Nat) : List AV → List AV → Prop
  | [], [] => True
  | [v], [v'] => rcP1 H H' r v v'
  | v :: vs, v' :: vs' => rcP1 H H' r v v' ∧ rcPL H H' r vs vs'
  | _, _ => False
def rcP (H H' : Hp) (r : List Nat) (v v' : AV) : Prop :=
  match v, v' with
  | .agg cs, .agg cs' => rcPL H H' r cs cs'
  | .fn g cs, .fn g' cs' => g' = g ∧ rcPL H H' r cs cs'
  | .ow .., _ => False
  | v, v' => rcP1 H H' r v v'

theorem dimP_ok {r : List Nat} {id : Nat} (h : dimP H H' r id) : (∀ x, H'[rhoF r id]? = some (some x) → ∃ y, H[id]? = some (some y) ∧ y.sz = x.sz ∧ y.cap = x.cap) ∧ (H'[rhoF r id]? = some none → H[id]? = some none) := by
  unfold dimP at h
  split at h
  · rename_i x y hx hy
    rw [hy]
    exact ⟨(fun z hz => by cases hz; exact ⟨x, hx, h.1.symm, h.2.symm⟩), (fun e => by cases e)⟩
  · rename_i hx hy
    rw [hy]
    exact ⟨(fun z hz => by cases hz), fun _ => hx⟩
  · cases h

theorem rcP1_ok {r : List Nat} {v v' : AV} (h : rcP1 H H' r v v') : RC H H' (rhoF r) v v' := by
  unfold rcP1 at h
  split at h
  · cases h
  · rename_i hne
    refine rc_any ?_
    cases v' with
    | ow sz n g => exact absurd rfl (hne sz n g)
    | _ => rfl
  · obtain ⟨h1, h2⟩ := h; subst h1; subst h2; exact rc_free trivial
  · cases h; exact rc_free trivial
  · cases h
    intro w S S' blk u fp hS ho
    have hfp : fp = [] := by cases ho; rfl
    subst hfp
    rw [inv_kb (ho.conc rfl)]
    exact .plain (.b _)
  · cases h; exact rc_free trivial
  · cases h; exact rc_free trivial
  · exact rc_free trivial
  · exact rc_free trivial
  · subst h
    intro w S S' blk u fp hS ho
    have hfp : fp = [] := by cases ho; rfl
    subst hfp
    rw [inv_nils (ho.conc rfl)]
    exact .plain (.sl0 _ 0 (Nat.zero_le _))
  · obtain ⟨rfl, rfl, h⟩ := h
    intro w S S' blk u fp hS ho
    have hfp : fp = [] := by cases ho; rfl
    subst hfp
    have hc := ho.conc rfl
    refine .plain ?_
    cases hc with
    | sl0 a cap hm => exact .sl0 a cap hm
    | sl b o cap U hb hn hm hc hf hu =>
      refine .sl b o cap U (hS b hb) hn hm hc (fun i j hi hj => h i j hi hj ▸ hf i j hi hj) (fun i j hi hj => ?_)
      rw [← h i j hi hj]
      exact ((hu i j hi hj).free (hf i j hi hj)).mono (fun b hb => ⟨hS b hb, rfl⟩) (HExt.refl _ _)
  · obtain ⟨rfl, h⟩ := h
    intro w S S' blk u fp hS ho
    have hfp : fp = [] := by cases ho; rfl
    subst hfp
    obtain ⟨b, o, U, rfl, hb, hc, hu, hf⟩ := inv_rf (ho.conc rfl)
    refine .plain (.rf b o U (hS b hb) hc (fun j hj => h j hj ▸ hf j hj) (fun j hj => ?_))
    rw [← h j hj]
    exact ((hu j hj).free (hf j hj)).mono (fun b hb => ⟨hS b hb, rfl⟩) (HExt.refl _ _)
  · obtain ⟨rfl, rfl, h⟩ := h
    intro w S S' blk u fp hS ho
    cases ho with
    | plain h => cases h
    | ow0 a => exact .ow0 a
    | ow b cap ty cur U F hb hcur hn hm h0 h1 hc hu hF =>
      refine .ow b cap ty cur U F hb hcur hn hm h0 h1 hc (fun i j hi hj => ?_) hF
      obtain ⟨e, hi'⟩ := h i j hi hj
      exact rc_free hi' w S S' blk _ _ hS (e ▸ hu i j hi hj)
  · obtain ⟨rfl, rfl, rfl, h⟩ := h
    exact rc_ptr rfl (dimP_ok h).1 (dimP_ok h).2
  · obtain ⟨rfl, rfl, h⟩ := h
    exact rc_row rfl (dimP_ok h).1 (dimP_ok h).2
  · cases h; exact rc_free rfl
  · cases h

theorem rcPL_ok {r : List Nat} : ∀ {cs cs' : List AV}, rcPL H H' r cs cs' → cs.length = cs'.length ∧ ∀ (j : Nat) (c c' : AV), cs[j]? = some c → cs'[j]? = some c' → rcP1 H H' r c c'
  | [], [], _ => ⟨rfl, fun j c c' hj => by simp at hj⟩
  | [v], [v'], h => ⟨rfl, fun j c c' hj hj' => by
    cases j with
    | zero => cases hj; cases hj'; exact h
    | succ j => simp at hj⟩
  | v :: v2 :: vs, v' :: v2' :: vs', h => by
    obtain ⟨h1, h2⟩ := h
    obtain ⟨h3, h4⟩ := rcPL_ok h2
    refine ⟨by simp only [List.length_cons] at h3 ⊢; omega, fun j c c' hj hj' => ?_⟩
    cases j with
    | zero => cases hj; cases hj'; exact h1
    | succ j => exact h4 j c c' (by simpa using hj) (by simpa using hj')
  | [], _ :: _, h => by cases h
  | [_], [], h => by cases h
  | [_], _ :: _ :: _, h => (show False from h.2).elim
  | _ :: _ :: _, [], h => by cases h
  | _ :: _ :: vs, [_], h => by
    have h2 := h.2
    cases vs <;> exact h2.elim

theorem rcP1_ow {r : List Nat} {v v' : AV} (h : rcP1 H H' r v v') (hv : v'.isOw = false) : v.isOw = false := by
  cases v with
  | ow sz n g => cases v' with
    | ow => cases hv
    | _ => exact h.elim
  | _ => rfl

theorem rcP1_c {r : List Nat} {v v' : AV} (h : rcP1 H H' r v v') : RCc H H' (rhoF r) v v' := fun w S S' blk u hS hc =>
  (rcP1_ok h w S S' blk u [] hS (.plain hc)).conc (rcP1_ow h (by cases hc <;> rfl))

theorem rcP_c {r : List Nat} {v v' : AV} (h : rcP H H' r v v') : RCc H H' (rhoF r) v v' := by
  have lst : ∀ {cs cs' : List AV}, rcPL H H' r cs cs' → ∀ (w : World) (S S' : Nat → Prop) (blk : Nat → Nat) (us : List Value), (∀ b, S b → S' b) → us.length = cs'.length → (∀ (j : Nat) (c : AV) (u : Value), cs'[j]? = some c → us[j]? = some u → Conc w S blk H' c u) →
      us.length = cs.length ∧ ∀ (j : Nat) (c : AV) (u : Value), cs[j]? = some c → us[j]? = some u → Conc w S' (fun j => blk (rhoF r j)) H c u := by
    intro cs cs' h w S S' blk us hS hul hu
    obtain ⟨h1, h2⟩ := rcPL_ok h
    refine ⟨hul.trans h1.symm, fun j c u hj hju => ?_⟩
    have hlt : j < cs'.length := by rw [← h1]; exact (List.getElem?_eq_some_iff.1 hj).1
    exact rcP1_c (h2 j c _ hj (List.getElem?_eq_getElem hlt)) w S S' blk u hS (hu j _ u (List.getElem?_eq_getElem hlt) hju)
  intro w S S' blk u hS hc
  unfold rcP at h
  split at h
  · obtain ⟨us, rfl, hul, hu⟩ := inv_agg hc
    obtain ⟨h1, h2⟩ := lst h w S S' blk us hS hul hu
    exact .agg _ us h1 h2
  · obtain ⟨rfl, h⟩ := h
    obtain ⟨us, rfl, hul, hu⟩ := inv_fn hc
    obtain ⟨h1, h2⟩ := lst h w S S' blk us hS hul hu
    exact .fn _ _ us h1 h2
  · cases h
  · exact rcP1_c h w S S' blk u hS hc

/-- The slots that a piece of code writes. -/
def asg : Code → List Nat
  | .region _ ops _ => ops.toList.filterMap (·.dst)
  | .seq a b => asg a ++ asg b
  | .cond _ a b => asg a ++ asg b
  | .block _ c => asg c
  | .loop c => asg c
  | _ => []
/-- The frame without some slots. -/
def delF (ds : List Nat) : Fr → Fr
  | [] => []
  | (t, v) :: r => bif inL ds t then delF ds r else (t, v) :: delF ds r
def delK (ds : List Nat) : Fr → (Fr → Prop) → Prop
  | [], K => K []
  | (t, v) :: r, K => bif inL ds t then delK ds r K else delK (t :: ds) r fun r' => K ((t, v) :: r')

/-- The frame says of its slots what the list says. -/
def agK (H H' : Hp) (r : List Nat) (f' : Fr) : Fr → Prop
  | [] => True
  | [(t, v)] => rcP H H' r v (lk f' t)
  | (t, v) :: rest => rcP H H' r v (lk f' t) ∧ agK H H' r f' rest

theorem agK_ok {r : List Nat} {f' : Fr} : ∀ {L : Fr}, agK H H' r f' L → ∀ p ∈ L, rcP H H' r p.2 (lk f' p.1)
  | [], _, p, hp => by cases hp
  | [(t, v)], h, p, hp => by
    rcases List.mem_cons.1 hp with rfl | hp
    · exact h
    · cases hp
  | (t, v) :: q :: rest, h, p, hp => by
    rcases List.mem_cons.1 hp with rfl | hp
    · exact h.1
    · exact agK_ok h.2 p hp

/-- A row, as it is said to be at a round's head. -/
inductive RowI where
  | box (cs : List AV)
  | arr (r : Row)
  | dead
def RowI.row : RowI → Option Row
  | .box cs => some (boxRow cs)
  | .arr r => some r
  | .dead => none
/-- The rows at a round's head: as before the loop, but where it is said otherwise. -/
def mkH : Hp → List (Option RowI) → Hp
  | H, [] => H
  | [], _ => []
  | r :: H, none :: l => r :: mkH H l
  | _ :: H, some i :: l => i.row :: mkH H l

/-- A row is as it is said to be. -/
def rowP (H H' : Hp) (r : List Nat) (x y : Row) : Prop := y.sz = x.sz ∧ y.cap = x.cap ∧ ∀ i k, i < x.cap → k < x.sz → rcP1 H H' r (x.es i k) (y.es i k)
/-- Rows of one element, cell by cell. -/
def boxP (H H' : Hp) (r : List Nat) (x y : Row) : Prop := x.cap = 1 ∧ y.sz = x.sz ∧ y.cap = 1 ∧ rcPL H H' r (cellsAt (x.es 0) 0 x.sz) (cellsAt (y.es 0) 0 x.sz)
theorem boxP_ok {r : List Nat} {x y : Row} (h : boxP H H' r x y) : rowP H H' r x y := by
  obtain ⟨h1, h2, h3, h4⟩ := h
  refine ⟨h2, h3.trans h1.symm, fun i k hi hk => ?_⟩
  obtain rfl : i = 0 := by omega
  obtain ⟨_, h5⟩ := rcPL_ok h4
  have l1 : k < (cellsAt (x.es 0) 0 x.sz).length := by rw [cellsAt_length]; exact hk
  have l2 : k < (cellsAt (y.es 0) 0 x.sz).length := by rw [cellsAt_length]; exact hk
  have := h5 k _ _ (List.getElem?_eq_getElem l1) (List.getElem?_eq_getElem l2)
  obtain ⟨_, e1⟩ := cellsAt_get (x.es 0) x.sz 0 k _ (List.getElem?_eq_getElem l1)
  obtain ⟨_, e2⟩ := cellsAt_get (y.es 0) x.sz 0 k _ (List.getElem?_eq_getElem l2)
  rw [e1, e2, Nat.zero_add] at this
  exact this

/-- All rows are as they are said to be. -/
def hpP (H H' : Hp) (r : List Nat) : Nat → Hp → Prop
  | _, [] => True
  | j, none :: rest => hpP H H' r (j + 1) rest
  | j, some x :: rest => (match H'[rhoF r j]? with
    | some (some y) => boxP H H' r x y ∨ rowP H H' r x y
    | _ => False) ∧ hpP H H' r (j + 1) rest
theorem hpP_ok {r : List Nat} : ∀ {L : Hp} {k j : Nat} {x : Row}, hpP H H' r k L → L[j]? = some (some x) → ∃ y, H'[rhoF r (k + j)]? = some (some y) ∧ rowP H H' r x y
  | [], k, j, x, _, h => by simp at h
  | none :: L, k, j, x, h, hj => by
    cases j with
    | zero => simp at hj
    | succ j =>
      have := hpP_ok (k := k + 1) (j := j) (x := x) h (by simpa using hj)
      rwa [show k + 1 + j = k + (j + 1) by omega] at this
  | some z :: L, k, j, x, h, hj => by
    obtain ⟨h1, h2⟩ := h
    cases j with
    | zero =>
      cases hj
      split at h1
      · rename_i y hy
        exact ⟨y, hy, h1.elim boxP_ok id⟩
      · cases h1
    | succ j =>
      have := hpP_ok (j := j) (x := x) h2 (by simpa using hj)
      rwa [show k + 1 + j = k + (j + 1) by omega] at this

def nodupB : List Nat → Bool
  | [] => true
  | x :: r => !inL r x && nodupB r
theorem nodupB_ok : ∀ {l : List Nat}, nodupB l = true → l.Nodup
  | [], _ => List.nodup_nil
  | x :: r, h => by
    unfold nodupB at h
    rw [Bool.and_eq_true, inL_eq] at h
    exact List.nodup_cons.2 ⟨by simpa using h.1, nodupB_ok h.2⟩
/-- A renaming that tells rows apart. -/
def rhoOk (r : List Nat) (n : Nat) : Bool := nodupB r && (r.length == n || r.isEmpty)

theorem rho_inj {r : List Nat} {n i j : Nat} (h : rhoOk r n = true) (hi : i < n) (hj : j < n) (e : rhoF r i = rhoF r j) : i = j := by
  unfold rhoOk at h
  rw [Bool.and_eq_true, Bool.or_eq_true] at h
  obtain ⟨h1, h2⟩ := h
  have hn := nodupB_ok h1
  rcases h2 with h2 | h2
  · have hl : r.length = n := by simpa using h2
    unfold rhoF at e
    have hi' : i < r.length := by omega
    have hj' : j < r.length := by omega
    rw [List.getElem?_eq_getElem hi', List.getElem?_eq_getElem hj'] at e
    have hp := List.pairwise_iff_getElem.1 hn
    rcases Nat.lt_trichotomy i j with h | h | h
    · exact absurd e (hp i j hi' hj' h)
    · exact h
    · exact absurd e.symm (hp j i hj' hi' h)
  · have : r = [] := by simpa using h2
    subst this
    simpa [rhoF] using e

/-- What a round must leave. -/
def RoundEnd {α : Type} (f0 : Fr) (H0 : Hp) (vs : α → Fr) (hp : α → List (Option RowI)) (I : α → Prop) (μ : α → Nat) (x : α) (f' : Fr) (H' : Hp) : Prop :=
  ∃ (x' : α) (r : List Nat), I x' ∧ μ x' < μ x ∧ agK (mkH H0 (hp x')) H' r f' (vs x') ∧ agK (mkH H0 (hp x')) H' r f' f0 ∧ rhoOk r H0.length = true ∧ hpP (mkH H0 (hp x')) H' r 0 (mkH H0 (hp x'))

theorem mkH_length : ∀ (H : Hp) (l : List (Option RowI)), (mkH H l).length = H.length
  | H, [] => by cases H <;> rfl
  | [], _ :: _ => rfl
  | r :: H, none :: l => by show (mkH H l).length + 1 = _; rw [mkH_length H l]; rfl
  | _ :: H, some i :: l => by show (mkH H l).length + 1 = _; rw [mkH_length H l]; rfl

theorem lk_append (L f : Fr) (t : Nat) : lk (L ++ f) t = if t ∈ L.map (·.1) then lk L t else lk f t := by
  induction L with
  | nil => simp
  | cons p L ih =>
    obtain ⟨d, v⟩ := p
    rw [List.cons_append, lk_cons, ih, lk_cons]
    by_cases e : d = t
    · simp [e]
    · have e' : ¬ t = d := fun h => e h.symm
      rw [if_neg e, if_neg e]
      simp only [List.map_cons, List.mem_cons, e', false_or]

theorem lk_mem {L : Fr} {t : Nat} (h : t ∈ L.map (·.1)) : ∃ p ∈ L, p.1 = t ∧ lk L t = p.2 := by
  induction L with
  | nil => simp at h
  | cons p L ih =>
    obtain ⟨d, v⟩ := p
    rw [lk_cons]
    by_cases e : d = t
    · exact ⟨(d, v), by simp, e, by rw [if_pos e]⟩
    · have e' : ¬ t = d := fun h => e h.symm
      obtain ⟨p, hp, h1, h2⟩ := ih (by simpa [e'] using h)
      exact ⟨p, by simp [hp], h1, by rw [if_neg e]; exact h2⟩
theorem lk_not {L : Fr} {t : Nat} (h : t ∉ L.map (·.1)) : lk L t = .any := by
  induction L with
  | nil => rfl
  | cons p L ih =>
    obtain ⟨d, v⟩ := p
    simp at h
    rw [lk_cons, if_neg (fun e => h.1 e.symm)]
    exact ih (by simpa using h.2)

theorem St.agree {r : List Nat} {L : Fr} (s : St nt X f' H' a w) (hr : rhoOk r H.length = true) (hL : agK H H' r f' L) (hH : hpP H H' r 0 H) : St nt X L H a w := by
  obtain ⟨blk, FP, s⟩ := s
  refine ⟨_, _, s.ren (r := rhoF r) (fun j x hx => ?_) (fun i j x y hi hj e => rho_inj hr (List.getElem?_eq_some_iff.1 hi).1 (List.getElem?_eq_some_iff.1 hj).1 e) (fun t => ?_)⟩
  · obtain ⟨y, hy, h1, h2, h3⟩ := hpP_ok hH hx
    rw [Nat.zero_add] at hy
    exact ⟨y, hy, h1, h2, fun i k hi hk => rcP1_ok (h3 i k hi hk)⟩
  · by_cases ht : t ∈ L.map (·.1)
    · obtain ⟨p, hp, h1, h2⟩ := lk_mem ht
      rw [h2, ← h1]
      exact rcP_c (agK_ok hL p hp)
    · rw [lk_not ht]
      exact fun w S S' blk u hS hc => .any u


theorem agK_append {r : List Nat} {f' : Fr} {L M : Fr} (h1 : ∀ p ∈ L, rcP H H' r p.2 (lk f' p.1)) (h2 : ∀ p ∈ M, rcP H H' r p.2 (lk f' p.1)) : ∀ p ∈ L ++ M, rcP H H' r p.2 (lk f' p.1) := fun p hp => (List.mem_append.1 hp).elim (h1 p) (h2 p)

theorem agK_of {r : List Nat} {f' : Fr} : ∀ {L : Fr}, (∀ p ∈ L, rcP H H' r p.2 (lk f' p.1)) → agK H H' r f' L
  | [], _ => trivial
  | [(t, v)], h => h (t, v) (by simp)
  | (t, v) :: q :: rest, h => ⟨h (t, v) (by simp), agK_of fun p hp => h p (by simp [hp])⟩

theorem delK_eq : ∀ (f : Fr) (ds : List Nat) (K : Fr → Prop), delK ds f K → ∃ f0, K f0 ∧ ∀ p ∈ f0, lk f p.1 = p.2 ∧ inL ds p.1 = false
  | [], ds, K, h => ⟨[], h, by simp⟩
  | (t, v) :: r, ds, K, h => by
    unfold delK at h
    cases hb : inL ds t with
    | true =>
      rw [hb, cond_true] at h
      obtain ⟨f0, hk, h0⟩ := delK_eq r ds K h
      refine ⟨f0, hk, fun p hp => ?_⟩
      obtain ⟨h1, h2⟩ := h0 p hp
      refine ⟨?_, h2⟩
      rw [lk_cons, if_neg]
      · exact h1
      · rintro rfl
        rw [hb] at h2
        cases h2
    | false =>
      rw [hb, cond_false] at h
      obtain ⟨f0, hk, h0⟩ := delK_eq r (t :: ds) _ h
      refine ⟨(t, v) :: f0, hk, fun p hp => ?_⟩
      rcases List.mem_cons.1 hp with rfl | hp
      · exact ⟨by rw [lk_cons, if_pos rfl], hb⟩
      · obtain ⟨h1, h2⟩ := h0 p hp
        have hne : ¬ t = p.1 := by
          intro e
          change (bif Nat.beq t p.1 then true else inL ds p.1) = false at h2
          rw [e, Nat.beq_refl] at h2
          cases h2
        refine ⟨by rw [lk_cons, if_neg hne]; exact h1, ?_⟩
        change (bif Nat.beq t p.1 then true else inL ds p.1) = false at h2
        cases ht : Nat.beq t p.1 with
        | true => rw [ht] at h2; cases h2
        | false => rw [ht] at h2; exact h2

/-- THE LOOP. -/
theorem loopF {α : Type} {c : Code} {Q : Exit → Fr → Hp → Prop} (vs : α → Fr) (hp : α → List (Option RowI)) (I : α → Prop) (μ : α → Nat) (x0 : α)
    (h : I x0 ∧ agK (mkH H (hp x0)) H [] f (vs x0) ∧ hpP (mkH H (hp x0)) H [] 0 (mkH H (hp x0)) ∧
      delK (asg c) f fun f0 => agK (mkH H (hp x0)) H [] f f0 ∧ ∀ x, I x → wpc E nt X c (vs x ++ f0) (mkH H (hp x)) (thn (RoundEnd f0 H vs hp I μ x) Q)) :
    PW E.P nt X (.loop c) f H Q := by
  obtain ⟨h0, h1, h2, h3⟩ := h
  obtain ⟨f0, ⟨h4, h5⟩, h6⟩ := delK_eq _ _ _ h3
  intro a w s
  have hr0 : rhoOk [] (mkH H (hp x0)).length = true := by simp [rhoOk, nodupB]
  have s0 : St nt X (vs x0 ++ f0) (mkH H (hp x0)) a w := s.agree hr0 (agK_of (agK_append (agK_ok h1) (agK_ok h4))) h2
  refine pw_loop (fun m f' H' => ∃ x, m = μ x ∧ I x ∧ f' = vs x ++ f0 ∧ H' = mkH H (hp x)) (μ x0) ⟨x0, rfl, h0, rfl, rfl⟩ ?_ a w s0
  rintro m f' H' ⟨x, rfl, hi, rfl, rfl⟩
  intro a w s
  refine wp_mono (wpc_ok c _ _ _ (h5 x hi) a w s) fun e a w l => ?_
  obtain ⟨f', H', q, s'⟩ := l
  cases e with
  | normal =>
    obtain ⟨x', r, hi', hlt, ha, hb, hr, hH⟩ := q
    refine ⟨_, _, ⟨μ x', hlt, x', rfl, hi', rfl, rfl⟩, s'.agree (r := r) (by rw [mkH_length]; exact hr) (agK_of (agK_append (agK_ok ha) (agK_ok hb))) hH⟩
  | exit id => exact ⟨f', H', q, s'⟩
  | goto l => exact ⟨f', H', q, s'⟩
  | ret => exact ⟨f', H', q, s'⟩
  | panic ch => exact ⟨f', H', q, s'⟩
  | outgrown => exact ⟨f', H', q, s'⟩

end
end Go.Proofs.Ytbphkpojhinbiaa
