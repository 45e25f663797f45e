/-
  A function's body cut in two: behind its first parts, what is said of the slots and of the rows is a function of a state.
-/
import Derived.Test.YtgjihfinbaopcaaVF
namespace Go.Proofs.Ytgjihfinbaopcaa
open Go Go.RowKit
set_option linter.unusedVariables false
set_option linter.unusedSimpArgs false

section
variable {E : Env} {P : Program} {nt : Nat} {X : Ctx} {f : Fr} {H H' : Hp} {a : Act} {w : World} {blk : Nat → BC} {FP : Nat → List Nat}

theorem StB.thin (hk : ∀ k : Nat, H'[k]? = H[k]? ∨ H'[k]? = some none) (s : StB nt X f H blk FP a w) : StB nt X f H' blk FP a w := by
  have hget : ∀ (k : Nat) (r : Row), H'[k]? = some (some r) → H[k]? = some (some r) := fun k r h => by
    rcases hk k with q | q
    · rw [← q]; exact h
    · rw [q] at h; cases h
  have hkeep : ∀ b, X.S FP H w.heap.size b → X.S FP H' w.heap.size b ∧ w.heap[b]? = w.heap[b]? := fun b hb => ⟨⟨hb.1, hb.2.1, fun k r h => hb.2.2 k r (hget k r h)⟩, rfl⟩
  have hext : HExt H blk H' blk := fun k x hx => by
    rcases hk k with q | q
    · cases x with
      | none => exact .inl (q.trans hx)
      | some r => exact .inr ⟨r, r, rfl, q.trans hx, rfl, rfl, rfl⟩
    · exact .inl q
  exact ⟨s.defers, s.size, s.keeps, fun k r h => ⟨(s.rows k r (hget k r h)).1.mono hkeep hext fun _ _ => rfl, (s.rows k r (hget k r h)).2⟩, fun i j r r' hi hj => s.apart i j r r' (hget i r hi) (hget j r' hj), fun t => (s.fr t).mono hkeep hext, s.ext.trans hext⟩

/-- Of these slots that is said. -/
def frP (f : Fr) : Fr → Prop
  | [] => True
  | (t, v) :: g => lk f t = v ∧ frP f g
theorem frP_lk : ∀ {g : Fr}, frP f g → ∀ t, lk g t = .any ∨ lk g t = lk f t
  | [], _, t => .inl rfl
  | (d, v) :: g, h, t => by
    rw [lk_cons]
    split
    · rename_i e; subst e; exact .inr h.1.symm
    · exact frP_lk h.2 t
/-- The same rows; some are no longer spoken of. -/
def hpK : Hp → Hp → Prop
  | [], [] => True
  | x :: H, y :: H' => (y = x ∨ y = none) ∧ hpK H H'
  | [], y :: H' => y = none ∧ hpK [] H'
  | _ :: _, [] => False
theorem hpK_at : ∀ {H H' : Hp}, hpK H H' → ∀ k : Nat, H'[k]? = H[k]? ∨ H'[k]? = some none
  | [], [], _, k => .inl rfl
  | x :: H, y :: H', h, 0 => by
    rcases h.1 with rfl | rfl
    · exact .inl rfl
    · exact .inr rfl
  | x :: H, y :: H', h, k + 1 => by simpa using hpK_at h.2 k
  | [], y :: H', h, 0 => by obtain ⟨rfl, _⟩ := h; exact .inr rfl
  | [], y :: H', h, k + 1 => by simpa using hpK_at h.2 k
  | _ :: _, [], h, _ => h.elim

/-- What is to be shown at a cut. -/
structure Cut (nt : Nat) (X : Ctx) {α : Type} (I : α → Prop) (g : α → Fr) (hp : α → Hp) (f : Fr) (H : Hp) : Prop where
  h : ∃ y, I y ∧ ∀ a w, St nt X f H a w → St nt X (g y) (hp y) a w
theorem cut_go {α : Type} {I : α → Prop} {g : α → Fr} {hp : α → Hp} (y : α) (hI : I y) (hg : frP f (g y)) (hH : hpK H (hp y)) : Cut nt X I g hp f H :=
  ⟨y, hI, fun a w ⟨blk, FP, s⟩ => ⟨blk, FP, (s.refr (g := g y) fun t hc => by
    rcases frP_lk hg t with q | q
    · rw [q]; exact .any _
    · rw [q]; exact hc).thin (hpK_at hH)⟩⟩
theorem cut_turn {α : Type} {I : α → Prop} {g : α → Fr} {hp : α → Hp} (t : Turn X H H') (h : Cut nt X I g hp f H') : Cut nt X I g hp f H := by
  obtain ⟨y, hI, hs⟩ := h
  exact ⟨y, hI, fun a w s => hs a w (s.turn t)⟩
/-- The first parts of a sequence, reckoned; then J. -/
def wpcN (E : Env) (nt : Nat) (X : Ctx) : Nat → Code → Fr → Hp → (Fr → Hp → Prop) → (Exit → Fr → Hp → Prop) → Prop
  | 0, _, f, H, J, _ => J f H
  | k + 1, .seq a b, f, H, J, Q => wpc E nt X a f H (thn (fun f H => wpcN E nt X k b f H J Q) Q)
  | _ + 1, _, _, _, _, _ => False
def restC : Nat → Code → Code
  | 0, c => c
  | k + 1, .seq _ b => restC k b
  | _ + 1, c => c
theorem wpcN_ok {J : Fr → Hp → Prop} {Q : Exit → Fr → Hp → Prop} : ∀ (k : Nat) (c : Code) (f : Fr) (H : Hp), wpcN E nt X k c f H J Q → (∀ f H, J f H → PW E.P nt X (restC k c) f H Q) → PW E.P nt X c f H Q
  | 0, c, f, H, h, hJ => hJ f H h
  | k + 1, c, f, H, h, hJ => by
    cases c with
    | seq a b =>
      refine pw_seq fun x w s => wp_mono (wpc_ok a f H _ h x w s) fun e x w ⟨f, H, q, s⟩ => ?_
      refine ⟨f, H, ?_, s⟩
      cases e with
      | normal => exact wpcN_ok k b f H q hJ
      | _ => exact q
    | _ => exact h.elim
/-- A body cut behind its first k parts. -/
theorem pw_cut {c : Code} {Q : Exit → Fr → Hp → Prop} {α : Type} (k : Nat) (I : α → Prop) (gf : α → Fr) (hp : α → Hp)
    (h : wpcN E nt X k c f H (Cut nt X I gf hp) Q) (h2 : ∀ y, I y → PW E.P nt X (restC k c) (gf y) (hp y) Q) : PW E.P nt X c f H Q :=
  wpcN_ok k c _ _ h fun f H ⟨⟨y, hI, hs⟩⟩ a w s => h2 y hI a w (hs a w s)
/-- A contract that writes, from what is shown of the body. -/
theorem ret_ofPM {g : FuncId} {fn : Func} {c : Code} {H0 : Hp} {al : List AV} {post : AV → Hp → Prop} {rvs : List ResultVar} (hf : E.P.funcs[g]? = some fn) (hb : fn.body = some c) (hnt : fn.ntmps = nt) (hrv : fn.results.toList = rvs) (hle : Nat.ble al.length nt = true)
    (h : ∀ X : Ctx, X.H0 = H0 → PW E.P nt X c (frm 0 al) H0 (FinM E X rvs post)) : RetM E.P g H0 al post :=
  ret_ofPT hf hb hnt hrv hle (fun _ => Turn.refl) h
end
end Go.Proofs.Ytgjihfinbaopcaa
