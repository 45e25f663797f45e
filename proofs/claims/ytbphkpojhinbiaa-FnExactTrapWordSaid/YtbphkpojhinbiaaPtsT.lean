/-
  The abstract layer: how a fact on a type's or a function's row of the table is had from a closed test.
-/
import Derived.Test.YtbphkpojhinbiaaPtsH
import Derived.KernelRfl
namespace Go.Proofs.Ytbphkpojhinbiaa
open Go Go.RowKit
set_option linter.unusedVariables false

section
variable {P : Program}
def aggD : TypeDesc → Bool
  | .struct _ | .array _ _ => true
  | _ => false
def tyOk (P : Program) (t sz : Nat) (agg : Bool) : Bool :=
  (match P.info? t with | some i => Nat.beq i.size sz | none => false) && (match P.underlying t with | some d => aggD d == agg | none => false)
theorem ty_of {t sz : Nat} {agg : Bool} (h : tyOk P t sz agg = true) : Ty P t sz agg := by
  unfold tyOk at h
  rw [Bool.and_eq_true] at h
  obtain ⟨h1, h2⟩ := h
  refine ⟨?_, ?_⟩
  · cases hi : P.info? t with
    | none => rw [hi] at h1; cases h1
    | some i => rw [hi] at h1; exact ⟨i, rfl, Nat.eq_of_beq_eq_true h1⟩
  · cases hd : P.underlying t with
    | none => rw [hd] at h2; cases h2
    | some d =>
      rw [hd] at h2
      refine ⟨d, rfl, ?_⟩
      have h2' : aggD d = agg := by simpa using h2
      rw [← h2']
      cases d <;> rfl

def slOk (P : Program) (t e : Nat) : Bool := match P.underlying t with | some (.slice e') => Nat.beq e' e | _ => false
theorem sl_of {t e : Nat} (h : slOk P t e = true) : SlT P t e := by
  unfold slOk at h
  split at h
  · rename_i e' he
    exact ⟨by rw [he, Nat.eq_of_beq_eq_true h]⟩
  · cases h

def fdOk (P : Program) (t i off : Nat) : Bool :=
  match P.underlying t with
  | some (.struct fs) => match fs[i]? with
    | some fl => Nat.beq fl.offset off && (match P.info? fl.type with | some inf => Nat.blt 0 inf.size | none => false)
    | none => false
  | _ => false
theorem fd_of {t i off : Nat} (h : fdOk P t i off = true) : FdT P t i off := by
  unfold fdOk at h
  split at h
  · rename_i fs hfs
    split at h
    · rename_i fl hfl
      rw [Bool.and_eq_true] at h
      obtain ⟨h1, h2⟩ := h
      split at h2
      · rename_i inf hinf
        exact ⟨fs, fl, inf, hfs, hfl, Nat.eq_of_beq_eq_true h1, hinf, by have := Nat.le_of_ble_eq_true h2; omega⟩
      · cases h2
    · cases h
  · cases h

theorem zr_of {t : Nat} {z : Value} {zs : List AV} (h : (P.info? t).bind (·.zero) = some z) (hz : z.cells.toList.map cv = zs) : ZrT P t zs := by
  obtain ⟨i, hi, hz'⟩ := Option.bind_eq_some_iff.1 h
  exact ⟨i, z, hi, hz', hz⟩

def byOk (P : Program) (t b : Nat) : Bool := match P.info? t with | some i => Nat.beq i.bytes b | none => false
theorem by_of {t b : Nat} (h : byOk P t b = true) : ByT P t b := by
  unfold byOk at h
  split at h
  · rename_i i hi
    exact ⟨i, hi, Nat.eq_of_beq_eq_true h⟩
  · cases h

def fnOk (P : Program) (g : Nat) : Bool := match P.funcs[g]? with | some fn => !(fn.name == "runtime.NumGoroutine") && fn.body.isSome | none => false
theorem fn_of {g : Nat} (h : fnOk P g = true) : Fn P g := by
  unfold fnOk at h
  split at h
  · rename_i fn hfn
    rw [Bool.and_eq_true] at h
    obtain ⟨h1, h2⟩ := h
    refine ⟨fun args w => ?_⟩
    have h3 : (fn.name == "runtime.NumGoroutine") = false := by simpa using h1
    have h4 : fn.body.isNone = false := by cases hb : fn.body <;> simp_all
    unfold callFunc
    rw [Sem.run_bind, run_program, Result.andThen_ok, hfn]
    simp only [h3, h4]
    rfl
  · cases h
end
end Go.Proofs.Ytbphkpojhinbiaa
