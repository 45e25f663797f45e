/-
  The law FnVersions: its walk.
-/
import Derived.Test.YtcmnohbbjkdpdaaDoorVVrT
namespace Go.Proofs.YtcmnohbbjkdpdaaDoor
open Go Go.RowKit
set_option linter.unusedVariables false
set_option linter.unusedSimpArgs false
attribute [local irreducible] IntKind.wrap rgS

theorem num_all : ∀ s ∈ oddL ++ someL, decide (0 ≤ numS s) = (vnum s).isSome := by decide +kernel
def hB (y : Nat) : Nat := if 1000000 ≤ y then y / 1000000 * 1000000 + 1000000 else y / 1000 * 1000 + 1000
theorem hB_c (y : Nat) : (1000000 ≤ y ∧ hB y = y / 1000000 * 1000000 + 1000000) ∨ (y < 1000000 ∧ hB y = y / 1000 * 1000 + 1000) := by
  unfold hB
  by_cases q : 1000000 ≤ y
  · exact .inl ⟨q, if_pos q⟩
  · exact .inr ⟨Nat.lt_of_not_le q, if_neg q⟩
/-- What is parsed of the three signs before a version. -/
def rngB (b : ByteArray) : Bool := match vnum b with
  | none => true
  | some y => decide (rangeN (opTl ++ b) = some ⟨y, (y / 1000 * 1000 + 1000 : Nat)⟩) && (decide (rangeN (opHat ++ b) = some ⟨y, (hB y : Nat)⟩) && decide (rangeN (opGt ++ b) = some ⟨y, 1000000000⟩))
theorem rng_all : ∀ b ∈ oddL ++ someL, rngB b = true := by decide +kernel
attribute [local irreducible] numS
theorem vspec {s : ByteArray} (hs : s ∈ oddL ++ someL) : Ret env.P 7 [.s s] (fun x => x = .b (vnum s).isSome) := by
  have h := versionOk_spec s (by have := any_size s hs; omega)
  rw [num_all s hs] at h
  exact h
theorem shr_lit3 {k : Nat} {H : Hp} {a b c : ByteArray} : Wk (.sl 1 3 fun i j => shrC k H (litE [[AV.s a], [AV.s b], [AV.s c]] i j)) (slL 1 strC [a, b, c]) := by
  refine Wk.sl fun i j hi hj => ?_
  obtain rfl : j = 0 := Nat.lt_one_iff.1 hj
  rcases (show i = 0 ∨ i = 1 ∨ i = 2 by omega) with rfl | rfl | rfl <;> (cases k <;> exact .refl _)
theorem srvN_some {a b : ByteArray} {x y : Nat} (ha : vnum a = some x) (hb : vnum b = some y) : srvN a b = srv x y := by
  unfold srvN
  rw [ha, hb]
  rfl
theorem inR_some {a : ByteArray} {x : Nat} {r : Rng} (ha : vnum a = some x) : inR a r = (rangeOk r && decide (r.low ≤ x ∧ x ≤ r.below - 1)) := by
  unfold inR
  rw [ha]
def rT (y : Nat) : Rng := ⟨y, (y / 1000 * 1000 + 1000 : Nat)⟩
def rH (y : Nat) : Rng := ⟨y, (hB y : Nat)⟩
def rU (y : Nat) : Rng := ⟨y, 1000000000⟩
theorem ok3 {y : Nat} (h : y < 1000000000) : rangeOk (rT y) = true ∧ rangeOk (rH y) = true ∧ rangeOk (rU y) = true := by
  unfold rangeOk rT rH rU
  simp only [Bool.and_eq_true, decide_eq_true_eq]
  refine ⟨?_, ?_, ?_⟩
  · omega
  · rcases hB_c y with q | q <;> omega
  · omega
theorem f_srv (x : Nat) : srv x x = true := by
  unfold srv
  rw [decide_eq_true_eq]
  omega
theorem f_trans {x y z : Nat} (h1 : srv x y = true) (h2 : srv y z = true) : srv x z = true := by
  unfold srv at *
  rw [decide_eq_true_eq] at *
  omega
theorem rH_b (y : Nat) : rH y = ⟨y, (hB y : Nat)⟩ := rfl
theorem f_th {x y : Nat} (h : y < 1000000000) (h1 : decide ((rT y).low ≤ x ∧ (x : Int) ≤ (rT y).below - 1) = true) : decide ((rH y).low ≤ x ∧ (x : Int) ≤ (rH y).below - 1) = true := by
  rw [rH_b]
  unfold rT at *
  rw [decide_eq_true_eq] at *
  dsimp only at *
  rcases hB_c y with q | q <;> omega
theorem f_hu {x y : Nat} (hx : x < 1000000000) (h1 : decide ((rH y).low ≤ x ∧ (x : Int) ≤ (rH y).below - 1) = true) : decide ((rU y).low ≤ x ∧ (x : Int) ≤ (rU y).below - 1) = true := by
  rw [rH_b] at h1
  unfold rU at *
  rw [decide_eq_true_eq] at *
  dsimp only at *
  omega
theorem f_hs {x y : Nat} (hx : x < 1000000000) : decide ((rH y).low ≤ x ∧ (x : Int) ≤ (rH y).below - 1) = srv x y := by
  rw [rH_b]
  unfold srv
  dsimp only
  apply decide_eq_decide.2
  rcases hB_c y with q | q <;> omega
theorem f_cu {x y : Nat} (hx : x < 1000000000) : decide (0 ≤ cmpI x y) = decide ((rU y).low ≤ x ∧ (x : Int) ≤ (rU y).below - 1) := by
  unfold rU cmpI
  dsimp only
  apply decide_eq_decide.2
  split
  · omega
  · split <;> omega
theorem f_neg (x y : Int) : cmpI x y = -cmpI y x := by
  unfold cmpI
  repeat' split
  all_goals omega
theorem cmp_r (x y : Int) : -1 ≤ cmpI x y ∧ cmpI x y ≤ 1 := by
  unfold cmpI
  repeat' split
  all_goals omega
end Go.Proofs.YtcmnohbbjkdpdaaDoor
