/-
  YardActOk: the reference and the program.
-/
import Derived.Test.YtbphkpojhinbiaaVPass
import Derived.Test.YtbphkpojhinbiaaVShelfAct
namespace Go.Proofs.Ytbphkpojhinbiaa
open Go Go.RowKit
set_option linter.unusedVariables false
set_option linter.unusedSimpArgs false

structure YardAct where
  kind : Int
  who : Int
  num : Int
  res : Int
  pass : List Pass
  deriving DecidableEq
def YardAct.cs (a : YardAct) : List AV := [.i .i64 a.kind, .i .i64 a.who, .i .i64 a.num, .i .i64 a.res, slL 3 Pass.cs a.pass]

set_option maxRecDepth 8000 in
theorem toYardAct_ok (a : YardAct) (hl : a.pass.length ≤ 1048576) : Ret env.P 16 [.agg a.cs] (fun r => r = .agg a.cs) := by
  refine ret_of (nt := 21) (rvs := [.cell 2 37]) Try.func16 rfl rfl rfl rfl (fun X => ?_)
  repeat' (first | omega | ((conv => whnf) <;> (first | refine And.intro ?_ ?_ | (intro _h; first | contradiction | (try simp only [decide_eq_true_eq, Bool.not_eq_true', Bool.not_eq_false', decide_eq_false_iff_not, Bool.not_eq_true, Decidable.not_not, Bool.true_eq_false, Bool.false_eq_true] at _h)) | exact rfl | exact True.intro | (refine dok ?_; kernel_rfl) | (refine doks ?_; kernel_rfl) | (refine ⟨_, toPassS_ok _ hl, ?_⟩; try rintro _ rfl) | (refine wrap_succ ?_; omega))))

set_option maxRecDepth 8000 in
theorem eqYardAct_ok (a b : YardAct) (hl : a.pass.length ≤ 1048576) : Ret env.P 18 [.agg a.cs, .agg b.cs] (fun r => r = .b (decide (a = b))) := by
  obtain ⟨a1, a2, a3, a4, a5⟩ := a
  obtain ⟨b1, b2, b3, b4, b5⟩ := b
  refine ret_of (nt := 31) (rvs := [.tmp 4]) Try.func18 rfl rfl rfl rfl (fun X => ?_)
  repeat' (first | omega | ((conv => whnf) <;> (first | refine And.intro ?_ ?_ | (intro _h; first | contradiction | (try simp only [decide_eq_true_eq, Bool.not_eq_true', Bool.not_eq_false', decide_eq_false_iff_not, Bool.not_eq_true, Decidable.not_not, Bool.true_eq_false, Bool.false_eq_true] at _h)) | exact rfl | exact True.intro | (refine dok ?_; kernel_rfl) | (refine doks ?_; kernel_rfl) | (refine ⟨_, eqPassS_ok _ _ hl, ?_⟩; try rintro _ rfl) | (refine wrap_succ ?_; omega))))
  all_goals (refine leaf_b ?_; simp_all)

set_option maxRecDepth 8000 in
theorem szYardAct_ok (a : YardAct) (left : Int) (h0 : 0 ≤ left) (h1 : left ≤ 1048576) : Ret env.P 14 [.agg a.cs, .i .i64 left] (fun r => r = .i .i64 (szN a.pass.length left)) := by
  obtain ⟨a1, a2, a3, a4, a5⟩ := a
  refine ret_of (nt := 12) (rvs := [.tmp 4]) Try.func14 rfl rfl rfl rfl (fun X => ?_)
  repeat' (first | omega | ((conv => whnf) <;> (first | refine And.intro ?_ ?_ | (intro _h; first | contradiction | (try simp only [decide_eq_true_eq, Bool.not_eq_true', Bool.not_eq_false', decide_eq_false_iff_not, Bool.not_eq_true, Decidable.not_not, Bool.true_eq_false, Bool.false_eq_true] at _h)) | exact rfl | exact True.intro | (refine dok ?_; kernel_rfl) | (refine doks ?_; kernel_rfl) | (refine ⟨_, szPassS_ok _ _ h0 h1, ?_⟩; try rintro _ rfl) | (refine wrap_succ ?_; omega))))
  all_goals (refine leaf_i ?_; unfold szN at *; split at _h <;> simp_all <;> omega)

/-- The first place at which p holds, or -1. -/
def ixf {α : Type} (p : α → Bool) (l : List α) : Int := if l.any p then (l.findIdx p : Int) else -1
theorem ixf_none {α : Type} [Inhabited α] {p : α → Bool} {l : List α} {k : Nat} (h : ∀ j, j < k → p (l.getD j default) = false) (hk : l.length ≤ k) : (-1 : Int) = ixf p l := by
  unfold ixf
  rw [if_neg]
  rw [List.any_eq_true]
  rintro ⟨x, hx, hp⟩
  obtain ⟨j, hj, rfl⟩ := List.getElem_of_mem hx
  have := h j (by omega)
  rw [List.getD_eq_getElem?_getD, List.getElem?_eq_getElem hj] at this
  rw [show p l[j] = false from this] at hp
  cases hp
theorem ixf_some {α : Type} [Inhabited α] {p : α → Bool} {l : List α} {k : Nat} (h : ∀ j, j < k → p (l.getD j default) = false) (hp : p (l.getD k default) = true) (hk : k < l.length) : ((k : Nat) : Int) = ixf p l := by
  unfold ixf
  have g : ∀ j (hj : j < l.length), l.getD j default = l[j] := fun j hj => by rw [List.getD_eq_getElem?_getD, List.getElem?_eq_getElem hj]; rfl
  rw [g k hk] at hp
  rw [if_pos (List.any_eq_true.2 ⟨_, List.getElem_mem hk, hp⟩)]
  have : l.findIdx p = k := by
    rw [List.findIdx_eq hk]
    exact ⟨hp, fun j hj => by rw [← g j (by omega)]; exact h j hj⟩
  rw [this]
theorem ixf_ge {α : Type} {p : α → Bool} {l : List α} : decide (0 ≤ ixf p l) = l.any p := by
  unfold ixf
  split
  · rename_i h; rw [h]; simp
  · rename_i h; simp [Bool.not_eq_true] at h ⊢; simp_all

set_option maxRecDepth 8000 in
theorem indexPass_ok (l : List Pass) (g : Nat) {fv} (hg : env.F.get g = some fv) (p : Pass → Bool) (hl : l.length ≤ 1048576) (hp : ∀ a : Pass, Ret env.P g [.agg a.cs] (fun r => r = .b (p a))) :
    Ret env.P 81 [slL 3 Pass.cs l, .fn g []] (fun r => r = .i .i64 (ixf p l)) := by
  refine ret_of (nt := 19) (rvs := [.tmp 4]) Try.func81 rfl rfl rfl rfl (fun X => ?_)
  repeat' (first | omega | ((conv => whnf) <;> (first | rw [hg] | exact upto_succ (by assumption) (by assumption) | refine loopN l.length (fun k => [(8, .i .i64 k)]) (fun k => []) (fun k => ∀ j, j < k → p (l.getD j default) = false) ⟨fun _ h => by omega, ?_⟩ | refine And.intro ?_ ?_ | (intro _h; first | contradiction | (try simp only [decide_eq_true_eq, Bool.not_eq_true', Bool.not_eq_false', decide_eq_false_iff_not, Bool.not_eq_true, Decidable.not_not, Bool.true_eq_false, Bool.false_eq_true] at _h)) | exact rfl | exact True.intro | (refine dok ?_; kernel_rfl) | (refine doks ?_; kernel_rfl) | (refine ⟨_, hp _, ?_⟩; try rintro _ rfl) | (refine wrap_succ ?_; omega))))
  all_goals first | exact leaf_i (ixf_some (by assumption) (by assumption) (by omega)) | exact leaf_i (ixf_none (by assumption) (by omega))

set_option maxRecDepth 8000 in
theorem containsPass_ok (l : List Pass) (g : Nat) {fv} (hg : env.F.get g = some fv) (p : Pass → Bool) (hl : l.length ≤ 1048576) (hp : ∀ a : Pass, Ret env.P g [.agg a.cs] (fun r => r = .b (p a))) :
    Ret env.P 67 [slL 3 Pass.cs l, .fn g []] (fun r => r = .b (l.any p)) := by
  refine ret_of (nt := 9) (rvs := [.tmp 4]) Try.func67 rfl rfl rfl rfl (fun X => ?_)
  repeat' (first | omega | ((conv => whnf) <;> (first | refine And.intro ?_ ?_ | (intro _h; first | contradiction | (try simp only [decide_eq_true_eq, Bool.not_eq_true', Bool.not_eq_false', decide_eq_false_iff_not, Bool.not_eq_true, Decidable.not_not, Bool.true_eq_false, Bool.false_eq_true] at _h)) | exact rfl | exact True.intro | (refine dok ?_; kernel_rfl) | (refine doks ?_; kernel_rfl) | (refine ⟨_, indexPass_ok _ _ hg p hl hp, ?_⟩; try rintro _ rfl) | (refine wrap_succ ?_; omega))))
  exact leaf_b ixf_ge

def Pass.bad (a : Pass) : Bool := !(decide (1 ≤ a.res ∧ a.res ≤ 8)) || !(decide (1 ≤ a.num ∧ a.num ≤ 1000000))

set_option maxRecDepth 8000 in
theorem passOk1_ok (a : Pass) : Ret env.P 68 [.agg a.cs] (fun r => r = .b a.bad) := by
  obtain ⟨a1, a2, a3⟩ := a
  refine ret_of (nt := 13) (rvs := [.tmp 2]) Try.func68 rfl rfl rfl rfl (fun X => ?_)
  repeat' (first | omega | ((conv => whnf) <;> (first | refine And.intro ?_ ?_ | (intro _h; first | contradiction | (try simp only [decide_eq_true_eq, Bool.not_eq_true', Bool.not_eq_false', decide_eq_false_iff_not, Bool.not_eq_true, Decidable.not_not, Bool.true_eq_false, Bool.false_eq_true] at _h)) | exact rfl | exact True.intro | (refine dok ?_; kernel_rfl) | (refine doks ?_; kernel_rfl) | (refine ⟨_, isRes_ok _, ?_⟩; try rintro _ rfl) | (refine ⟨_, isId_ok _, ?_⟩; try rintro _ rfl) | (refine wrap_succ ?_; omega))))
  all_goals (refine leaf_b ?_; simp_all [Pass.bad]; try omega)

def passOk (l : List Pass) : Bool := decide (l.length ≤ 12) && !l.any Pass.bad

set_option maxRecDepth 8000 in
theorem passOk_ok (l : List Pass) (hl : l.length ≤ 1048576) : Ret env.P 41 [slL 3 Pass.cs l] (fun r => r = .b (passOk l)) := by
  refine ret_of (nt := 11) (rvs := [.tmp 2]) Try.func41 rfl rfl rfl rfl (fun X => ?_)
  repeat' (first | omega | ((conv => whnf) <;> (first | refine And.intro ?_ ?_ | (intro _h; first | contradiction | (try simp only [decide_eq_true_eq, Bool.not_eq_true', Bool.not_eq_false', decide_eq_false_iff_not, Bool.not_eq_true, Decidable.not_not, Bool.true_eq_false, Bool.false_eq_true] at _h)) | exact rfl | exact True.intro | (refine dok ?_; kernel_rfl) | (refine doks ?_; kernel_rfl) | (refine ⟨_, containsPass_ok _ _ rfl Pass.bad hl passOk1_ok, ?_⟩; try rintro _ rfl) | (refine wrap_succ ?_; omega))))
  all_goals (refine leaf_b ?_; simp_all [passOk]; try (intros; omega))

theorem passOk_long {l : List Pass} (h : 12 < l.length) : false = passOk l := by
  unfold passOk
  rw [decide_eq_false (by omega)]; rfl
theorem passOk_bad {l : List Pass} {k : Nat} (hk : k < l.length) (h : Pass.bad (l.getD k default) = true) : false = passOk l := by
  unfold passOk
  have : l.any Pass.bad = true := List.any_eq_true.2 ⟨_, List.getElem_mem hk, by rw [List.getD_eq_getElem?_getD, List.getElem?_eq_getElem hk] at h; exact h⟩
  rw [this]; simp
theorem passOk_all {l : List Pass} {k : Nat} (h : ∀ j, j < k → Pass.bad (l.getD j default) = false) (hk : l.length ≤ k) (hl : l.length ≤ 12) : true = passOk l := by
  unfold passOk
  have : l.any Pass.bad = false := by
    rw [Bool.eq_false_iff]; intro hc
    obtain ⟨x, hx, hp⟩ := List.any_eq_true.1 hc
    obtain ⟨j, hj, rfl⟩ := List.getElem_of_mem hx
    have := h j (by omega)
    rw [List.getD_eq_getElem?_getD, List.getElem?_eq_getElem hj, show (some l[j]).getD default = l[j] from rfl, hp] at this
    cases this
  rw [this, decide_eq_true hl]; rfl

set_option maxRecDepth 8000 in
theorem l20Pass_ok (l : List Pass) (hl : l.length ≤ 1048576) : Ret env.P 39 [slL 3 Pass.cs l] (fun r => r = .b (passOk l)) := by
  refine ret_of (nt := 29) (rvs := [.tmp 2]) Try.func39 rfl rfl rfl rfl (fun X => ?_)
  repeat' (first | omega | ((conv => whnf) <;> (first | exact upto_succ (by assumption) (by simp_all [Pass.bad]) | refine loopN l.length (fun k => [(3, .i .i64 k)]) (fun k => []) (fun k => ∀ j, j < k → Pass.bad (l.getD j default) = false) ⟨fun _ h => by omega, ?_⟩ | refine And.intro ?_ ?_ | (intro _h; first | contradiction | (try simp only [decide_eq_true_eq, Bool.not_eq_true', Bool.not_eq_false', decide_eq_false_iff_not, Bool.not_eq_true, Decidable.not_not, Bool.true_eq_false, Bool.false_eq_true] at _h)) | exact rfl | exact True.intro | (refine dok ?_; kernel_rfl) | (refine doks ?_; kernel_rfl) | (refine ⟨_, l00In_ok _ _ _, ?_⟩; try rintro _ rfl) | (refine wrap_succ ?_; omega))))
  all_goals first
    | exact leaf_b (passOk_long (by omega))
    | (rename_i k _ _ _; exact leaf_b (passOk_bad (k := k) (by omega) (by simp only [Int.toNat_natCast] at *; simp_all [Pass.bad]; try omega)))
    | (rename_i k _ _ _ _; exact leaf_b (passOk_bad (k := k) (by omega) (by simp only [Int.toNat_natCast] at *; simp_all [Pass.bad]; try omega)))
    | exact leaf_b (passOk_all (by assumption) (by omega) (by omega))

def YardAct.ok (a : YardAct) : Bool :=
  passOk a.pass && decide (if a.kind = 1 then (1 ≤ a.who ∧ a.who ≤ 6) ∧ a.num = 0 ∧ a.res = 0
   else if a.kind = 2 then a.who = 0 ∧ a.num = 0 ∧ a.res = 0
   else if a.kind = 3 then a.pass.length = 0 ∧ a.who = 0 ∧ a.num = 0 ∧ a.res = 0
   else if a.kind = 4 then a.pass.length = 0 ∧ (1 ≤ a.res ∧ a.res ≤ 8) ∧ a.who = 0 ∧ a.num = 0
   else if a.kind = 5 then a.pass.length = 0 ∧ (1 ≤ a.num ∧ a.num ≤ 1000000) ∧ a.who = 0 ∧ a.res = 0
   else False)

set_option maxHeartbeats 2000000 in
set_option maxRecDepth 8000 in
theorem yardActOk_spec (a : YardAct) (hl : a.pass.length ≤ 1048576) : Ret env.P 15 [.agg a.cs] (fun r => r = .b a.ok) := by
  obtain ⟨k, w, n, r, p⟩ := a
  refine ret_of (nt := 46) (rvs := [.tmp 2]) Try.func15 rfl rfl rfl rfl (fun X => ?_)
  repeat' (first | omega | ((conv => whnf) <;> (first | refine And.intro ?_ ?_ | (intro _h; first | contradiction | (try simp only [decide_eq_true_eq, Bool.not_eq_true', Bool.not_eq_false', decide_eq_false_iff_not, Bool.not_eq_true, Decidable.not_not, Bool.true_eq_false, Bool.false_eq_true] at _h)) | exact rfl | exact True.intro | (refine dok ?_; kernel_rfl) | (refine doks ?_; kernel_rfl) | (refine ⟨_, l00In_ok _ _ _, ?_⟩; try rintro _ rfl) | (refine ⟨_, l19Used_ok _ _ _, ?_⟩; try rintro _ rfl) | (refine ⟨_, l20Pass_ok _ hl, ?_⟩; try rintro _ rfl) | (refine wrap_succ ?_; omega))))
  all_goals refine leaf_b ?_
  all_goals (rw [Bool.eq_iff_iff]; simp_all [YardAct.ok, -List.length_eq_zero_iff]; try (first | omega | (repeat' split) <;> omega))

set_option maxHeartbeats 2000000 in
set_option maxRecDepth 8000 in
theorem yardActOk_impl (a : YardAct) (hl : a.pass.length ≤ 1048576) : Ret env.P 17 [.agg a.cs] (fun r => r = .b a.ok) := by
  obtain ⟨k, w, n, r, p⟩ := a
  refine ret_of (nt := 96) (rvs := [.tmp 2]) Try.func17 rfl rfl rfl rfl (fun X => ?_)
  repeat' (first | omega | ((conv => whnf) <;> (first | refine And.intro ?_ ?_ | (intro _h; first | contradiction | (try simp only [decide_eq_true_eq, Bool.not_eq_true', Bool.not_eq_false', decide_eq_false_iff_not, Bool.not_eq_true, Decidable.not_not, Bool.true_eq_false, Bool.false_eq_true] at _h)) | exact rfl | exact True.intro | (refine dok ?_; kernel_rfl) | (refine doks ?_; kernel_rfl) | (refine ⟨_, within_ok _ _ _, ?_⟩; try rintro _ rfl) | (refine ⟨_, isRes_ok _, ?_⟩; try rintro _ rfl) | (refine ⟨_, isId_ok _, ?_⟩; try rintro _ rfl) | (refine ⟨_, passOk_ok _ hl, ?_⟩; try rintro _ rfl) | (refine wrap_succ ?_; omega))))
  all_goals refine leaf_b ?_
  all_goals (rw [Bool.eq_iff_iff]; simp_all [YardAct.ok, -List.length_eq_zero_iff]; try (first | omega | (repeat' split) <;> omega))
