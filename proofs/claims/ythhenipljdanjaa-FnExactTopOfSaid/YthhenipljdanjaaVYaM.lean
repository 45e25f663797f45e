/-
  Yards that are read: what is found in them, as plain functions.
-/
import Derived.Test.YthhenipljdanjaaVTYard
import Derived.Test.YthhenipljdanjaaVShP
namespace Go.Proofs.Ythhenipljdanjaa
open Go Go.RowKit
set_option linter.unusedVariables false
set_option linter.unusedSimpArgs false

/-- Is this table an instance. -/
def Yard.isI (y : Yard) (w : Int) : Prop := 1 ≤ w ∧ w < (y.shelf.tables.length : Int)
def calP (w : Int) (c : Call) : Bool := decide (c.callee = w)
def onS (l : List Call) (w : Int) : Bool := l.any (calP w)
def idBad (n : Int) : Bool := !decide (1 ≤ n ∧ n ≤ 1000000)
/-- The call below the k-th. -/
def prevC (l : List Call) (k : Nat) : Call := if k = 0 then ⟨0, 0, 0, []⟩ else l.getD (k - 1) default
def Yard.callOk (y : Yard) (k : Nat) (c : Call) : Prop :=
  (prevC y.stack k).id < c.id ∧ c.id < y.next ∧ c.caller = (prevC y.stack k).callee ∧ y.isI c.callee ∧ c.args.length ≤ 12 ∧ c.args.any idBad = false ∧ onS (y.stack.take k) c.callee = false
structure Yard.UpC (y : Yard) (n : Nat) : Prop where
  h : ∀ k, k < n → y.callOk k (y.stack.getD k default)
theorem Yard.upC_zero (y : Yard) : y.UpC 0 := ⟨fun _ h => by omega⟩
theorem Yard.upC_succ {y : Yard} {n : Nat} (h : y.UpC n) (h1 : y.callOk n (y.stack.getD n default)) : y.UpC (n + 1) := ⟨fun k hk => by
  rcases Nat.lt_or_eq_of_le (Nat.le_of_lt_succ hk) with q | rfl
  · exact h.h k q
  · exact h1⟩
def Yard.goodS (y : Yard) : Prop := (∀ k, k < y.stack.length → y.callOk k (y.stack.getD k default)) ∧ (1 ≤ y.next ∧ y.next ≤ 1000000) ∧ y.stack.length ≤ 8
theorem Yard.notS {y : Yard} {k : Nat} (hk : (k : Int) < y.stack.length) (h : ¬ y.callOk k (y.stack.getD k default)) : ¬ y.goodS := fun q => h (q.1 k (by omega))
/-- What stands before the k-th. -/
def prevD (l : List Int) (k : Nat) : Int := if k = 0 then 0 else l.getD (k - 1) default
theorem prevD_pos {l : List Int} {k : Nat} (h : (0 : Int) < k) : prevD l k = l.getD ((k : Int) - 1).toNat default := by
  unfold prevD
  rw [if_neg (by omega), show ((k : Int) - 1).toNat = k - 1 by omega]
theorem prevD_zero {l : List Int} {k : Nat} (h : ¬ (0 : Int) < k) : prevD l k = 0 := by
  unfold prevD
  rw [if_pos (by omega)]
def Yard.deadE (y : Yard) (k : Nat) (w : Int) : Prop := y.isI w ∧ onS y.stack w = false ∧ (y.shelf.tables.getD w.toNat default).entries.length = 0 ∧ prevD y.dead k < w
structure Yard.UpD (y : Yard) (n : Nat) : Prop where
  h : ∀ k, k < n → y.deadE k (y.dead.getD k default)
theorem Yard.upD_zero (y : Yard) : y.UpD 0 := ⟨fun _ h => by omega⟩
theorem Yard.upD_succ {y : Yard} {n : Nat} (h : y.UpD n) (h1 : y.deadE n (y.dead.getD n default)) : y.UpD (n + 1) := ⟨fun k hk => by
  rcases Nat.lt_or_eq_of_le (Nat.le_of_lt_succ hk) with q | rfl
  · exact h.h k q
  · exact h1⟩
def Yard.goodD (y : Yard) : Prop := ∀ k, k < y.dead.length → y.deadE k (y.dead.getD k default)
theorem Yard.notD {y : Yard} {k : Nat} (hk : (k : Int) < y.dead.length) (h : ¬ y.deadE k (y.dead.getD k default)) : ¬ y.goodD := fun q => h (q k (by omega))
def borP (i : Int) (e : Entry) (c : Call) : Bool := decide (c.callee = i ∧ c.id = e.scope ∧ c.caller = e.from_)
def Yard.borE (y : Yard) (i : Nat) (e : Entry) : Prop := e.own = true ∨ y.stack.any (borP i e) = true
structure Yard.UpB (y : Yard) (i k : Nat) : Prop where
  h : ∀ i' k', i' < y.shelf.tables.length → k' < (y.shelf.tables.getD i' default).entries.length → (i' < i ∨ i' = i ∧ k' < k) → y.borE i' ((y.shelf.tables.getD i' default).entries.getD k' default)
theorem Yard.upB_zero (y : Yard) : y.UpB 0 0 := ⟨fun _ _ _ _ h => by omega⟩
theorem Yard.upB_succ {y : Yard} {i k : Nat} (h : y.UpB i k) (hg : y.borE i ((y.shelf.tables.getD i default).entries.getD k default)) : y.UpB i (k + 1) := ⟨fun i' k' h1 h2 h3 => by
  by_cases e : i' = i ∧ k' = k
  · obtain ⟨rfl, rfl⟩ := e; exact hg
  · exact h.h i' k' h1 h2 (by omega)⟩
theorem Yard.upB_next {y : Yard} {i k : Nat} (h : y.UpB i k) (hn : ¬ k < (y.shelf.tables.getD i default).entries.length) : y.UpB (i + 1) 0 := ⟨fun i' k' h1 h2 h3 => by
  by_cases e : i' = i
  · subst e; exact h.h i' k' h1 h2 (by omega)
  · exact h.h i' k' h1 h2 (by omega)⟩
def Yard.goodB (y : Yard) : Prop := ∀ i k, i < y.shelf.tables.length → k < (y.shelf.tables.getD i default).entries.length → y.borE i ((y.shelf.tables.getD i default).entries.getD k default)
theorem Yard.notB {y : Yard} {i k : Nat} (hi : (i : Int) < y.shelf.tables.length) (hk : (k : Int) < (y.shelf.tables.getD i default).entries.length) (h : ¬ y.borE i ((y.shelf.tables.getD i default).entries.getD k default)) : ¬ y.goodB := fun q => h (q i k (by omega) (by omega))
/-- What the program calls valid. -/
def Yard.good (y : Yard) : Prop := y.shelf.good ∧ (2 ≤ y.shelf.tables.length ∧ y.shelf.tables.length ≤ 7) ∧ y.goodS ∧ y.goodD ∧ y.goodB

/-! ### As the reference says it -/
/-- Where a callee stands on the stack. -/
def Yard.onI (y : Yard) (w : Int) : Option Nat := y.stack.findIdx? (calP w)
def Yard.sCall (y : Yard) (k : Nat) (c : Call) : Prop :=
  ((prevC y.stack k).id + 1 ≤ c.id ∧ c.id ≤ y.next - 1) ∧ c.caller = (prevC y.stack k).callee ∧ y.isI c.callee ∧ y.onI c.callee = some k ∧ c.args.length ≤ 12 ∧ ∀ j, j < c.args.length → 1 ≤ c.args.getD j default ∧ c.args.getD j default ≤ 1000000
structure Yard.UpT (y : Yard) (n : Nat) : Prop where
  h : ∀ k, k < n → y.sCall k (y.stack.getD k default)
theorem Yard.upT_zero (y : Yard) : y.UpT 0 := ⟨fun _ h => by omega⟩
theorem Yard.upT_succ {y : Yard} {n : Nat} (h : y.UpT n) (h1 : y.sCall n (y.stack.getD n default)) : y.UpT (n + 1) := ⟨fun k hk => by
  rcases Nat.lt_or_eq_of_le (Nat.le_of_lt_succ hk) with q | rfl
  · exact h.h k q
  · exact h1⟩
structure UpA (l : List Int) (n : Nat) : Prop where
  h : ∀ j, j < n → 1 ≤ l.getD j default ∧ l.getD j default ≤ 1000000
theorem upA_zero (l : List Int) : UpA l 0 := ⟨fun _ h => by omega⟩
theorem upA_succ {l : List Int} {n : Nat} (h : UpA l n) (h1 : 1 ≤ l.getD n default ∧ l.getD n default ≤ 1000000) : UpA l (n + 1) := ⟨fun k hk => by
  rcases Nat.lt_or_eq_of_le (Nat.le_of_lt_succ hk) with q | rfl
  · exact h.h k q
  · exact h1⟩
def Yard.sStack (y : Yard) : Prop := y.stack.length ≤ 8 ∧ ∀ k, k < y.stack.length → y.sCall k (y.stack.getD k default)
theorem Yard.notT {y : Yard} {k : Nat} (hk : (k : Int) < y.stack.length) (h : ¬ y.sCall k (y.stack.getD k default)) : ¬ y.sStack := fun q => h (q.2 k (by omega))
theorem prevC_pos {l : List Call} {k : Nat} (h : (0 : Int) < k) : l.getD ((k : Int) - 1).toNat default = prevC l k := by
  unfold prevC
  rw [if_neg (by omega), show ((k : Int) - 1).toNat = k - 1 by omega]
theorem prevC_zero {l : List Call} {k : Nat} (h : ¬ (0 : Int) < k) : prevC l k = ⟨0, 0, 0, []⟩ := by
  unfold prevC
  rw [if_pos (by omega)]
theorem Yard.upT_range {y : Yard} (hn : 1 ≤ y.next ∧ y.next ≤ 1000000) : ∀ {n : Nat}, y.UpT n → 0 ≤ (prevC y.stack n).id ∧ (prevC y.stack n).id ≤ 1000000
  | 0, _ => ⟨Int.le_refl _, by show (0 : Int) ≤ _; omega⟩
  | n + 1, h => by
    have h1 := Yard.upT_range hn (n := n) ⟨fun k hk => h.h k (by omega)⟩
    have h2 := (h.h n (by omega)).1
    have e : prevC y.stack (n + 1) = y.stack.getD n default := by unfold prevC; rw [if_neg (by omega)]; rfl
    rw [e]
    omega
theorem Yard.upT_first {y : Yard} {n : Nat} (h : y.UpT n) (h0 : ¬ (0 : Int) < n) (h1 : 1 ≤ (y.stack.getD n default).id) (h2 : (y.stack.getD n default).id ≤ y.next - 1) (h3 : (y.stack.getD n default).caller = 0) (h4 : y.isI (y.stack.getD n default).callee) (h5 : y.onI (y.stack.getD n default).callee = some n)
    (h6 : (y.stack.getD n default).args.length ≤ 12) (h7 : ∀ j, j < (y.stack.getD n default).args.length → 1 ≤ (y.stack.getD n default).args.getD j default ∧ (y.stack.getD n default).args.getD j default ≤ 1000000) : y.UpT (n + 1) :=
  Yard.upT_succ h ⟨⟨by rw [prevC_zero h0]; exact h1, h2⟩, by rw [prevC_zero h0]; exact h3, h4, h5, h6, h7⟩
theorem idx_eq {o : Option Nat} {k : Nat} : idxI o = (k : Int) ↔ o = some k := by
  cases o with
  | none => simp only [idxI]; constructor <;> intro h <;> first | omega | cases h
  | some q => simp only [idxI, Option.some.injEq]; omega
theorem on_cases (y : Yard) (w : Int) : (∃ q, y.onI w = some q ∧ q < y.stack.length) ∨ y.onI w = none := by
  cases h : y.onI w with
  | none => exact .inr rfl
  | some q =>
    refine .inl ⟨q, rfl, ?_⟩
    unfold Yard.onI at h
    rw [List.findIdx?_eq_some_iff_getElem] at h
    exact h.1
theorem on_none {y : Yard} {w : Int} (h : y.onI w = none) : onS y.stack w = false := by
  unfold Yard.onI at h
  rw [List.findIdx?_eq_none_iff] at h
  unfold onS
  rw [List.any_eq_false]
  exact fun x hx => by rw [h x hx]; decide
theorem on_some {y : Yard} {w : Int} {q : Nat} (h : y.onI w = some q) : onS y.stack w = true := by
  unfold Yard.onI at h
  rw [List.findIdx?_eq_some_iff_getElem] at h
  obtain ⟨hq, hp, _⟩ := h
  unfold onS
  rw [List.any_eq_true]
  exact ⟨_, List.getElem_mem hq, hp⟩
/-- A borrow belongs to a call on the stack. -/
def Yard.belE (y : Yard) (i : Nat) (e : Entry) : Prop := e.own = true ∨ ∃ q, y.onI i = some q ∧ (y.stack.getD q default).id = e.scope ∧ (y.stack.getD q default).caller = e.from_
structure Yard.UpX (y : Yard) (i k : Nat) : Prop where
  h : ∀ i' k', i' < y.shelf.tables.length → k' < (y.shelf.tables.getD i' default).entries.length → (i' < i ∨ i' = i ∧ k' < k) → y.belE i' ((y.shelf.tables.getD i' default).entries.getD k' default)
theorem Yard.upX_zero (y : Yard) : y.UpX 0 0 := ⟨fun _ _ _ _ h => by omega⟩
theorem Yard.upX_succ {y : Yard} {i k : Nat} (h : y.UpX i k) (hg : y.belE i ((y.shelf.tables.getD i default).entries.getD k default)) : y.UpX i (k + 1) := ⟨fun i' k' h1 h2 h3 => by
  by_cases e : i' = i ∧ k' = k
  · obtain ⟨rfl, rfl⟩ := e; exact hg
  · exact h.h i' k' h1 h2 (by omega)⟩
theorem Yard.upX_next {y : Yard} {i k : Nat} (h : y.UpX i k) (hn : ¬ k < (y.shelf.tables.getD i default).entries.length) : y.UpX (i + 1) 0 := ⟨fun i' k' h1 h2 h3 => by
  by_cases e : i' = i
  · subst e; exact h.h i' k' h1 h2 (by omega)
  · exact h.h i' k' h1 h2 (by omega)⟩
def Yard.sBor (y : Yard) : Prop := ∀ i k, i < y.shelf.tables.length → k < (y.shelf.tables.getD i default).entries.length → y.belE i ((y.shelf.tables.getD i default).entries.getD k default)
theorem Yard.notX {y : Yard} {i k : Nat} (hi : (i : Int) < y.shelf.tables.length) (hk : (k : Int) < (y.shelf.tables.getD i default).entries.length) (h : ¬ y.belE i ((y.shelf.tables.getD i default).entries.getD k default)) : ¬ y.sBor := fun q => h (q i k (by omega) (by omega))
/-- What the reference calls valid. -/
def Yard.sGood (y : Yard) : Prop := y.shelf.sGood ∧ 2 ≤ y.shelf.tables.length ∧ (1 ≤ y.next ∧ y.next ≤ 1000000) ∧ y.sStack ∧ y.dead.length ≤ 6 ∧ y.goodD ∧ y.sBor
theorem Yard.notGD {y : Yard} (h : ¬ y.goodD) : ¬ y.sGood := fun q => h q.2.2.2.2.2.1
/-- A pointer to more cells points to fewer. -/
theorem Wk.rfp {m m' : Nat} {g : Nat → AV} (hm : m' ≤ m) : Wk (.rf m g) (.rf m' g) := by
  refine ⟨fun hi j hj => hi j (by omega), fun w S u hc => ?_⟩
  obtain ⟨b, o, U, rfl, hS, hcc, hu, hf⟩ := inv_rf hc
  exact .rf b o U hS (fun j hj => hcc j (by omega)) (fun j hj => hf j (by omega)) fun j hj => hu j (by omega)
theorem Wk.trans {x y z : AV} (h : Wk x y) (k : Wk y z) : Wk x z := ⟨fun q => k.idf (h.idf q), fun w S u hc => k.c w S u (h.c w S u hc)⟩
theorem Wk.rfcp {m : Nat} {g : Nat → AV} {cs : List AV} (hm : Nat.ble cs.length m = true) (h : cellsAt g 0 cs.length = cs) : Wk (.rf m g) (rfL cs) :=
  (Wk.rfp (Nat.le_of_ble_eq_true hm)).trans (Wk.rfc h)
theorem Wk.nilS {α : Type} [Inhabited α] {sz : Nat} {c : α → List AV} : Wk .nils (slL sz c []) := by
  refine ⟨fun _ i j hi => ?_, fun w S u hc => ?_⟩
  · exact absurd hi (Nat.not_lt_zero _)
  · cases hc
    exact .sl0 none 0 (by omega)
theorem Wk.take {α : Type} [Inhabited α] {sz k : Nat} {c : α → List AV} {l : List α} {g : Nat → Nat → AV} (hk : k ≤ l.length) (hg : ∀ i j, g i j = (c (l.getD i default)).getD j .any) : Wk (.sl sz k g) (slL sz c (l.take k)) := by
  refine Wk.sl' rfl (by simp; omega) fun i j hi hj => .of ?_
  rw [hg]
  congr 2
  rw [List.getD_eq_getElem?_getD, List.getD_eq_getElem?_getD, List.getElem?_take, if_pos hi]
end Go.Proofs.Ythhenipljdanjaa
