/- Texts for VDropInP. -/
import Derived.Test.YtmjjadcmmpfljaaGreatVd25
import Derived.Test.YtmjjadcmmpfljaaGreatVd23
namespace Go.Proofs.YtmjjadcmmpfljaaGreat
open Go Go.RowKit
set_option linter.unusedVariables false
set_option linter.unusedSimpArgs false
set_option maxRecDepth 8000
def Yard.csO (a : Yard) : List AV := [.i .i64 a.shelf.next, owL 2 Table.csO a.shelf.tables, owL 3 Thing.cs a.shelf.things, owL 4 Call.csO a.stack, .i .i64 a.next, owL 1 intC a.dead]
instance : HoldC Yard.csO := ⟨fun a => (idf_cons trivial (idf_cons owL_idf (idf_cons owL_idf (idf_cons owL_idf (idf_cons trivial (idf_cons owL_idf idf_nil))))))⟩
instance : FreeC Yard.csO := ⟨fun a => (free_cons trivial (free_cons owL_free (free_cons owL_free (free_cons owL_free (free_cons trivial (free_cons owL_free free_nil))))))⟩
instance : Shr 2 Yard.csO Yard.cs := ⟨fun H k a => (.cons (.refl _) (.cons (shr_ow (d := 1) (k := k + 0)) (.cons (shr_ow (d := 0) (k := k + 1)) (.cons (shr_ow (d := 1) (k := k + 0)) (.cons (.refl _) (.cons (shr_ow (d := 0) (k := k + 1)) .nil))))))⟩
def Yard.resO (a : Yard) : List AV := [.i .i64 a.shelf.next, .row 0 a.shelf.tables.length, .row 1 a.shelf.things.length, .row 2 a.stack.length, .i .i64 a.next, .row 3 a.dead.length]
def Yard.rowsO (a : Yard) : Hp := [some (rowL 2 Table.csO a.shelf.tables), some (rowL 3 Thing.cs a.shelf.things), some (rowL 4 Call.csO a.stack), some (rowL 1 intC a.dead)]
theorem toYardO_ok (a : Yard) (h : Yard.ok a) : RetM env.P 8 [] [.agg a.cs] (fun r H => r = .agg a.resO ∧ H = a.rowsO) := by
 refine ret_ofM (nt := 20) (rvs := [.cell 2 37]) Tryz.func8 rfl rfl rfl rfl (fun X hX => ?_)
 repeat' (first | exact aa | ((conv => whnf) <;> (first | refine And.intro ?_ ?_ | (intro _h; first | contradiction | (try simp only [dd] at _h)) | (refine dt_go ?_) | exact rfl | exact True.intro | exact dkk | exact dks | (refine .inr (.inl (.inl ⟨[], _, _, _, toShelfO_ok _ h.1, viewA, ⟨rfl, rfl⟩, ?_⟩)); rintro _ _ ⟨rfl, rfl⟩; refine ⟨rfl, _, lokA, ?_⟩) | (refine .inr (.inl (.inl ⟨[], _, _, _, toCallSO_ok _ h.2.1, viewA, ⟨rfl, rfl⟩, ?_⟩)); rintro _ _ ⟨rfl, rfl⟩; refine ⟨rfl, _, lokA, ?_⟩) | (refine .inr (.inl (.inl ⟨[], _, _, _, toInt64SO_ok _ h.2.2, viewA, ⟨rfl, rfl⟩, ?_⟩)); rintro _ _ ⟨rfl, rfl⟩; refine ⟨rfl, _, lokA, ?_⟩) | (refine wrap_succ ?_; omega))))
 exact endM_pick [3, 4, 5, 6] a.rowsO (.agg a.resO) viewA rfl rfl (fun k hk => by rw [hX] at hk; exact absurd hk (Nat.not_lt_zero _)) ⟨rfl, rfl⟩
def Yard.mk_ (a : Yard) (k : Int) : Yard × Int := (⟨⟨a.shelf.next, (markL Table.mkE a.shelf.tables k).1, (markL Thing.mkE a.shelf.things (markL Table.mkE a.shelf.tables k).2).1⟩, (markL Call.mkE a.stack (markL Thing.mkE a.shelf.things (markL Table.mkE a.shelf.tables k).2).2).1, a.next, (markL Int64.mkE a.dead (markL Call.mkE a.stack (markL Thing.mkE a.shelf.things (markL Table.mkE a.shelf.tables k).2).2).2).1⟩, (markL Int64.mkE a.dead (markL Call.mkE a.stack (markL Thing.mkE a.shelf.things (markL Table.mkE a.shelf.tables k).2).2).2).2)
theorem Yard.mk_mono (a : Yard) (k : Int) : k ≤ (Yard.mk_ a k).2 := by have m0 := markL_mono Table.mkE_mono a.shelf.tables k; have m1 := markL_mono Thing.mkE_mono a.shelf.things (markL Table.mkE a.shelf.tables k).2; have m2 := markL_mono Call.mkE_mono a.stack (markL Thing.mkE a.shelf.things (markL Table.mkE a.shelf.tables k).2).2; have m3 := markL_mono Int64.mkE_mono a.dead (markL Call.mkE a.stack (markL Thing.mkE a.shelf.things (markL Table.mkE a.shelf.tables k).2).2).2; simp only [Yard.mk_]; omega
theorem Yard.mk_ok (a : Yard) (k : Int) (h : Yard.ok a) : Yard.ok (Yard.mk_ a k).1 := ⟨⟨(okL_mark Table.mkE_ok h.1.1), (okL_mark Thing.mkE_ok h.1.2)⟩, (okL_mark Call.mkE_ok h.2.1), (okL_mark (fun _ _ _ => trivial) h.2.2)⟩
theorem Yard.mk_idem (a : Yard) (k : Int) : Yard.mk_ (Yard.mk_ a k).1 k = Yard.mk_ a k := by simp only [Yard.mk_, markL_idem Call.mkE_idem, markL_idem Int64.mkE_idem, markL_idem Table.mkE_idem, markL_idem Thing.mkE_idem]
theorem markYard_ok (a : Yard) (k : Int) (h0 : 0 ≤ k) (hk : (Yard.mk_ a k).2 ≤ 4611686018427387904) (h : Yard.ok a) : RetM env.P 12 a.rowsO [.agg a.resO, .i .i64 k] (fun r H => r = .i .i64 (Yard.mk_ a k).2 ∧ H = (Yard.mk_ a k).1.rowsO) := by
 simp only [Yard.mk_] at hk
 have m0 := markL_mono Table.mkE_mono a.shelf.tables k
 have m1 := markL_mono Thing.mkE_mono a.shelf.things (markL Table.mkE a.shelf.tables k).2
 have m2 := markL_mono Call.mkE_mono a.stack (markL Thing.mkE a.shelf.things (markL Table.mkE a.shelf.tables k).2).2
 have m3 := markL_mono Int64.mkE_mono a.dead (markL Call.mkE a.stack (markL Thing.mkE a.shelf.things (markL Table.mkE a.shelf.tables k).2).2).2
 refine ret_ofM (nt := 18) (rvs := [.tmp 4]) Tryz.func12 rfl rfl rfl rfl (fun X hX => ?_)
 repeat' (first | exact aa | ((conv => whnf) <;> (first | refine And.intro ?_ ?_ | (intro _h; first | contradiction | (try simp only [dd] at _h)) | (refine dt_go ?_) | exact rfl | exact True.intro | exact dkk | exact dks | (refine .inr (.inl (.inl ⟨[0, 1], _, _, _, markShelf_ok _ k (by omega) (by simp only [Shelf.mk_]; omega) h.1, viewA, ⟨rfl, rfl⟩, ?_⟩)); rintro _ _ ⟨rfl, rfl⟩; refine ⟨rfl, _, lokA, ?_⟩) | (refine .inr (.inl (.inl ⟨[2], _, _, _, markCallS_ok _ (markL Thing.mkE a.shelf.things (markL Table.mkE a.shelf.tables k).2).2 (by omega) (by omega) h.2.1, viewA, ⟨rfl, rfl⟩, ?_⟩)); rintro _ _ ⟨rfl, rfl⟩; refine ⟨rfl, _, lokA, ?_⟩) | (refine .inr (.inl (.inl ⟨[3], _, _, _, markInt64S_ok _ (markL Call.mkE a.stack (markL Thing.mkE a.shelf.things (markL Table.mkE a.shelf.tables k).2).2).2 (by omega) (by omega) h.2.2.1, viewA, ⟨rfl, rfl⟩, ?_⟩)); rintro _ _ ⟨rfl, rfl⟩; refine ⟨rfl, _, lokA, ?_⟩) | (refine wrap_succ ?_; omega))))
 exact endM_pick [0, 1, 2, 3] (Yard.mk_ a k).1.rowsO (.i .i64 (Yard.mk_ a k).2) viewA rfl rfl (by rw [hX]; exact keepK (n := 4) rfl rfl) ⟨rfl, rfl⟩
theorem markYard_nil (k : Int) : Ret env.P 12 [.agg [AV.i .i64 0, AV.nils, AV.nils, AV.nils, AV.i .i64 0, AV.nils], .i .i64 k] (fun r => r = .i .i64 k) := by
 refine ret_of (nt := 18) (rvs := [.tmp 4]) Tryz.func12 rfl rfl rfl rfl (fun X => ?_)
 repeat' (first | exact aa | ((conv => whnf) <;> (first | refine And.intro ?_ ?_ | (intro _h; first | contradiction | (try simp only [dd] at _h)) | (refine dt_go ?_) | exact rfl | exact True.intro | exact dkk | exact dks | ((first | refine .inl ⟨_, markShelf_nil k, ?_⟩ | refine ⟨_, markShelf_nil k, ?_⟩); (try rintro _ rfl)) | ((first | refine .inl ⟨_, markCallS_nil k, ?_⟩ | refine ⟨_, markCallS_nil k, ?_⟩); (try rintro _ rfl)) | ((first | refine .inl ⟨_, markInt64S_nil k, ?_⟩ | refine ⟨_, markInt64S_nil k, ?_⟩); (try rintro _ rfl)) | (refine wrap_succ ?_; omega))))
 all_goals rfl
theorem heldYard_ok (a : Yard) (k : Int) (h0 : 0 ≤ k) (hk : (Yard.mk_ a k).2 ≤ 4611686018427387904) (h : Yard.ok a) : Ret env.P 13 [.agg a.cs, .i .i64 k] (fun r => r = .i .i64 (heldI a (Yard.mk_ a k))) := by
 simp only [Yard.mk_] at hk
 have m0 := markL_mono Table.mkE_mono a.shelf.tables k
 have m1 := markL_mono Thing.mkE_mono a.shelf.things (markL Table.mkE a.shelf.tables k).2
 have m2 := markL_mono Call.mkE_mono a.stack (markL Thing.mkE a.shelf.things (markL Table.mkE a.shelf.tables k).2).2
 have m3 := markL_mono Int64.mkE_mono a.dead (markL Call.mkE a.stack (markL Thing.mkE a.shelf.things (markL Table.mkE a.shelf.tables k).2).2).2
 refine ret_of (nt := 24) (rvs := [.tmp 4]) Tryz.func13 rfl rfl rfl rfl (fun X => ?_)
 repeat' (first | exact aa | ((conv => whnf) <;> (first | ((first | refine .inl ⟨_, heldShelf_or _ k (by omega) (by simp only [Shelf.mk_]; omega) h.1, ?_⟩ | refine ⟨_, heldShelf_or _ k (by omega) (by simp only [Shelf.mk_]; omega) h.1, ?_⟩); rintro _ (⟨_, _, rfl⟩ | ⟨_, rfl⟩); all_goals (try simp only [Shelf.mk_] at *)) | ((first | refine .inl ⟨_, heldCallS_or _ (markL Thing.mkE a.shelf.things (markL Table.mkE a.shelf.tables k).2).2 (by omega) (by omega) h.2.1, ?_⟩ | refine ⟨_, heldCallS_or _ (markL Thing.mkE a.shelf.things (markL Table.mkE a.shelf.tables k).2).2 (by omega) (by omega) h.2.1, ?_⟩); rintro _ (⟨_, _, rfl⟩ | ⟨_, rfl⟩)) | ((first | refine .inl ⟨_, heldInt64S_or _ (markL Call.mkE a.stack (markL Thing.mkE a.shelf.things (markL Table.mkE a.shelf.tables k).2).2).2 (by omega) (by omega) h.2.2.1, ?_⟩ | refine ⟨_, heldInt64S_or _ (markL Call.mkE a.stack (markL Thing.mkE a.shelf.things (markL Table.mkE a.shelf.tables k).2).2).2 (by omega) (by omega) h.2.2.1, ?_⟩); rintro _ (⟨_, _, rfl⟩ | ⟨_, rfl⟩)) | refine And.intro ?_ ?_ | (intro _h; first | contradiction | (try simp only [dd] at _h)) | (refine dt_go ?_) | exact rfl | exact True.intro | exact dkk | exact dks | (refine wrap_succ ?_; omega))))
 all_goals (first | (conv => whnf) | skip)
 all_goals first
  | omega
  | exact leaf_i (heldI_eq (r := Yard.mk_ a k) (by simp only [Yard.mk_]; exact Yard.eta (by first | assumption | (refine Shelf.eta rfl ‹_› ‹_›)) ‹_› rfl ‹_›)).symm
  | (refine leaf_i (heldI_ne (r := Yard.mk_ a k) fun e => ?_).symm; first | (have e1 := congrArg (fun a => a.dead) e; simp only [Yard.mk_] at e1; contradiction) | (have e1 := congrArg (fun a => a.shelf) e; simp only [Yard.mk_] at e1; contradiction) | (have e1 := congrArg (fun a => a.shelf.tables) e; simp only [Yard.mk_] at e1; contradiction) | (have e1 := congrArg (fun a => a.shelf.things) e; simp only [Yard.mk_] at e1; contradiction) | (have e1 := congrArg (fun a => a.stack) e; simp only [Yard.mk_] at e1; contradiction))
  | trace_state
def Yard.isI (y : Yard) (w : Int) : Prop := 1 ≤ w ∧ w < (y.shelf.tables.length : Int)
def calP (w : Int) (c : Call) : Bool := decide (c.callee = w)
def onS (l : List Call) (w : Int) : Bool := l.any (calP w)
def idBad (n : Int) : Bool := !decide (1 ≤ n ∧ n ≤ 1000000)
def prevC (l : List Call) (k : Nat) : Call := if k = 0 then ⟨0, 0, 0, []⟩ else l.getD (k - 1) default
def Yard.callOk (y : Yard) (k : Nat) (c : Call) : Prop :=
 (prevC y.stack k).id < c.id ∧ c.id < y.next ∧ c.caller = (prevC y.stack k).callee ∧ y.isI c.callee ∧ c.args.length ≤ 12 ∧ c.args.any idBad = false ∧ onS (y.stack.take k) c.callee = false
structure Yard.UpC (y : Yard) (n : Nat) : Prop where
 h : ∀ k, k < n → y.callOk k (y.stack.getD k default)
theorem Yard.upC_zero (y : Yard) : y.UpC 0 := ⟨fun _ h => by omega⟩
theorem Yard.upC_succ {y : Yard} {n : Nat} (h : y.UpC n) (h1 : y.callOk n (y.stack.getD n default)) : y.UpC (n + 1) := ⟨fun k hk => by
 rcases Nat.lt_or_eq_of_le (Nat.le_of_lt_succ hk) with q | rfl
 ·exact h.h k q
 ·exact h1⟩
def Yard.goodS (y : Yard) : Prop := (∀ k, k < y.stack.length → y.callOk k (y.stack.getD k default)) ∧ (1 ≤ y.next ∧ y.next ≤ 1000000) ∧ y.stack.length ≤ 8
theorem Yard.notS {y : Yard} {k : Nat} (hk : (k : Int) < y.stack.length) (h : ¬ y.callOk k (y.stack.getD k default)) : ¬ y.goodS := fun q => h (q.1 k (by omega))
def prevD (l : List Int) (k : Nat) : Int := if k = 0 then 0 else l.getD (k - 1) default
theorem prevD_pos {l : List Int} {k : Nat} (h : (0 : Int) < k) : prevD l k = l.getD ((k : Int) - 1).toNat default := by
 unfold prevD
 rw [if_neg (by omega), show ((k : Int) - 1).toNat = k - 1 by omega]
theorem prevD_zero {l : List Int} {k : Nat} (h : ¬ (0 : Int) < k) : prevD l k = 0 := by
 unfold prevD
 rw [if_pos (by omega)]
def Yard.deadE (y : Yard) (k : Nat) (w : Int) : Prop := y.isI w ∧ onS y.stack w = false ∧ (y.shelf.tables.getD w.toNat default).entries.length = 0 ∧ prevD y.dead k < w
structure Yard.UpD (y : Yard) (n : Nat) : Prop where
 h : ∀ k, k < n → y.deadE k (y.dead.getD k default)
theorem Yard.upD_zero (y : Yard) : y.UpD 0 := ⟨fun _ h => by omega⟩
theorem Yard.upD_succ {y : Yard} {n : Nat} (h : y.UpD n) (h1 : y.deadE n (y.dead.getD n default)) : y.UpD (n + 1) := ⟨fun k hk => by
 rcases Nat.lt_or_eq_of_le (Nat.le_of_lt_succ hk) with q | rfl
 ·exact h.h k q
 ·exact h1⟩
def Yard.goodD (y : Yard) : Prop := ∀ k, k < y.dead.length → y.deadE k (y.dead.getD k default)
theorem Yard.notD {y : Yard} {k : Nat} (hk : (k : Int) < y.dead.length) (h : ¬ y.deadE k (y.dead.getD k default)) : ¬ y.goodD := fun q => h (q k (by omega))
def borP (i : Int) (e : Entry) (c : Call) : Bool := decide (c.callee = i ∧ c.id = e.scope ∧ c.caller = e.from_)
def Yard.borE (y : Yard) (i : Nat) (e : Entry) : Prop := e.own = true ∨ y.stack.any (borP i e) = true
structure Yard.UpB (y : Yard) (i k : Nat) : Prop where
 h : ∀ i' k', i' < y.shelf.tables.length → k' < (y.shelf.tables.getD i' default).entries.length → (i' < i ∨ i' = i ∧ k' < k) → y.borE i' ((y.shelf.tables.getD i' default).entries.getD k' default)
theorem Yard.upB_zero (y : Yard) : y.UpB 0 0 := ⟨fun _ _ _ _ h => by omega⟩
theorem Yard.upB_succ {y : Yard} {i k : Nat} (h : y.UpB i k) (hg : y.borE i ((y.shelf.tables.getD i default).entries.getD k default)) : y.UpB i (k + 1) := ⟨fun i' k' h1 h2 h3 => by
 by_cases e : i' = i ∧ k' = k
 ·obtain ⟨rfl, rfl⟩ := e; exact hg
 ·exact h.h i' k' h1 h2 (by omega)⟩
theorem Yard.upB_next {y : Yard} {i k : Nat} (h : y.UpB i k) (hn : ¬ k < (y.shelf.tables.getD i default).entries.length) : y.UpB (i + 1) 0 := ⟨fun i' k' h1 h2 h3 => by
 by_cases e : i' = i
 ·subst e; exact h.h i' k' h1 h2 (by omega)
 ·exact h.h i' k' h1 h2 (by omega)⟩
def Yard.goodB (y : Yard) : Prop := ∀ i k, i < y.shelf.tables.length → k < (y.shelf.tables.getD i default).entries.length → y.borE i ((y.shelf.tables.getD i default).entries.getD k default)
theorem Yard.notB {y : Yard} {i k : Nat} (hi : (i : Int) < y.shelf.tables.length) (hk : (k : Int) < (y.shelf.tables.getD i default).entries.length) (h : ¬ y.borE i ((y.shelf.tables.getD i default).entries.getD k default)) : ¬ y.goodB := fun q => h (q i k (by omega) (by omega))
def Yard.good (y : Yard) : Prop := y.shelf.good ∧ (2 ≤ y.shelf.tables.length ∧ y.shelf.tables.length ≤ 7) ∧ y.goodS ∧ y.goodD ∧ y.goodB
def Yard.onI (y : Yard) (w : Int) : Option Nat := y.stack.findIdx? (calP w)
def Yard.sCall (y : Yard) (k : Nat) (c : Call) : Prop :=
 ((prevC y.stack k).id + 1 ≤ c.id ∧ c.id ≤ y.next - 1) ∧ c.caller = (prevC y.stack k).callee ∧ y.isI c.callee ∧ y.onI c.callee = some k ∧ c.args.length ≤ 12 ∧ ∀ j, j < c.args.length → 1 ≤ c.args.getD j default ∧ c.args.getD j default ≤ 1000000
structure Yard.UpT (y : Yard) (n : Nat) : Prop where
 h : ∀ k, k < n → y.sCall k (y.stack.getD k default)
theorem Yard.upT_zero (y : Yard) : y.UpT 0 := ⟨fun _ h => by omega⟩
theorem Yard.upT_succ {y : Yard} {n : Nat} (h : y.UpT n) (h1 : y.sCall n (y.stack.getD n default)) : y.UpT (n + 1) := ⟨fun k hk => by
 rcases Nat.lt_or_eq_of_le (Nat.le_of_lt_succ hk) with q | rfl
 ·exact h.h k q
 ·exact h1⟩
structure UpA (l : List Int) (n : Nat) : Prop where
 h : ∀ j, j < n → 1 ≤ l.getD j default ∧ l.getD j default ≤ 1000000
theorem upA_zero (l : List Int) : UpA l 0 := ⟨fun _ h => by omega⟩
theorem upA_succ {l : List Int} {n : Nat} (h : UpA l n) (h1 : 1 ≤ l.getD n default ∧ l.getD n default ≤ 1000000) : UpA l (n + 1) := ⟨fun k hk => by
 rcases Nat.lt_or_eq_of_le (Nat.le_of_lt_succ hk) with q | rfl
 ·exact h.h k q
 ·exact h1⟩
def Yard.sStack (y : Yard) : Prop := y.stack.length ≤ 8 ∧ ∀ k, k < y.stack.length → y.sCall k (y.stack.getD k default)
theorem Yard.notT {y : Yard} {k : Nat} (hk : (k : Int) < y.stack.length) (h : ¬ y.sCall k (y.stack.getD k default)) : ¬ y.sStack := fun q => h (q.2 k (by omega))
theorem prevC_pos {l : List Call} {k : Nat} (h : (0 : Int) < k) : l.getD ((k : Int) - 1).toNat default = prevC l k := by
 unfold prevC
 rw [if_neg (by omega), show ((k : Int) - 1).toNat = k - 1 by omega]
theorem prevC_zero {l : List Call} {k : Nat} (h : ¬ (0 : Int) < k) : prevC l k = ⟨0, 0, 0, []⟩ := by
 unfold prevC
 rw [if_pos (by omega)]
theorem Yard.upT_range {y : Yard} (hn : 1 ≤ y.next ∧ y.next ≤ 1000000) : ∀ {n : Nat}, y.UpT n → 0 ≤ (prevC y.stack n).id ∧ (prevC y.stack n).id ≤ 1000000
 | 0, _ => ⟨Int.le_refl _, by show (0 : Int) ≤ _; omega⟩
 | n + 1, h => by
  have h1 := Yard.upT_range hn (n := n) ⟨fun k hk => h.h k (by omega)⟩
  have h2 := (h.h n (by omega)).1
  have e : prevC y.stack (n + 1) = y.stack.getD n default := by unfold prevC; rw [if_neg (by omega)]; rfl
  rw [e]
  omega
theorem Yard.upT_first {y : Yard} {n : Nat} (h : y.UpT n) (h0 : ¬ (0 : Int) < n) (h1 : 1 ≤ (y.stack.getD n default).id) (h2 : (y.stack.getD n default).id ≤ y.next - 1) (h3 : (y.stack.getD n default).caller = 0) (h4 : y.isI (y.stack.getD n default).callee) (h5 : y.onI (y.stack.getD n default).callee = some n)
  (h6 : (y.stack.getD n default).args.length ≤ 12) (h7 : ∀ j, j < (y.stack.getD n default).args.length → 1 ≤ (y.stack.getD n default).args.getD j default ∧ (y.stack.getD n default).args.getD j default ≤ 1000000) : y.UpT (n + 1) :=
 Yard.upT_succ h ⟨⟨by rw [prevC_zero h0]; exact h1, h2⟩, by rw [prevC_zero h0]; exact h3, h4, h5, h6, h7⟩
theorem idx_eq {o : Option Nat} {k : Nat} : idxI o = (k : Int) ↔ o = some k := by
 cases o with
 | none => simp only [idxI]; constructor <;> intro h <;> first | omega | cases h
 | some q => simp only [idxI, Option.some.injEq]; omega
theorem on_cases (y : Yard) (w : Int) : (∃ q, y.onI w = some q ∧ q < y.stack.length) ∨ y.onI w = none := by
 cases h : y.onI w with
 | none => exact .inr rfl
 | some q =>
  refine .inl ⟨q, rfl, ?_⟩
  unfold Yard.onI at h
  rw [List.findIdx?_eq_some_iff_getElem] at h
  exact h.1
theorem on_none {y : Yard} {w : Int} (h : y.onI w = none) : onS y.stack w = false := by
 unfold Yard.onI at h
 rw [List.findIdx?_eq_none_iff] at h
 unfold onS
 rw [List.any_eq_false]
 exact fun x hx => by rw [h x hx]; decide
theorem on_some {y : Yard} {w : Int} {q : Nat} (h : y.onI w = some q) : onS y.stack w = true := by
 unfold Yard.onI at h
 rw [List.findIdx?_eq_some_iff_getElem] at h
 obtain ⟨hq, hp, _⟩ := h
 unfold onS
 rw [List.any_eq_true]
 exact ⟨_, List.getElem_mem hq, hp⟩
def Yard.belE (y : Yard) (i : Nat) (e : Entry) : Prop := e.own = true ∨ ∃ q, y.onI i = some q ∧ (y.stack.getD q default).id = e.scope ∧ (y.stack.getD q default).caller = e.from_
structure Yard.UpX (y : Yard) (i k : Nat) : Prop where
 h : ∀ i' k', i' < y.shelf.tables.length → k' < (y.shelf.tables.getD i' default).entries.length → (i' < i ∨ i' = i ∧ k' < k) → y.belE i' ((y.shelf.tables.getD i' default).entries.getD k' default)
theorem Yard.upX_zero (y : Yard) : y.UpX 0 0 := ⟨fun _ _ _ _ h => by omega⟩
theorem Yard.upX_succ {y : Yard} {i k : Nat} (h : y.UpX i k) (hg : y.belE i ((y.shelf.tables.getD i default).entries.getD k default)) : y.UpX i (k + 1) := ⟨fun i' k' h1 h2 h3 => by
 by_cases e : i' = i ∧ k' = k
 ·obtain ⟨rfl, rfl⟩ := e; exact hg
 ·exact h.h i' k' h1 h2 (by omega)⟩
theorem Yard.upX_next {y : Yard} {i k : Nat} (h : y.UpX i k) (hn : ¬ k < (y.shelf.tables.getD i default).entries.length) : y.UpX (i + 1) 0 := ⟨fun i' k' h1 h2 h3 => by
 by_cases e : i' = i
 ·subst e; exact h.h i' k' h1 h2 (by omega)
 ·exact h.h i' k' h1 h2 (by omega)⟩
def Yard.sBor (y : Yard) : Prop := ∀ i k, i < y.shelf.tables.length → k < (y.shelf.tables.getD i default).entries.length → y.belE i ((y.shelf.tables.getD i default).entries.getD k default)
theorem Yard.notX {y : Yard} {i k : Nat} (hi : (i : Int) < y.shelf.tables.length) (hk : (k : Int) < (y.shelf.tables.getD i default).entries.length) (h : ¬ y.belE i ((y.shelf.tables.getD i default).entries.getD k default)) : ¬ y.sBor := fun q => h (q i k (by omega) (by omega))
def Yard.sGood (y : Yard) : Prop := y.shelf.sGood ∧ 2 ≤ y.shelf.tables.length ∧ (1 ≤ y.next ∧ y.next ≤ 1000000) ∧ y.sStack ∧ y.dead.length ≤ 6 ∧ y.goodD ∧ y.sBor
theorem Yard.notGD {y : Yard} (h : ¬ y.goodD) : ¬ y.sGood := fun q => h q.2.2.2.2.2.1
theorem Wk.rfp {m m' : Nat} {g : Nat → AV} (hm : m' ≤ m) : Wk (.rf m g) (.rf m' g) := by
 refine ⟨fun hi j hj => hi j (by omega), fun w S u hc => ?_⟩
 obtain ⟨b, o, U, rfl, hS, hcc, hu, hf⟩ := inv_rf hc
 exact .rf b o U hS (fun j hj => hcc j (by omega)) (fun j hj => hf j (by omega)) fun j hj => hu j (by omega)
theorem Wk.trans {x y z : AV} (h : Wk x y) (k : Wk y z) : Wk x z := ⟨fun q => k.idf (h.idf q), fun w S u hc => k.c w S u (h.c w S u hc)⟩
theorem Wk.rfcp {m : Nat} {g : Nat → AV} {cs : List AV} (hm : Nat.ble cs.length m = true) (h : cellsAt g 0 cs.length = cs) : Wk (.rf m g) (rfL cs) :=
 (Wk.rfp (Nat.le_of_ble_eq_true hm)).trans (Wk.rfc h)
theorem Wk.nilS {α : Type} [Inhabited α] {sz : Nat} {c : α → List AV} : Wk .nils (slL sz c []) := by
 refine ⟨fun _ i j hi => ?_, fun w S u hc => ?_⟩
 ·exact absurd hi (Nat.not_lt_zero _)
 ·cases hc
  exact .sl0 none 0 (by omega)
theorem Wk.take {α : Type} [Inhabited α] {sz k : Nat} {c : α → List AV} {l : List α} {g : Nat → Nat → AV} (hk : k ≤ l.length) (hg : ∀ i j, g i j = (c (l.getD i default)).getD j .any) : Wk (.sl sz k g) (slL sz c (l.take k)) := by
 refine Wk.sl' rfl (by simp; omega) fun i j hi hj => .of ?_
 rw [hg]
 congr 2
 rw [List.getD_eq_getElem?_getD, List.getD_eq_getElem?_getD, List.getElem?_take, if_pos hi]
section
variable {E : Env} {P : Program} {nt : Nat} {X : Ctx} {f : Fr} {H : Hp} {ty : TypeId}
def dimsK (n0 : Nat) (H H' : Hp) : List Nat → Prop
 | [] => True
 | id :: r => (bif Nat.ble n0 id then True else match H[id]?, H'[id]? with
  | some (some x), some (some y) => y.sz = x.sz ∧ y.cap = x.cap ∧ blankK y.k = blankK x.k
  | some none, some none => True
  | _, _ => False) ∧ dimsK n0 H H' r
theorem dimsK_at {n0 : Nat} {H H' : Hp} : ∀ {M : List Nat}, dimsK n0 H H' M → ∀ i, i < n0 → i ∈ M → (H'[i]?).map (fun r => r.map Go.Proofs.YtmjjadcmmpfljaaGreat.blank) = (H[i]?).map (fun r => r.map Go.Proofs.YtmjjadcmmpfljaaGreat.blank)
 | [], _, i, _, hi => by cases hi
 | id :: r, h, i, hlt, hi => by
  rcases List.mem_cons.1 hi with rfl | hi
  ·have h1 := h.1
   have hb : Nat.ble n0 i = false := by
    cases hb : Nat.ble n0 i with
    | false => rfl
    | true => have := Nat.le_of_ble_eq_true hb; omega
   rw [hb, cond_false] at h1
   split at h1
   ·rename_i x y e1 e2
    rw [e1, e2]
    simp only [Option.map_some, Go.Proofs.YtmjjadcmmpfljaaGreat.blank, h1.1, h1.2.1, h1.2.2]
   ·rename_i e1 e2
    rw [e1, e2]
   ·cases h1
  ·exact dimsK_at h.2 i hlt hi
def efC (E : Env) (nt : Nat) (M : List Nat) (n0 : Nat) (o : Oper) (f : Fr) (H : Hp) (K : AV → Hp → Prop) : Prop :=
 match o.op with
 | .call ⟨.value fx, args, _⟩ => (match o.guard with
  | some _ => False
  | none => (match o.dst with
   | some d => bif Nat.blt d nt then clM E f H (fun i => M.contains i || Nat.ble n0 i) fx args.toList (fun v H' => dimsK n0 H H' M ∧ K v H') else False
   | none => clM E f H (fun i => M.contains i || Nat.ble n0 i) fx args.toList (fun _ H' => dimsK n0 H H' M ∧ K .any H')))
 | _ => efK E nt M n0 o f H K
theorem hid_call {M : List Nat} {n0 : Nat} {H2 : Hp} (hn : n0 ≤ H.length) (h1 : dimsK n0 H H2 M) (h2 : ∀ i, i < H.length → (M.contains i || Nat.ble n0 i) = false → H2[i]? = H[i]?) : hidM M 0 (H2.take n0) = hidM M 0 (H.take n0) := by
 apply List.ext_getElem?
 intro i
 rw [hidM_at, hidM_at, List.getElem?_take, List.getElem?_take]
 by_cases hi : i < n0
 ·rw [if_pos hi, if_pos hi]
  simp only [Nat.zero_add]
  cases hM : M.contains i with
  | true =>
   simp only [cond_true]
   exact dimsK_at h1 i hi (List.contains_iff_mem.1 hM)
  | false =>
   rw [h2 i (by omega) (by
    rw [hM, Bool.false_or]
    cases hb : Nat.ble n0 i with
    | false => rfl
    | true => have := Nat.le_of_ble_eq_true hb; omega)]
 ·rw [if_neg hi, if_neg hi]
theorem efC_po {M : List Nat} {n0 : Nat} {o : Oper} {K : AV → Hp → Prop} (hn : n0 ≤ H.length) (h : efC E nt M n0 o f H K) : o.guard = none ∧ PO E.P nt X o f H fun f' H' => ∃ v, f' = pushD o.dst v f ∧ hidM M 0 (H'.take n0) = hidM M 0 (H.take n0) ∧ K v H' := by
 unfold efC at h
 split at h
 ·rename_i fx args tys hop
  split at h
  ·cases h
  rename_i hg
  refine ⟨hg, ?_⟩
  obtain ⟨d?, op, ty, pos, after, gd⟩ := o
  dsimp only at h hop hg
  subst hop
  split at h
  ·rename_i d
   cases hb : Nat.blt d nt with
   | false => rw [hb] at h; cases h
   | true =>
    rw [hb, cond_true] at h
    rintro a w ⟨blk, FP, s⟩ K' Q' hK
    refine clM_run h s _ tys (by simp) K' Q' fun r u w' H2 blk2 FP2 hk hsame s2 hc => ?_
    exact hK _ _ _ _ ⟨r, rfl, hid_call hn hk.1 hsame, hk.2⟩ ⟨blk2, FP2, s2.put (Nat.le_of_ble_eq_true hb) hc⟩
  ·rintro a w ⟨blk, FP, s⟩ K' Q' hK
   refine clM_run h s _ tys (by simp) K' Q' fun r u w' H2 blk2 FP2 hk hsame s2 hc => ?_
   exact hK _ _ _ _ ⟨.any, rfl, hid_call hn hk.1 hsame, hk.2⟩ ⟨blk2, FP2, s2⟩
 ·exact ef_po hn h
def dsC (E : Env) (nt : Nat) (ops : Array Oper) (M : List Nat) (H0 : Hp) (Q : Fr → Hp → Prop) (n : Nat) : List Nat → Fr → Hp → Prop :=
 Nat.rec (motive := fun _ => List Nat → Fr → Hp → Prop) (fun _ f H => Q f H) (fun _ ih D f H => match firstRd E ops M H0.length f D 0 ops.toList with
  | some (i, o) => (match o.dst with
   | some d => bif Nat.blt d nt then
     rdK E (hidM M 0 H0) (restr (looksL ops o) f) o.op fun v => frc v fun v => bif low H0.length v then ih (i :: D) ((d, v) :: f) H else False else False
   | none => False)
  | none => brsK D (fun i o => efC E nt M H0.length o f H fun v H' => pushK o.dst v f fun f => ih (i :: D) f H') ops.toList 0 none) n
theorem dsC_succ {ops : Array Oper} {M : List Nat} {H0 : Hp} {Q : Fr → Hp → Prop} {n : Nat} {D : List Nat} {f : Fr} {H : Hp} : dsC E nt ops M H0 Q (n + 1) D f H = match firstRd E ops M H0.length f D 0 ops.toList with
  | some (i, o) => (match o.dst with
   | some d => bif Nat.blt d nt then
     rdK E (hidM M 0 H0) (restr (looksL ops o) f) o.op fun v => frc v fun v => bif low H0.length v then dsC E nt ops M H0 Q n (i :: D) ((d, v) :: f) H else False else False
   | none => False)
  | none => brsK D (fun i o => efC E nt M H0.length o f H fun v H' => pushK o.dst v f fun f => dsC E nt ops M H0 Q n (i :: D) f H') ops.toList 0 none := rfl
theorem dsC_ok {ops : Array Oper} {M : List Nat} {H0 : Hp} {Q : Exit → Fr → Hp → Prop} : ∀ (n : Nat) (D : List Nat) (f : Fr) (H : Hp), hidM M 0 (H.take H0.length) = hidM M 0 H0 → dsC E nt ops M H0 (Q .normal) n D f H → DR E.P nt X ops M H0 Q n D f H
 | 0, D, f, H, _, h => h
 | n + 1, D, f, H, hold, h => by
  have hlen : H0.length ≤ H.length := by
   have := congrArg List.length hold
   rw [hidM_len, hidM_len, List.length_take] at this
   omega
  rw [dsC_succ] at h
  split at h
  ·rename_i i o hfi
   obtain ⟨_, h1, h2, h3, h6, h4, h5⟩ := firstRd_ok hfi
   split at h
   ·rename_i d hd
    rw [looksL_eq] at h
    cases hb : Nat.blt d nt with
    | false => rw [hb] at h; cases h
    | true =>
     rw [hb, cond_true] at h
     obtain ⟨v, hpj, hk⟩ := pj_of (nt := nt) (X := X) (ops := ops) (ty := o.type) h
     rw [frc_eq] at hk
     cases hl : low H0.length v with
     | false => rw [hl] at hk; cases hk
     | true =>
      rw [hl, cond_true] at hk
      exact .inl ⟨i, o, d, v, by simpa using h1, h2, hd, Nat.le_of_ble_eq_true hb, h3, h6, hl, h5 d hd, .inl ⟨h4, hpj⟩, dsC_ok n _ _ _ hold hk⟩
   ·cases h
  ·refine .inr fun i o ho hD hw => ?_
   have hm := brsK_mem h (Nat.zero_le i) (by simpa using ho) hD hw
   obtain ⟨hg, hpo⟩ := efC_po (X := X) hlen hm
   refine pl_op hg (hpo.mono ?_)
   rintro f' H' ⟨v, rfl, ho1, hk⟩
   rw [pushK_eq] at hk
   refine pl_nil ⟨rfl, ?_, ho1.trans hold, dsC_ok n _ _ _ (ho1.trans hold) hk⟩
   cases hd : o.dst with
   | none => exact ext_rfl
   | some d => exact ext_cons
theorem dt_goC {id : Nat} {ops : Array Oper} {Q : Exit → Fr → Hp → Prop} (M : List Nat) (h : drawOkS ops = true ∧ dsC E nt ops M H (Q .normal) ops.toList.length [] f H) : DT E nt X id ops f H Q := ⟨by
 obtain ⟨hok, h⟩ := h
 have := pw_drawS (id := id) (l := ops.toList) (Q := Q) (X := X) M E.mixed (by simpa using hok) (by simpa using dsC_ok (Q := Q) (X := X) _ _ _ _ (by rw [List.take_length]) h)
 simpa using this⟩
end
section
variable {E : Env} {P : Program} {nt : Nat} {X : Ctx} {f : Fr} {H H' : Hp} {a : Act} {w : World} {blk : Nat → BC} {FP : Nat → List Nat}
theorem StB.thin (hk : ∀ k : Nat, H'[k]? = H[k]? ∨ H'[k]? = some none) (s : StB nt X f H blk FP a w) : StB nt X f H' blk FP a w := by
 have hget : ∀ (k : Nat) (r : Row), H'[k]? = some (some r) → H[k]? = some (some r) := fun k r h => by
  rcases hk k with q | q
  ·rw [← q]; exact h
  ·rw [q] at h; cases h
 have hkeep : ∀ b, X.S FP H w.heap.size b → X.S FP H' w.heap.size b ∧ w.heap[b]? = w.heap[b]? := fun b hb => ⟨⟨hb.1, hb.2.1, fun k r h => hb.2.2 k r (hget k r h)⟩, rfl⟩
 have hext : HExt H blk H' blk := fun k x hx => by
  rcases hk k with q | q
  ·cases x with
   | none => exact .inl (q.trans hx)
   | some r => exact .inr ⟨r, r, rfl, q.trans hx, rfl, rfl, rfl⟩
  ·exact .inl q
 exact ⟨s.defers, s.size, s.keeps, fun k r h => ⟨(s.rows k r (hget k r h)).1.mono hkeep hext fun _ _ => rfl, (s.rows k r (hget k r h)).2⟩, fun i j r r' hi hj => s.apart i j r r' (hget i r hi) (hget j r' hj), fun t => (s.fr t).mono hkeep hext, s.ext.trans hext⟩
def frP (f : Fr) : Fr → Prop
 | [] => True
 | (t, v) :: g => lk f t = v ∧ frP f g
theorem frP_lk : ∀ {g : Fr}, frP f g → ∀ t, lk g t = .any ∨ lk g t = lk f t
 | [], _, t => .inl rfl
 | (d, v) :: g, h, t => by
  rw [lk_cons]
  split
  ·rename_i e; subst e; exact .inr h.1.symm
  ·exact frP_lk h.2 t
def hpK : Hp → Hp → Prop
 | [], [] => True
 | x :: H, y :: H' => (y = x ∨ y = none) ∧ hpK H H'
 | [], y :: H' => y = none ∧ hpK [] H'
 | _ :: _, [] => False
theorem hpK_at : ∀ {H H' : Hp}, hpK H H' → ∀ k : Nat, H'[k]? = H[k]? ∨ H'[k]? = some none
 | [], [], _, k => .inl rfl
 | x :: H, y :: H', h, 0 => by
  rcases h.1 with rfl | rfl
  ·exact .inl rfl
  ·exact .inr rfl
 | x :: H, y :: H', h, k + 1 => by simpa using hpK_at h.2 k
 | [], y :: H', h, 0 => by obtain ⟨rfl, _⟩ := h; exact .inr rfl
 | [], y :: H', h, k + 1 => by simpa using hpK_at h.2 k
 | _ :: _, [], h, _ => h.elim
structure Cut (nt : Nat) (X : Ctx) {α : Type} (I : α → Prop) (g : α → Fr) (hp : α → Hp) (f : Fr) (H : Hp) : Prop where
 h : ∃ y, I y ∧ ∀ a w, St nt X f H a w → St nt X (g y) (hp y) a w
theorem cut_go {α : Type} {I : α → Prop} {g : α → Fr} {hp : α → Hp} (y : α) (hI : I y) (hg : frP f (g y)) (hH : hpK H (hp y)) : Cut nt X I g hp f H :=
 ⟨y, hI, fun a w ⟨blk, FP, s⟩ => ⟨blk, FP, (s.refr (g := g y) fun t hc => by
  rcases frP_lk hg t with q | q
  ·rw [q]; exact .any _
  ·rw [q]; exact hc).thin (hpK_at hH)⟩⟩
theorem cut_turn {α : Type} {I : α → Prop} {g : α → Fr} {hp : α → Hp} (t : Turn X H H') (h : Cut nt X I g hp f H') : Cut nt X I g hp f H := by
 obtain ⟨y, hI, hs⟩ := h
 exact ⟨y, hI, fun a w s => hs a w (s.turn t)⟩
def wpcN (E : Env) (nt : Nat) (X : Ctx) : Nat → Code → Fr → Hp → (Fr → Hp → Prop) → (Exit → Fr → Hp → Prop) → Prop
 | 0, _, f, H, J, _ => J f H
 | k + 1, .seq a b, f, H, J, Q => wpc E nt X a f H (thn (fun f H => wpcN E nt X k b f H J Q) Q)
 | _ + 1, _, _, _, _, _ => False
def restC : Nat → Code → Code
 | 0, c => c
 | k + 1, .seq _ b => restC k b
 | _ + 1, c => c
theorem wpcN_ok {J : Fr → Hp → Prop} {Q : Exit → Fr → Hp → Prop} : ∀ (k : Nat) (c : Code) (f : Fr) (H : Hp), wpcN E nt X k c f H J Q → (∀ f H, J f H → PW E.P nt X (restC k c) f H Q) → PW E.P nt X c f H Q
 | 0, c, f, H, h, hJ => hJ f H h
 | k + 1, c, f, H, h, hJ => by
  cases c with
  | seq a b =>
   refine pw_seq fun x w s => wp_mono (wpc_ok a f H _ h x w s) fun e x w ⟨f, H, q, s⟩ => ?_
   refine ⟨f, H, ?_, s⟩
   cases e with
   | normal => exact wpcN_ok k b f H q hJ
   | _ => exact q
  | _ => exact h.elim
theorem pw_cut {c : Code} {Q : Exit → Fr → Hp → Prop} {α : Type} (k : Nat) (I : α → Prop) (gf : α → Fr) (hp : α → Hp)
  (h : wpcN E nt X k c f H (Cut nt X I gf hp) Q) (h2 : ∀ y, I y → PW E.P nt X (restC k c) (gf y) (hp y) Q) : PW E.P nt X c f H Q :=
 wpcN_ok k c _ _ h fun f H ⟨⟨y, hI, hs⟩⟩ a w s => h2 y hI a w (hs a w s)
theorem ret_ofPM {g : FuncId} {fn : Func} {c : Code} {H0 : Hp} {al : List AV} {post : AV → Hp → Prop} {rvs : List ResultVar} (hf : E.P.funcs[g]? = some fn) (hb : fn.body = some c) (hnt : fn.ntmps = nt) (hrv : fn.results.toList = rvs) (hle : Nat.ble al.length nt = true)
  (h : ∀ X : Ctx, X.H0 = H0 → PW E.P nt X c (frm 0 al) H0 (FinM E X rvs post)) : RetM E.P g H0 al post :=
 ret_ofPT hf hb hnt hrv hle (fun _ => Turn.refl) h
end
end Go.Proofs.YtmjjadcmmpfljaaGreat
