/- Texts for VDropInP. -/
import Derived.Test.YtmjjadcmmpfljaaGreatVd20
namespace Go.Proofs.YtmjjadcmmpfljaaGreat
open Go Go.RowKit
set_option linter.unusedVariables false
set_option linter.unusedSimpArgs false
set_option maxRecDepth 8000
theorem toInt64S_ok (l : List Int) (h : okL okI l) : Ret env.P 36 [slL 1 intC l] (fun r => r = slL 1 intC l) := by
 have hl := h.1
 refine Ret.to ?_
 refine ret_of (nt := 22) (rvs := [.tmp 2]) Tryz.func36 rfl rfl rfl rfl (fun X => ?_)
 conv => whnf
 refine ⟨⟨by omega, by omega, by dsimp only; omega, by omega⟩, ?_⟩
 conv => whnf
 refine loopN l.length (fun k => [(4, .i .i64 k)]) (fun k => [some (.arr ⟨1, l.length, fillE k (elE intC l) (fun _ j => [AV.i .i64 0].getD j .any), .arr⟩)]) (fun k => True) ⟨trivial, ?_⟩
 repeat' (first | exact aa | ((conv => whnf) <;> (first | exact arr_start rfl (fun _ _ => low_cells (rfl : (intC _).all (low1 0) = true)) (fun _ _ => low_cells rfl) | exact arr_round rfl rfl (fun _ _ => rfl) (fun _ _ => low_cells (rfl : (intC _).all (low1 0) = true)) (fun _ _ => low_cells rfl) | refine And.intro ?_ ?_ | (intro _h; first | contradiction | (try simp only [dd] at _h)) | (refine dt_go ?_) | exact rfl | exact True.intro | exact dkk | exact dks | (refine wrap_succ ?_; omega))))
 exact wk_fill rfl (by omega) rfl (fun _ => rfl)
theorem eqInt64S_ok (l m : List Int) (h : okL okI l) : Ret env.P 45 [slL 1 intC l, slL 1 intC m] (fun r => r = .b (decide (l = m))) := by
 have hl := h.1
 refine ret_of (nt := 26) (rvs := [.tmp 4]) Tryz.func45 rfl rfl rfl rfl (fun X => ?_)
 repeat' (first | exact aa | ((conv => whnf) <;> (first | exact upto_succ (by assumption) (by assumption) | refine loopN l.length (fun k => [(5, .i .i64 k)]) (fun k => []) (fun k => ∀ j, j < k → l.getD j default = m.getD j default) ⟨fun _ h => by omega, ?_⟩ | refine And.intro ?_ ?_ | (intro _h; first | contradiction | (try simp only [dd] at _h)) | (refine dt_go ?_) | exact rfl | exact True.intro | exact dkk | exact dks | (refine wrap_succ ?_; omega))))
 ·exact leaf_ne (by rintro rfl; omega)
 ·exact leaf_ne (by rintro rfl; contradiction)
 ·exact leaf_eq (list_eq (by omega) fun j hj => by have := ‹∀ j, j < _ → l.getD j default = m.getD j default›; exact this j (by omega))
theorem szInt64S_ok (l : List Int) (left : Int) (h0 : 0 ≤ left) (h1 : left ≤ 1048576) : Ret env.P 28 [slL 1 intC l, .i .i64 left] (fun r => r = .i .i64 (szFl l left)) := by
 refine Ret.args fun hw => ?_
 have hl := wfs_sl (hw _ (List.mem_cons_self))
 have e : IntKind.i64.wrap (left - (l.length : Int)) = left - (l.length : Int) := wrap_in (by omega) (by omega)
 refine ret_of (nt := 12) (rvs := [.tmp 4]) Tryz.func28 rfl rfl rfl rfl (fun X => ?_)
 repeat' (first | exact aa | ((conv => whnf) <;> (first | refine And.intro ?_ ?_ | (intro _h; first | contradiction | (try simp only [dd] at _h)) | (refine dt_go ?_) | exact rfl | exact True.intro | exact dkk | exact dks | (refine wrap_succ ?_; omega))))
 all_goals (refine leaf_i ?_; unfold szFl szN; rw [e] at _h; first | rw [if_pos (by omega)] | (rw [if_neg (by omega)]; exact e))
set_option maxRecDepth 8000
structure Call where
 id : Int
 caller : Int
 callee : Int
 args : List Int
 deriving DecidableEq, Inhabited
def Call.cs (a : Call) : List AV := [.i .i64 a.id, .i .i64 a.caller, .i .i64 a.callee, slL 1 intC a.args]
theorem Call.low (a : Call) : a.cs.all (low1 0) = true := rfl
theorem Call.eta {a b : Call} (h0 : a.id = b.id) (h1 : a.caller = b.caller) (h2 : a.callee = b.callee) (h3 : a.args = b.args) : a = b := by cases a; cases b; simp_all
def Call.ok (a : Call) : Prop := (okL okI) a.args
theorem toCall_ok (a : Call) (h : Call.ok a) : Ret env.P 75 [.agg a.cs] (fun r => r = .agg a.cs) := by
 refine ret_of (nt := 18) (rvs := [.cell 2 55]) Tryz.func75 rfl rfl rfl rfl (fun X => ?_)
 repeat' (first | exact aa | ((conv => whnf) <;> (first | refine And.intro ?_ ?_ | (intro _h; first | contradiction | (try simp only [dd] at _h)) | (refine dt_go ?_) | exact rfl | exact True.intro | exact dkk | exact dks | ((first | refine .inl ⟨_, toInt64S_ok _ h, ?_⟩ | refine ⟨_, toInt64S_ok _ h, ?_⟩); (try rintro _ rfl)) | (refine wrap_succ ?_; omega))))
theorem eqCall_ok (a b : Call) (h : Call.ok a) : Ret env.P 91 [.agg a.cs, .agg b.cs] (fun r => r = .b (decide (a = b))) := by
 obtain ⟨a0, a1, a2, a3⟩ := a
 obtain ⟨b0, b1, b2, b3⟩ := b
 refine ret_of (nt := 26) (rvs := [.tmp 4]) Tryz.func91 rfl rfl rfl rfl (fun X => ?_)
 repeat' (first | exact aa | ((conv => whnf) <;> (first | refine And.intro ?_ ?_ | (intro _h; first | contradiction | (try simp only [dd] at _h)) | (refine dt_go ?_) | exact rfl | exact True.intro | exact dkk | exact dks | ((first | refine .inl ⟨_, eqInt64S_ok _ _ h, ?_⟩ | refine ⟨_, eqInt64S_ok _ _ h, ?_⟩); (try rintro _ rfl)) | (refine wrap_succ ?_; omega))))
 all_goals (clear h; refine leaf_b ?_; simp_all)
def Call.sz (a : Call) (left : Int) : Int :=
 if (szFl a.args left) < 0 then -1 else (szFl a.args left)
theorem Call.sz_le (a : Call) (left : Int) (h1 : left ≤ 1048576) : Call.sz a left ≤ 1048576 := by
 have b1 : (szFl a.args left) ≤ 1048576 := szN_le h1
 unfold Call.sz
 repeat' split
 all_goals omega
theorem Call.sz_ok (a : Call) (left : Int) (h0 : 0 ≤ left) (h1 : left ≤ 1048576) (hn : ¬ Call.sz a left < 0) : Call.ok a := by
 have b1 : (szFl a.args left) ≤ 1048576 := szN_le h1
 unfold Call.sz at hn
 by_cases c1 : (szFl a.args left) < 0
 ·rw [if_pos c1] at hn; omega
 rw [if_neg c1] at hn
 exact szFl_ok (fun _ => trivial) h0 h1 c1
theorem szCall_ok (a : Call) (left : Int) (h0 : 0 ≤ left) (h1 : left ≤ 1048576) : Ret env.P 63 [.agg a.cs, .i .i64 left] (fun r => r = .i .i64 (Call.sz a left)) := by
 have b1 : (szFl a.args left) ≤ 1048576 := szN_le h1
 refine ret_of (nt := 12) (rvs := [.tmp 4]) Tryz.func63 rfl rfl rfl rfl (fun X => ?_)
 repeat' (first | exact aa | ((conv => whnf) <;> (first | refine And.intro ?_ ?_ | (intro _h; first | contradiction | (try simp only [dd] at _h)) | (refine dt_go ?_) | exact rfl | exact True.intro | exact dkk | exact dks | ((first | refine .inl ⟨_, szInt64S_ok _ _ (by omega) (by omega), ?_⟩ | refine ⟨_, szInt64S_ok _ _ (by omega) (by omega), ?_⟩); (try rintro _ rfl)) | (refine wrap_succ ?_; omega))))
 all_goals (refine leaf_i ?_; simp_all [Call.sz]; try (intros; omega))
theorem toCallS_ok (l : List Call) (h : okL Call.ok l) : Ret env.P 35 [slL 4 Call.cs l] (fun r => r = slL 4 Call.cs l) := by
 have hl := h.1
 refine Ret.to ?_
 refine ret_of (nt := 23) (rvs := [.tmp 2]) Tryz.func35 rfl rfl rfl rfl (fun X => ?_)
 conv => whnf
 refine ⟨⟨by omega, by omega, by dsimp only; omega, by omega⟩, ?_⟩
 conv => whnf
 refine loopN l.length (fun k => [(4, .i .i64 k)]) (fun k => [some (.arr ⟨4, l.length, fillE k (elE Call.cs l) (fun _ j => [AV.i .i64 0, AV.i .i64 0, AV.i .i64 0, AV.nils].getD j .any), .arr⟩)]) (fun k => True) ⟨trivial, ?_⟩
 repeat' (first | exact aa | ((conv => whnf) <;> (first | exact arr_start rfl (fun _ _ => low_cells (Call.low _)) (fun _ _ => low_cells rfl) | exact arr_round rfl rfl (fun _ _ => rfl) (fun _ _ => low_cells (Call.low _)) (fun _ _ => low_cells rfl) | refine And.intro ?_ ?_ | (intro _h; first | contradiction | (try simp only [dd] at _h)) | (refine dt_go ?_) | exact rfl | exact True.intro | exact dkk | exact dks | ((first | refine .inl ⟨_, toCall_ok _ (h.2 _ (by omega)), ?_⟩ | refine ⟨_, toCall_ok _ (h.2 _ (by omega)), ?_⟩); (try rintro _ rfl)) | (refine wrap_succ ?_; omega))))
 exact wk_fill rfl (by omega) rfl (fun _ => rfl)
theorem eqCallS_ok (l m : List Call) (h : okL Call.ok l) : Ret env.P 44 [slL 4 Call.cs l, slL 4 Call.cs m] (fun r => r = .b (decide (l = m))) := by
 have hl := h.1
 refine ret_of (nt := 27) (rvs := [.tmp 4]) Tryz.func44 rfl rfl rfl rfl (fun X => ?_)
 repeat' (first | exact aa | ((conv => whnf) <;> (first | exact upto_succ (by assumption) (by assumption) | refine loopN l.length (fun k => [(5, .i .i64 k)]) (fun k => []) (fun k => ∀ j, j < k → l.getD j default = m.getD j default) ⟨fun _ h => by omega, ?_⟩ | refine And.intro ?_ ?_ | (intro _h; first | contradiction | (try simp only [dd] at _h)) | (refine dt_go ?_) | exact rfl | exact True.intro | exact dkk | exact dks | ((first | refine .inl ⟨_, eqCall_ok _ _ (h.2 _ (by omega)), ?_⟩ | refine ⟨_, eqCall_ok _ _ (h.2 _ (by omega)), ?_⟩); (try rintro _ rfl)) | (refine wrap_succ ?_; omega))))
 ·exact leaf_ne (by rintro rfl; omega)
 ·exact leaf_ne (by rintro rfl; contradiction)
 ·exact leaf_eq (list_eq (by omega) fun j hj => by have := ‹∀ j, j < _ → l.getD j default = m.getD j default›; exact this j (by omega))
theorem szCallS_ok (l : List Call) (left : Int) (h0 : 0 ≤ left) (h1 : left ≤ 1048576) : Ret env.P 27 [slL 4 Call.cs l, .i .i64 left] (fun r => r = .i .i64 (szLs Call.sz l left)) := by
 refine Ret.args fun hw => ?_
 have hl := wfs_sl (hw _ (List.mem_cons_self))
 have e : IntKind.i64.wrap (left - (l.length : Int)) = left - (l.length : Int) := wrap_in (by omega) (by omega)
 refine ret_of (nt := 27) (rvs := [.tmp 4]) Tryz.func27 rfl rfl rfl rfl (fun X => ?_)
 conv => whnf
 rw [e]
 refine ⟨fun _h => ?_, fun _h => ?_⟩
 ·exact leaf_i (szLs_neg (of_decide_eq_true _h))
 have _h : ¬ (left - (l.length : Int) < 0) := fun hc => _h (decide_eq_true hc)
 conv => whnf
 refine loopN l.length (fun k => [(5, .i .i64 k), (1, .i .i64 (szAt Call.sz l (left - l.length) k))]) (fun k => []) (fun k => SzI Call.sz l (left - l.length) k) ⟨.start (by omega) (by omega), ?_⟩
 repeat' (first | exact aa | ((conv => whnf) <;> (first | exact SzI.step (fun a v h => Call.sz_le a v h) (by assumption) (by assumption) (by assumption) | refine And.intro ?_ ?_ | (intro _h; first | contradiction | (try simp only [dd] at _h)) | (refine dt_go ?_) | exact rfl | exact True.intro | exact dkk | exact dks | ((first | refine .inl ⟨_, szCall_ok _ _ (SzI.lo ‹_›) (SzI.hi ‹_›), ?_⟩ | refine ⟨_, szCall_ok _ _ (SzI.lo ‹_›) (SzI.hi ‹_›), ?_⟩); (try rintro _ rfl)) | (refine wrap_succ ?_; omega))))
 all_goals first | exact leaf_i (SzI.neg ‹SzI _ _ _ _› (by assumption) (by assumption) (by assumption)) | exact leaf_i (SzI.fin ‹SzI _ _ _ _› (by assumption) (by assumption))
set_option maxRecDepth 8000
structure Yard where
 shelf : Shelf
 stack : List Call
 next : Int
 dead : List Int
 deriving DecidableEq, Inhabited
def Yard.cs (a : Yard) : List AV := [.i .i64 a.shelf.next, slL 2 Table.cs a.shelf.tables, slL 3 Thing.cs a.shelf.things, slL 4 Call.cs a.stack, .i .i64 a.next, slL 1 intC a.dead]
theorem Yard.low (a : Yard) : a.cs.all (low1 0) = true := rfl
theorem Yard.eta {a b : Yard} (h0 : a.shelf = b.shelf) (h1 : a.stack = b.stack) (h2 : a.next = b.next) (h3 : a.dead = b.dead) : a = b := by cases a; cases b; simp_all
def Yard.ok (a : Yard) : Prop := Shelf.ok a.shelf ∧ (okL Call.ok) a.stack ∧ (okL okI) a.dead
theorem toYard_ok (a : Yard) (h : Yard.ok a) : Ret env.P 8 [.agg a.cs] (fun r => r = .agg a.cs) := by
 refine ret_of (nt := 20) (rvs := [.cell 2 37]) Tryz.func8 rfl rfl rfl rfl (fun X => ?_)
 repeat' (first | exact aa | ((conv => whnf) <;> (first | refine And.intro ?_ ?_ | (intro _h; first | contradiction | (try simp only [dd] at _h)) | (refine dt_go ?_) | exact rfl | exact True.intro | exact dkk | exact dks | ((first | refine .inl ⟨_, toShelf_ok _ h.1, ?_⟩ | refine ⟨_, toShelf_ok _ h.1, ?_⟩); (try rintro _ rfl)) | ((first | refine .inl ⟨_, toCallS_ok _ h.2.1, ?_⟩ | refine ⟨_, toCallS_ok _ h.2.1, ?_⟩); (try rintro _ rfl)) | ((first | refine .inl ⟨_, toInt64S_ok _ h.2.2, ?_⟩ | refine ⟨_, toInt64S_ok _ h.2.2, ?_⟩); (try rintro _ rfl)) | (refine wrap_succ ?_; omega))))
theorem eqYard_ok (a b : Yard) (h : Yard.ok a) : Ret env.P 10 [.agg a.cs, .agg b.cs] (fun r => r = .b (decide (a = b))) := by
 obtain ⟨a0, a1, a2, a3⟩ := a
 obtain ⟨b0, b1, b2, b3⟩ := b
 refine ret_of (nt := 28) (rvs := [.tmp 4]) Tryz.func10 rfl rfl rfl rfl (fun X => ?_)
 repeat' (first | exact aa | ((conv => whnf) <;> (first | refine And.intro ?_ ?_ | (intro _h; first | contradiction | (try simp only [dd] at _h)) | (refine dt_go ?_) | exact rfl | exact True.intro | exact dkk | exact dks | ((first | refine .inl ⟨_, eqShelf_ok _ _ h.1, ?_⟩ | refine ⟨_, eqShelf_ok _ _ h.1, ?_⟩); (try rintro _ rfl)) | ((first | refine .inl ⟨_, eqCallS_ok _ _ h.2.1, ?_⟩ | refine ⟨_, eqCallS_ok _ _ h.2.1, ?_⟩); (try rintro _ rfl)) | ((first | refine .inl ⟨_, eqInt64S_ok _ _ h.2.2, ?_⟩ | refine ⟨_, eqInt64S_ok _ _ h.2.2, ?_⟩); (try rintro _ rfl)) | (refine wrap_succ ?_; omega))))
 all_goals (clear h; refine leaf_b ?_; simp_all)
def Yard.sz (a : Yard) (left : Int) : Int :=
 if (Shelf.sz a.shelf left) < 0 then -1 else if ((szLs Call.sz) a.stack (Shelf.sz a.shelf left)) < 0 then -1 else if (szFl a.dead ((szLs Call.sz) a.stack (Shelf.sz a.shelf left))) < 0 then -1 else (szFl a.dead ((szLs Call.sz) a.stack (Shelf.sz a.shelf left)))
theorem Yard.sz_le (a : Yard) (left : Int) (h1 : left ≤ 1048576) : Yard.sz a left ≤ 1048576 := by
 have b1 : (Shelf.sz a.shelf left) ≤ 1048576 := Shelf.sz_le _ _ h1
 have b2 : ((szLs Call.sz) a.stack (Shelf.sz a.shelf left)) ≤ 1048576 := szLs_le (fun a v h => Call.sz_le a v h) b1
 have b3 : (szFl a.dead ((szLs Call.sz) a.stack (Shelf.sz a.shelf left))) ≤ 1048576 := szN_le b2
 unfold Yard.sz
 repeat' split
 all_goals omega
theorem Yard.sz_ok (a : Yard) (left : Int) (h0 : 0 ≤ left) (h1 : left ≤ 1048576) (hn : ¬ Yard.sz a left < 0) : Yard.ok a := by
 have b1 : (Shelf.sz a.shelf left) ≤ 1048576 := Shelf.sz_le _ _ h1
 have b2 : ((szLs Call.sz) a.stack (Shelf.sz a.shelf left)) ≤ 1048576 := szLs_le (fun a v h => Call.sz_le a v h) b1
 have b3 : (szFl a.dead ((szLs Call.sz) a.stack (Shelf.sz a.shelf left))) ≤ 1048576 := szN_le b2
 unfold Yard.sz at hn
 by_cases c1 : (Shelf.sz a.shelf left) < 0
 ·rw [if_pos c1] at hn; omega
 rw [if_neg c1] at hn
 by_cases c2 : ((szLs Call.sz) a.stack (Shelf.sz a.shelf left)) < 0
 ·rw [if_pos c2] at hn; omega
 rw [if_neg c2] at hn
 by_cases c3 : (szFl a.dead ((szLs Call.sz) a.stack (Shelf.sz a.shelf left))) < 0
 ·rw [if_pos c3] at hn; omega
 rw [if_neg c3] at hn
 exact ⟨Shelf.sz_ok _ _ h0 h1 c1, szLs_ok (fun a v h => Call.sz_le a v h) (fun a v h0 h1 hn => Call.sz_ok a v h0 h1 hn) (by omega) b1 c2, szFl_ok (fun _ => trivial) (by omega) b2 c3⟩
theorem szYard_ok (a : Yard) (left : Int) (h0 : 0 ≤ left) (h1 : left ≤ 1048576) : Ret env.P 6 [.agg a.cs, .i .i64 left] (fun r => r = .i .i64 (Yard.sz a left)) := by
 have b1 : (Shelf.sz a.shelf left) ≤ 1048576 := Shelf.sz_le _ _ h1
 have b2 : ((szLs Call.sz) a.stack (Shelf.sz a.shelf left)) ≤ 1048576 := szLs_le (fun a v h => Call.sz_le a v h) b1
 have b3 : (szFl a.dead ((szLs Call.sz) a.stack (Shelf.sz a.shelf left))) ≤ 1048576 := szN_le b2
 refine ret_of (nt := 24) (rvs := [.tmp 4]) Tryz.func6 rfl rfl rfl rfl (fun X => ?_)
 repeat' (first | exact aa | ((conv => whnf) <;> (first | refine And.intro ?_ ?_ | (intro _h; first | contradiction | (try simp only [dd] at _h)) | (refine dt_go ?_) | exact rfl | exact True.intro | exact dkk | exact dks | ((first | refine .inl ⟨_, szShelf_ok _ _ (by omega) (by omega), ?_⟩ | refine ⟨_, szShelf_ok _ _ (by omega) (by omega), ?_⟩); (try rintro _ rfl)) | ((first | refine .inl ⟨_, szCallS_ok _ _ (by omega) (by omega), ?_⟩ | refine ⟨_, szCallS_ok _ _ (by omega) (by omega), ?_⟩); (try rintro _ rfl)) | ((first | refine .inl ⟨_, szInt64S_ok _ _ (by omega) (by omega), ?_⟩ | refine ⟨_, szInt64S_ok _ _ (by omega) (by omega), ?_⟩); (try rintro _ rfl)) | (refine wrap_succ ?_; omega))))
 all_goals (refine leaf_i ?_; simp_all [Yard.sz]; try (intros; omega))
set_option maxRecDepth 8000
instance : HoldC intC := holdC_plain fun _ => rfl
instance : FreeC intC := freeC_plain fun _ => rfl
instance : Shr 0 intC intC := shr_plain fun _ => rfl
def Int64.mkE (a : Int) (k : Int) : Int × Int := (k, (k + 1))
theorem Int64.mkE_mono (a : Int) (k : Int) : k ≤ (Int64.mkE a k).2 := by simp only [Int64.mkE]; omega
theorem Int64.mkE_idem (a : Int) (k : Int) : Int64.mkE (Int64.mkE a k).1 k = Int64.mkE a k := by simp only [Int64.mkE]
theorem toInt64SO_ok (l : List Int) (h : okL okI l) : RetM env.P 36 [] [slL 1 intC l] (fun r H => r = .row 0 l.length ∧ H = [some (rowL 1 intC l)]) := by
 have hl := h.1
 refine ret_ofM (nt := 22) (rvs := [.tmp 2]) Tryz.func36 rfl rfl rfl rfl (fun X hX => ?_)
 conv => whnf
 refine ⟨⟨by omega, by omega, by dsimp only; omega, by omega⟩, ?_⟩
 conv => whnf
 refine loopN l.length (fun k => [(4, .i .i64 k)]) (fun k => [some (.arr ⟨1, l.length, fillE k (elE intC l) (fun _ j => [AV.i .i64 0].getD j .any), .arr⟩)]) (fun k => True) ⟨trivial, ?_⟩
 repeat' (first | exact aa | ((conv => whnf) <;> (first | exact arr_start rfl (fun _ _ => low_cells rfl) (fun _ _ => low_cells rfl) | exact arr_round rfl rfl (fun _ _ => rfl) (fun _ _ => low_cells rfl) (fun _ _ => low_cells rfl) | refine And.intro ?_ ?_ | (intro _h; first | contradiction | (try simp only [dd] at _h)) | (refine dt_go ?_) | exact rfl | exact True.intro | exact dkk | exact dks | (refine wrap_succ ?_; omega))))
 exact endM_rowL (l := l) (c := intC) rfl (fun i j hi hj => fill_end (by omega)) ⟨rfl, rfl⟩
theorem markInt64S_ok (l : List Int) (k : Int) (h0 : 0 ≤ k) (hk : (markL Int64.mkE l k).2 ≤ 4611686018427387904) (hl : l.length ≤ 1048576) : RetM env.P 48 [some (rowL 1 intC l)] [.row 0 l.length, .i .i64 k] (fun r H => r = .i .i64 (markL Int64.mkE l k).2 ∧ H = [some (rowL 1 intC (markL Int64.mkE l k).1)]) := by
 refine ret_ofM (nt := 19) (rvs := [.tmp 4]) Tryz.func48 rfl rfl rfl rfl (fun X hX => ?_)
 conv => whnf
 refine loopN l.length (fun i => [(5, .i .i64 i), (1, .i .i64 (mkC Int64.mkE l k i))]) (fun i => [some (.arr ⟨1, l.length, elE intC (mkL Int64.mkE l k i), .arr⟩)]) (fun i => True) ⟨trivial, ?_⟩
 repeat' (first | exact aa | ((conv => whnf) <;> (first | exact mkC_zero.symm | exact arr_same mkL_zero rfl (fun a j => low_cells rfl) | refine And.intro ?_ ?_ | (intro _h; first | contradiction | (try simp only [dd] at _h)) | (refine dt_go ?_) | exact rfl | exact True.intro | exact dkk | exact dks | (refine wrap_succ ?_; omega))))
 ·rename_i i _ _
  have q1 := mkC_le (l := l) (k := k) Int64.mkE_mono (i + 1)
  have q2 := mkC_ge (l := l) (k := k) Int64.mkE_mono i
  rw [mkC_succ (by omega)] at q1
  rw [mkC_succ (by omega)]
  simp only [Int64.mkE] at q1 ⊢
  simp (disch := omega) only [wrap_in]
 ·rename_i i _ _
  have q1 := mkC_le (l := l) (k := k) Int64.mkE_mono (i + 1)
  have q2 := mkC_ge (l := l) (k := k) Int64.mkE_mono i
  rw [mkC_succ (by omega)] at q1
  simp only [Int64.mkE] at q1
  conv => whnf
  refine arr_set (mkL_succ (by omega)) (by rw [mkL_len]; omega) rfl (fun a j => low_cells rfl) ?_ ?_
  ·intro j hj
   obtain rfl : j = 0 := by omega
   all_goals (simp (disch := omega) only [upd, Nat.beq_refl, wrap_in, Int.toNat_natCast]; rfl)
  ·intro a j hne
   simp only [upd, beq_ff hne, Bool.and_false, cond_false, Int.toNat_natCast]
 ·exact endM_self ⟨congrArg _ (mkC_end (by omega)), rowL_end (by omega)⟩
theorem markInt64S_nil (k : Int) : Ret env.P 48 [.nils, .i .i64 k] (fun r => r = .i .i64 k) := by
 refine ret_of (nt := 19) (rvs := [.tmp 4]) Tryz.func48 rfl rfl rfl rfl (fun X => ?_)
 repeat' (first | exact aa | ((conv => whnf) <;> (first | refine loopN 0 (fun i => [(5, .i .i64 i), (1, .i .i64 k)]) (fun i => []) (fun i => True) ⟨trivial, ?_⟩ | refine And.intro ?_ ?_ | (intro _h; first | contradiction | (try simp only [dd] at _h)) | (refine dt_go ?_) | exact rfl | exact True.intro | exact dkk | exact dks | (refine wrap_succ ?_; omega))))
 all_goals first | rfl | omega
theorem heldInt64S_ok (l : List Int) (k : Int) (h0 : 0 ≤ k) (hk : (markL Int64.mkE l k).2 ≤ 4611686018427387904) (hl : l.length ≤ 1048576) : Ret env.P 51 [slL 1 intC l, .i .i64 k] (fun r => r = .i .i64 (heldI l (markL Int64.mkE l k))) := by
 refine ret_of (nt := 21) (rvs := [.tmp 4]) Tryz.func51 rfl rfl rfl rfl (fun X => ?_)
 repeat' (first | exact aa | ((conv => whnf) <;> (first | refine loopN l.length (fun i => [(5, .i .i64 i), (1, .i .i64 (mkC Int64.mkE l k i))]) (fun i => []) (fun i => HeldUp Int64.mkE l k i) ⟨heldUp_zero, ?_⟩ | exact mkC_zero.symm | refine And.intro ?_ ?_ | (intro _h; first | contradiction | (try simp only [dd] at _h)) | (refine dt_go ?_) | exact rfl | exact True.intro | exact dkk | exact dks | (refine wrap_succ ?_; omega))))
 all_goals (first | (conv => whnf) | skip)
 all_goals (try simp only [Int.toNat_natCast] at *)
 all_goals first
  | exact leaf_i (held_end ‹HeldUp _ l k _› (by omega))
  | (have q := held_rng Int64.mkE_mono ‹HeldUp Int64.mkE l k _› (by omega)
     simp only [Int64.mkE] at q
     have q1 := q.1
     have q2 := q.2
     clear q
     (try simp (disch := omega) only [wrap_in, bne_iff_ne, ne_eq, bne_eq_false_iff_eq] at *)
     first
      | (rw [mkC_succ (by omega)]; done)
      | (rw [mkC_succ (by omega)]; rfl)
      | exact heldUp_succ ‹_› (‹_›)
      | (refine leaf_i (held_no ‹HeldUp Int64.mkE l k _› (by omega) fun e => ?_); first | exact _h e))
theorem heldInt64S_or (l : List Int) (k : Int) (h0 : 0 ≤ k) (hk : (markL Int64.mkE l k).2 ≤ 4611686018427387904) (hl : l.length ≤ 1048576) : Ret env.P 51 [slL 1 intC l, .i .i64 k] (fun y => (l = (markL Int64.mkE l k).1 ∧ k ≤ (markL Int64.mkE l k).2 ∧ y = .i .i64 (markL Int64.mkE l k).2) ∨ (¬ l = (markL Int64.mkE l k).1 ∧ y = .i .i64 (-1))) :=
 (heldInt64S_ok l k h0 hk hl).mono fun y hy => by
  subst hy
  obtain ⟨h1, h2⟩ | ⟨h1, h2⟩ := heldI_cases l (markL Int64.mkE l k)
  ·exact .inl ⟨h1, markL_mono Int64.mkE_mono l k, by rw [h2]⟩
  ·exact .inr ⟨h1, by rw [h2]⟩
set_option maxRecDepth 8000
def Call.csO (a : Call) : List AV := [.i .i64 a.id, .i .i64 a.caller, .i .i64 a.callee, owL 1 intC a.args]
instance : HoldC Call.csO := ⟨fun a => (idf_cons trivial (idf_cons trivial (idf_cons trivial (idf_cons owL_idf idf_nil))))⟩
instance : FreeC Call.csO := ⟨fun a => (free_cons trivial (free_cons trivial (free_cons trivial (free_cons owL_free free_nil))))⟩
instance : Shr 1 Call.csO Call.cs := ⟨fun H k a => (.cons (.refl _) (.cons (.refl _) (.cons (.refl _) (.cons (shr_ow (d := 0) (k := k + 0)) .nil))))⟩
def Call.resO (a : Call) : List AV := [.i .i64 a.id, .i .i64 a.caller, .i .i64 a.callee, .row 0 a.args.length]
def Call.rowsO (a : Call) : Hp := [some (rowL 1 intC a.args)]
theorem toCallO_ok (a : Call) (h : Call.ok a) : RetM env.P 75 [] [.agg a.cs] (fun r H => r = .agg a.resO ∧ H = a.rowsO) := by
 refine ret_ofM (nt := 18) (rvs := [.cell 2 55]) Tryz.func75 rfl rfl rfl rfl (fun X hX => ?_)
 repeat' (first | exact aa | ((conv => whnf) <;> (first | refine And.intro ?_ ?_ | (intro _h; first | contradiction | (try simp only [dd] at _h)) | (refine dt_go ?_) | exact rfl | exact True.intro | exact dkk | exact dks | (refine .inr (.inl (.inl ⟨[], _, _, _, toInt64SO_ok _ h, viewA, ⟨rfl, rfl⟩, ?_⟩)); rintro _ _ ⟨rfl, rfl⟩; refine ⟨rfl, _, lokA, ?_⟩) | (refine wrap_succ ?_; omega))))
 exact endM_pick [3] a.rowsO (.agg a.resO) viewA rfl rfl (fun k hk => by rw [hX] at hk; exact absurd hk (Nat.not_lt_zero _)) ⟨rfl, rfl⟩
def Call.mkE (a : Call) (k : Int) : Call × Int := (⟨k, (k + 1), ((k + 1) + 1), (markL Int64.mkE a.args (((k + 1) + 1) + 1)).1⟩, (markL Int64.mkE a.args (((k + 1) + 1) + 1)).2)
theorem Call.mkE_mono (a : Call) (k : Int) : k ≤ (Call.mkE a k).2 := by have m0 := markL_mono Int64.mkE_mono a.args (((k + 1) + 1) + 1); simp only [Call.mkE]; omega
theorem Call.mkE_ok (a : Call) (k : Int) (h : Call.ok a) : Call.ok (Call.mkE a k).1 := (okL_mark (fun _ _ _ => trivial) h)
theorem Call.mkE_idem (a : Call) (k : Int) : Call.mkE (Call.mkE a k).1 k = Call.mkE a k := by simp only [Call.mkE, markL_idem Int64.mkE_idem]
theorem toCallSO_ok (l : List Call) (h : okL Call.ok l) : RetM env.P 35 [] [slL 4 Call.cs l] (fun r H => r = .row 0 l.length ∧ H = [some (rowL 4 Call.csO l)]) := by
 have hl := h.1
 refine ret_ofM (nt := 23) (rvs := [.tmp 2]) Tryz.func35 rfl rfl rfl rfl (fun X hX => ?_)
 conv => whnf
 refine ⟨⟨by omega, by omega, by dsimp only; omega, by omega⟩, ?_⟩
 conv => whnf
 refine loopNT l.length (fun k => [(4, .i .i64 k)]) (fun k => [some (.arr ⟨4, l.length, fillE k (elE Call.csO l) (fun _ j => [AV.i .i64 0, AV.i .i64 0, AV.i .i64 0, AV.nils].getD j .any), .arr⟩)]) (fun k => True) ⟨trivial, ?_⟩
 repeat' (first | exact aa | ((conv => whnf) <;> (first | exact arr_start rfl (fun _ _ => low_cells rfl) (fun _ _ => low_cells rfl) | refine And.intro ?_ ?_ | (intro _h; first | contradiction | (try simp only [dd] at _h)) | (refine dt_go ?_) | exact rfl | exact True.intro | exact dkk | exact dks | (refine .inr (.inl (.inl ⟨[], _, _, _, toCallO_ok _ (h.2 _ (by omega)), viewA, ⟨rfl, rfl⟩, ?_⟩)); rintro _ _ ⟨rfl, rfl⟩; refine ⟨rfl, _, lokA, ?_⟩) | (refine wrap_succ ?_; omega))))
 ·have hi : ‹Nat› < l.length := by omega
  refine ⟨_, (turn_close (id := 0) (j := 3) (id' := 1) rfl (by omega) (show 3 < 4 by decide) (by simp only [upd, Nat.beq_refl, Int.toNat_natCast]; rfl) rfl (by decide) rfl (rowO_le (by first | exact Nat.le_refl _ | (simp only [markL_len]; exact Nat.le_refl _)))), ?_⟩
  repeat' (first | exact aa | ((conv => whnf) <;> (first | refine And.intro ?_ ?_ | (intro _h; first | contradiction | (try simp only [dd] at _h)) | (refine dt_go ?_) | exact rfl | exact True.intro | exact dkk | exact dks | (refine wrap_succ ?_; omega))))
  conv => whnf
  refine arr_fill rfl (fun _ _ => low_cells rfl) (fun _ _ => low_cells rfl) ?_ ?_
  ·intro j hj
   rcases (show j = 0 ∨ j = 1 ∨ j = 2 ∨ j = 3 by omega) with rfl | rfl | rfl | rfl
   all_goals (simp only [upd, Nat.beq_refl, Int.toNat_natCast]; rfl)
  ·intro a j hne
   simp only [upd, beq_ff hne, Bool.and_false, cond_false, Int.toNat_natCast]
 ·exact endM_rowL (l := l) (c := Call.csO) rfl (fun i j hi hj => fill_end (by omega)) ⟨rfl, rfl⟩
theorem markCallS_ok (l : List Call) (k : Int) (h0 : 0 ≤ k) (hk : (markL Call.mkE l k).2 ≤ 4611686018427387904) (hl : okL Call.ok l) : RetM env.P 47 [some (rowL 4 Call.csO l)] [.row 0 l.length, .i .i64 k] (fun r H => r = .i .i64 (markL Call.mkE l k).2 ∧ H = [some (rowL 4 Call.csO (markL Call.mkE l k).1)]) := by
 have hl1 := hl.1
 refine ret_ofM (nt := 41) (rvs := [.tmp 4]) Tryz.func47 rfl rfl rfl rfl (fun X hX => ?_)
 conv => whnf
 refine loopNT l.length (fun i => [(5, .i .i64 i), (1, .i .i64 (mkC Call.mkE l k i))]) (fun i => [some (.arr ⟨4, l.length, elE Call.csO (mkL Call.mkE l k i), .arr⟩)]) (fun i => MarkUp Call.mkE l k i) ⟨markUp_zero Call.mkE_mono h0 hk, ?_⟩
 repeat' (first | exact aa | ((conv => whnf) <;> (first | exact mkC_zero.symm | exact arr_same mkL_zero rfl (fun a j => low_cells rfl) | (rename_i i _ hM; have hi : i < l.length := (by omega); have q1 := hM.le hi; have q2 := hM.lo; simp only [Call.mkE] at q1; have m0 := markL_mono Int64.mkE_mono (l.getD i default).args (((mkC Call.mkE l k i + 1) + 1) + 1); refine .inr (.inl (.inl ⟨[1], _, _, _, markInt64S_ok _ _ (by simp (disch := omega) only [wrap_in, Int.toNat_natCast, mkL_at hi]; omega) (by simp (disch := omega) only [wrap_in, Int.toNat_natCast, mkL_at hi]; omega) (by simp (disch := omega) only [wrap_in, Int.toNat_natCast, mkL_at hi]; exact (hl.2 _ hi).1), viewA, ⟨rfl, rfl⟩, ?_⟩)); rintro _ _ ⟨rfl, rfl⟩; refine ⟨rfl, _, lokA, ?_⟩) | refine And.intro ?_ ?_ | (intro _h; first | contradiction | (try simp only [dd] at _h)) | (refine dt_go ?_) | exact rfl | exact True.intro | exact dkk | exact dks | (refine wrap_succ ?_; omega))))
 ·refine ⟨_, (turn_close (id := 0) (j := 3) (id' := 1) rfl (by omega) (show 3 < 4 by decide) (by simp only [upd, Nat.beq_refl, Int.toNat_natCast]; rfl) rfl (by decide) rfl (rowO_le (by first | exact Nat.le_refl _ | (simp only [markL_len]; exact Nat.le_refl _)))), ?_⟩
  repeat' (first | exact aa | ((conv => whnf) <;> (first | exact markUp_succ hM h0 | refine And.intro ?_ ?_ | (intro _h; first | contradiction | (try simp only [dd] at _h)) | (refine dt_go ?_) | exact rfl | exact True.intro | exact dkk | exact dks | (refine wrap_succ ?_; omega))))
  ·rw [mkC_succ hi]
   simp only [Call.mkE]
   simp (disch := omega) only [wrap_in, Int.toNat_natCast, mkL_at hi]
  ·conv => whnf
   refine arr_set (mkL_succ hi) (by rw [mkL_len]; omega) rfl (fun a j => low_cells rfl) ?_ ?_
   ·intro j hj
    rcases (show j = 0 ∨ j = 1 ∨ j = 2 ∨ j = 3 by omega) with rfl | rfl | rfl | rfl
    all_goals (simp (disch := omega) only [upd, Nat.beq_refl, wrap_in, Int.toNat_natCast, mkL_at hi, Call.csO, Call.mkE, owL, markL_len]; rfl)
   ·intro a j hne
    simp only [upd, beq_ff hne, Bool.and_false, cond_false, Int.toNat_natCast]
 ·exact endM_self ⟨congrArg _ (mkC_end (by omega)), rowL_end (by omega)⟩
theorem markCallS_nil (k : Int) : Ret env.P 47 [.nils, .i .i64 k] (fun r => r = .i .i64 k) := by
 refine ret_of (nt := 41) (rvs := [.tmp 4]) Tryz.func47 rfl rfl rfl rfl (fun X => ?_)
 repeat' (first | exact aa | ((conv => whnf) <;> (first | refine loopN 0 (fun i => [(5, .i .i64 i), (1, .i .i64 k)]) (fun i => []) (fun i => True) ⟨trivial, ?_⟩ | refine And.intro ?_ ?_ | (intro _h; first | contradiction | (try simp only [dd] at _h)) | (refine dt_go ?_) | exact rfl | exact True.intro | exact dkk | exact dks | (refine wrap_succ ?_; omega))))
 all_goals first | rfl | omega
theorem heldCallS_ok (l : List Call) (k : Int) (h0 : 0 ≤ k) (hk : (markL Call.mkE l k).2 ≤ 4611686018427387904) (hl : okL Call.ok l) : Ret env.P 50 [slL 4 Call.cs l, .i .i64 k] (fun r => r = .i .i64 (heldI l (markL Call.mkE l k))) := by
 have hl1 := hl.1
 refine ret_of (nt := 49) (rvs := [.tmp 4]) Tryz.func50 rfl rfl rfl rfl (fun X => ?_)
 repeat' (first | exact aa | ((conv => whnf) <;> (first | refine loopN l.length (fun i => [(5, .i .i64 i), (1, .i .i64 (mkC Call.mkE l k i))]) (fun i => []) (fun i => HeldUp Call.mkE l k i) ⟨heldUp_zero, ?_⟩ | exact mkC_zero.symm | (have hU := ‹HeldUp Call.mkE l k _›; have hq := held_rng Call.mkE_mono hU (by omega); have hok := held_get hU (by omega) hl; simp only [Call.mkE] at hq; have q1 := hq.1; have q2 := hq.2; have m0 := held_m0 Int64.mkE_mono q2; (first | refine .inl ⟨_, heldInt64S_or _ _ (by (try simp (disch := omega) only [wrap_in, Int.toNat_natCast]); omega) (by (try simp (disch := omega) only [wrap_in, Int.toNat_natCast]); omega) hok.1, ?_⟩ | refine ⟨_, heldInt64S_or _ _ (by (try simp (disch := omega) only [wrap_in, Int.toNat_natCast]); omega) (by (try simp (disch := omega) only [wrap_in, Int.toNat_natCast]); omega) hok.1, ?_⟩); clear hU hq hok; rintro _ (⟨_, _, rfl⟩ | ⟨_, rfl⟩)) | refine And.intro ?_ ?_ | (intro _h; first | contradiction | (try simp only [dd] at _h)) | (refine dt_go ?_) | exact rfl | exact True.intro | exact dkk | exact dks | (refine wrap_succ ?_; omega))))
 all_goals (first | (conv => whnf) | skip)
 all_goals (try simp only [Int.toNat_natCast] at *)
 all_goals first
  | exact leaf_i (held_end ‹HeldUp _ l k _› (by omega))
  | (have q := held_rng Call.mkE_mono ‹HeldUp Call.mkE l k _› (by omega)
     simp only [Call.mkE] at q
     have q1 := q.1
     have q2 := q.2
     clear q
     have m0 := held_m0 Int64.mkE_mono q2
     (try simp (disch := omega) only [wrap_in, bne_iff_ne, ne_eq, bne_eq_false_iff_eq] at *)
     first
      | omega
      | (rw [mkC_succ (by omega)]; done)
      | (rw [mkC_succ (by omega)]; rfl)
      | exact heldUp_succ ‹_› (Call.eta ‹_› ‹_› ‹_› ‹_›)
      | (refine leaf_i (held_no ‹HeldUp Call.mkE l k _› (by omega) fun e => ?_); first | (have e1 := congrArg (fun a => a.id) e; simp only [Call.mkE] at e1; contradiction) | (have e1 := congrArg (fun a => a.caller) e; simp only [Call.mkE] at e1; contradiction) | (have e1 := congrArg (fun a => a.callee) e; simp only [Call.mkE] at e1; contradiction) | (have e1 := congrArg (fun a => a.args) e; simp only [Call.mkE] at e1; contradiction)))
theorem heldCallS_or (l : List Call) (k : Int) (h0 : 0 ≤ k) (hk : (markL Call.mkE l k).2 ≤ 4611686018427387904) (hl : okL Call.ok l) : Ret env.P 50 [slL 4 Call.cs l, .i .i64 k] (fun y => (l = (markL Call.mkE l k).1 ∧ k ≤ (markL Call.mkE l k).2 ∧ y = .i .i64 (markL Call.mkE l k).2) ∨ (¬ l = (markL Call.mkE l k).1 ∧ y = .i .i64 (-1))) :=
 (heldCallS_ok l k h0 hk hl).mono fun y hy => by
  subst hy
  obtain ⟨h1, h2⟩ | ⟨h1, h2⟩ := heldI_cases l (markL Call.mkE l k)
  ·exact .inl ⟨h1, markL_mono Call.mkE_mono l k, by rw [h2]⟩
  ·exact .inr ⟨h1, by rw [h2]⟩
end Go.Proofs.YtmjjadcmmpfljaaGreat
