/- Texts for VDropInP. -/
import Derived.Test.YtmjjadcmmpfljaaGreatVd20
namespace Go.Proofs.YtmjjadcmmpfljaaGreat
open Go Go.RowKit
set_option linter.unusedVariables false
set_option linter.unusedSimpArgs false
set_option maxRecDepth 8000
instance : HoldC Thing.cs := holdC_plain fun _ => rfl
instance : FreeC Thing.cs := freeC_plain fun _ => rfl
instance : Shr 0 Thing.cs Thing.cs := shr_plain fun _ => rfl
def Thing.mkE (a : Thing) (k : Int) : Thing × Int := (⟨k, (k + 1), ((k + 1) + 1)⟩, (((k + 1) + 1) + 1))
theorem Thing.mkE_mono (a : Thing) (k : Int) : k ≤ (Thing.mkE a k).2 := by simp only [Thing.mkE]; omega
theorem Thing.mkE_ok (a : Thing) (k : Int) (h : Thing.ok a) : Thing.ok (Thing.mkE a k).1 := trivial
theorem Thing.mkE_idem (a : Thing) (k : Int) : Thing.mkE (Thing.mkE a k).1 k = Thing.mkE a k := by simp only [Thing.mkE]
theorem toThingSO_ok (l : List Thing) (h : okL Thing.ok l) : RetM env.P 74 [] [slL 3 Thing.cs l] (fun r H => r = .row 0 l.length ∧ H = [some (rowL 3 Thing.cs l)]) := by
 have hl := h.1
 refine ret_ofM (nt := 23) (rvs := [.tmp 2]) Tryz.func74 rfl rfl rfl rfl (fun X hX => ?_)
 conv => whnf
 refine ⟨⟨by omega, by omega, by dsimp only; omega, by omega⟩, ?_⟩
 conv => whnf
 refine loopN l.length (fun k => [(4, .i .i64 k)]) (fun k => [some (.arr ⟨3, l.length, fillE k (elE Thing.cs l) (fun _ j => [AV.i .i64 0, AV.i .i64 0, AV.i .i64 0].getD j .any), .arr⟩)]) (fun k => True) ⟨trivial, ?_⟩
 repeat' (first | exact aa | ((conv => whnf) <;> (first | exact arr_start rfl (fun _ _ => low_cells rfl) (fun _ _ => low_cells rfl) | exact arr_round rfl rfl (fun _ _ => rfl) (fun _ _ => low_cells rfl) (fun _ _ => low_cells rfl) | refine And.intro ?_ ?_ | (intro _h; first | contradiction | (try simp only [dd] at _h)) | (refine dt_go ?_) | exact rfl | exact True.intro | exact dkk | exact dks | ((first | refine .inl ⟨_, toThing_ok _ (h.2 _ (by omega)), ?_⟩ | refine ⟨_, toThing_ok _ (h.2 _ (by omega)), ?_⟩); (try rintro _ rfl)) | (refine wrap_succ ?_; omega))))
 exact endM_rowL (l := l) (c := Thing.cs) rfl (fun i j hi hj => fill_end (by omega)) ⟨rfl, rfl⟩
theorem markThingS_ok (l : List Thing) (k : Int) (h0 : 0 ≤ k) (hk : (markL Thing.mkE l k).2 ≤ 4611686018427387904) (hl : l.length ≤ 1048576) : RetM env.P 24 [some (rowL 3 Thing.cs l)] [.row 0 l.length, .i .i64 k] (fun r H => r = .i .i64 (markL Thing.mkE l k).2 ∧ H = [some (rowL 3 Thing.cs (markL Thing.mkE l k).1)]) := by
 refine ret_ofM (nt := 34) (rvs := [.tmp 4]) Tryz.func24 rfl rfl rfl rfl (fun X hX => ?_)
 conv => whnf
 refine loopN l.length (fun i => [(5, .i .i64 i), (1, .i .i64 (mkC Thing.mkE l k i))]) (fun i => [some (.arr ⟨3, l.length, elE Thing.cs (mkL Thing.mkE l k i), .arr⟩)]) (fun i => True) ⟨trivial, ?_⟩
 repeat' (first | exact aa | ((conv => whnf) <;> (first | exact mkC_zero.symm | exact arr_same mkL_zero rfl (fun a j => low_cells rfl) | refine And.intro ?_ ?_ | (intro _h; first | contradiction | (try simp only [dd] at _h)) | (refine dt_go ?_) | exact rfl | exact True.intro | exact dkk | exact dks | (refine wrap_succ ?_; omega))))
 ·rename_i i _ _
  have q1 := mkC_le (l := l) (k := k) Thing.mkE_mono (i + 1)
  have q2 := mkC_ge (l := l) (k := k) Thing.mkE_mono i
  rw [mkC_succ (by omega)] at q1
  rw [mkC_succ (by omega)]
  simp only [Thing.mkE] at q1 ⊢
  simp (disch := omega) only [wrap_in]
 ·rename_i i _ _
  have q1 := mkC_le (l := l) (k := k) Thing.mkE_mono (i + 1)
  have q2 := mkC_ge (l := l) (k := k) Thing.mkE_mono i
  rw [mkC_succ (by omega)] at q1
  simp only [Thing.mkE] at q1
  conv => whnf
  refine arr_set (mkL_succ (by omega)) (by rw [mkL_len]; omega) rfl (fun a j => low_cells rfl) ?_ ?_
  ·intro j hj
   rcases (show j = 0 ∨ j = 1 ∨ j = 2 by omega) with rfl | rfl | rfl
   all_goals (simp (disch := omega) only [upd, Nat.beq_refl, wrap_in, Int.toNat_natCast]; rfl)
  ·intro a j hne
   simp only [upd, beq_ff hne, Bool.and_false, cond_false, Int.toNat_natCast]
 ·exact endM_self ⟨congrArg _ (mkC_end (by omega)), rowL_end (by omega)⟩
theorem markThingS_nil (k : Int) : Ret env.P 24 [.nils, .i .i64 k] (fun r => r = .i .i64 k) := by
 refine ret_of (nt := 34) (rvs := [.tmp 4]) Tryz.func24 rfl rfl rfl rfl (fun X => ?_)
 repeat' (first | exact aa | ((conv => whnf) <;> (first | refine loopN 0 (fun i => [(5, .i .i64 i), (1, .i .i64 k)]) (fun i => []) (fun i => True) ⟨trivial, ?_⟩ | refine And.intro ?_ ?_ | (intro _h; first | contradiction | (try simp only [dd] at _h)) | (refine dt_go ?_) | exact rfl | exact True.intro | exact dkk | exact dks | (refine wrap_succ ?_; omega))))
 all_goals first | rfl | omega
theorem heldThingS_ok (l : List Thing) (k : Int) (h0 : 0 ≤ k) (hk : (markL Thing.mkE l k).2 ≤ 4611686018427387904) (hl : l.length ≤ 1048576) : Ret env.P 25 [slL 3 Thing.cs l, .i .i64 k] (fun r => r = .i .i64 (heldI l (markL Thing.mkE l k))) := by
 refine ret_of (nt := 40) (rvs := [.tmp 4]) Tryz.func25 rfl rfl rfl rfl (fun X => ?_)
 repeat' (first | exact aa | ((conv => whnf) <;> (first | refine loopN l.length (fun i => [(5, .i .i64 i), (1, .i .i64 (mkC Thing.mkE l k i))]) (fun i => []) (fun i => HeldUp Thing.mkE l k i) ⟨heldUp_zero, ?_⟩ | exact mkC_zero.symm | refine And.intro ?_ ?_ | (intro _h; first | contradiction | (try simp only [dd] at _h)) | (refine dt_go ?_) | exact rfl | exact True.intro | exact dkk | exact dks | (refine wrap_succ ?_; omega))))
 all_goals (first | (conv => whnf) | skip)
 all_goals (try simp only [Int.toNat_natCast] at *)
 all_goals first
  | exact leaf_i (held_end ‹HeldUp _ l k _› (by omega))
  | (have q := held_rng Thing.mkE_mono ‹HeldUp Thing.mkE l k _› (by omega)
     simp only [Thing.mkE] at q
     have q1 := q.1
     have q2 := q.2
     clear q
     (try simp (disch := omega) only [wrap_in, bne_iff_ne, ne_eq, bne_eq_false_iff_eq] at *)
     first
      | (rw [mkC_succ (by omega)]; done)
      | (rw [mkC_succ (by omega)]; rfl)
      | exact heldUp_succ ‹_› (Thing.eta ‹_› ‹_› ‹_›)
      | (refine leaf_i (held_no ‹HeldUp Thing.mkE l k _› (by omega) fun e => ?_); first | exact _h (congrArg (fun a => a.id) e) | exact _h (congrArg (fun a => a.res) e) | exact _h (congrArg (fun a => a.rep) e)))
theorem heldThingS_or (l : List Thing) (k : Int) (h0 : 0 ≤ k) (hk : (markL Thing.mkE l k).2 ≤ 4611686018427387904) (hl : l.length ≤ 1048576) : Ret env.P 25 [slL 3 Thing.cs l, .i .i64 k] (fun y => (l = (markL Thing.mkE l k).1 ∧ k ≤ (markL Thing.mkE l k).2 ∧ y = .i .i64 (markL Thing.mkE l k).2) ∨ (¬ l = (markL Thing.mkE l k).1 ∧ y = .i .i64 (-1))) :=
 (heldThingS_ok l k h0 hk hl).mono fun y hy => by
  subst hy
  obtain ⟨h1, h2⟩ | ⟨h1, h2⟩ := heldI_cases l (markL Thing.mkE l k)
  ·exact .inl ⟨h1, markL_mono Thing.mkE_mono l k, by rw [h2]⟩
  ·exact .inr ⟨h1, by rw [h2]⟩
set_option maxRecDepth 8000
def Shelf.csO (a : Shelf) : List AV := [.i .i64 a.next, owL 2 Table.csO a.tables, owL 3 Thing.cs a.things]
instance : HoldC Shelf.csO := ⟨fun a => (idf_cons trivial (idf_cons owL_idf (idf_cons owL_idf idf_nil)))⟩
instance : FreeC Shelf.csO := ⟨fun a => (free_cons trivial (free_cons owL_free (free_cons owL_free free_nil)))⟩
instance : Shr 2 Shelf.csO Shelf.cs := ⟨fun H k a => (.cons (.refl _) (.cons (shr_ow (d := 1) (k := k + 0)) (.cons (shr_ow (d := 0) (k := k + 1)) .nil)))⟩
def Shelf.resO (a : Shelf) : List AV := [.i .i64 a.next, .row 0 a.tables.length, .row 1 a.things.length]
def Shelf.rowsO (a : Shelf) : Hp := [some (rowL 2 Table.csO a.tables), some (rowL 3 Thing.cs a.things)]
theorem toShelfO_ok (a : Shelf) (h : Shelf.ok a) : RetM env.P 34 [] [.agg a.cs] (fun r H => r = .agg a.resO ∧ H = a.rowsO) := by
 refine ret_ofM (nt := 16) (rvs := [.cell 2 34]) Tryz.func34 rfl rfl rfl rfl (fun X hX => ?_)
 repeat' (first | exact aa | ((conv => whnf) <;> (first | refine And.intro ?_ ?_ | (intro _h; first | contradiction | (try simp only [dd] at _h)) | (refine dt_go ?_) | exact rfl | exact True.intro | exact dkk | exact dks | (refine .inr (.inl (.inl ⟨[], _, _, _, toTableSO_ok _ h.1, viewA, ⟨rfl, rfl⟩, ?_⟩)); rintro _ _ ⟨rfl, rfl⟩; refine ⟨rfl, _, lokA, ?_⟩) | (refine .inr (.inl (.inl ⟨[], _, _, _, toThingSO_ok _ h.2, viewA, ⟨rfl, rfl⟩, ?_⟩)); rintro _ _ ⟨rfl, rfl⟩; refine ⟨rfl, _, lokA, ?_⟩) | (refine wrap_succ ?_; omega))))
 exact endM_pick [3, 4] a.rowsO (.agg a.resO) viewA rfl rfl (fun k hk => by rw [hX] at hk; exact absurd hk (Nat.not_lt_zero _)) ⟨rfl, rfl⟩
def Shelf.mk_ (a : Shelf) (k : Int) : Shelf × Int := (⟨a.next, (markL Table.mkE a.tables k).1, (markL Thing.mkE a.things (markL Table.mkE a.tables k).2).1⟩, (markL Thing.mkE a.things (markL Table.mkE a.tables k).2).2)
theorem Shelf.mk_mono (a : Shelf) (k : Int) : k ≤ (Shelf.mk_ a k).2 := by have m0 := markL_mono Table.mkE_mono a.tables k; have m1 := markL_mono Thing.mkE_mono a.things (markL Table.mkE a.tables k).2; simp only [Shelf.mk_]; omega
theorem Shelf.mk_ok (a : Shelf) (k : Int) (h : Shelf.ok a) : Shelf.ok (Shelf.mk_ a k).1 := ⟨(okL_mark Table.mkE_ok h.1), (okL_mark Thing.mkE_ok h.2)⟩
theorem Shelf.mk_idem (a : Shelf) (k : Int) : Shelf.mk_ (Shelf.mk_ a k).1 k = Shelf.mk_ a k := by simp only [Shelf.mk_, markL_idem Table.mkE_idem, markL_idem Thing.mkE_idem]
theorem markShelf_ok (a : Shelf) (k : Int) (h0 : 0 ≤ k) (hk : (Shelf.mk_ a k).2 ≤ 4611686018427387904) (h : Shelf.ok a) : RetM env.P 46 a.rowsO [.agg a.resO, .i .i64 k] (fun r H => r = .i .i64 (Shelf.mk_ a k).2 ∧ H = (Shelf.mk_ a k).1.rowsO) := by
 simp only [Shelf.mk_] at hk
 have m0 := markL_mono Table.mkE_mono a.tables k
 have m1 := markL_mono Thing.mkE_mono a.things (markL Table.mkE a.tables k).2
 refine ret_ofM (nt := 14) (rvs := [.tmp 4]) Tryz.func46 rfl rfl rfl rfl (fun X hX => ?_)
 repeat' (first | exact aa | ((conv => whnf) <;> (first | refine And.intro ?_ ?_ | (intro _h; first | contradiction | (try simp only [dd] at _h)) | (refine dt_go ?_) | exact rfl | exact True.intro | exact dkk | exact dks | (refine .inr (.inl (.inl ⟨[0], _, _, _, markTableS_ok _ k (by omega) (by omega) h.1, viewA, ⟨rfl, rfl⟩, ?_⟩)); rintro _ _ ⟨rfl, rfl⟩; refine ⟨rfl, _, lokA, ?_⟩) | (refine .inr (.inl (.inl ⟨[1], _, _, _, markThingS_ok _ (markL Table.mkE a.tables k).2 (by omega) (by omega) h.2.1, viewA, ⟨rfl, rfl⟩, ?_⟩)); rintro _ _ ⟨rfl, rfl⟩; refine ⟨rfl, _, lokA, ?_⟩) | (refine wrap_succ ?_; omega))))
 exact endM_pick [0, 1] (Shelf.mk_ a k).1.rowsO (.i .i64 (Shelf.mk_ a k).2) viewA rfl rfl (by rw [hX]; exact keepK (n := 2) rfl rfl) ⟨rfl, rfl⟩
theorem markShelf_nil (k : Int) : Ret env.P 46 [.agg [AV.i .i64 0, AV.nils, AV.nils], .i .i64 k] (fun r => r = .i .i64 k) := by
 refine ret_of (nt := 14) (rvs := [.tmp 4]) Tryz.func46 rfl rfl rfl rfl (fun X => ?_)
 repeat' (first | exact aa | ((conv => whnf) <;> (first | refine And.intro ?_ ?_ | (intro _h; first | contradiction | (try simp only [dd] at _h)) | (refine dt_go ?_) | exact rfl | exact True.intro | exact dkk | exact dks | ((first | refine .inl ⟨_, markTableS_nil k, ?_⟩ | refine ⟨_, markTableS_nil k, ?_⟩); (try rintro _ rfl)) | ((first | refine .inl ⟨_, markThingS_nil k, ?_⟩ | refine ⟨_, markThingS_nil k, ?_⟩); (try rintro _ rfl)) | (refine wrap_succ ?_; omega))))
 all_goals rfl
theorem heldShelf_ok (a : Shelf) (k : Int) (h0 : 0 ≤ k) (hk : (Shelf.mk_ a k).2 ≤ 4611686018427387904) (h : Shelf.ok a) : Ret env.P 49 [.agg a.cs, .i .i64 k] (fun r => r = .i .i64 (heldI a (Shelf.mk_ a k))) := by
 simp only [Shelf.mk_] at hk
 have m0 := markL_mono Table.mkE_mono a.tables k
 have m1 := markL_mono Thing.mkE_mono a.things (markL Table.mkE a.tables k).2
 refine ret_of (nt := 18) (rvs := [.tmp 4]) Tryz.func49 rfl rfl rfl rfl (fun X => ?_)
 repeat' (first | exact aa | ((conv => whnf) <;> (first | ((first | refine .inl ⟨_, heldTableS_or _ k (by omega) (by omega) h.1, ?_⟩ | refine ⟨_, heldTableS_or _ k (by omega) (by omega) h.1, ?_⟩); rintro _ (⟨_, _, rfl⟩ | ⟨_, rfl⟩)) | ((first | refine .inl ⟨_, heldThingS_or _ (markL Table.mkE a.tables k).2 (by omega) (by omega) h.2.1, ?_⟩ | refine ⟨_, heldThingS_or _ (markL Table.mkE a.tables k).2 (by omega) (by omega) h.2.1, ?_⟩); rintro _ (⟨_, _, rfl⟩ | ⟨_, rfl⟩)) | refine And.intro ?_ ?_ | (intro _h; first | contradiction | (try simp only [dd] at _h)) | (refine dt_go ?_) | exact rfl | exact True.intro | exact dkk | exact dks | (refine wrap_succ ?_; omega))))
 all_goals (first | (conv => whnf) | skip)
 all_goals first
  | omega
  | exact leaf_i (heldI_eq (r := Shelf.mk_ a k) (by simp only [Shelf.mk_]; exact Shelf.eta rfl ‹_› ‹_›)).symm
  | (refine leaf_i (heldI_ne (r := Shelf.mk_ a k) fun e => ?_).symm; first | (have e1 := congrArg (fun a => a.tables) e; simp only [Shelf.mk_] at e1; contradiction) | (have e1 := congrArg (fun a => a.things) e; simp only [Shelf.mk_] at e1; contradiction))
  | trace_state
theorem heldShelf_or (a : Shelf) (k : Int) (h0 : 0 ≤ k) (hk : (Shelf.mk_ a k).2 ≤ 4611686018427387904) (hl : Shelf.ok a) : Ret env.P 49 [.agg a.cs, .i .i64 k] (fun y => (a = (Shelf.mk_ a k).1 ∧ k ≤ (Shelf.mk_ a k).2 ∧ y = .i .i64 (Shelf.mk_ a k).2) ∨ (¬ a = (Shelf.mk_ a k).1 ∧ y = .i .i64 (-1))) :=
 (heldShelf_ok a k h0 hk hl).mono fun y hy => by
  subst hy
  obtain ⟨h1, h2⟩ | ⟨h1, h2⟩ := heldI_cases a (Shelf.mk_ a k)
  ·exact .inl ⟨h1, Shelf.mk_mono a k, by rw [h2]⟩
  ·exact .inr ⟨h1, by rw [h2]⟩
set_option maxRecDepth 8000
theorem within_ok (x lo hi : Int) : Ret env.P 77 [.i .i64 x, .i .i64 lo, .i .i64 hi] (fun r => r = .b (decide (lo ≤ x ∧ x ≤ hi))) := by
 refine ret_of (nt := 15) (rvs := [.tmp 6]) Tryz.func77 rfl rfl rfl rfl (fun X => ?_)
 repeat' (first | exact aa | ((conv => whnf) <;> (first | refine And.intro ?_ ?_ | (intro _h; first | contradiction | (try simp only [dd] at _h)) | (refine dt_go ?_) | exact rfl | exact True.intro | exact dkk | exact dks | (refine wrap_succ ?_; omega))))
 all_goals (refine leaf_b ?_; rw [Bool.eq_iff_iff]; simp at *; omega)
theorem l00In_ok (x lo hi : Int) : Ret env.P 30 [.i .i64 x, .i .i64 lo, .i .i64 hi] (fun r => r = .b (decide (lo ≤ x ∧ x ≤ hi))) := by
 refine ret_of (nt := 15) (rvs := [.tmp 6]) Tryz.func30 rfl rfl rfl rfl (fun X => ?_)
 repeat' (first | exact aa | ((conv => whnf) <;> (first | refine And.intro ?_ ?_ | (intro _h; first | contradiction | (try simp only [dd] at _h)) | (refine dt_go ?_) | exact rfl | exact True.intro | exact dkk | exact dks | (refine wrap_succ ?_; omega))))
 all_goals (refine leaf_b ?_; rw [Bool.eq_iff_iff]; simp at *; omega)
theorem indexFuncThing1_ok (l : List Thing) (g : Nat) {fv} (hg : env.F.get g = some fv) (c0 : List AV) (p : Thing → Bool) (hl : l.length ≤ 1048576) (hp : ∀ k, k < l.length → Ret env.P g (.agg (Thing.cs (l.getD k default)) :: [rfL c0]) (fun r => r = .b (p (l.getD k default)))) :
  Ret env.P 127 [slL 3 Thing.cs l, .fn g [rfL c0]] (fun r => r = .i .i64 (idxI (l.findIdx? p))) := by
 refine ret_of (nt := 19) (rvs := [.tmp 4]) Tryz.func127 rfl rfl rfl rfl (fun X => ?_)
 repeat' (first | exact aa | ((conv => whnf) <;> (first | rw [hg] | exact upto_succ (by assumption) (by assumption) | refine loopN l.length (fun k => [(8, .i .i64 k)]) (fun k => []) (fun k => ∀ j, j < k → p (l.getD j default) = false) ⟨fun _ h => by omega, ?_⟩ | refine And.intro ?_ ?_ | (intro _h; first | contradiction | (try simp only [dd] at _h)) | (refine dt_go ?_) | exact rfl | exact True.intro | exact dkk | exact dks | ((first | refine .inl ⟨_, hp _ (by omega), ?_⟩ | refine ⟨_, hp _ (by omega), ?_⟩); (try rintro _ rfl)) | (refine wrap_succ ?_; omega))))
 ·exact leaf_i (idx_some (by omega) (by assumption) (by assumption))
 ·exact leaf_i (idx_none fun j hj => by have := ‹∀ j, j < _ → p (l.getD j default) = false›; exact this j (by omega))
theorem containsFuncThing1_ok (l : List Thing) (g : Nat) {fv} (hg : env.F.get g = some fv) (c0 : List AV) (p : Thing → Bool) (hl : l.length ≤ 1048576) (hp : ∀ k, k < l.length → Ret env.P g (.agg (Thing.cs (l.getD k default)) :: [rfL c0]) (fun r => r = .b (p (l.getD k default)))) :
  Ret env.P 157 [slL 3 Thing.cs l, .fn g [rfL c0]] (fun r => r = .b (l.any p)) := by
 refine ret_of (nt := 9) (rvs := [.tmp 4]) Tryz.func157 rfl rfl rfl rfl (fun X => ?_)
 repeat' (first | exact aa | ((conv => whnf) <;> (first | refine And.intro ?_ ?_ | (intro _h; first | contradiction | (try simp only [dd] at _h)) | (refine dt_go ?_) | exact rfl | exact True.intro | exact dkk | exact dks | ((first | refine .inl ⟨_, indexFuncThing1_ok l g hg c0 p hl hp, ?_⟩ | refine ⟨_, indexFuncThing1_ok l g hg c0 p hl hp, ?_⟩); (try rintro _ rfl)) | (refine wrap_succ ?_; omega))))
 all_goals exact leaf_b (idx_any _ _)
theorem indexFuncTable_ok (l : List Table) (g : Nat) {fv} (hg : env.F.get g = some fv) (p : Table → Bool) (hl : l.length ≤ 1048576) (hp : ∀ k, k < l.length → Ret env.P g (.agg (Table.cs (l.getD k default)) :: []) (fun r => r = .b (p (l.getD k default)))) :
  Ret env.P 154 [slL 2 Table.cs l, .fn g []] (fun r => r = .i .i64 (idxI (l.findIdx? p))) := by
 refine ret_of (nt := 19) (rvs := [.tmp 4]) Tryz.func154 rfl rfl rfl rfl (fun X => ?_)
 repeat' (first | exact aa | ((conv => whnf) <;> (first | rw [hg] | exact upto_succ (by assumption) (by assumption) | refine loopN l.length (fun k => [(8, .i .i64 k)]) (fun k => []) (fun k => ∀ j, j < k → p (l.getD j default) = false) ⟨fun _ h => by omega, ?_⟩ | refine And.intro ?_ ?_ | (intro _h; first | contradiction | (try simp only [dd] at _h)) | (refine dt_go ?_) | exact rfl | exact True.intro | exact dkk | exact dks | ((first | refine .inl ⟨_, hp _ (by omega), ?_⟩ | refine ⟨_, hp _ (by omega), ?_⟩); (try rintro _ rfl)) | (refine wrap_succ ?_; omega))))
 ·exact leaf_i (idx_some (by omega) (by assumption) (by assumption))
 ·exact leaf_i (idx_none fun j hj => by have := ‹∀ j, j < _ → p (l.getD j default) = false›; exact this j (by omega))
theorem containsFuncTable_ok (l : List Table) (g : Nat) {fv} (hg : env.F.get g = some fv) (p : Table → Bool) (hl : l.length ≤ 1048576) (hp : ∀ k, k < l.length → Ret env.P g (.agg (Table.cs (l.getD k default)) :: []) (fun r => r = .b (p (l.getD k default)))) :
  Ret env.P 114 [slL 2 Table.cs l, .fn g []] (fun r => r = .b (l.any p)) := by
 refine ret_of (nt := 9) (rvs := [.tmp 4]) Tryz.func114 rfl rfl rfl rfl (fun X => ?_)
 repeat' (first | exact aa | ((conv => whnf) <;> (first | refine And.intro ?_ ?_ | (intro _h; first | contradiction | (try simp only [dd] at _h)) | (refine dt_go ?_) | exact rfl | exact True.intro | exact dkk | exact dks | ((first | refine .inl ⟨_, indexFuncTable_ok l g hg p hl hp, ?_⟩ | refine ⟨_, indexFuncTable_ok l g hg p hl hp, ?_⟩); (try rintro _ rfl)) | (refine wrap_succ ?_; omega))))
 all_goals exact leaf_b (idx_any _ _)
end Go.Proofs.YtmjjadcmmpfljaaGreat
