/- Texts for VTermOkP. -/
import Derived.Test.YtllcemegnggpfaaVs23
import Derived.Test.YtllcemegnggpfaaVs24
namespace Go.Proofs.Ytllcemegnggpfaa
open Go Go.RowKit
set_option linter.unusedVariables false
set_option linter.unusedSimpArgs false
section
attribute [local irreducible] IntKind.wrap
theorem within_ok (x lo hi : Int) : Ret env.P 83 [.i .i64 x, .i .i64 lo, .i .i64 hi] (fun r => r = .b (decide (lo ≤ x ∧ x ≤ hi))) := by
  refine ret_of (nt := 15) (rvs := [.tmp 6]) Try.func83 rfl rfl rfl rfl (fun X => ?_)
  repeat' (first | omega | (with_reducible show (_ : Int) < _; dsimp only; omega) | (with_reducible show (_ : Nat) ≤ _; dsimp only; omega) | ((with_reducible show SrcOk _ _ _) <;> (first | exact srcOk_1 rfl | exact srcOk_L (fun _ => ⟨rfl, rfl⟩) | exact srcOk_E (fun _ => ⟨rfl, rfl⟩))) | ((conv => whnf) <;> (first | refine And.intro ?_ ?_ | (intro _h; first | contradiction | (try simp only [dd] at _h)) | (refine dt_go ?_) | exact rfl | exact True.intro | exact dkk | exact dks | (refine wrap_succ ?_; omega))))
  all_goals (conv => whnf)
  all_goals first
    | exact leaf_b (by rw [decide_eq_decide]; omega)
    | exact leaf_b (by symm; rw [decide_eq_false_iff_not]; omega)
    | trace_state
theorem l00In_ok (x lo hi : Int) : Ret env.P 82 [.i .i64 x, .i .i64 lo, .i .i64 hi] (fun r => r = .b (decide (lo ≤ x ∧ x ≤ hi))) := by
  refine ret_of (nt := 15) (rvs := [.tmp 6]) Try.func82 rfl rfl rfl rfl (fun X => ?_)
  repeat' (first | omega | (with_reducible show (_ : Int) < _; dsimp only; omega) | (with_reducible show (_ : Nat) ≤ _; dsimp only; omega) | ((with_reducible show SrcOk _ _ _) <;> (first | exact srcOk_1 rfl | exact srcOk_L (fun _ => ⟨rfl, rfl⟩) | exact srcOk_E (fun _ => ⟨rfl, rfl⟩))) | ((conv => whnf) <;> (first | refine And.intro ?_ ?_ | (intro _h; first | contradiction | (try simp only [dd] at _h)) | (refine dt_go ?_) | exact rfl | exact True.intro | exact dkk | exact dks | (refine wrap_succ ?_; omega))))
  all_goals (conv => whnf)
  all_goals first
    | exact leaf_b (by rw [decide_eq_decide]; omega)
    | exact leaf_b (by symm; rw [decide_eq_false_iff_not]; omega)
    | trace_state
theorem wk1 {n : Nat} (h0 : 1 ≤ n) (h1 : n ≤ 1048576) : IntKind.i64.wrap ((n : Int) - 1) = ((n - 1 : Nat) : Int) := by
  rw [wrap_in (by omega) (by omega)]
  omega
theorem kp {b : ByteArray} {k : Nat} (h : (((b.data.getD k 0).toNat : Nat) : Int) = 45) (h0 : ¬ (((b.data.getD 0 0).toNat : Nat) : Int) < 97) : 1 ≤ k := by
  rcases k with _ | k
  · omega
  · omega
theorem kpw {b : ByteArray} {k : Nat} (hw : NmTo b k) (h : (((b.data.getD k 0).toNat : Nat) : Int) = 45) (h0 : 0 < k ∨ ¬ (((b.data.getD 0 0).toNat : Nat) : Int) < 97) : 1 ≤ k := by
  rcases k with _ | k
  · omega
  · omega
theorem wk1w {b : ByteArray} {n : Nat} (hw : NmTo b n) (h0 : 1 ≤ n) (h1 : n ≤ 1048576) : IntKind.i64.wrap ((n : Int) - 1) = ((n - 1 : Nat) : Int) := wk1 h0 h1
theorem nm_fst {b : ByteArray} {k : Nat} (h : 0 < k ∨ (97 ≤ (((b.data.getD 0 0).toNat : Nat) : Int) ∧ (((b.data.getD 0 0).toNat : Nat) : Int) ≤ 122) ∨ (97 ≤ (((b.data.getD k 0).toNat : Nat) : Int) ∧ (((b.data.getD k 0).toNat : Nat) : Int) ≤ 122)) : k = 0 → chA (byA b k) := fun e => by
  subst e
  unfold chA byA
  omega
theorem nm_z {b : ByteArray} {k : Nat} (hw : NmTo b k) (hk : k = 0) (h : ¬ (97 ≤ (((b.data.getD k 0).toNat : Nat) : Int) ∧ (((b.data.getD k 0).toNat : Nat) : Int) ≤ 122)) : ¬ nmB b := fun q => by
  subst hk
  have := q.fst
  unfold chA byA at this
  omega
theorem nm_end {b : ByteArray} {k : Nat} (hw : NmTo b k) (hk : k = b.size) (h1 : 1 ≤ b.size) (h2 : b.size ≤ 12) : (!decide ((((b.data.getD (b.size - 1) 0).toNat : Nat) : Int) = 45)) = pb (nmB b) := by
  subst hk
  have h0 := hw.h 0 (by omega)
  have h1' := h0.2.2 rfl
  by_cases q : (((b.data.getD (b.size - 1) 0).toNat : Nat) : Int) = 45
  · rw [decide_eq_true q, pb_f.mpr (fun r => r.last (by unfold byA; omega))]; rfl
  · rw [decide_eq_false q, pb_t.mpr ⟨h1, h2, h1', by unfold byA; omega, hw⟩]; rfl
theorem nm_no {b : ByteArray} {k : Nat} (hw : NmTo b k) (hk : k < b.size) (h : ¬ (chB (byA b k) ∧ (byA b k = 45 → 0 < k ∧ byA b (k - 1) ≠ 45))) : ¬ nmB b := fun q => h ⟨(q.all.h k hk).1, (q.all.h k hk).2.1⟩
theorem nm_ok {b : ByteArray} {k : Nat} (hw : NmTo b k) (hk : k = b.size) (h1 : 1 ≤ b.size) (h2 : b.size ≤ 12) (h3 : chA (byA b 0)) (h4 : byA b (b.size - 1) ≠ 45) : nmB b := ⟨h1, h2, h3, h4, hk ▸ hw⟩
set_option maxRecDepth 8000 in
set_option maxHeartbeats 1000000 in
theorem l03Name_ok (b : ByteArray) (hs : b.size ≤ 1048576) : Ret env.P 105 [.s b] (fun r => r = .b (pb (nmB b))) := by
  refine ret_of (nt := 69) (rvs := [.tmp 2]) Try.func105 rfl rfl rfl rfl (fun X => ?_)
  repeat' (first | omega | (with_reducible show (_ : Int) < _; dsimp only; omega) | (with_reducible show (_ : Nat) ≤ _; dsimp only; omega) | ((with_reducible show SrcOk _ _ _) <;> (first | exact srcOk_1 rfl | exact srcOk_L (fun _ => ⟨rfl, rfl⟩) | exact srcOk_E (fun _ => ⟨rfl, rfl⟩))) | ((conv => whnf) <;> (first | refine loopN b.size (fun k => [(3, .i .i64 k)]) (fun k => []) (fun k => NmTo b k) ⟨.zero b, ?_⟩ | refine And.intro ?_ ?_ | (intro _h; first | contradiction | (try simp only [dd] at _h)) | (refine dt_go ?_) | exact rfl | exact True.intro | exact dkk | exact dks | (refine wrap_succ ?_; omega))))
  all_goals (try simp only [Int.toNat_natCast, Int.toNat_zero] at *)
  all_goals first
    | (rw [wk1 (by omega) (by omega)]; omega)
    | (have hk := kpw ‹NmTo b _› (by omega) (by omega)
       rw [wk1w ‹NmTo b _› hk (by omega)]; omega)
    | exact NmTo.succ ‹_› (by unfold chB byA; omega) (by unfold byA; omega) (nm_fst (by omega))
    | (have hk := kpw ‹NmTo b _› (by omega) (by omega)
       rw [wk1w ‹NmTo b _› hk (by omega), Int.toNat_natCast] at *
       exact NmTo.succ ‹_› (by unfold chB byA; omega) (by unfold byA; omega) (nm_fst (by omega)))
    | (conv => whnf
       exact leaf_f (nm_z ‹NmTo b _› (by omega) (by omega)))
    | (conv => whnf
       exact leaf_f (nm_no ‹NmTo b _› (by omega) (by unfold chB byA; omega)))
    | (conv => whnf
       have hk := kpw ‹NmTo b _› (by omega) (by omega)
       rw [wk1w ‹NmTo b _› hk (by omega), Int.toNat_natCast] at *
       exact leaf_f (nm_no ‹NmTo b _› (by omega) (by unfold chB byA; omega)))
    | (conv => whnf
       refine leaf_f fun q => ?_
       have q1 := q.lo
       have q2 := q.hi
       have q3 := q.fst
       have q4 := q.last
       unfold chA byA at q3
       unfold byA at q4
       first
         | omega
         | (rw [wk1 (n := b.size) (by omega) (by omega), Int.toNat_natCast] at *; omega))
    | (conv => whnf
       refine leaf_t (nm_ok ‹NmTo b _› (by omega) (by omega) (by omega) (by unfold chA byA; omega) (by unfold byA; rw [wk1 (n := b.size) (by omega) (by omega), Int.toNat_natCast] at *; omega)))
    | (conv => whnf
       rw [wk1 (n := b.size) (by omega) (by omega), Int.toNat_natCast]
       exact leaf_b (nm_end ‹NmTo b _› (by omega) (by omega) (by omega)))
    | (conv => whnf
       trace_state)
set_option maxRecDepth 8000 in
set_option maxHeartbeats 1000000 in
theorem nameOk_ok (b : ByteArray) (hs : b.size ≤ 1048576) : Ret env.P 78 [.s b] (fun r => r = .b (pb (nmB b))) := by
  refine ret_of (nt := 75) (rvs := [.tmp 2]) Try.func78 rfl rfl rfl rfl (fun X => ?_)
  repeat' (first | omega | (with_reducible show (_ : Int) < _; dsimp only; omega) | (with_reducible show (_ : Nat) ≤ _; dsimp only; omega) | ((with_reducible show SrcOk _ _ _) <;> (first | exact srcOk_1 rfl | exact srcOk_L (fun _ => ⟨rfl, rfl⟩) | exact srcOk_E (fun _ => ⟨rfl, rfl⟩))) | ((conv => whnf) <;> (first | refine loopN b.size (fun k => [(8, .i .i64 k)]) (fun k => []) (fun k => NmTo b k) ⟨.zero b, ?_⟩ | refine And.intro ?_ ?_ | (intro _h; first | contradiction | (try simp only [dd] at _h)) | (refine dt_go ?_) | exact rfl | exact True.intro | exact dkk | exact dks | (refine wrap_succ ?_; omega))))
  all_goals (try simp only [Int.toNat_natCast, Int.toNat_zero] at *)
  all_goals first
    | (rw [wk1 (by omega) (by omega)]; omega)
    | (have hk := kpw ‹NmTo b _› (by omega) (by omega)
       rw [wk1w ‹NmTo b _› hk (by omega)]; omega)
    | exact NmTo.succ ‹_› (by unfold chB byA; omega) (by unfold byA; omega) (nm_fst (by omega))
    | (have hk := kpw ‹NmTo b _› (by omega) (by omega)
       rw [wk1w ‹NmTo b _› hk (by omega), Int.toNat_natCast] at *
       exact NmTo.succ ‹_› (by unfold chB byA; omega) (by unfold byA; omega) (nm_fst (by omega)))
    | (conv => whnf
       exact leaf_f (nm_z ‹NmTo b _› (by omega) (by omega)))
    | (conv => whnf
       exact leaf_f (nm_no ‹NmTo b _› (by omega) (by unfold chB byA; omega)))
    | (conv => whnf
       have hk := kpw ‹NmTo b _› (by omega) (by omega)
       rw [wk1w ‹NmTo b _› hk (by omega), Int.toNat_natCast] at *
       exact leaf_f (nm_no ‹NmTo b _› (by omega) (by unfold chB byA; omega)))
    | (conv => whnf
       refine leaf_f fun q => ?_
       have q1 := q.lo
       have q2 := q.hi
       have q3 := q.fst
       have q4 := q.last
       unfold chA byA at q3
       unfold byA at q4
       first
         | omega
         | (rw [wk1 (n := b.size) (by omega) (by omega), Int.toNat_natCast] at *; omega))
    | (conv => whnf
       refine leaf_t (nm_ok ‹NmTo b _› (by omega) (by omega) (by omega) (by unfold chA byA; omega) (by unfold byA; rw [wk1 (n := b.size) (by omega) (by omega), Int.toNat_natCast] at *; omega)))
    | (conv => whnf
       rw [wk1 (n := b.size) (by omega) (by omega), Int.toNat_natCast]
       exact leaf_b (nm_end ‹NmTo b _› (by omega) (by omega) (by omega)))
    | (conv => whnf
       trace_state)
structure LbTo (l : List ByteArray) (k : Nat) : Prop where
  h : ∀ j, j < k → nmB (l.getD j default) ∧ ∀ i, i < j → l.getD i default ≠ l.getD j default
theorem LbTo.zero (l : List ByteArray) : LbTo l 0 := ⟨fun j hj => absurd hj (Nat.not_lt_zero _)⟩
structure NeTo (l : List ByteArray) (j k : Nat) : Prop where
  h : ∀ i, i < k → l.getD i default ≠ l.getD j default
theorem NeTo.zero (l : List ByteArray) (j : Nat) : NeTo l j 0 := ⟨fun i hi => absurd hi (Nat.not_lt_zero _)⟩
theorem NeTo.succ {l : List ByteArray} {j k : Nat} (h : NeTo l j k) (h1 : ¬ l.getD k default = l.getD j default) : NeTo l j (k + 1) := ⟨fun i hi => by
  rcases Nat.lt_or_eq_of_le (Nat.le_of_lt_succ hi) with r | rfl
  · exact h.h i r
  · exact h1⟩
theorem LbTo.succ {l : List ByteArray} {k m : Nat} (h : LbTo l k) (h1 : nmB (l.getD k default)) (h2 : NeTo l k m) (hm : m = k) : LbTo l (k + 1) := ⟨fun j hj => by
  subst hm
  rcases Nat.lt_or_eq_of_le (Nat.le_of_lt_succ hj) with r | rfl
  · exact h.h j r
  · exact ⟨h1, h2.h⟩⟩
end
section
def kwT : List ByteArray := [⟨#[117, 110, 105, 116]⟩, ⟨#[98, 111, 111, 108]⟩, ⟨#[117, 56]⟩, ⟨#[115, 56]⟩, ⟨#[117, 49, 54]⟩, ⟨#[115, 49, 54]⟩, ⟨#[117, 51, 50]⟩, ⟨#[115, 51, 50]⟩, ⟨#[115, 54, 52]⟩, ⟨#[99, 104, 97, 114]⟩, ⟨#[116, 101, 120, 116]⟩, ⟨#[108, 105, 115, 116]⟩, ⟨#[111, 112, 116, 105, 111, 110]⟩, ⟨#[114, 101, 115, 117, 108, 116]⟩, ⟨#[116, 117, 112, 108, 101]⟩, ⟨#[114, 101, 99, 111, 114, 100]⟩, ⟨#[118, 97, 114, 105, 97, 110, 116]⟩, ⟨#[101, 110, 117, 109]⟩, ⟨#[102, 108, 97, 103, 115]⟩, ⟨#[111, 119, 110]⟩, ⟨#[98, 111, 114, 114, 111, 119]⟩, ⟨#[115, 116, 114, 101, 97, 109]⟩, ⟨#[102, 117, 116, 117, 114, 101]⟩]
def kdOf (w : ByteArray) : Int := match kwT.findIdx? (fun x => decide (x = w)) with
  | some i => ((i + 1 : Nat) : Int)
  | none => 0
theorem kd_rng (w : ByteArray) : 0 ≤ kdOf w ∧ kdOf w ≤ 23 := by
  unfold kdOf
  split
  · rename_i i h
    have := (List.findIdx?_eq_some_iff_getElem.1 h).1
    have e : kwT.length = 23 := rfl
    omega
  · omega
structure LexOk (L : List Tok) : Prop where
  pos : 1 ≤ L.length
  most : L.length ≤ 4001
  last : (L.getD (L.length - 1) default).kind = 4
  rest : ∀ i, i + 1 < L.length → 1 ≤ (L.getD i default).kind ∧ (L.getD i default).kind ≤ 3
  num : ∀ i, i < L.length → (L.getD i default).kind = 2 → isDg (byI (L.getD i default).text 0)
  sz : ∀ i, i < L.length → (L.getD i default).text.size ≤ 30000
def tkL (L : List Tok) (i : Nat) : Tok := L.getD i default
def isT (L : List Tok) (t : ByteArray) (i : Nat) : Prop := ¬ (tkL L i).kind = 4 ∧ (tkL L i).text = t
theorem LexOk.lt {L : List Tok} (h : LexOk L) {i : Nat} (hi : i < L.length) (hk : ¬ (tkL L i).kind = 4) : i + 1 < L.length := by
  apply Classical.byContradiction
  intro hc
  have e : i = L.length - 1 := by omega
  exact hk (e ▸ h.last)
theorem LexOk.isT_lt {L : List Tok} (h : LexOk L) {t : ByteArray} {i : Nat} (hi : i < L.length) (hk : isT L t i) : i + 1 < L.length := h.lt hi hk.1
open Classical in
noncomputable def pNeed (L : List Tok) (t : ByteArray) (i : Nat) : Option Nat := if isT L t i then some (i + 1) else none
open Classical in
noncomputable def pName (L : List Tok) (i : Nat) : Option (ByteArray × Nat) := if (tkL L i).kind = 1 ∧ nmB (tkL L i).text then some ((tkL L i).text, i + 1) else none
open Classical in
noncomputable def pIdent (L : List Tok) (i : Nat) : Option (ByteArray × Nat) := if (tkL L i).kind = 1 ∧ nmB (tkL L i).text ∧ kdOf (tkL L i).text = 0 then some ((tkL L i).text, i + 1) else none
def unitM : Term := ⟨1, ⟨#[]⟩, [], []⟩
open Classical in
noncomputable def pList (L : List Tok) (P : Nat → Option (Term × Nat)) : Nat → List Term → Nat → Option (List Term × Nat)
  | 0, acc, i => match P i with
    | none => none
    | some (t, i) => if isT L ⟨#[62]⟩ i then some (acc ++ [t], i + 1) else none
  | m + 1, acc, i => match P i with
    | none => none
    | some (t, i) => if isT L ⟨#[62]⟩ i then some (acc ++ [t], i + 1) else match pNeed L ⟨#[44]⟩ i with
      | none => none
      | some i => pList L P m (acc ++ [t]) i
open Classical in
noncomputable def pRes0 (L : List Tok) (P : Nat → Option (Term × Nat)) (i : Nat) : Option (Term × Nat) := if isT L ⟨#[95]⟩ i then some (unitM, i + 1) else P i
open Classical in
noncomputable def pRes1 (L : List Tok) (P : Nat → Option (Term × Nat)) (i : Nat) : Option (Term × Nat) := if isT L ⟨#[44]⟩ i then P (i + 1) else some (unitM, i)
open Classical in
noncomputable def pRes (L : List Tok) (P : Nat → Option (Term × Nat)) (i : Nat) : Option (List Term × Nat) :=
  if isT L ⟨#[60]⟩ i then match pRes0 L P (i + 1) with
    | none => none
    | some (t0, i) => match pRes1 L P i with
      | none => none
      | some (t1, i) => match pNeed L ⟨#[62]⟩ i with
        | none => none
        | some i => some ([t0, t1], i)
  else some ([unitM, unitM], i)
open Classical in
noncomputable def pLab (L : List Tok) (P : Nat → Option (Term × Nat)) (k : Int) (i : Nat) : Option (List Term × Nat) :=
  if k = 16 then match pNeed L ⟨#[58]⟩ i with
    | none => none
    | some i => match P i with
      | none => none
      | some (t, i) => some ([t], i)
  else if k = 17 then if isT L ⟨#[40]⟩ i then match P (i + 1) with
      | none => none
      | some (t, i) => match pNeed L ⟨#[41]⟩ i with
        | none => none
        | some i => some ([t], i)
    else some ([unitM], i)
  else some ([], i)
open Classical in
noncomputable def pLabs (L : List Tok) (P : Nat → Option (Term × Nat)) (k : Int) : Nat → List ByteArray → List Term → Nat → Option ((List ByteArray × List Term) × Nat)
  | 0, ls, ts, i => match pName L i with
    | none => none
    | some (w, i) => match pLab L P k i with
      | none => none
      | some (t, i) => if isT L ⟨#[125]⟩ i then some ((ls ++ [w], ts ++ t), i + 1) else none
  | m + 1, ls, ts, i => match pName L i with
    | none => none
    | some (w, i) => match pLab L P k i with
      | none => none
      | some (t, i) => if isT L ⟨#[125]⟩ i then some ((ls ++ [w], ts ++ t), i + 1) else match pNeed L ⟨#[44]⟩ i with
        | none => none
        | some i => pLabs L P k m (ls ++ [w]) (ts ++ t) i
noncomputable def pRest (L : List Tok) (P : Nat → Option (Term × Nat)) (k : Int) (i : Nat) : Option (Term × Nat) :=
  if k ≤ 11 then some (⟨k, ⟨#[]⟩, [], []⟩, i)
  else if k = 12 ∨ k = 13 ∨ k = 22 ∨ k = 23 then match pNeed L ⟨#[60]⟩ i with
    | none => none
    | some i => match P i with
      | none => none
      | some (t, i) => match pNeed L ⟨#[62]⟩ i with
        | none => none
        | some i => some (⟨k, ⟨#[]⟩, [], [t]⟩, i)
  else if k = 14 then match pRes L P i with
    | none => none
    | some (ts, i) => some (⟨k, ⟨#[]⟩, [], ts⟩, i)
  else if k = 15 then match pNeed L ⟨#[60]⟩ i with
    | none => none
    | some i => match pList L P 5 [] i with
      | none => none
      | some (ts, i) => some (⟨k, ⟨#[]⟩, [], ts⟩, i)
  else if k = 20 ∨ k = 21 then match pNeed L ⟨#[60]⟩ i with
    | none => none
    | some i => match pIdent L i with
      | none => none
      | some (w, i) => match pNeed L ⟨#[62]⟩ i with
        | none => none
        | some i => some (⟨k, w, [], []⟩, i)
  else match pNeed L ⟨#[123]⟩ i with
    | none => none
    | some i => match pLabs L P k 15 [] [] i with
      | none => none
      | some (x, i) => some (⟨k, ⟨#[]⟩, x.1, x.2⟩, i)
noncomputable def pTerm (L : List Tok) : Nat → Nat → Option (Term × Nat)
  | 0, i => none
  | d + 1, i => match pName L i with
    | none => none
    | some (w, i) => if kdOf w = 0 then some (⟨30, w, [], []⟩, i) else pRest L (pTerm L d) (kdOf w) i
end
section
attribute [local irreducible] IntKind.wrap
def pB (L : List Tok) (a : Nat) (b : Bool) : List AV := [slL 3 tokC L, .i .i64 a, .kb b]
def pB2 (L : List Tok) (a : Nat) : List AV := [slL 3 tokC L, .i .i64 a]
theorem peek_ok (L : List Tok) (hL : LexOk L) (a : Nat) (ha : a < L.length) : Ret env.P 41 [rfL (pB2 L a)] (fun r => r = .agg (tokC (tkL L a))) := by
  have := hL.most
  refine ret_of (nt := 13) (rvs := [.cell 2 63]) Try.func41 rfl rfl rfl rfl (fun X => ?_)
  repeat' (first | omega | (with_reducible show (_ : Int) < _; dsimp only; omega) | (with_reducible show (_ : Nat) ≤ _; dsimp only; omega) | ((with_reducible show SrcOk _ _ _) <;> (first | exact srcOk_1 rfl | exact srcOk_L (fun _ => ⟨rfl, rfl⟩) | exact srcOk_E (fun _ => ⟨rfl, rfl⟩))) | ((conv => whnf) <;> (first | refine And.intro ?_ ?_ | (intro _h; first | contradiction | (try simp only [dd] at _h)) | (refine dt_go ?_) | exact rfl | exact True.intro | exact dkk | exact dks | (refine wrap_succ ?_; omega))))
  all_goals (conv => whnf)
  all_goals first | exact rfl | trace_state
theorem pskip_ok (L : List Tok) (hL : LexOk L) (a : Nat) (ha : a + 1 < L.length) (b : Bool) : RetM env.P 93 [some (boxRow (pB L a b))] [.ptr 0 0 0] (fun r H => r = .tup [] ∧ H = [some (boxRow (pB L (a + 1) b))]) := by
  have := hL.most
  have e : IntKind.i64.wrap ((a : Int) + 1) = ((a + 1 : Nat) : Int) := by rw [wrap_in (by omega) (by omega)]; rfl
  refine ret_ofM (nt := 20) (rvs := []) Try.func93 rfl rfl rfl rfl (fun X hX => ?_)
  repeat' (first | omega | (with_reducible show (_ : Int) < _; dsimp only; omega) | (with_reducible show (_ : Nat) ≤ _; dsimp only; omega) | ((with_reducible show SrcOk _ _ _) <;> (first | exact srcOk_1 rfl | exact srcOk_L (fun _ => ⟨rfl, rfl⟩) | exact srcOk_E (fun _ => ⟨rfl, rfl⟩))) | ((conv => whnf) <;> (first | refine And.intro ?_ ?_ | (intro _h; first | contradiction | (try simp only [dd] at _h)) | (refine dt_go ?_) | exact rfl | exact True.intro | exact dkk | exact dks | (refine wrap_succ ?_; omega))))
  all_goals first
    | (exfalso; omega)
    | (conv => whnf
       rw [e]
       refine endM_turn (turn_box (id := 0) (ds := pB L (a + 1) b) rfl rfl rfl (.cons (.refl _) (.cons (.refl _) (.cons (.refl _) .nil)))) ?_
       exact endM_self ⟨rfl, rfl⟩)
    | trace_state
theorem pis_ok (L : List Tok) (hL : LexOk L) (a : Nat) (ha : a < L.length) (t : ByteArray) : Ret env.P 94 [rfL (pB2 L a), .s t] (fun r => r = .b (pb (isT L t a))) := by
  refine ret_of (nt := 17) (rvs := [.tmp 4]) Try.func94 rfl rfl rfl rfl (fun X => ?_)
  repeat' (first | omega | (with_reducible show (_ : Int) < _; dsimp only; omega) | (with_reducible show (_ : Nat) ≤ _; dsimp only; omega) | ((with_reducible show SrcOk _ _ _) <;> (first | exact srcOk_1 rfl | exact srcOk_L (fun _ => ⟨rfl, rfl⟩) | exact srcOk_E (fun _ => ⟨rfl, rfl⟩))) | ((conv => whnf) <;> (first | refine And.intro ?_ ?_ | (intro _h; first | contradiction | (try simp only [dd] at _h)) | (refine dt_go ?_) | exact rfl | exact True.intro | exact dkk | exact dks | ((first | refine .inl ⟨_, peek_ok L hL a ha, ?_⟩ | refine ⟨_, peek_ok L hL a ha, ?_⟩); (try rintro _ rfl)) | (refine wrap_succ ?_; omega))))
  all_goals (conv => whnf)
  all_goals first
    | exact leaf_f fun q => q.1 (by assumption)
    | exact leaf_f fun q => absurd q.1 (by assumption)
    | exact leaf_p (by unfold isT; simp_all; done)
    | trace_state
theorem pis_t (L : List Tok) (hL : LexOk L) (a : Nat) (ha : a < L.length) (t : ByteArray) (h : isT L t a) : Ret env.P 94 [rfL (pB2 L a), .s t] (fun r => r = .b true) := (pis_ok L hL a ha t).mono fun r e => by rw [e, pb_t.mpr h]
theorem pis_f (L : List Tok) (hL : LexOk L) (a : Nat) (ha : a < L.length) (t : ByteArray) (h : ¬ isT L t a) : Ret env.P 94 [rfL (pB2 L a), .s t] (fun r => r = .b false) := (pis_ok L hL a ha t).mono fun r e => by rw [e, pb_f.mpr h]
theorem take_t (L : List Tok) (hL : LexOk L) (a : Nat) (ha : a < L.length) (t : ByteArray) (h : isT L t a) : RetM env.P 71 [some (boxRow (pB L a false))] [.ptr 0 0 0, .s t] (fun r H => r = .kb true ∧ H = [some (boxRow (pB L (a + 1) false))]) := by
  have h1 := hL.isT_lt ha h
  refine ret_ofM (nt := 17) (rvs := [.tmp 4]) Try.func71 rfl rfl rfl rfl (fun X hX => ?_)
  repeat' (first | omega | (with_reducible show (_ : Int) < _; dsimp only; omega) | (with_reducible show (_ : Nat) ≤ _; dsimp only; omega) | ((with_reducible show SrcOk _ _ _) <;> (first | exact srcOk_1 rfl | exact srcOk_L (fun _ => ⟨rfl, rfl⟩) | exact srcOk_E (fun _ => ⟨rfl, rfl⟩))) | ((conv => whnf) <;> (first | refine And.intro ?_ ?_ | (intro _h; first | contradiction | (try simp only [dd] at _h)) | (refine dt_go ?_) | exact rfl | exact True.intro | exact dkk | exact dks | ((first | refine .inl ⟨_, Ret.wk (by exact .cons (tWk_rfcp rfl rfl) (.cons (.refl _) .nil)) (pis_t L hL a ha t h), ?_⟩ | refine ⟨_, Ret.wk (by exact .cons (tWk_rfcp rfl rfl) (.cons (.refl _) .nil)) (pis_t L hL a ha t h), ?_⟩); (try rintro _ rfl)) | (refine .inr (.inl (.inl ⟨[0], _, _, _, pskip_ok L hL a h1 false, viewA, ⟨rfl, rfl⟩, ?_⟩)); (rintro _ _ ⟨rfl, rfl⟩) <;> (refine ⟨rfl, _, lokA, ?_⟩)) | (refine wrap_succ ?_; omega))))
  all_goals (conv => whnf)
  all_goals first | exact endM_self ⟨rfl, rfl⟩ | trace_state
theorem take_f (L : List Tok) (hL : LexOk L) (a : Nat) (ha : a < L.length) (t : ByteArray) (h : ¬ isT L t a) : RetM env.P 71 [some (boxRow (pB L a false))] [.ptr 0 0 0, .s t] (fun r H => r = .kb false ∧ H = [some (boxRow (pB L a false))]) := by
  refine ret_ofM (nt := 17) (rvs := [.tmp 4]) Try.func71 rfl rfl rfl rfl (fun X hX => ?_)
  repeat' (first | omega | (with_reducible show (_ : Int) < _; dsimp only; omega) | (with_reducible show (_ : Nat) ≤ _; dsimp only; omega) | ((with_reducible show SrcOk _ _ _) <;> (first | exact srcOk_1 rfl | exact srcOk_L (fun _ => ⟨rfl, rfl⟩) | exact srcOk_E (fun _ => ⟨rfl, rfl⟩))) | ((conv => whnf) <;> (first | refine And.intro ?_ ?_ | (intro _h; first | contradiction | (try simp only [dd] at _h)) | (refine dt_go ?_) | exact rfl | exact True.intro | exact dkk | exact dks | ((first | refine .inl ⟨_, Ret.wk (by exact .cons (tWk_rfcp rfl rfl) (.cons (.refl _) .nil)) (pis_f L hL a ha t h), ?_⟩ | refine ⟨_, Ret.wk (by exact .cons (tWk_rfcp rfl rfl) (.cons (.refl _) .nil)) (pis_f L hL a ha t h), ?_⟩); (try rintro _ rfl)) | (refine wrap_succ ?_; omega))))
  all_goals (conv => whnf)
  all_goals first | exact endM_self ⟨rfl, rfl⟩ | trace_state
theorem take_b (L : List Tok) (a : Nat) (t : ByteArray) : RetM env.P 71 [some (boxRow (pB L a true))] [.ptr 0 0 0, .s t] (fun r H => r = .kb false ∧ H = [some (boxRow (pB L a true))]) := by
  refine ret_ofM (nt := 17) (rvs := [.tmp 4]) Try.func71 rfl rfl rfl rfl (fun X hX => ?_)
  repeat' (first | omega | (with_reducible show (_ : Int) < _; dsimp only; omega) | (with_reducible show (_ : Nat) ≤ _; dsimp only; omega) | ((with_reducible show SrcOk _ _ _) <;> (first | exact srcOk_1 rfl | exact srcOk_L (fun _ => ⟨rfl, rfl⟩) | exact srcOk_E (fun _ => ⟨rfl, rfl⟩))) | ((conv => whnf) <;> (first | refine And.intro ?_ ?_ | (intro _h; first | contradiction | (try simp only [dd] at _h)) | (refine dt_go ?_) | exact rfl | exact True.intro | exact dkk | exact dks | (refine wrap_succ ?_; omega))))
  all_goals (conv => whnf)
  all_goals first | exact endM_self ⟨rfl, rfl⟩ | trace_state
theorem must_t (L : List Tok) (hL : LexOk L) (a : Nat) (ha : a < L.length) (t : ByteArray) (h : isT L t a) : RetM env.P 69 [some (boxRow (pB L a false))] [.ptr 0 0 0, .s t] (fun r H => r = .tup [] ∧ H = [some (boxRow (pB L (a + 1) false))]) := by
  refine ret_ofM (nt := 11) (rvs := []) Try.func69 rfl rfl rfl rfl (fun X hX => ?_)
  repeat' (first | omega | (with_reducible show (_ : Int) < _; dsimp only; omega) | (with_reducible show (_ : Nat) ≤ _; dsimp only; omega) | ((with_reducible show SrcOk _ _ _) <;> (first | exact srcOk_1 rfl | exact srcOk_L (fun _ => ⟨rfl, rfl⟩) | exact srcOk_E (fun _ => ⟨rfl, rfl⟩))) | ((conv => whnf) <;> (first | refine And.intro ?_ ?_ | (intro _h; first | contradiction | (try simp only [dd] at _h)) | (refine dt_go ?_) | exact rfl | exact True.intro | exact dkk | exact dks | (refine .inr (.inl (.inl ⟨[0], _, _, _, take_t L hL a ha t h, viewA, ⟨rfl, rfl⟩, ?_⟩)); (rintro _ _ ⟨rfl, rfl⟩) <;> (refine ⟨rfl, _, lokA, ?_⟩)) | (refine wrap_succ ?_; omega))))
  all_goals (conv => whnf)
  all_goals first | exact endM_self ⟨rfl, rfl⟩ | trace_state
theorem must_f (L : List Tok) (hL : LexOk L) (a : Nat) (ha : a < L.length) (t : ByteArray) (h : ¬ isT L t a) : RetM env.P 69 [some (boxRow (pB L a false))] [.ptr 0 0 0, .s t] (fun r H => r = .tup [] ∧ H = [some (boxRow (pB L a true))]) := by
  refine ret_ofM (nt := 11) (rvs := []) Try.func69 rfl rfl rfl rfl (fun X hX => ?_)
  repeat' (first | omega | (with_reducible show (_ : Int) < _; dsimp only; omega) | (with_reducible show (_ : Nat) ≤ _; dsimp only; omega) | ((with_reducible show SrcOk _ _ _) <;> (first | exact srcOk_1 rfl | exact srcOk_L (fun _ => ⟨rfl, rfl⟩) | exact srcOk_E (fun _ => ⟨rfl, rfl⟩))) | ((conv => whnf) <;> (first | refine And.intro ?_ ?_ | (intro _h; first | contradiction | (try simp only [dd] at _h)) | (refine dt_go ?_) | exact rfl | exact True.intro | exact dkk | exact dks | (refine .inr (.inl (.inl ⟨[0], _, _, _, take_f L hL a ha t h, viewA, ⟨rfl, rfl⟩, ?_⟩)); (rintro _ _ ⟨rfl, rfl⟩) <;> (refine ⟨rfl, _, lokA, ?_⟩)) | (refine wrap_succ ?_; omega))))
  all_goals (conv => whnf)
  all_goals first
    | (refine endM_turn (turn_box (id := 0) (ds := pB L a true) rfl rfl rfl (.cons (.refl _) (.cons (.refl _) (.cons (.refl _) .nil)))) ?_
       exact endM_self ⟨rfl, rfl⟩)
    | trace_state
theorem must_b (L : List Tok) (a : Nat) (t : ByteArray) : RetM env.P 69 [some (boxRow (pB L a true))] [.ptr 0 0 0, .s t] (fun r H => r = .tup [] ∧ H = [some (boxRow (pB L a true))]) := by
  refine ret_ofM (nt := 11) (rvs := []) Try.func69 rfl rfl rfl rfl (fun X hX => ?_)
  repeat' (first | omega | (with_reducible show (_ : Int) < _; dsimp only; omega) | (with_reducible show (_ : Nat) ≤ _; dsimp only; omega) | ((with_reducible show SrcOk _ _ _) <;> (first | exact srcOk_1 rfl | exact srcOk_L (fun _ => ⟨rfl, rfl⟩) | exact srcOk_E (fun _ => ⟨rfl, rfl⟩))) | ((conv => whnf) <;> (first | refine And.intro ?_ ?_ | (intro _h; first | contradiction | (try simp only [dd] at _h)) | (refine dt_go ?_) | exact rfl | exact True.intro | exact dkk | exact dks | (refine .inr (.inl (.inl ⟨[0], _, _, _, take_b L a t, viewA, ⟨rfl, rfl⟩, ?_⟩)); (rintro _ _ ⟨rfl, rfl⟩) <;> (refine ⟨rfl, _, lokA, ?_⟩)) | (refine wrap_succ ?_; omega))))
  all_goals (conv => whnf)
  all_goals first
    | (refine endM_turn (turn_box (id := 0) (ds := pB L a true) rfl rfl rfl (.cons (.refl _) (.cons (.refl _) (.cons (.refl _) .nil)))) ?_
       exact endM_self ⟨rfl, rfl⟩)
    | trace_state
theorem nmS_t {t : ByteArray} (hs : t.size ≤ 30000) (h : nmB t) : Ret env.P 92 [.s t] (fun r => r = .b true) := by
  refine ret_of (nt := 5) (rvs := [.tmp 2]) Try.func92 rfl rfl rfl rfl (fun X => ?_)
  repeat' (first | omega | (with_reducible show (_ : Int) < _; dsimp only; omega) | (with_reducible show (_ : Nat) ≤ _; dsimp only; omega) | ((with_reducible show SrcOk _ _ _) <;> (first | exact srcOk_1 rfl | exact srcOk_L (fun _ => ⟨rfl, rfl⟩) | exact srcOk_E (fun _ => ⟨rfl, rfl⟩))) | ((conv => whnf) <;> (first | refine And.intro ?_ ?_ | (intro _h; first | contradiction | (try simp only [dd] at _h)) | (refine dt_go ?_) | exact rfl | exact True.intro | exact dkk | exact dks | ((first | refine .inl ⟨_, (l03Name_ok t (by omega)).mono fun r e => by rw [e, pb_t.mpr h], ?_⟩ | refine ⟨_, (l03Name_ok t (by omega)).mono fun r e => by rw [e, pb_t.mpr h], ?_⟩); (try rintro _ rfl)) | (refine wrap_succ ?_; omega))))
  all_goals exact rfl
theorem nmS_f {t : ByteArray} (hs : t.size ≤ 30000) (h : ¬ nmB t) : Ret env.P 92 [.s t] (fun r => r = .b false) := by
  refine ret_of (nt := 5) (rvs := [.tmp 2]) Try.func92 rfl rfl rfl rfl (fun X => ?_)
  repeat' (first | omega | (with_reducible show (_ : Int) < _; dsimp only; omega) | (with_reducible show (_ : Nat) ≤ _; dsimp only; omega) | ((with_reducible show SrcOk _ _ _) <;> (first | exact srcOk_1 rfl | exact srcOk_L (fun _ => ⟨rfl, rfl⟩) | exact srcOk_E (fun _ => ⟨rfl, rfl⟩))) | ((conv => whnf) <;> (first | refine And.intro ?_ ?_ | (intro _h; first | contradiction | (try simp only [dd] at _h)) | (refine dt_go ?_) | exact rfl | exact True.intro | exact dkk | exact dks | ((first | refine .inl ⟨_, (l03Name_ok t (by omega)).mono fun r e => by rw [e, pb_f.mpr h], ?_⟩ | refine ⟨_, (l03Name_ok t (by omega)).mono fun r e => by rw [e, pb_f.mpr h], ?_⟩); (try rintro _ rfl)) | (refine wrap_succ ?_; omega))))
  all_goals exact rfl
theorem name_t (L : List Tok) (hL : LexOk L) (a : Nat) (ha : a < L.length) (h : (tkL L a).kind = 1 ∧ nmB (tkL L a).text) : RetM env.P 67 [some (boxRow (pB L a false))] [.ptr 0 0 0] (fun r H => r = .s (tkL L a).text ∧ H = [some (boxRow (pB L (a + 1) false))]) := by
  have h1 := hL.lt ha (show ¬ (tkL L a).kind = 4 by rw [h.1]; decide)
  have h2 := h.1
  refine ret_ofM (nt := 28) (rvs := [.tmp 2]) Try.func67 rfl rfl rfl rfl (fun X hX => ?_)
  repeat' (first | omega | (with_reducible show (_ : Int) < _; dsimp only; omega) | (with_reducible show (_ : Nat) ≤ _; dsimp only; omega) | ((with_reducible show SrcOk _ _ _) <;> (first | exact srcOk_1 rfl | exact srcOk_L (fun _ => ⟨rfl, rfl⟩) | exact srcOk_E (fun _ => ⟨rfl, rfl⟩))) | ((conv => whnf) <;> (first | refine And.intro ?_ ?_ | (intro _h; first | contradiction | (try simp only [dd] at _h)) | (refine dt_go ?_) | exact rfl | exact True.intro | exact dkk | exact dks | ((first | refine .inl ⟨_, Ret.wk (by exact .cons (tWk_rfcp rfl rfl) .nil) (peek_ok L hL a ha), ?_⟩ | refine ⟨_, Ret.wk (by exact .cons (tWk_rfcp rfl rfl) .nil) (peek_ok L hL a ha), ?_⟩); (try rintro _ rfl)) | ((first | refine .inl ⟨_, nmS_t (hL.sz a ha) h.2, ?_⟩ | refine ⟨_, nmS_t (hL.sz a ha) h.2, ?_⟩); (try rintro _ rfl)) | (refine .inr (.inl (.inl ⟨[0], _, _, _, pskip_ok L hL a h1 false, viewA, ⟨rfl, rfl⟩, ?_⟩)); (rintro _ _ ⟨rfl, rfl⟩) <;> (refine ⟨rfl, _, lokA, ?_⟩)) | (refine wrap_succ ?_; omega))))
  all_goals (conv => whnf)
  all_goals first
    | exact absurd h2 ‹_›
    | exact endM_pick [0] [some (boxRow (pB L (a + 1) false))] (.s (tkL L a).text) viewA rfl rfl (by rw [hX]; exact keepK (n := 1) rfl rfl) ⟨rfl, rfl⟩
    | trace_state
theorem name_f (L : List Tok) (hL : LexOk L) (a : Nat) (ha : a < L.length) (h : ¬ ((tkL L a).kind = 1 ∧ nmB (tkL L a).text)) : RetM env.P 67 [some (boxRow (pB L a false))] [.ptr 0 0 0] (fun r H => r = .s ⟨#[]⟩ ∧ H = [some (boxRow (pB L a true))]) := by
  refine ret_ofM (nt := 28) (rvs := [.tmp 2]) Try.func67 rfl rfl rfl rfl (fun X hX => ?_)
  repeat' (first | omega | (with_reducible show (_ : Int) < _; dsimp only; omega) | (with_reducible show (_ : Nat) ≤ _; dsimp only; omega) | ((with_reducible show SrcOk _ _ _) <;> (first | exact srcOk_1 rfl | exact srcOk_L (fun _ => ⟨rfl, rfl⟩) | exact srcOk_E (fun _ => ⟨rfl, rfl⟩))) | ((conv => whnf) <;> (first | refine And.intro ?_ ?_ | (intro _h; first | contradiction | (try simp only [dd] at _h)) | (refine dt_go ?_) | exact rfl | exact True.intro | exact dkk | exact dks | ((first | refine .inl ⟨_, Ret.wk (by exact .cons (tWk_rfcp rfl rfl) .nil) (peek_ok L hL a ha), ?_⟩ | refine ⟨_, Ret.wk (by exact .cons (tWk_rfcp rfl rfl) .nil) (peek_ok L hL a ha), ?_⟩); (try rintro _ rfl)) | ((first | refine .inl ⟨_, nmS_f (hL.sz a ha) (fun q => h ⟨‹_›, q⟩), ?_⟩ | refine ⟨_, nmS_f (hL.sz a ha) (fun q => h ⟨‹_›, q⟩), ?_⟩); (try rintro _ rfl)) | (refine wrap_succ ?_; omega))))
  all_goals (conv => whnf)
  all_goals first
    | (refine endM_turn (turn_box (id := 0) (ds := pB L a true) rfl rfl rfl (.cons (.refl _) (.cons (.refl _) (.cons (.refl _) .nil)))) ?_
       exact endM_pick [0] [some (boxRow (pB L a true))] (.s ⟨#[]⟩) viewA rfl rfl (by rw [hX]; exact keepK (n := 1) rfl rfl) ⟨rfl, rfl⟩)
    | trace_state
theorem name_b (L : List Tok) (hL : LexOk L) (a : Nat) (ha : a < L.length) : RetM env.P 67 [some (boxRow (pB L a true))] [.ptr 0 0 0] (fun r H => r = .s ⟨#[]⟩ ∧ H = [some (boxRow (pB L a true))]) := by
  refine ret_ofM (nt := 28) (rvs := [.tmp 2]) Try.func67 rfl rfl rfl rfl (fun X hX => ?_)
  repeat' (first | omega | (with_reducible show (_ : Int) < _; dsimp only; omega) | (with_reducible show (_ : Nat) ≤ _; dsimp only; omega) | ((with_reducible show SrcOk _ _ _) <;> (first | exact srcOk_1 rfl | exact srcOk_L (fun _ => ⟨rfl, rfl⟩) | exact srcOk_E (fun _ => ⟨rfl, rfl⟩))) | ((conv => whnf) <;> (first | refine And.intro ?_ ?_ | (intro _h; first | contradiction | (try simp only [dd] at _h)) | (refine dt_go ?_) | exact rfl | exact True.intro | exact dkk | exact dks | ((first | refine .inl ⟨_, Ret.wk (by exact .cons (tWk_rfcp rfl rfl) .nil) (peek_ok L hL a ha), ?_⟩ | refine ⟨_, Ret.wk (by exact .cons (tWk_rfcp rfl rfl) .nil) (peek_ok L hL a ha), ?_⟩); (try rintro _ rfl)) | (refine wrap_succ ?_; omega))))
  all_goals (conv => whnf)
  all_goals first
    | (refine endM_turn (turn_box (id := 0) (ds := pB L a true) rfl rfl rfl (.cons (.refl _) (.cons (.refl _) (.cons (.refl _) .nil)))) ?_
       exact endM_pick [0] [some (boxRow (pB L a true))] (.s ⟨#[]⟩) viewA rfl rfl (by rw [hX]; exact keepK (n := 1) rfl rfl) ⟨rfl, rfl⟩)
    | trace_state
end
section
attribute [local irreducible] IntKind.wrap
def mst (k : Int) : Nat → Int × ByteArray
  | 0 => (k, ⟨#[]⟩)
  | i + 1 => if 0 < (mst k i).1 then ((mst k i).1 / 10, (⟨#[UInt8.ofNat (48 + ((mst k i).1 % 10).toNat)]⟩ : ByteArray) ++ (mst k i).2) else mst k i
def mtxt (k : Int) : ByteArray := if k ≤ 0 then ⟨#[109, 48]⟩ else (⟨#[109]⟩ : ByteArray) ++ (mst k 19).2
theorem tle_max {n : Nat} (h : n ≤ 1000000000) : n ≤ maxLen := Nat.le_trans h (by decide)
end
set_option maxRecDepth 8000
instance strC_hold : HoldC strC := holdC_plain fun _ => rfl
instance strC_free : FreeC strC := freeC_plain fun _ => rfl
instance strC_shr : Shr 0 strC strC := shr_plain fun _ => rfl
def Str.mkE (a : ByteArray) (k : Int) : ByteArray × Int := (mtxt k, (k + 1))
end Go.Proofs.Ytllcemegnggpfaa
