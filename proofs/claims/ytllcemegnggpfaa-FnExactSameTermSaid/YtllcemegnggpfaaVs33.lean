/- Texts for VTermOkP. -/
import Derived.Test.YtllcemegnggpfaaVs32
namespace Go.Proofs.Ytllcemegnggpfaa
open Go Go.RowKit
set_option linter.unusedVariables false
set_option linter.unusedSimpArgs false
section
attribute [local irreducible] IntKind.wrap
def lbK (t : Term) (ks : List ByteArray) : Nat → List ByteArray
  | 0 => []
  | n + 1 => lbK t ks n ++ [lbT t ks n]
theorem lbK_len (t : Term) (ks : List ByteArray) : ∀ n, (lbK t ks n).length = n
  | 0 => rfl
  | n + 1 => by rw [lbK, List.length_append, lbK_len t ks n]; rfl
theorem lbK_all (t : Term) (ks : List ByteArray) : ∀ n, lbK t ks n = (List.range n).map (lbT t ks)
  | 0 => rfl
  | n + 1 => by rw [lbK, lbK_all t ks n, List.range_succ, List.map_append]; rfl
theorem owS {a b : ByteArray} (h : a = b) : OwEq (.s a) (.s b) := h ▸ .refl _
theorem szB_any {l : List ByteArray} {B : Nat} (h : szB l ≤ B) (k : Nat) : (l.getD k default).size ≤ B := by
  by_cases hk : k < l.length
  · exact Nat.le_trans (szB_get hk) h
  · rw [List.getD_eq_getElem?_getD, List.getElem?_eq_none (by omega)]
    exact Nat.zero_le _
theorem mx1 {l : List ByteArray} (h : ∀ k, (l.getD k default).size ≤ 100000000) {c : ByteArray} (hc : c.size ≤ 10) {k : Nat} : c.size + (l.getD k default).size ≤ maxLen := tle_max (by have := h k; omega)
theorem mx2 {l : List ByteArray} (h : ∀ k, (l.getD k default).size ≤ 100000000) {c d : ByteArray} (hc : c.size ≤ 10) (hd : d.size ≤ 10) {k : Nat} : (c ++ l.getD k default).size + d.size ≤ maxLen := tle_max (by have := h k; rw [ba_app]; omega)
theorem mx3 {l m : List ByteArray} (h : ∀ k, (l.getD k default).size ≤ 100000000) (hm : ∀ k, (m.getD k default).size ≤ 100000000) {c : ByteArray} (hc : c.size ≤ 10) {j k : Nat} : (m.getD j default).size + (c ++ l.getD k default).size ≤ maxLen := tle_max (by have := h k; have := hm j; rw [ba_app]; omega)
theorem mx4 {l m : List ByteArray} (h : ∀ k, (l.getD k default).size ≤ 100000000) (hm : ∀ k, (m.getD k default).size ≤ 100000000) {c d : ByteArray} (hc : c.size ≤ 10) (hd : d.size ≤ 10) {j k : Nat} : (m.getD j default).size + (c ++ l.getD k default ++ d).size ≤ maxLen := tle_max (by have := h k; have := hm j; rw [ba_app, ba_app]; omega)
theorem lbm_capC {n b : Nat} (h : n ≤ 1048576) (hb : b ≤ 1000) : (n + 1) * b ≤ 140737488355328 := Nat.le_trans (Nat.mul_le_mul (Nat.succ_le_succ h) hb) (by decide)
theorem lbm_capM {n : Nat} (h : n ≤ 1048576) : n + 1 ≤ 9223372036854775807 := by omega
set_option maxRecDepth 8000 in
set_option maxHeartbeats 4000000 in
theorem labelTexts_ok (m : Nat) (t : Term) (h : Term.oN (m + 1) t) (ks : List ByteArray) (hk : ks.length = t.kids.length) (hs : szB ks ≤ 100000000) (hs2 : szB t.labels ≤ 100000000) : RetM env.P 86 [] [.agg (Term.pN (m + 1) t), slL 1 strC ks] (fun r H => r = .row 0 t.labels.length ∧ H = [some (rowL 1 strC (lbsT t ks))]) := by
  refine RetM.wk (by exact .cons (.agg (Term.up _ _ (Term.oN_fN _ _ h))) (.cons (.refl _) .nil)) ?_
  have hz : ∀ k, (ks.getD k default).size ≤ 100000000 := fun k => szB_any hs k
  have hz2 : ∀ k, (t.labels.getD k default).size ≤ 100000000 := fun k => szB_any hs2 k
  have hl := h.2.1.1
  have hof : ∀ k : Nat, k ≤ 1048576 → (lbK t ks k).length ≤ 1048576 := fun k hk => by rw [lbK_len]; exact hk
  have c1 : (⟨#[58, 32]⟩ : ByteArray).size = 2 := rfl
  have c2 : (⟨#[40]⟩ : ByteArray).size = 1 := rfl
  have c3 : (⟨#[41]⟩ : ByteArray).size = 1 := rfl
  refine ret_ofM (nt := 60) (rvs := [.tmp 4]) Try.func86 rfl rfl rfl rfl (fun X hX => ?_)
  repeat' (first | omega | (with_reducible show (_ : Int) < _; dsimp only; omega) | (with_reducible show (_ : Nat) ≤ _; dsimp only; omega) | ((with_reducible show SrcOk _ _ _) <;> (first | exact srcOk_1 rfl | exact srcOk_L (fun _ => ⟨rfl, rfl⟩) | exact srcOk_E (fun _ => ⟨rfl, rfl⟩))) | ((conv => whnf) <;> (first | (refine lw_del 8 ?_; refine loopFT (fun k : Nat => [(12, .i .i64 k), (5, .row 1 (lbK t ks k).length)]) (fun k => [none, some (.arr ⟨1, (lbK t ks k).length, elE strC (lbK t ks k), .arr⟩)]) (fun k => k ≤ t.labels.length) (fun k => t.labels.length - k) 0 ⟨Nat.zero_le _, ?_⟩) | exact lbz_zero rfl rfl | exact low_cells rfl | exact lbm_capC (hof _ (by omega)) (show 16 ≤ 1000 by decide) | exact lbm_capM (hof _ (by omega)) | exact srcOk_1 rfl | exact mx1 hz (by decide) | exact mx2 hz (by decide) (by decide) | exact mx3 hz hz2 (by decide) | exact mx4 hz hz2 (by decide) (by decide) | refine And.intro ?_ ?_ | (intro _h; first | contradiction | (try simp only [dd] at _h)) | (refine dt_go ?_) | exact rfl | exact True.intro | exact dkk | exact dks | (refine wrap_succ ?_; omega))))
  all_goals (try simp only [Int.toNat_natCast] at *)
  all_goals (rename Nat => k)
  all_goals first
    | (have hlt : (k : Int) < (t.labels.length : Int) := ‹_›
       conv => whnf
       refine roundET_turn (turn_eq (id := 3) (x := rowL 1 strC (lbK t ks (k + 1))) rfl rfl lbz_len.symm rfl rfl (snoc_eq (l := lbK t ks k) (sz := 1) (a := lbT t ks k) (c := strC) rfl (fun j hj => by
         obtain rfl : j = 0 := by omega
         refine owS ?_
         first
         | (rw [lbT, if_pos (by omega)]; done)
         | (rw [lbT, if_neg (by omega), if_pos ‹t.kind = 16›]; done)
         | (rw [lbT, if_neg (by omega), if_neg ‹¬ t.kind = 16›, if_pos ⟨‹t.kind = 17›, ‹_›⟩]; done)
         | (rw [lbT, if_neg (by omega), if_neg ‹¬ t.kind = 16›, if_neg (fun q => q.2 ‹_›)]; done)
         | (rw [lbT, if_neg (by omega), if_neg ‹¬ t.kind = 16›, if_neg (fun q => absurd q.1 ‹¬ t.kind = 17›)]; done)))) ?_
       refine roundET_end ?_
       refine ⟨k + 1, [0, 3], (by show k + 1 ≤ t.labels.length; omega), (by show t.labels.length - (k + 1) < t.labels.length - k; omega), ?_⟩
       repeat' (first | omega | (with_reducible show (_ : Int) < _; dsimp only; omega) | (with_reducible show (_ : Nat) ≤ _; dsimp only; omega) | ((with_reducible show SrcOk _ _ _) <;> (first | exact srcOk_1 rfl | exact srcOk_L (fun _ => ⟨rfl, rfl⟩) | exact srcOk_E (fun _ => ⟨rfl, rfl⟩))) | ((conv => whnf) <;> (first | exact arr_same rfl rfl (fun a j => low_cells rfl) | exact low_cells rfl | exact lbz_len | exact lbz_rho hX ‹_› | exact rfl | refine And.intro ?_ ?_ | (intro _h; first | contradiction | (try simp only [dd] at _h)) | (refine dt_go ?_) | exact rfl | exact True.intro | exact dkk | exact dks | (refine wrap_succ ?_; omega)))))
    | (conv => whnf
       have hk : k = t.labels.length := by omega
       subst hk
       exact endM_pick [1] [some (rowL 1 strC (lbK t ks t.labels.length))] (.row 0 (lbK t ks t.labels.length).length) (view_of rfl (.cons rfl (.self (rowPl_L fun _ => rfl)) .nil)) rfl rfl (fun k hk => by rw [hX] at hk; exact absurd hk (Nat.not_lt_zero _)) ⟨by rw [lbK_len], by rw [lbK_all]; rfl⟩)
    | trace_state
end
end Go.Proofs.Ytllcemegnggpfaa
