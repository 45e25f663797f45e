/-
  Valid types: the reference's functions, the rest.
-/
import Derived.Test.YtgjihfinbaopcaaVTpC
namespace Go.Proofs.Ytgjihfinbaopcaa
open Go Go.RowKit
set_option linter.unusedVariables false
set_option linter.unusedSimpArgs false
attribute [local irreducible] IntKind.wrap

theorem nm_size {b : ByteArray} (h : nmB b) : ¬ b.size = 0 := by have := h.lo; omega
theorem lb_len {l : List ByteArray} (h : lbB l) : ¬ l.length = 0 := by have := h.lo; omega
theorem sz_empty {b : ByteArray} (h : b = ⟨#[]⟩) : b.size = 0 := by rw [h]; rfl
theorem empty_sz {b : ByteArray} (h : b.size = 0) : b = ⟨#[]⟩ := by
  obtain ⟨d⟩ := b
  have : d.size = 0 := h
  rw [Array.size_eq_zero_iff.1 this]
theorem nm_eq0 {b : ByteArray} : b = ⟨#[]⟩ ↔ b.size = 0 := ⟨sz_empty, empty_sz⟩
theorem bne_nt {p q : Prop} [Decidable p] [Decidable q] : ((decide p != !decide q) = true) ↔ (p ↔ q) := by
  by_cases hp : p <;> by_cases hq : q <;> simp [hp, hq]
theorem bne_nf {p q : Prop} [Decidable p] [Decidable q] : ((decide p != !decide q) = false) ↔ (p ↔ ¬ q) := by
  by_cases hp : p <;> by_cases hq : q <;> simp [hp, hq]
theorem bne_t {p q : Prop} [Decidable p] [Decidable q] : ((decide p != decide q) = true) ↔ (p ↔ ¬ q) := by
  by_cases hp : p <;> by_cases hq : q <;> simp [hp, hq]
theorem bne_f {p q : Prop} [Decidable p] [Decidable q] : ((decide p != decide q) = false) ↔ (p ↔ q) := by
  by_cases hp : p <;> by_cases hq : q <;> simp [hp, hq]
theorem bne_Tt {q : Prop} [Decidable q] : ((true != !decide q) = true) ↔ q := by by_cases hq : q <;> simp [hq]
theorem bne_Tf {q : Prop} [Decidable q] : ((true != !decide q) = false) ↔ ¬ q := by by_cases hq : q <;> simp [hq]
structure Typ.Hd (a : Typ) : Prop where
  n1 : isNamed a.kind → nmB a.name
  n2 : ¬ isNamed a.kind → a.name.size = 0
  l1 : isLab a.kind → lbB a.labels
  l2 : ¬ isLab a.kind → a.labels.length = 0
theorem shp_k {a : Typ} {p : Prop} (hd : a.Hd) (hk : a.kidsOk ↔ p) : a.shp ↔ p := ⟨fun q => hk.1 q.ks, fun q => ⟨hd.n1, hd.n2, hd.l1, hd.l2, hk.2 q⟩⟩
theorem kids_1 {a : Typ} (h : a.kind = 12 ∨ a.kind = 13) : a.kidsOk ↔ (a.kids.length = 1 ∧ ¬ a.units) := ⟨fun q => q.k1 h, fun q => ⟨fun _ => q, fun e => absurd e (by omega), fun e => absurd e (by omega), fun e => absurd e (by omega), fun e => absurd e (by omega), fun e => absurd e (by omega), fun e => absurd e (by omega)⟩⟩
theorem kids_2 {a : Typ} (h : a.kind = 22 ∨ a.kind = 23) : a.kidsOk ↔ (a.kids.length = 1 ∧ ¬ Typ.has (fun k => 21 ≤ k ∧ k ≤ 21) (a.kids.getD 0 default)) := ⟨fun q => q.k2 h, fun q => ⟨fun e => absurd e (by omega), fun _ => q, fun e => absurd e (by omega), fun e => absurd e (by omega), fun e => absurd e (by omega), fun e => absurd e (by omega), fun e => absurd e (by omega)⟩⟩
theorem kids_3 {a : Typ} (h : a.kind = 14) : a.kidsOk ↔ a.kids.length = 2 := ⟨fun q => q.k3 h, fun q => ⟨fun e => absurd e (by omega), fun e => absurd e (by omega), fun _ => q, fun e => absurd e (by omega), fun e => absurd e (by omega), fun e => absurd e (by omega), fun e => absurd e (by omega)⟩⟩
theorem kids_4 {a : Typ} (h : a.kind = 15) : a.kidsOk ↔ (1 ≤ a.kids.length ∧ a.kids.length ≤ 6 ∧ ¬ a.units) := ⟨fun q => q.k4 h, fun q => ⟨fun e => absurd e (by omega), fun e => absurd e (by omega), fun e => absurd e (by omega), fun _ => q, fun e => absurd e (by omega), fun e => absurd e (by omega), fun e => absurd e (by omega)⟩⟩
theorem kids_5 {a : Typ} (h : a.kind = 16) : a.kidsOk ↔ (a.kids.length = a.labels.length ∧ ¬ a.units) := ⟨fun q => q.k5 h, fun q => ⟨fun e => absurd e (by omega), fun e => absurd e (by omega), fun e => absurd e (by omega), fun e => absurd e (by omega), fun _ => q, fun e => absurd e (by omega), fun e => absurd e (by omega)⟩⟩
theorem kids_6 {a : Typ} (h : a.kind = 17) : a.kidsOk ↔ a.kids.length = a.labels.length := ⟨fun q => q.k6 h, fun q => ⟨fun e => absurd e (by omega), fun e => absurd e (by omega), fun e => absurd e (by omega), fun e => absurd e (by omega), fun e => absurd e (by omega), fun _ => q, fun e => absurd e (by omega)⟩⟩
theorem kids_7 {a : Typ} (h : ¬ ((12 ≤ a.kind ∧ a.kind ≤ 17) ∨ a.kind = 22 ∨ a.kind = 23)) : a.kidsOk ↔ ((1 ≤ a.kind ∧ a.kind ≤ 23) ∧ a.kids.length = 0) := ⟨fun q => q.k7 h, fun q => ⟨fun e => absurd e (by omega), fun e => absurd e (by omega), fun e => absurd e (by omega), fun e => absurd e (by omega), fun e => absurd e (by omega), fun e => absurd e (by omega), fun _ => q⟩⟩
theorem npb {p q : Prop} (h : p ↔ ¬ q) : (!pb q) = pb p := by
  by_cases hq : q
  · rw [pb_t.mpr hq, pb_f.mpr (fun r => h.1 r hq)]; rfl
  · rw [pb_f.mpr hq, pb_t.mpr (h.2 hq)]; rfl
theorem dpb {p q : Prop} [Decidable q] (h : p ↔ q) : decide q = pb p := by
  by_cases hq : q
  · rw [decide_eq_true hq, pb_t.mpr (h.2 hq)]
  · rw [decide_eq_false hq, pb_f.mpr (fun r => hq (h.1 r))]
set_option maxRecDepth 8000 in
set_option maxHeartbeats 2000000 in
theorem l03Shape_ok {n : Nat} {a : Typ} (h : Typ.oN (n + 1) a) : Ret env.P 54 [.agg (Typ.pN (n + 1) a)] (fun r => r = .b (pb a.shp)) := by
  have hl := Typ.oN_len h
  have hn := l03Name_ok a.name (Typ.oN_name h)
  have hL := l03Labels_ok a.labels (Typ.oN_labels h).1 (Typ.oN_labels h).2
  have hU : Ret env.P 65 [.agg (Typ.pN (n + 2) a)] (fun r => r = .b (pb a.units)) := l03Units_ok (Typ.oN_up _ _ h)
  have hH : 0 < a.kids.length → Ret env.P 35 [.agg (Typ.pN (n + 1) (a.kids.getD 0 default)), .i .i64 21, .i .i64 21] (fun r => r = .b (pb (Typ.has (fun k => 21 ≤ k ∧ k ≤ 21) (a.kids.getD 0 default)))) := fun hk => Ret.wk (.cons (Typ.down (Typ.oN_kid h hk)) (.cons (.refl _) (.cons (.refl _) .nil))) (l03Has_n 21 21 n _ (Typ.oN_kid h hk))
  refine Ret.wk (.cons (Typ.lift h) .nil) ?_
  refine ret_of (nt := 119) (rvs := [.tmp 2]) Try.func54 rfl rfl rfl rfl (fun X => ?_)
  repeat' (first | exact aa | ((conv => whnf) <;> (first | refine And.intro ?_ ?_ | (intro _h; first | contradiction | (try simp only [dd] at _h)) | (refine dt_go ?_) | exact rfl | exact True.intro | exact dkk | exact dks | ((first | refine .inl ⟨_, l00In_ok _ _ _, ?_⟩ | refine ⟨_, l00In_ok _ _ _, ?_⟩); (try rintro _ rfl)) | ((first | refine .inl ⟨_, hn, ?_⟩ | refine ⟨_, hn, ?_⟩); (try rintro _ rfl)) | ((first | refine .inl ⟨_, hL, ?_⟩ | refine ⟨_, hL, ?_⟩); (try rintro _ rfl)) | ((first | refine .inl ⟨_, hU, ?_⟩ | refine ⟨_, hU, ?_⟩); (try rintro _ rfl)) | ((first | refine .inl ⟨_, hH (by omega), ?_⟩ | refine ⟨_, hH (by omega), ?_⟩); (try rintro _ rfl)) | (refine wrap_succ ?_; omega))))
  all_goals clear hn hL hU hH
  all_goals (try simp only [Int.toNat_natCast, bne_nt, bne_nf, bne_t, bne_f, bne_Tt, bne_Tf, nm_eq0] at *)
  all_goals (conv => whnf)
  all_goals first
    | (refine leaf_f fun q => ?_
       have e1 : isNamed a.kind → 1 ≤ a.name.size := fun h => (q.n1 h).lo
       have e2 := q.n2
       have e3 : isLab a.kind → 1 ≤ a.labels.length := fun h => (q.l1 h).lo
       have e4 := q.l2
       unfold isNamed at e1 e2
       unfold isLab at e3 e4
       first
         | omega
         | exact ‹¬ nmB _› (q.n1 (by unfold isNamed; omega))
         | exact ‹¬ lbB _› (q.l1 (by unfold isLab; omega)))
    | (have hd : a.Hd := ⟨(by unfold isNamed; intro h; first | exact Classical.not_not.1 ‹¬ ¬ nmB _› | (exfalso; omega)), (by unfold isNamed; omega), (by unfold isLab; intro h; first | exact Classical.not_not.1 ‹¬ ¬ lbB _› | (exfalso; omega)), (by unfold isLab; omega)⟩
       first
         | (have hk := shp_k hd (kids_1 (by omega))
            first
              | exact leaf_f (fun q => by have := hk.1 q; omega)
              | exact leaf_b (npb (hk.trans ⟨fun q => q.2, fun q => ⟨by omega, q⟩⟩))
              | trace_state)
         | (have hk := shp_k hd (kids_2 (by omega))
            first
              | exact leaf_f (fun q => by have := hk.1 q; omega)
              | exact leaf_b (npb (hk.trans ⟨fun q => q.2, fun q => ⟨by omega, q⟩⟩))
              | trace_state)
         | (have hk := shp_k hd (kids_3 (by omega))
            first
              | exact leaf_b (dpb (hk.trans (by omega)))
              | trace_state)
         | (have hk := shp_k hd (kids_4 (by omega))
            first
              | exact leaf_f (fun q => by have := hk.1 q; omega)
              | exact leaf_b (npb (hk.trans ⟨fun q => q.2.2, fun q => ⟨by omega, by omega, q⟩⟩))
              | trace_state)
         | (have hk := shp_k hd (kids_5 (by omega))
            first
              | exact leaf_f (fun q => by have := hk.1 q; omega)
              | exact leaf_b (npb (hk.trans ⟨fun q => q.2, fun q => ⟨by omega, q⟩⟩))
              | trace_state)
         | (have hk := shp_k hd (kids_6 (by omega))
            first
              | exact leaf_b (dpb (hk.trans (by omega)))
              | trace_state)
         | (have hk := shp_k hd (kids_7 (by omega))
            first
              | exact leaf_f (fun q => by have := hk.1 q; omega)
              | exact leaf_b (dpb (hk.trans (by omega)))
              | trace_state))
    | trace_state
/-! All parts. -/
structure ShTo (l : List Typ) (k : Nat) : Prop where
  h : ∀ j, j < k → Typ.sh (l.getD j default)
theorem ShTo.zero (l : List Typ) : ShTo l 0 := ⟨fun j hj => absurd hj (Nat.not_lt_zero _)⟩
theorem ShTo.succ {l : List Typ} {k : Nat} (h : ShTo l k) (h1 : Typ.sh (l.getD k default)) : ShTo l (k + 1) := ⟨fun i hi => by
  rcases Nat.lt_or_eq_of_le (Nat.le_of_lt_succ hi) with r | rfl
  · exact h.h i r
  · exact h1⟩
theorem sh_no1 {a : Typ} (h : ¬ a.shp) : ¬ a.sh := fun q => h (Typ.sh_eq.1 q).1
theorem sh_no2 {a : Typ} {k : Nat} (hw : ShTo a.kids k) (hk : k < a.kids.length) (h : ¬ Typ.sh (a.kids.getD k default)) : ¬ a.sh := fun q => h ((Typ.sh_eq.1 q).2 k hk)
theorem sh_yes {a : Typ} {k : Nat} (h0 : a.shp) (h : ShTo a.kids k) (hk : k = a.kids.length) : a.sh := Typ.sh_eq.2 ⟨h0, fun j hj => h.h j (by omega)⟩
set_option maxRecDepth 8000 in
theorem l03Parts_n : ∀ (n : Nat) (a : Typ), Typ.oN n a → Ret env.P 46 [.agg (Typ.pN n a)] (fun r => r = .b (pb a.sh))
  | 0, a, h => h.elim
  | n + 1, a, h => by
    have hl := Typ.oN_len h
    have hS : Ret env.P 54 [.agg (Typ.pN (n + 2) a)] (fun r => r = .b (pb a.shp)) := l03Shape_ok (Typ.oN_up _ _ h)
    have hq : ∀ k, k < a.kids.length → Ret env.P 46 [.agg (Typ.pN (n + 1) (a.kids.getD k default))] (fun r => r = .b (pb (Typ.sh (a.kids.getD k default)))) := fun k hk => Ret.wk (.cons (Typ.down (Typ.oN_kid h hk)) .nil) (l03Parts_n n _ (Typ.oN_kid h hk))
    refine Ret.wk (.cons (Typ.lift h) .nil) ?_
    refine ret_of (nt := 21) (rvs := [.tmp 2]) Try.func46 rfl rfl rfl rfl (fun X => ?_)
    repeat' (first | exact aa | ((conv => whnf) <;> (first | refine loopN a.kids.length (fun k => [(3, .i .i64 k)]) (fun k => []) (fun k => ShTo a.kids k) ⟨.zero _, ?_⟩ | refine And.intro ?_ ?_ | (intro _h; first | contradiction | (try simp only [dd] at _h)) | (refine dt_go ?_) | exact rfl | exact True.intro | exact dkk | exact dks | ((first | refine .inl ⟨_, hS, ?_⟩ | refine ⟨_, hS, ?_⟩); (try rintro _ rfl)) | ((first | refine .inl ⟨_, hq _ (by omega), ?_⟩ | refine ⟨_, hq _ (by omega), ?_⟩); (try rintro _ rfl)) | (refine wrap_succ ?_; omega))))
    all_goals (try simp only [Int.toNat_natCast] at *)
    all_goals first
      | exact ShTo.succ ‹_› (Classical.not_not.1 ‹_›)
      | (conv => whnf
         first
           | exact leaf_f (sh_no1 ‹_›)
           | exact leaf_f (sh_no2 ‹ShTo _ _› (by omega) ‹_›)
           | exact leaf_t (sh_yes (Classical.not_not.1 ‹_›) ‹ShTo _ _› (by omega)))
      | trace_state
theorem l03Ok_ok {n : Nat} {a : Typ} (h : Typ.oN (n + 1) a) : Ret env.P 34 [.agg (Typ.pN (n + 1) a)] (fun r => r = .b (pb a.good)) := by
  have hz := l03Size_n 4 (by decide) 1 (by decide) n a h
  have hp := l03Parts_n (n + 1) a h
  refine ret_of (nt := 20) (rvs := [.tmp 2]) Try.func34 rfl rfl rfl rfl (fun X => ?_)
  repeat' (first | exact aa | ((conv => whnf) <;> (first | (refine .inl ⟨_, hz, ?_⟩; rintro _ ⟨x, y, rfl, hs⟩) | refine And.intro ?_ ?_ | (intro _h; first | contradiction | (try simp only [dd] at _h)) | (refine dt_go ?_) | exact rfl | exact True.intro | exact dkk | exact dks | ((first | refine .inl ⟨_, hp, ?_⟩ | refine ⟨_, hp, ?_⟩); (try rintro _ rfl)) | (refine wrap_succ ?_; omega))))
  all_goals (conv => whnf)
  all_goals first
    | exact leaf_f (fun q => by rcases hs with ⟨_, _, _, _, _⟩ | ⟨hn, _, _⟩ <;> first | omega | exact hn ⟨q.1, q.2.1⟩)
    | exact leaf_b (pb_congr ⟨fun q => by rcases hs with ⟨h1, h2, _, _, _⟩ | ⟨_, e1, e2⟩ <;> first | exact ⟨h1, h2, q⟩ | (exfalso; omega), fun q => q.2.2⟩)
    | trace_state
end Go.Proofs.Ytgjihfinbaopcaa
