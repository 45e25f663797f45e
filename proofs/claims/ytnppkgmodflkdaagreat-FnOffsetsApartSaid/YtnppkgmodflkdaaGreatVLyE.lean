/-
  Layout of types (plain): alignments, sizes, places.
-/
import Derived.Test.YtnppkgmodflkdaaGreatVTpA
import Derived.Test.YtnppkgmodflkdaaGreatVTpF
import Derived.Test.YtnppkgmodflkdaaGreatVLz
import Derived.Test.YtnppkgmodflkdaaGreatVDt
namespace Go.Proofs.YtnppkgmodflkdaaGreat
open Go Go.RowKit
set_option linter.unusedVariables false
set_option linter.unusedSimpArgs false

def numSz (k : Int) : Nat := if k = 2 ∨ k = 3 ∨ k = 4 then 1 else if k = 5 ∨ k = 6 then 2 else if k = 7 ∨ k = 8 ∨ k = 10 ∨ k = 20 ∨ k = 21 ∨ k = 22 ∨ k = 23 then 4 else if k = 9 then 8 else 0
/-- The smallest multiple of a that is not below x. -/
def rup (x a : Nat) : Nat := (x + a - 1) / a * a
/-- The greatest value at the first k of a list. -/
def maxK (f : Typ → Nat) (z : Nat) (l : List Typ) : Nat → Nat
  | 0 => z
  | k + 1 => max (maxK f z l k) (f (l.getD k default))
def endK (f g : Typ → Nat) (l : List Typ) : Nat → Nat
  | 0 => 0
  | k + 1 => rup (endK f g l k) (f (l.getD k default)) + g (l.getD k default)
def isCs (k : Int) : Prop := k = 13 ∨ k = 14 ∨ k = 17
def isTu (k : Int) : Prop := k = 15 ∨ k = 16
instance (k : Int) : Decidable (isCs k) := inferInstanceAs (Decidable (_ ∨ _))
instance (k : Int) : Decidable (isTu k) := inferInstanceAs (Decidable (_ ∨ _))
def alG (ih : Typ → Nat) (a : Typ) : Nat := if a.kind = 1 ∨ a.kind = 18 then 1 else if a.kind = 11 ∨ a.kind = 12 then 4 else if a.kind = 19 then (a.labels.length + 7) / 8 else if isTu a.kind ∨ isCs a.kind then maxK ih 1 a.kids a.kids.length else numSz a.kind
def Typ.alN (n : Nat) : Typ → Nat := Nat.rec (motive := fun _ => Typ → Nat) (fun _ => 1) (fun _ ih => alG ih) n
noncomputable def Typ.al (a : Typ) : Nat := Typ.alN (a.kd + 1) a
noncomputable def szG (ih : Typ → Nat) (a : Typ) : Nat := if a.kind = 1 then 0 else if a.kind = 18 then 1 else if a.kind = 11 ∨ a.kind = 12 then 8 else if a.kind = 19 then (a.labels.length + 7) / 8 else if isTu a.kind then rup (endK Typ.al ih a.kids a.kids.length) (maxK Typ.al 1 a.kids a.kids.length) else if isCs a.kind then rup (rup 1 (maxK Typ.al 1 a.kids a.kids.length) + maxK ih 0 a.kids a.kids.length) (maxK Typ.al 1 a.kids a.kids.length) else numSz a.kind
noncomputable def Typ.szN (n : Nat) : Typ → Nat := Nat.rec (motive := fun _ => Typ → Nat) (fun _ => 0) (fun _ ih => szG ih) n
noncomputable def Typ.sz' (a : Typ) : Nat := Typ.szN (a.kd + 1) a
theorem maxK_congr {f g : Typ → Nat} {z : Nat} {l : List Typ} (h : ∀ k, k < l.length → f (l.getD k default) = g (l.getD k default)) : ∀ {k : Nat}, k ≤ l.length → maxK f z l k = maxK g z l k
  | 0, _ => rfl
  | k + 1, hk => by
    show max (maxK f z l k) _ = max (maxK g z l k) _
    rw [maxK_congr h (by omega), h k (by omega)]
theorem endK_congr {e f g : Typ → Nat} {l : List Typ} (h : ∀ k, k < l.length → f (l.getD k default) = g (l.getD k default)) : ∀ {k : Nat}, k ≤ l.length → endK e f l k = endK e g l k
  | 0, _ => rfl
  | k + 1, hk => by
    show rup (endK e f l k) _ + _ = rup (endK e g l k) _ + _
    rw [endK_congr h (by omega), h k (by omega)]
theorem alG_congr {f g : Typ → Nat} {a : Typ} (h : ∀ k, k < a.kids.length → f (a.kids.getD k default) = g (a.kids.getD k default)) : alG f a = alG g a := by
  unfold alG
  rw [maxK_congr h (Nat.le_refl _)]
theorem szG_congr {f g : Typ → Nat} {a : Typ} (h : ∀ k, k < a.kids.length → f (a.kids.getD k default) = g (a.kids.getD k default)) : szG f a = szG g a := by
  unfold szG
  rw [maxK_congr h (Nat.le_refl _), endK_congr h (Nat.le_refl _)]
theorem Typ.alN_conv : ∀ (n m : Nat) (a : Typ), Typ.fN n a → Typ.fN m a → Typ.alN n a = Typ.alN m a
  | 0, m, a, h, _ => h.elim
  | n + 1, 0, a, _, h => h.elim
  | n + 1, m + 1, a, h, k => alG_congr fun j hj => Typ.alN_conv n m _ (Typ.fN_get.1 h j hj) (Typ.fN_get.1 k j hj)
theorem Typ.al_eq (a : Typ) : a.al = alG Typ.al a := alG_congr fun j hj => Typ.alN_conv _ _ _ (Typ.fN_kd _ _ (Typ.kid_kd hj)) (Typ.fN_self _)
theorem Typ.szN_conv : ∀ (n m : Nat) (a : Typ), Typ.fN n a → Typ.fN m a → Typ.szN n a = Typ.szN m a
  | 0, m, a, h, _ => h.elim
  | n + 1, 0, a, _, h => h.elim
  | n + 1, m + 1, a, h, k => szG_congr fun j hj => Typ.szN_conv n m _ (Typ.fN_get.1 h j hj) (Typ.fN_get.1 k j hj)
theorem Typ.sz_eq (a : Typ) : a.sz' = szG Typ.sz' a := szG_congr fun j hj => Typ.szN_conv _ _ _ (Typ.fN_kd _ _ (Typ.kid_kd hj)) (Typ.fN_self _)
/-! Powers of two. -/
def p2 (x : Nat) : Prop := x = 1 ∨ x = 2 ∨ x = 4 ∨ x = 8
theorem p2.pos {x : Nat} (h : p2 x) : 1 ≤ x ∧ x ≤ 8 := by unfold p2 at h; omega
theorem p2_max {x y : Nat} (hx : p2 x) (hy : p2 y) : p2 (max x y) ∧ x ∣ max x y ∧ y ∣ max x y := by
  unfold p2 at *
  rcases hx with rfl | rfl | rfl | rfl <;> rcases hy with rfl | rfl | rfl | rfl <;> decide
theorem maxK_p2 {f : Typ → Nat} {l : List Typ} (h : ∀ k, k < l.length → p2 (f (l.getD k default))) : ∀ {k : Nat}, k ≤ l.length → p2 (maxK f 1 l k) ∧ ∀ j, j < k → f (l.getD j default) ∣ maxK f 1 l k
  | 0, _ => ⟨.inl rfl, fun j hj => absurd hj (Nat.not_lt_zero _)⟩
  | k + 1, hk => by
    have ih := maxK_p2 h (k := k) (by omega)
    have q := p2_max ih.1 (h k (by omega))
    refine ⟨q.1, fun j hj => ?_⟩
    rcases Nat.lt_or_eq_of_le (Nat.le_of_lt_succ hj) with r | rfl
    · exact Nat.dvd_trans (ih.2 j r) q.2.1
    · exact q.2.2
theorem up_dvd (x a : Nat) : a ∣ rup x a := Nat.dvd_mul_left _ _
theorem up_le {x a : Nat} (h : 1 ≤ a) : x ≤ rup x a ∧ rup x a < x + a := by
  unfold rup
  have h1 := Nat.div_add_mod (x + a - 1) a
  have h2 := Nat.mod_lt (x + a - 1) (show 0 < a by omega)
  rw [Nat.mul_comm] at h1
  omega
theorem maxK_le {f : Typ → Nat} {z : Nat} {l : List Typ} : ∀ {k j : Nat}, j < k → f (l.getD j default) ≤ maxK f z l k
  | 0, j, h => absurd h (Nat.not_lt_zero _)
  | k + 1, j, h => by
    show _ ≤ max (maxK f z l k) _
    rcases Nat.lt_or_eq_of_le (Nat.le_of_lt_succ h) with r | rfl
    · exact Nat.le_trans (maxK_le r) (Nat.le_max_left _ _)
    · exact Nat.le_max_right _ _
theorem numSz_p2 {k : Int} (h : 2 ≤ k ∧ k ≤ 10 ∨ 20 ≤ k ∧ k ≤ 23) : p2 (numSz k) := by
  unfold numSz p2
  repeat' split
  all_goals omega
/-- A valid type's alignment is 1, 2, 4 or 8. -/
theorem Typ.al_p2 : ∀ (n : Nat) (a : Typ), Typ.fN n a → a.sh → p2 a.al
  | 0, a, h, _ => h.elim
  | n + 1, a, h, hs => by
    obtain ⟨hp, hk⟩ := Typ.sh_eq.1 hs
    have ih : ∀ k, k < a.kids.length → p2 (Typ.al (a.kids.getD k default)) := fun k hlt => Typ.al_p2 n _ (Typ.fN_get.1 h k hlt) (hk k hlt)
    rw [Typ.al_eq]
    unfold alG
    split
    · exact .inl rfl
    · split
      · exact .inr (.inr (.inl rfl))
      · split
        · rename_i e
          have hl := hp.l1 (by unfold isLab; omega)
          have := hl.lo
          have := hl.hi
          unfold p2
          omega
        · split
          · exact (maxK_p2 ih (Nat.le_refl _)).1
          · rename_i h1 h2 h3 h4
            unfold isTu isCs at h4
            have h5 : (1 ≤ a.kind ∧ a.kind ≤ 23) ∨ a.kind = 22 ∨ a.kind = 23 := by
              by_cases q : (12 ≤ a.kind ∧ a.kind ≤ 17) ∨ a.kind = 22 ∨ a.kind = 23
              · omega
              · exact .inl (hp.ks.k7 q).1
            exact numSz_p2 (by omega)
theorem Typ.al_p {a : Typ} (h : a.sh) : p2 a.al := Typ.al_p2 _ a (Typ.fN_self a) h
theorem dvd_up {x a b : Nat} (h : b ∣ a) : b ∣ rup x a := Nat.dvd_trans h (up_dvd x a)
/-- The alignment divides the size. -/
theorem Typ.al_sz {a : Typ} (h : a.sh) : a.al ∣ a.sz' := by
  obtain ⟨hp, hk⟩ := Typ.sh_eq.1 h
  rw [Typ.al_eq, Typ.sz_eq]
  unfold alG szG
  by_cases h1 : a.kind = 1
  · rw [if_pos (.inl h1), if_pos h1]; exact Nat.dvd_zero _
  · by_cases h2 : a.kind = 18
    · rw [if_pos (.inr h2), if_neg h1, if_pos h2]; exact Nat.dvd_refl _
    · rw [if_neg (by omega), if_neg h1, if_neg h2]
      by_cases h3 : a.kind = 11 ∨ a.kind = 12
      · rw [if_pos h3, if_pos h3]; decide
      · rw [if_neg h3, if_neg h3]
        by_cases h4 : a.kind = 19
        · rw [if_pos h4, if_pos h4]; exact Nat.dvd_refl _
        · rw [if_neg h4, if_neg h4]
          by_cases h5 : isTu a.kind
          · rw [if_pos (.inl h5), if_pos h5]; exact up_dvd _ _
          · by_cases h6 : isCs a.kind
            · rw [if_pos (.inr h6), if_neg h5, if_pos h6]; exact up_dvd _ _
            · rw [if_neg (by simp [h5, h6]), if_neg h5, if_neg h6]; exact Nat.dvd_refl _
theorem endK_le {l : List Typ} (h : ∀ k, k < l.length → p2 (Typ.al (l.getD k default)) ∧ (l.getD k default).sz' + 24 ≤ 32 * (l.getD k default).np) : ∀ {k : Nat}, k ≤ l.length → endK Typ.al Typ.sz' l k + 17 * k ≤ 32 * sumK Typ.np l k
  | 0, _ => Nat.le_refl _
  | k + 1, hk => by
    have ih := endK_le h (k := k) (by omega)
    have h1 := h k (by omega)
    have h2 := up_le (x := endK Typ.al Typ.sz' l k) h1.1.pos.1
    have h3 := h1.1.pos.2
    show rup (endK Typ.al Typ.sz' l k) _ + _ + 17 * (k + 1) ≤ _
    rw [sumK_succ _ (by omega)]
    omega
theorem maxK_bd {f : Typ → Nat} {l : List Typ} {N : Nat} : ∀ {k : Nat}, (∀ j, j < k → f (l.getD j default) ≤ N) → maxK f 0 l k ≤ N
  | 0, _ => Nat.zero_le _
  | k + 1, h => by
    show max (maxK f 0 l k) _ ≤ N
    exact Nat.max_le.2 ⟨maxK_bd fun j hj => h j (by omega), h k (by omega)⟩
theorem Typ.np_kid {a : Typ} {k : Nat} (hk : k < a.kids.length) : (a.kids.getD k default).np + 1 ≤ a.np := by
  have := sumK_mono Typ.np (l := a.kids) (k := k + 1) (m := a.kids.length) hk (Nat.le_refl _)
  rw [sumK_succ _ hk] at this
  have := Typ.np_eq a
  omega
theorem numSz_le (k : Int) : numSz k ≤ 8 := by
  unfold numSz
  repeat' split
  all_goals omega
theorem cs_kids {a : Typ} (h : a.shp) (hc : isCs a.kind) : 1 ≤ a.kids.length := by
  unfold isCs at hc
  rcases hc with e | e | e
  · have := (h.ks.k1 (by omega)).1; omega
  · have := h.ks.k3 e; omega
  · have h1 := h.ks.k6 e
    have h2 := (h.l1 (by unfold isLab; omega)).lo
    omega
theorem Typ.size_le : ∀ (n : Nat) (a : Typ), Typ.fN n a → a.sh → a.sz' + 24 ≤ 32 * a.np
  | 0, a, h, _ => h.elim
  | n + 1, a, h, hs => by
    obtain ⟨hp, hk⟩ := Typ.sh_eq.1 hs
    have ih : ∀ k, k < a.kids.length → p2 (Typ.al (a.kids.getD k default)) ∧ (a.kids.getD k default).sz' + 24 ≤ 32 * (a.kids.getD k default).np := fun k hlt => ⟨Typ.al_p (hk k hlt), Typ.size_le n _ (Typ.fN_get.1 h k hlt) (hk k hlt)⟩
    have h1 := Typ.np_pos a
    have hm := (maxK_p2 (f := Typ.al) (fun k hlt => (ih k hlt).1) (Nat.le_refl a.kids.length)).1
    have hm1 := hm.pos
    rw [Typ.sz_eq]
    unfold szG
    split
    · omega
    · split
      · omega
      · split
        · omega
        · split
          · rename_i e
            have hl := (hp.l1 (by unfold isLab; omega)).hi
            omega
          · split
            · have h2 := endK_le ih (Nat.le_refl _)
              have h3 := up_le (x := endK Typ.al Typ.sz' a.kids a.kids.length) hm1.1
              have h4 := Typ.np_eq a
              omega
            · split
              · rename_i hc
                have hk1 := cs_kids hp hc
                have hz : maxK Typ.sz' 0 a.kids a.kids.length ≤ 32 * (a.np - 1) - 24 := maxK_bd fun j hj => by
                  have h5 := (ih j hj).2
                  have h6 := Typ.np_kid hj
                  omega
                have h2 : 2 ≤ a.np := by
                  have := Typ.np_kid (a := a) (k := 0) hk1
                  have := Typ.np_pos (a.kids.getD 0 default)
                  omega
                have h7 := up_le (x := 1) hm1.1
                have h8 := up_le (x := rup 1 (maxK Typ.al 1 a.kids a.kids.length) + maxK Typ.sz' 0 a.kids a.kids.length) hm1.1
                have h9 : rup 1 (maxK Typ.al 1 a.kids a.kids.length) ≤ 8 := by
                  generalize maxK Typ.al 1 a.kids a.kids.length = m at hm
                  rcases hm with rfl | rfl | rfl | rfl <;> decide
                omega
              · have := numSz_le a.kind
                omega
theorem Typ.sz_b {a : Typ} (h : a.sh) : a.sz' + 24 ≤ 32 * a.np := Typ.size_le _ a (Typ.fN_self a) h
/-! Cases. -/
def unitT : Typ := ⟨1, ByteArray.empty, [], []⟩
/-- The cases of an option, a result, a variant. -/
def Typ.cas (a : Typ) : List Typ := if a.kind = 13 then [unitT, a.kids.getD 0 default] else if a.kind = 14 ∨ a.kind = 17 then a.kids else []
theorem unit_al : unitT.al = 1 := by rw [Typ.al_eq]; rfl
theorem unit_sz : unitT.sz' = 0 := by rw [Typ.sz_eq]; unfold szG; exact if_pos rfl
theorem cas_al {a : Typ} (h : isCs a.kind) (h1 : a.kind = 13 → a.kids.length = 1) : maxK Typ.al 1 a.cas a.cas.length = maxK Typ.al 1 a.kids a.kids.length := by
  unfold Typ.cas
  by_cases e : a.kind = 13
  · rw [if_pos e, h1 e]
    show max (max 1 unitT.al) (Typ.al (a.kids.getD 0 default)) = max 1 (Typ.al (a.kids.getD 0 default))
    rw [unit_al]
    rfl
  · rw [if_neg e, if_pos (by unfold isCs at h; omega)]
theorem cas_sz {a : Typ} (h : isCs a.kind) (h1 : a.kind = 13 → a.kids.length = 1) : maxK Typ.sz' 0 a.cas a.cas.length = maxK Typ.sz' 0 a.kids a.kids.length := by
  unfold Typ.cas
  by_cases e : a.kind = 13
  · rw [if_pos e, h1 e]
    show max (max 0 unitT.sz') (Typ.sz' (a.kids.getD 0 default)) = max 0 (Typ.sz' (a.kids.getD 0 default))
    rw [unit_sz]
    rfl
  · rw [if_neg e, if_pos (by unfold isCs at h; omega)]
/-- What the law asks of a case. -/
theorem cas_fits {a : Typ} (h : a.sh) (hc : isCs a.kind) {k : Nat} (hk : k < a.cas.length) : (∃ q, rup 1 (maxK Typ.al 1 a.kids a.kids.length) = q * (a.cas.getD k default).al) ∧ rup 1 (maxK Typ.al 1 a.kids a.kids.length) + (a.cas.getD k default).sz' ≤ a.sz' ∧ 1 ≤ (a.cas.getD k default).al ∧ 1 ≤ rup 1 (maxK Typ.al 1 a.kids a.kids.length) := by
  obtain ⟨hp, hkid⟩ := Typ.sh_eq.1 h
  have h1 : a.kind = 13 → a.kids.length = 1 := fun e => (hp.ks.k1 (by omega)).1
  have ih : ∀ k, k < a.kids.length → p2 (Typ.al (a.kids.getD k default)) := fun k hlt => Typ.al_p (hkid k hlt)
  have hall : ∀ k, k < a.cas.length → p2 (Typ.al (a.cas.getD k default)) := fun k hlt => by
    unfold Typ.cas at hlt ⊢
    by_cases e : a.kind = 13
    · rw [if_pos e] at hlt ⊢
      match k, hlt with
      | 0, _ => exact .inl unit_al
      | 1, _ => exact ih 0 (by rw [h1 e]; decide)
    · rw [if_neg e] at hlt ⊢
      by_cases e2 : a.kind = 14 ∨ a.kind = 17
      · rw [if_pos e2] at hlt ⊢
        exact ih k hlt
      · exact absurd hc (by unfold isCs; omega)
  have hm := maxK_p2 hall (Nat.le_refl _)
  rw [cas_al hc h1] at hm
  have hd := Nat.dvd_trans (hm.2 k hk) (up_dvd 1 (maxK Typ.al 1 a.kids a.kids.length))
  obtain ⟨q, hq⟩ := hd
  refine ⟨⟨q, by rw [hq, Nat.mul_comm]⟩, ?_, (hall k hk).pos.1, ?_⟩
  · have hs := maxK_le (f := Typ.sz') (z := 0) (l := a.cas) hk
    rw [cas_sz hc h1] at hs
    have he : a.sz' = rup (rup 1 (maxK Typ.al 1 a.kids a.kids.length) + maxK Typ.sz' 0 a.kids a.kids.length) (maxK Typ.al 1 a.kids a.kids.length) := by
      rw [Typ.sz_eq]
      unfold szG
      have hc' := hc
      unfold isCs at hc'
      rw [if_neg (by omega), if_neg (by omega), if_neg (by omega), if_neg (by omega), if_neg (show ¬ isTu a.kind by unfold isTu; omega), if_pos hc]
    rw [he]
    have := (up_le (x := rup 1 (maxK Typ.al 1 a.kids a.kids.length) + maxK Typ.sz' 0 a.kids a.kids.length) hm.1.pos.1).1
    omega
  · exact (up_le (x := 1) hm.1.pos.1).1
end Go.Proofs.YtnppkgmodflkdaaGreat

namespace Go.Proofs.YtnppkgmodflkdaaGreat
open Go Go.RowKit
set_option linter.unusedVariables false
set_option linter.unusedSimpArgs false
attribute [local irreducible] IntKind.wrap

theorem numSize_ok (k : Int) : Ret env.P 45 [.i .i64 k] (fun r => r = .i .i64 (numSz k : Nat)) := by
  refine ret_of (nt := 21) (rvs := [.tmp 2]) Tryz.func45 rfl rfl rfl rfl (fun X => ?_)
  repeat' (first | exact aa | ((conv => whnf) <;> (first | refine And.intro ?_ ?_ | (intro _h; first | contradiction | (try simp only [dd] at _h)) | (refine dt_go ?_) | exact rfl | exact True.intro | exact dkk | exact dks | (refine wrap_succ ?_; omega))))
  all_goals (conv => whnf)
  all_goals (refine leaf_i ?_; unfold numSz; first | (subst_vars; rfl) | (repeat' split) <;> omega)
theorem div_up {x a : Nat} (h : 1 ≤ a) (h1 : x + a ≤ 1000000000) : IntKind.i64.wrap (IntKind.i64.wrap ((IntKind.i64.wrap (IntKind.i64.wrap ((x : Int) + a) - 1)).tdiv a) * a) = (rup x a : Nat) := by
  unfold rup
  have e1 : IntKind.i64.wrap ((x : Int) + a) = ((x + a : Nat) : Int) := by rw [wrap_in (by omega) (by omega)]; omega
  have e2 : IntKind.i64.wrap (((x + a : Nat) : Int) - 1) = ((x + a - 1 : Nat) : Int) := by rw [wrap_in (by omega) (by omega)]; omega
  have e3 : ((x + a - 1 : Nat) : Int).tdiv (a : Int) = (((x + a - 1) / a : Nat) : Int) := by rw [Int.tdiv_eq_ediv_of_nonneg (by omega)]; rfl
  have h2 := Nat.div_mul_le_self (x + a - 1) a
  have h3 : (x + a - 1) / a ≤ x + a - 1 := Nat.div_le_self _ _
  have h4 : ((x + a - 1) / a : Nat) ≤ 1000000000 := by omega
  have h5 : ((x + a - 1) / a * a : Nat) ≤ 1000000000 := by omega
  have e4 : (((x + a - 1) / a : Nat) : Int) * (a : Int) = (((x + a - 1) / a * a : Nat) : Int) := (Int.natCast_mul _ _).symm
  generalize (x + a - 1) / a * a = m at h5 e4
  generalize (x + a - 1) / a = q at h4 e3 e4
  rw [e1, e2, e3, wrap_in (n := (q : Int)) (by omega) (by omega), e4, wrap_in (by omega) (by omega)]
theorem align_ok {x a : Nat} (h : 1 ≤ a) (h1 : x + a ≤ 1000000000) : Ret env.P 56 [.i .i64 (x : Int), .i .i64 (a : Int)] (fun r => r = .i .i64 (rup x a : Nat)) := by
  have e := div_up h h1
  refine ret_of (nt := 13) (rvs := [.tmp 4]) Tryz.func56 rfl rfl rfl rfl (fun X => ?_)
  repeat' (first | exact aa | ((conv => whnf) <;> (first | refine And.intro ?_ ?_ | (intro _h; first | contradiction | (try simp only [dd] at _h)) | (refine dt_go ?_) | exact rfl | exact True.intro | exact dkk | exact dks | (refine wrap_succ ?_; omega))))
  all_goals (conv => whnf)
  all_goals first
    | exact leaf_i e
    | trace_state
theorem flagsSize_ok {n : Nat} {a : Typ} (h : Typ.oN (n + 1) a) : Ret env.P 63 [.agg (Typ.pN (n + 1) a)] (fun r => r = .i .i64 ((a.labels.length + 7) / 8 : Nat)) := by
  have hl := (Typ.oN_labels h).1
  refine ret_of (nt := 8) (rvs := [.tmp 2]) Tryz.func63 rfl rfl rfl rfl (fun X => ?_)
  repeat' (first | exact aa | ((conv => whnf) <;> (first | refine And.intro ?_ ?_ | (intro _h; first | contradiction | (try simp only [dd] at _h)) | (refine dt_go ?_) | exact rfl | exact True.intro | exact dkk | exact dks | ((first | refine .inl ⟨_, sizeStr_ok _, ?_⟩ | refine ⟨_, sizeStr_ok _, ?_⟩); (try rintro _ rfl)) | (refine wrap_succ ?_; omega))))
  all_goals (conv => whnf)
  all_goals (refine leaf_i ?_; rw [wrap_in (n := (a.labels.length : Int) + 7) (by omega) (by omega), Int.tdiv_eq_ediv_of_nonneg (by omega), wrap_in (by omega) (by omega)]; omega)
theorem cells_unit (n : Nat) : Typ.pN (n + 1) unitT = [.i .i64 1, .s ByteArray.empty, slL 1 strC [], slL 4 (Typ.pN n) []] := rfl
theorem shr_cas2 {k n : Nat} {H : Hp} {b : Typ} : Wk (.sl 4 2 fun i j => shrC (k + 1) H (litE [[.i .i64 1, .s ⟨#[]⟩, .nils, .nils], Typ.pN (n + 1) b] i j)) (slL 4 (Typ.pN (n + 1)) [unitT, b]) := by
  refine Wk.sl fun i j hi hj => ?_
  rcases (show i = 0 ∨ i = 1 by omega) with rfl | rfl
  · rcases (show j = 0 ∨ j = 1 ∨ j = 2 ∨ j = 3 by omega) with rfl | rfl | rfl | rfl
    · exact .refl _
    · exact .refl _
    · exact Wk.nilS0
    · exact Wk.nilS0
  · rcases (show j = 0 ∨ j = 1 ∨ j = 2 ∨ j = 3 by omega) with rfl | rfl | rfl | rfl <;> exact .refl _
set_option maxRecDepth 8000 in
theorem cases_ok {n : Nat} {a : Typ} (h : Typ.oN (n + 1) a) (hk : a.kind = 13 → 1 ≤ a.kids.length) : Ret env.P 64 [.agg (Typ.pN (n + 1) a)] (fun r => r = slL 4 (Typ.pN (n + 1)) a.cas) := by
  refine Ret.ofFrz (RetM.wk (.cons (Typ.lift h) .nil) ?_)
  refine ret_ofM (nt := 18) (rvs := [.tmp 2]) Tryz.func64 rfl rfl rfl rfl (fun X hX => ?_)
  repeat' (first | exact aa | ((conv => whnf) <;> (first | refine And.intro ?_ ?_ | (intro _h; first | contradiction | (try simp only [dd] at _h)) | (refine dt_go ?_) | exact rfl | exact True.intro | exact dkk | exact dks | (refine wrap_succ ?_; omega))))
  all_goals (conv => whnf)
  · refine endM_self (frz0 (r1 := slL 4 (Typ.pN (n + 1)) [unitT, a.kids.getD 0 default]) (frz_cell rfl (shr_cas2 (k := 3))) ?_)
    unfold Typ.cas
    rw [if_pos ‹_›]
  · refine endM_self (frz0 (r1 := slL 4 (Typ.pN (n + 1)) a.kids) (frz_cell rfl (.refl _)) ?_)
    unfold Typ.cas
    rw [if_neg (by omega), if_pos (by omega)]
  · refine endM_self (frz0 (r1 := slL 4 (Typ.pN (n + 1)) a.kids) (frz_cell rfl (.refl _)) ?_)
    unfold Typ.cas
    rw [if_neg (by omega), if_pos (by omega)]
  · refine endM_self (frz0 (r1 := slL 4 (Typ.pN (n + 1)) []) (frz_cell rfl Wk.nilS0) ?_)
    unfold Typ.cas
    rw [if_neg (by omega), if_neg (by omega)]
/-! The greatest alignment. -/
theorem mx_step {a b : Nat} : (if (b : Int) > (a : Int) then (b : Int) else (a : Int)) = ((max a b : Nat) : Int) := by
  split <;> omega
set_option maxRecDepth 8000 in
theorem greatestAlign_ok (n : Nat) (l : List Typ) (hl : l.length ≤ 1048576) (hq : ∀ k, k < l.length → Ret env.P 35 [.agg (Typ.pN (n + 1) (l.getD k default))] (fun r => r = .i .i64 ((l.getD k default).al : Nat))) : Ret env.P 31 [slL 4 (Typ.pN (n + 1)) l] (fun r => r = .i .i64 (maxK Typ.al 1 l l.length : Nat)) := by
  refine ret_of (nt := 18) (rvs := [.tmp 2]) Tryz.func31 rfl rfl rfl rfl (fun X => ?_)
  repeat' (first | exact aa | ((conv => whnf) <;> (first | refine loopN l.length (fun k => [(8, .i .i64 k), (3, .i .i64 (maxK Typ.al 1 l k : Nat))]) (fun k => []) (fun k => True) ⟨trivial, ?_⟩ | refine And.intro ?_ ?_ | (intro _h; first | contradiction | (try simp only [dd] at _h)) | (refine dt_go ?_) | exact rfl | exact True.intro | exact dkk | exact dks | ((first | refine .inl ⟨_, hq _ (by omega), ?_⟩ | refine ⟨_, hq _ (by omega), ?_⟩); (try rintro _ rfl)) | (refine wrap_succ ?_; omega))))
  all_goals (try simp only [Int.toNat_natCast] at *)
  · exact mx_step
  · rename_i k _ _
    conv => whnf
    exact leaf_i (by rw [show k = l.length by omega])
theorem Typ.dn2 {n : Nat} {b : Typ} (h : Typ.oN n b) : Wk (.agg (Typ.pN (n + 2) b)) (.agg (Typ.pN n b)) := .agg (Typ.conv _ _ _ (Typ.fN_up _ _ (Typ.fN_up _ _ (Typ.oN_fN _ _ h))) (Typ.oN_fN _ _ h))
set_option maxRecDepth 8000 in
theorem unit_alignOf (n : Nat) : Ret env.P 35 [.agg (Typ.pN (n + 1) unitT)] (fun r => r = .i .i64 (unitT.al : Nat)) := by
  rw [unit_al]
  refine ret_of (nt := 31) (rvs := [.tmp 2]) Tryz.func35 rfl rfl rfl rfl (fun X => ?_)
  repeat' (first | exact aa | ((conv => whnf) <;> (first | refine And.intro ?_ ?_ | (intro _h; first | contradiction | (try simp only [dd] at _h)) | (refine dt_go ?_) | exact rfl | exact True.intro | exact dkk | exact dks | (refine wrap_succ ?_; omega))))
  all_goals (conv => whnf)
  all_goals trace_state
/-- The elements of a type's cases. -/
theorem cas_all {a : Typ} {p : Typ → Prop} (h0 : p unitT) (h1 : a.kind = 13 → 1 ≤ a.kids.length) (h : ∀ k, k < a.kids.length → p (a.kids.getD k default)) : ∀ k, k < a.cas.length → p (a.cas.getD k default) := by
  intro k hk
  unfold Typ.cas at hk ⊢
  by_cases e : a.kind = 13
  · rw [if_pos e] at hk ⊢
    match k, hk with
    | 0, _ => exact h0
    | 1, _ => exact h 0 (h1 e)
  · rw [if_neg e] at hk ⊢
    by_cases e2 : a.kind = 14 ∨ a.kind = 17
    · rw [if_pos e2] at hk ⊢
      exact h k hk
    · rw [if_neg e2] at hk
      exact absurd hk (Nat.not_lt_zero _)
theorem cas_len {a : Typ} (h : a.kids.length ≤ 1048576) : a.cas.length ≤ 1048576 := by
  unfold Typ.cas
  split
  · exact (show 2 ≤ 1048576 by decide)
  · split
    · exact h
    · exact Nat.zero_le _
theorem al_1 {f : Typ → Nat} {a : Typ} (h : a.kind = 1 ∨ a.kind = 18) : (1 : Int) = (alG f a : Nat) := by
  unfold alG
  rw [if_pos h]
  rfl
theorem al_4 {f : Typ → Nat} {a : Typ} (h : a.kind = 11 ∨ a.kind = 12) : (4 : Int) = (alG f a : Nat) := by
  unfold alG
  rw [if_neg (by omega), if_pos h]
  rfl
theorem al_19 {f : Typ → Nat} {a : Typ} (h : a.kind = 19) : (((a.labels.length + 7) / 8 : Nat) : Int) = (alG f a : Nat) := by
  unfold alG
  rw [if_neg (by omega), if_neg (by omega), if_pos h]
theorem al_tu {f : Typ → Nat} {a : Typ} (h : isTu a.kind) : ((maxK f 1 a.kids a.kids.length : Nat) : Int) = (alG f a : Nat) := by
  have h' := h
  unfold isTu at h'
  unfold alG
  rw [if_neg (by omega), if_neg (by omega), if_neg (by omega), if_pos (.inl h)]
theorem al_cs {a : Typ} (h : isCs a.kind) (h1 : a.kind = 13 → a.kids.length = 1) : ((maxK Typ.al 1 a.cas a.cas.length : Nat) : Int) = (alG Typ.al a : Nat) := by
  have h' := h
  unfold isCs at h'
  rw [cas_al h h1]
  unfold alG
  rw [if_neg (by omega), if_neg (by omega), if_neg (by omega), if_pos (.inr h)]
theorem al_no {f : Typ → Nat} {a : Typ} (h : ¬ (a.kind = 1 ∨ a.kind = 18 ∨ a.kind = 11 ∨ a.kind = 12 ∨ a.kind = 19 ∨ (a.kind = 15 ∨ a.kind = 16) ∨ (a.kind = 13 ∨ a.kind = 14 ∨ a.kind = 17))) : ((numSz a.kind : Nat) : Int) = (alG f a : Nat) := by
  unfold alG
  rw [if_neg (by omega), if_neg (by omega), if_neg (by omega), if_neg (by unfold isTu isCs; omega)]
set_option maxRecDepth 8000 in
set_option maxHeartbeats 1000000 in
theorem alignOf_n : ∀ (n : Nat) (a : Typ), Typ.oN n a → a.sh → Ret env.P 35 [.agg (Typ.pN n a)] (fun r => r = .i .i64 (a.al : Nat))
  | 0, a, h, _ => h.elim
  | n + 1, a, h, hs => by
    obtain ⟨hp, hkid⟩ := Typ.sh_eq.1 hs
    have hl := Typ.oN_len h
    have h13 : a.kind = 13 → a.kids.length = 1 := fun e => (hp.ks.k1 (by omega)).1
    have ih : ∀ k, k < a.kids.length → Ret env.P 35 [.agg (Typ.pN n (a.kids.getD k default))] (fun r => r = .i .i64 ((a.kids.getD k default).al : Nat)) := fun k hk => alignOf_n n _ (Typ.oN_kid h hk) (hkid k hk)
    have hG1 := greatestAlign_ok n a.kids hl (fun k hk => Ret.wk (.cons (Typ.down (Typ.oN_kid h hk)) .nil) (ih k hk))
    have hG2 := greatestAlign_ok (n + 1) a.cas (cas_len hl) (cas_all (p := fun b => Ret env.P 35 [.agg (Typ.pN (n + 2) b)] (fun r => r = .i .i64 (b.al : Nat))) (unit_alignOf _) (fun e => by rw [h13 e]; exact Nat.le_refl _) (fun k hk => Ret.wk (.cons (Typ.dn2 (Typ.oN_kid h hk)) .nil) (ih k hk)))
    have hC := cases_ok (Typ.oN_up _ _ h) (fun e => by rw [h13 e]; exact Nat.le_refl _)
    have hF := flagsSize_ok (Typ.oN_up _ _ h)
    have hN := numSize_ok a.kind
    rw [Typ.al_eq]
    refine Ret.wk (.cons (Typ.lift h) .nil) ?_
    refine ret_of (nt := 31) (rvs := [.tmp 2]) Tryz.func35 rfl rfl rfl rfl (fun X => ?_)
    repeat' (first | exact aa | ((conv => whnf) <;> (first | refine And.intro ?_ ?_ | (intro _h; first | contradiction | (try simp only [dd] at _h)) | (refine dt_go ?_) | exact rfl | exact True.intro | exact dkk | exact dks | ((first | refine .inl ⟨_, hG1, ?_⟩ | refine ⟨_, hG1, ?_⟩); (try rintro _ rfl)) | ((first | refine .inl ⟨_, hC, ?_⟩ | refine ⟨_, hC, ?_⟩); (try rintro _ rfl)) | ((first | refine .inl ⟨_, hG2, ?_⟩ | refine ⟨_, hG2, ?_⟩); (try rintro _ rfl)) | ((first | refine .inl ⟨_, hF, ?_⟩ | refine ⟨_, hF, ?_⟩); (try rintro _ rfl)) | ((first | refine .inl ⟨_, hN, ?_⟩ | refine ⟨_, hN, ?_⟩); (try rintro _ rfl)) | (refine wrap_succ ?_; omega))))
    all_goals clear hG1 hG2 hC hF hN ih
    all_goals (conv => whnf)
    all_goals first
      | exact leaf_i (al_1 (by omega))
      | exact leaf_i (al_4 (by omega))
      | exact leaf_i (al_19 (by omega))
      | exact leaf_i (al_tu (by unfold isTu; omega))
      | exact leaf_i (al_cs (by unfold isCs; omega) h13)
      | exact leaf_i (al_no (by omega))
      | trace_state
/-! Sizes. -/
theorem numSize2_ok (k : Int) : True := trivial
end Go.Proofs.YtnppkgmodflkdaaGreat

namespace Go.Proofs.YtnppkgmodflkdaaGreat
open Go Go.RowKit
set_option linter.unusedVariables false
set_option linter.unusedSimpArgs false
attribute [local irreducible] IntKind.wrap

set_option maxRecDepth 8000 in
theorem greatestSize_ok (n : Nat) (l : List Typ) (hl : l.length ≤ 1048576) (hq : ∀ k, k < l.length → Ret env.P 36 [.agg (Typ.pN (n + 1) (l.getD k default))] (fun r => r = .i .i64 ((l.getD k default).sz' : Nat))) : Ret env.P 66 [slL 4 (Typ.pN (n + 1)) l] (fun r => r = .i .i64 (maxK Typ.sz' 0 l l.length : Nat)) := by
  refine ret_of (nt := 18) (rvs := [.tmp 2]) Tryz.func66 rfl rfl rfl rfl (fun X => ?_)
  repeat' (first | exact aa | ((conv => whnf) <;> (first | refine loopN l.length (fun k => [(8, .i .i64 k), (3, .i .i64 (maxK Typ.sz' 0 l k : Nat))]) (fun k => []) (fun k => True) ⟨trivial, ?_⟩ | refine And.intro ?_ ?_ | (intro _h; first | contradiction | (try simp only [dd] at _h)) | (refine dt_go ?_) | exact rfl | exact True.intro | exact dkk | exact dks | ((first | refine .inl ⟨_, hq _ (by omega), ?_⟩ | refine ⟨_, hq _ (by omega), ?_⟩); (try rintro _ rfl)) | (refine wrap_succ ?_; omega))))
  all_goals (try simp only [Int.toNat_natCast] at *)
  · exact mx_step
  · rename_i k _ _
    conv => whnf
    exact leaf_i (by rw [show k = l.length by omega])
/-- The places of the first k. -/
noncomputable def offL (l : List Typ) : Nat → List Int
  | 0 => []
  | k + 1 => offL l k ++ [((rup (endK Typ.al Typ.sz' l k) (Typ.al (l.getD k default)) : Nat) : Int)]
theorem offL_len (l : List Typ) : ∀ k, (offL l k).length = k
  | 0 => rfl
  | k + 1 => by show (offL l k ++ [_]).length = _; rw [List.length_append, offL_len l k]; rfl
/-- What is asked of the elements. -/
structure ElB (l : List Typ) : Prop where
  al : ∀ k, k < l.length → p2 (Typ.al (l.getD k default))
  sz : ∀ k, k < l.length → (l.getD k default).sz' + 24 ≤ 32 * (l.getD k default).np
  np : sumK Typ.np l l.length ≤ 1000
theorem ElB.bd {l : List Typ} (h : ElB l) {k : Nat} (hk : k ≤ l.length) : endK Typ.al Typ.sz' l k ≤ 32000 := by
  have h1 := endK_le (fun j hj => ⟨h.al j hj, h.sz j hj⟩) hk
  have h2 := sumK_mono Typ.np hk (Nat.le_refl _)
  have := h.np
  omega
theorem ElB.len {l : List Typ} (h : ElB l) : l.length ≤ 1000 := Nat.le_trans (sumK_len (Nat.le_refl _)) h.np
set_option maxRecDepth 8000 in
set_option maxHeartbeats 1000000 in
theorem partsAt_ok (n : Nat) (l : List Typ) (hb : ElB l) (ha : ∀ k, k < l.length → Ret env.P 35 [.agg (Typ.pN (n + 1) (l.getD k default))] (fun r => r = .i .i64 ((l.getD k default).al : Nat))) (hz : ∀ k, k < l.length → Ret env.P 36 [.agg (Typ.pN (n + 1) (l.getD k default))] (fun r => r = .i .i64 ((l.getD k default).sz' : Nat))) : RetM env.P 29 [] [slL 4 (Typ.pN (n + 1)) l] (fun r H => r = .tup [.row 0 l.length, .i .i64 (endK Typ.al Typ.sz' l l.length : Nat)] ∧ H = [some (rowL 1 intC (offL l l.length))]) := by
  have hl : l.length ≤ 1000 := hb.len
  have hof : ∀ k, k ≤ l.length → (offL l k).length ≤ 1000 := fun k hk => by rw [offL_len]; omega
  have hA : ∀ k, k < l.length → Ret env.P 56 [.i .i64 (endK Typ.al Typ.sz' l k : Nat), .i .i64 ((l.getD k default).al : Nat)] (fun r => r = .i .i64 (rup (endK Typ.al Typ.sz' l k) (Typ.al (l.getD k default)) : Nat)) := fun k hk => align_ok (hb.al k hk).pos.1 (by have := hb.bd (k := k) (by omega); have := (hb.al k hk).pos.2; omega)
  refine ret_ofM (nt := 31) (rvs := [.tmp 2, .tmp 3]) Tryz.func29 rfl rfl rfl rfl (fun X hX => ?_)
  repeat' (first | exact aa | ((conv => whnf) <;> (first | (refine dt_goH 0 [] rfl ?_) | (refine lw_del 9 ?_; refine loopFT (fun k : Nat => [(12, .i .i64 k), (4, .row 0 (offL l k).length), (5, .i .i64 (endK Typ.al Typ.sz' l k : Nat))]) (fun k => [some (.arr ⟨1, (offL l k).length, elE intC (offL l k), .arr⟩)]) (fun k => k ≤ l.length) (fun k => l.length - k) 0 ⟨Nat.zero_le _, ?_⟩) | exact lbz_zero rfl rfl | exact low_cells rfl | exact lbz_capC (hof _ (by omega)) (show 8 ≤ 1000 by decide) | exact lbz_capM (hof _ (by omega)) | refine And.intro ?_ ?_ | (intro _h; first | contradiction | (try simp only [dd] at _h)) | (refine dt_go ?_) | exact rfl | exact True.intro | exact dkk | exact dks | ((first | refine .inl ⟨_, ha _ (by omega), ?_⟩ | refine ⟨_, ha _ (by omega), ?_⟩); (try rintro _ rfl)) | ((first | refine .inl ⟨_, hz _ (by omega), ?_⟩ | refine ⟨_, hz _ (by omega), ?_⟩); (try rintro _ rfl)) | ((first | refine .inl ⟨_, hA _ (by omega), ?_⟩ | refine ⟨_, hA _ (by omega), ?_⟩); (try rintro _ rfl)) | (refine wrap_succ ?_; omega))))
  all_goals (try simp only [Int.toNat_natCast] at *)
  all_goals first
    | (rename_i k _
       have hk : k < l.length := by omega
       have he : IntKind.i64.wrap (((rup (endK Typ.al Typ.sz' l k) (Typ.al (l.getD k default)) : Nat) : Int) + ((l.getD k default).sz' : Nat)) = (endK Typ.al Typ.sz' l (k + 1) : Nat) := by
         have := hb.bd (k := k + 1) hk
         have e : endK Typ.al Typ.sz' l (k + 1) = rup (endK Typ.al Typ.sz' l k) (Typ.al (l.getD k default)) + (l.getD k default).sz' := rfl
         rw [wrap_in (by omega) (by omega), e]
         omega
       conv => whnf
       refine roundET_turn (turn_eq (id := 3) (x := rowL 1 intC (offL l (k + 1))) rfl rfl lbz_len.symm rfl rfl (snoc_eq (l := offL l k) (sz := 1) (a := ((rup (endK Typ.al Typ.sz' l k) (Typ.al (l.getD k default)) : Nat) : Int)) (c := intC) rfl (fun j hj => ?_))) ?_
       · obtain rfl : j = 0 := by omega
         exact .refl _
       refine roundET_end ?_
       refine ⟨k + 1, [3], hk, (by show l.length - (k + 1) < l.length - k; omega), ?_⟩
       repeat' (first | exact aa | ((conv => whnf) <;> (first | exact arr_same rfl rfl (fun a j => low_cells rfl) | exact low_cells rfl | exact lbz_len | exact he | exact lbz_rho hX ‹_› | refine And.intro ?_ ?_ | (intro _h; first | contradiction | (try simp only [dd] at _h)) | (refine dt_go ?_) | exact rfl | exact True.intro | exact dkk | exact dks | (refine wrap_succ ?_; omega)))))
    | (rename_i k _
       conv => whnf
       have hk : k = l.length := by omega
       subst hk
       exact endM_pick [0] [some (rowL 1 intC (offL l l.length))] (.tup [.row 0 l.length, .i .i64 (endK Typ.al Typ.sz' l l.length : Nat)]) (view_of rfl (.cons rfl (.self (rowPl_L fun _ => rfl)) .nil)) (by rw [offL_len]; rfl) rfl (fun k hk => by rw [hX] at hk; exact absurd hk (Nat.not_lt_zero _)) ⟨rfl, rfl⟩)
    | trace_state
end Go.Proofs.YtnppkgmodflkdaaGreat

namespace Go.Proofs.YtnppkgmodflkdaaGreat
open Go Go.RowKit
set_option linter.unusedVariables false
set_option linter.unusedSimpArgs false
attribute [local irreducible] IntKind.wrap

theorem partsAt_fz (n : Nat) (l : List Typ) (hb : ElB l) (ha : ∀ k, k < l.length → Ret env.P 35 [.agg (Typ.pN (n + 1) (l.getD k default))] (fun r => r = .i .i64 ((l.getD k default).al : Nat))) (hz : ∀ k, k < l.length → Ret env.P 36 [.agg (Typ.pN (n + 1) (l.getD k default))] (fun r => r = .i .i64 ((l.getD k default).sz' : Nat))) : Ret env.P 29 [slL 4 (Typ.pN (n + 1)) l] (fun r => r = .tup [slL 1 intC (offL l l.length), .i .i64 (endK Typ.al Typ.sz' l l.length : Nat)]) := by
  refine Ret.ofFrz (RetM.mono (partsAt_ok n l hb ha hz) fun r H h => ?_)
  obtain ⟨rfl, rfl⟩ := h
  exact frz0 (frz_tup (.cons (shr_L (d := 0) (k := 4) (offL_len l _).symm) (.cons (.refl _) .nil))) rfl
theorem totalSize_ok (n : Nat) (l : List Typ) (hb : ElB l) (ha : ∀ k, k < l.length → Ret env.P 35 [.agg (Typ.pN (n + 1) (l.getD k default))] (fun r => r = .i .i64 ((l.getD k default).al : Nat))) (hz : ∀ k, k < l.length → Ret env.P 36 [.agg (Typ.pN (n + 1) (l.getD k default))] (fun r => r = .i .i64 ((l.getD k default).sz' : Nat))) : Ret env.P 30 [slL 4 (Typ.pN (n + 1)) l] (fun r => r = .i .i64 (rup (endK Typ.al Typ.sz' l l.length) (maxK Typ.al 1 l l.length) : Nat)) := by
  have hm := (maxK_p2 (f := Typ.al) hb.al (Nat.le_refl l.length)).1
  have hm1 := hm.pos
  have h1 := partsAt_fz n l hb ha hz
  have h2 := greatestAlign_ok n l (Nat.le_trans hb.len (by decide)) ha
  have h3 := align_ok hm1.1 (x := endK Typ.al Typ.sz' l l.length) (by have := hb.bd (Nat.le_refl _); omega)
  refine ret_of (nt := 14) (rvs := [.tmp 2]) Tryz.func30 rfl rfl rfl rfl (fun X => ?_)
  repeat' (first | exact aa | ((conv => whnf) <;> (first | refine And.intro ?_ ?_ | (intro _h; first | contradiction | (try simp only [dd] at _h)) | (refine dt_go ?_) | exact rfl | exact True.intro | exact dkk | exact dks | ((first | refine .inl ⟨_, h1, ?_⟩ | refine ⟨_, h1, ?_⟩); (try rintro _ rfl)) | ((first | refine .inl ⟨_, h2, ?_⟩ | refine ⟨_, h2, ?_⟩); (try rintro _ rfl)) | ((first | refine .inl ⟨_, h3, ?_⟩ | refine ⟨_, h3, ?_⟩); (try rintro _ rfl)) | (refine wrap_succ ?_; omega))))
  all_goals (conv => whnf)
  all_goals first
    | exact leaf_i rfl
    | trace_state
theorem cas_p2 {a : Typ} (hs : a.sh) : p2 (maxK Typ.al 1 a.cas a.cas.length) := by
  obtain ⟨hp, hkid⟩ := Typ.sh_eq.1 hs
  have h13 : a.kind = 13 → a.kids.length = 1 := fun e => (hp.ks.k1 (by omega)).1
  exact (maxK_p2 (cas_all (p := fun b => p2 b.al) (by rw [unit_al]; exact .inl rfl) (fun e => by rw [h13 e]; exact Nat.le_refl _) (fun k hk => Typ.al_p (hkid k hk))) (Nat.le_refl _)).1
theorem unit_np : unitT.np = 1 := by rw [Typ.np_eq]; rfl
theorem cas_szB {a : Typ} (hs : a.sh) (hp1 : a.np ≤ 1000) : maxK Typ.sz' 0 a.cas a.cas.length ≤ 32000 := by
  obtain ⟨hp, hkid⟩ := Typ.sh_eq.1 hs
  have h13 : a.kind = 13 → a.kids.length = 1 := fun e => (hp.ks.k1 (by omega)).1
  exact maxK_bd (cas_all (p := fun b => b.sz' ≤ 32000) (by rw [unit_sz]; exact Nat.zero_le _) (fun e => by rw [h13 e]; exact Nat.le_refl _) (fun k hk => by
    have := Typ.sz_b (hkid k hk)
    have := Typ.np_kid hk
    omega))
theorem up1_le {m : Nat} (h : p2 m) : rup 1 m ≤ 8 := by
  rcases h with rfl | rfl | rfl | rfl <;> decide
/-- The elements' alignments. -/
theorem cas_ga {n : Nat} {a : Typ} (h : Typ.oN (n + 1) a) (hs : a.sh) : Ret env.P 31 [slL 4 (Typ.pN (n + 2)) a.cas] (fun r => r = .i .i64 (maxK Typ.al 1 a.cas a.cas.length : Nat)) := by
  obtain ⟨hp, hkid⟩ := Typ.sh_eq.1 hs
  have h13 : a.kind = 13 → a.kids.length = 1 := fun e => (hp.ks.k1 (by omega)).1
  exact greatestAlign_ok (n + 1) a.cas (cas_len (Typ.oN_len h)) (cas_all (p := fun b => Ret env.P 35 [.agg (Typ.pN (n + 2) b)] (fun r => r = .i .i64 (b.al : Nat))) (unit_alignOf _) (fun e => by rw [h13 e]; exact Nat.le_refl _) (fun k hk => Ret.wk (.cons (Typ.dn2 (Typ.oN_kid h hk)) .nil) (alignOf_n n _ (Typ.oN_kid h hk) (hkid k hk))))
theorem caseAt_ok {n : Nat} {a : Typ} (h : Typ.oN (n + 1) a) (hs : a.sh) : Ret env.P 65 [.agg (Typ.pN (n + 2) a)] (fun r => r = .i .i64 (rup 1 (maxK Typ.al 1 a.cas a.cas.length) : Nat)) := by
  obtain ⟨hp, hkid⟩ := Typ.sh_eq.1 hs
  have h13 : a.kind = 13 → a.kids.length = 1 := fun e => (hp.ks.k1 (by omega)).1
  have hm := (cas_p2 hs).pos
  have h1 := cases_ok (Typ.oN_up _ _ h) (fun e => by rw [h13 e]; exact Nat.le_refl _)
  have h2 := cas_ga h hs
  have h3 : Ret env.P 56 [.i .i64 1, .i .i64 (maxK Typ.al 1 a.cas a.cas.length : Nat)] (fun r => r = .i .i64 (rup 1 (maxK Typ.al 1 a.cas a.cas.length) : Nat)) := align_ok hm.1 (x := 1) (by omega)
  refine ret_of (nt := 7) (rvs := [.tmp 2]) Tryz.func65 rfl rfl rfl rfl (fun X => ?_)
  repeat' (first | exact aa | ((conv => whnf) <;> (first | refine And.intro ?_ ?_ | (intro _h; first | contradiction | (try simp only [dd] at _h)) | (refine dt_go ?_) | exact rfl | exact True.intro | exact dkk | exact dks | ((first | refine .inl ⟨_, h1, ?_⟩ | refine ⟨_, h1, ?_⟩); (try rintro _ rfl)) | ((first | refine .inl ⟨_, h2, ?_⟩ | refine ⟨_, h2, ?_⟩); (try rintro _ rfl)) | ((first | refine .inl ⟨_, h3, ?_⟩ | refine ⟨_, h3, ?_⟩); (try rintro _ rfl)) | (refine wrap_succ ?_; omega))))
  all_goals (conv => whnf)
  all_goals first
    | exact leaf_i rfl
    | trace_state
theorem sz_1 {f : Typ → Nat} {a : Typ} (h : a.kind = 1) : (0 : Int) = (szG f a : Nat) := by
  unfold szG
  rw [if_pos h]
  rfl
theorem sz_18 {f : Typ → Nat} {a : Typ} (h : a.kind = 18) : (1 : Int) = (szG f a : Nat) := by
  unfold szG
  rw [if_neg (by omega), if_pos h]
  rfl
theorem sz_8 {f : Typ → Nat} {a : Typ} (h : a.kind = 11 ∨ a.kind = 12) : (8 : Int) = (szG f a : Nat) := by
  unfold szG
  rw [if_neg (by omega), if_neg (by omega), if_pos h]
  rfl
theorem sz_19 {f : Typ → Nat} {a : Typ} (h : a.kind = 19) : (((a.labels.length + 7) / 8 : Nat) : Int) = (szG f a : Nat) := by
  unfold szG
  rw [if_neg (by omega), if_neg (by omega), if_neg (by omega), if_pos h]
theorem sz_tu {f : Typ → Nat} {a : Typ} (h : isTu a.kind) : ((rup (endK Typ.al f a.kids a.kids.length) (maxK Typ.al 1 a.kids a.kids.length) : Nat) : Int) = (szG f a : Nat) := by
  have h' := h
  unfold isTu at h'
  unfold szG
  rw [if_neg (by omega), if_neg (by omega), if_neg (by omega), if_neg (by omega), if_pos h]
theorem sz_cs {a : Typ} (h : isCs a.kind) (h1 : a.kind = 13 → a.kids.length = 1) : ((rup (rup 1 (maxK Typ.al 1 a.cas a.cas.length) + maxK Typ.sz' 0 a.cas a.cas.length) a.al : Nat) : Int) = (szG Typ.sz' a : Nat) := by
  have h' := h
  unfold isCs at h'
  rw [Typ.al_eq, ← Int.ofNat_inj.1 (al_cs h h1), cas_al h h1, cas_sz h h1]
  unfold szG
  rw [if_neg (by omega), if_neg (by omega), if_neg (by omega), if_neg (by omega), if_neg (by unfold isTu; omega), if_pos h]
theorem sz_no {f : Typ → Nat} {a : Typ} (h : ¬ (a.kind = 1 ∨ a.kind = 18 ∨ a.kind = 11 ∨ a.kind = 12 ∨ a.kind = 19 ∨ (a.kind = 15 ∨ a.kind = 16) ∨ (a.kind = 13 ∨ a.kind = 14 ∨ a.kind = 17))) : ((numSz a.kind : Nat) : Int) = (szG f a : Nat) := by
  unfold szG
  rw [if_neg (by omega), if_neg (by omega), if_neg (by omega), if_neg (by omega), if_neg (by unfold isTu; omega), if_neg (by unfold isCs; omega)]
set_option maxRecDepth 8000 in
theorem unit_sizeOf (n : Nat) : Ret env.P 36 [.agg (Typ.pN (n + 1) unitT)] (fun r => r = .i .i64 (unitT.sz' : Nat)) := by
  rw [unit_sz]
  refine ret_of (nt := 38) (rvs := [.tmp 2]) Tryz.func36 rfl rfl rfl rfl (fun X => ?_)
  repeat' (first | exact aa | ((conv => whnf) <;> (first | refine And.intro ?_ ?_ | (intro _h; first | contradiction | (try simp only [dd] at _h)) | (refine dt_go ?_) | exact rfl | exact True.intro | exact dkk | exact dks | (refine wrap_succ ?_; omega))))
  all_goals (conv => whnf)
  all_goals trace_state
theorem kidsB {a : Typ} (hs : a.sh) (hp1 : a.np ≤ 1000) : ElB a.kids := by
  obtain ⟨hp, hkid⟩ := Typ.sh_eq.1 hs
  refine ⟨fun k hk => Typ.al_p (hkid k hk), fun k hk => Typ.sz_b (hkid k hk), ?_⟩
  have := Typ.np_eq a
  omega
set_option maxRecDepth 8000 in
set_option maxHeartbeats 1000000 in
theorem sizeOf_n : ∀ (n : Nat) (a : Typ), Typ.oN n a → a.sh → a.np ≤ 1000 → Ret env.P 36 [.agg (Typ.pN n a)] (fun r => r = .i .i64 (a.sz' : Nat))
  | 0, a, h, _, _ => h.elim
  | n + 1, a, h, hs, hp1 => by
    obtain ⟨hp, hkid⟩ := Typ.sh_eq.1 hs
    have hl := Typ.oN_len h
    have h13 : a.kind = 13 → a.kids.length = 1 := fun e => (hp.ks.k1 (by omega)).1
    have ih : ∀ k, k < a.kids.length → Ret env.P 36 [.agg (Typ.pN n (a.kids.getD k default))] (fun r => r = .i .i64 ((a.kids.getD k default).sz' : Nat)) := fun k hk => sizeOf_n n _ (Typ.oN_kid h hk) (hkid k hk) (by have := Typ.np_kid hk; omega)
    have hT := totalSize_ok n a.kids (kidsB hs hp1) (fun k hk => Ret.wk (.cons (Typ.down (Typ.oN_kid h hk)) .nil) (alignOf_n n _ (Typ.oN_kid h hk) (hkid k hk))) (fun k hk => Ret.wk (.cons (Typ.down (Typ.oN_kid h hk)) .nil) (ih k hk))
    have hG := greatestSize_ok (n + 1) a.cas (cas_len hl) (cas_all (p := fun b => Ret env.P 36 [.agg (Typ.pN (n + 2) b)] (fun r => r = .i .i64 (b.sz' : Nat))) (unit_sizeOf _) (fun e => by rw [h13 e]; exact Nat.le_refl _) (fun k hk => Ret.wk (.cons (Typ.dn2 (Typ.oN_kid h hk)) .nil) (ih k hk)))
    have hC := cases_ok (Typ.oN_up _ _ h) (fun e => by rw [h13 e]; exact Nat.le_refl _)
    have hF := flagsSize_ok (Typ.oN_up _ _ h)
    have hN := numSize_ok a.kind
    have hA := caseAt_ok h hs
    have hL := alignOf_n (n + 2) a (Typ.oN_up _ _ h) hs
    have hal := (Typ.al_p hs).pos
    have hx := up1_le (cas_p2 hs)
    have hy := cas_szB hs hp1
    have hU : Ret env.P 56 [.i .i64 (IntKind.i64.wrap (((rup 1 (maxK Typ.al 1 a.cas a.cas.length) : Nat) : Int) + (maxK Typ.sz' 0 a.cas a.cas.length : Nat))), .i .i64 (a.al : Nat)] (fun r => r = .i .i64 (rup (rup 1 (maxK Typ.al 1 a.cas a.cas.length) + maxK Typ.sz' 0 a.cas a.cas.length) a.al : Nat)) := by
      rw [wrap_in (by omega) (by omega), ← Int.natCast_add]
      exact align_ok hal.1 (by omega)
    rw [Typ.sz_eq]
    refine Ret.wk (.cons (Typ.lift h) .nil) ?_
    refine ret_of (nt := 38) (rvs := [.tmp 2]) Tryz.func36 rfl rfl rfl rfl (fun X => ?_)
    repeat' (first | exact aa | ((conv => whnf) <;> (first | refine And.intro ?_ ?_ | (intro _h; first | contradiction | (try simp only [dd] at _h)) | (refine dt_go ?_) | exact rfl | exact True.intro | exact dkk | exact dks | ((first | refine .inl ⟨_, hT, ?_⟩ | refine ⟨_, hT, ?_⟩); (try rintro _ rfl)) | ((first | refine .inl ⟨_, hC, ?_⟩ | refine ⟨_, hC, ?_⟩); (try rintro _ rfl)) | ((first | refine .inl ⟨_, hG, ?_⟩ | refine ⟨_, hG, ?_⟩); (try rintro _ rfl)) | ((first | refine .inl ⟨_, hF, ?_⟩ | refine ⟨_, hF, ?_⟩); (try rintro _ rfl)) | ((first | refine .inl ⟨_, hN, ?_⟩ | refine ⟨_, hN, ?_⟩); (try rintro _ rfl)) | ((first | refine .inl ⟨_, hA, ?_⟩ | refine ⟨_, hA, ?_⟩); (try rintro _ rfl)) | ((first | refine .inl ⟨_, hL, ?_⟩ | refine ⟨_, hL, ?_⟩); (try rintro _ rfl)) | ((first | refine .inl ⟨_, hU, ?_⟩ | refine ⟨_, hU, ?_⟩); (try rintro _ rfl)) | (refine wrap_succ ?_; omega))))
    all_goals clear hT hC hG hF hN hA hL hU ih
    all_goals (conv => whnf)
    all_goals first
      | exact leaf_i (sz_1 (by omega))
      | exact leaf_i (sz_18 (by omega))
      | exact leaf_i (sz_8 (by omega))
      | exact leaf_i (sz_19 (by omega))
      | exact leaf_i (sz_tu (by unfold isTu; omega))
      | exact leaf_i (sz_cs (by unfold isCs; omega) h13)
      | exact leaf_i (sz_no (by omega))
      | trace_state
/-! The program's AlignOf, SizeOf, CaseAt. -/
open Classical in
noncomputable def ifG (p : Prop) (x : Nat) : Int := if p then (x : Int) else 0
theorem ifG_t {p : Prop} (h : p) {x : Nat} : (x : Int) = ifG p x := by unfold ifG; rw [if_pos h]
theorem ifG_f {p : Prop} (h : ¬ p) {x : Nat} : (0 : Int) = ifG p x := by unfold ifG; rw [if_neg h]
theorem alignOf_impl {n : Nat} {a : Typ} (h : Typ.oN (n + 1) a) (hp : a.np ≤ 1000000000000000) : Ret env.P 12 [.agg (Typ.pN (n + 1) a)] (fun r => r = .i .i64 (ifG a.good a.al)) := by
  have h1 := typeOk_impl h hp
  have h2 := fun q : a.sh => alignOf_n (n + 1) a h q
  refine ret_of (nt := 8) (rvs := [.tmp 2]) Tryz.func12 rfl rfl rfl rfl (fun X => ?_)
  repeat' (first | exact aa | ((conv => whnf) <;> (first | refine And.intro ?_ ?_ | (intro _h; first | contradiction | (try simp only [dd] at _h)) | (refine dt_go ?_) | exact rfl | exact True.intro | exact dkk | exact dks | ((first | refine .inl ⟨_, h1, ?_⟩ | refine ⟨_, h1, ?_⟩); (try rintro _ rfl)) | ((first | refine .inl ⟨_, h2 (Classical.not_not.1 ‹¬¬a.good›).2.2, ?_⟩ | refine ⟨_, h2 (Classical.not_not.1 ‹¬¬a.good›).2.2, ?_⟩); (try rintro _ rfl)) | (refine wrap_succ ?_; omega))))
  all_goals (conv => whnf)
  all_goals first
    | exact leaf_i (ifG_t (Classical.not_not.1 ‹_›))
    | exact leaf_i (ifG_f ‹_›)
    | trace_state
theorem sizeOf_impl {n : Nat} {a : Typ} (h : Typ.oN (n + 1) a) (hp : a.np ≤ 1000000000000000) : Ret env.P 13 [.agg (Typ.pN (n + 1) a)] (fun r => r = .i .i64 (ifG a.good a.sz')) := by
  have h1 := typeOk_impl h hp
  have h2 := fun q : a.good => sizeOf_n (n + 1) a h q.2.2 (by have := q.2.1; omega)
  refine ret_of (nt := 8) (rvs := [.tmp 2]) Tryz.func13 rfl rfl rfl rfl (fun X => ?_)
  repeat' (first | exact aa | ((conv => whnf) <;> (first | refine And.intro ?_ ?_ | (intro _h; first | contradiction | (try simp only [dd] at _h)) | (refine dt_go ?_) | exact rfl | exact True.intro | exact dkk | exact dks | ((first | refine .inl ⟨_, h1, ?_⟩ | refine ⟨_, h1, ?_⟩); (try rintro _ rfl)) | ((first | refine .inl ⟨_, h2 (Classical.not_not.1 ‹¬¬a.good›), ?_⟩ | refine ⟨_, h2 (Classical.not_not.1 ‹¬¬a.good›), ?_⟩); (try rintro _ rfl)) | (refine wrap_succ ?_; omega))))
  all_goals (conv => whnf)
  all_goals first
    | exact leaf_i (ifG_t (Classical.not_not.1 ‹_›))
    | exact leaf_i (ifG_f ‹_›)
    | trace_state
end Go.Proofs.YtnppkgmodflkdaaGreat

namespace Go.Proofs.YtnppkgmodflkdaaGreat
open Go Go.RowKit
set_option linter.unusedVariables false
set_option linter.unusedSimpArgs false
attribute [local irreducible] IntKind.wrap

theorem Typ.kids_np {a : Typ} : a.kids.length + 1 ≤ a.np := by
  have := Typ.np_eq a
  have := sumK_len (l := a.kids) (Nat.le_refl _)
  omega
theorem oN_unit (n : Nat) : Typ.oN (n + 1) unitT := ⟨Nat.zero_le _, ⟨Nat.zero_le _, fun k hk => absurd hk (Nat.not_lt_zero _)⟩, ⟨Nat.zero_le _, fun k hk => absurd hk (Nat.not_lt_zero _)⟩⟩
theorem cas_np {a : Typ} (h1 : a.kind = 13 → a.kids.length = 1) : sumK Typ.np a.cas a.cas.length ≤ a.np + 1 := by
  have h2 := Typ.np_eq a
  unfold Typ.cas
  split
  · rename_i e
    rw [h1 e, sumK_succ _ (by rw [h1 e]; exact Nat.one_pos)] at h2
    show sumK Typ.np [unitT, a.kids.getD 0 default] 2 ≤ _
    have e2 : sumK Typ.np [unitT, a.kids.getD 0 default] 2 = unitT.np + (a.kids.getD 0 default).np := by
      rw [sumK_succ _ (show 1 < 2 by decide), sumK_succ _ (show 0 < 2 by decide), sumK_zero]
      show 0 + unitT.np + (a.kids.getD 0 default).np = _
      omega
    rw [e2, unit_np]
    rw [sumK_zero] at h2
    omega
  · split
    · omega
    · exact Nat.zero_le _
end Go.Proofs.YtnppkgmodflkdaaGreat
