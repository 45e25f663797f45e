/-
  Types whose values may be in a stream, on both sides; the number of a type's parts.
-/
import Derived.Test.YtgjihfinbaopcaaVToC
import Derived.Test.YtgjihfinbaopcaaVTpD
import Derived.Test.YtgjihfinbaopcaaVTpF
namespace Go.Proofs.Ytgjihfinbaopcaa
open Go Go.RowKit
set_option linter.unusedVariables false
set_option linter.unusedSimpArgs false

def Typ.strm (a : Typ) : Prop := a.good ∧ ¬ a.kind = 1 ∧ ¬ Typ.has (fun k => 20 ≤ k ∧ k ≤ 23) a
theorem has_4 {a : Typ} : Typ.has (fun k => k ∈ [(20 : Int), 21, 22, 23]) a ↔ Typ.has (fun k => 20 ≤ k ∧ k ≤ 23) a := by
  have e : (fun k : Int => k ∈ [(20 : Int), 21, 22, 23]) = fun k => 20 ≤ k ∧ k ≤ 23 := funext fun k => propext (by simp; omega)
  rw [e]
set_option maxRecDepth 8000 in
theorem strm_spec {n : Nat} {a : Typ} (h : Typ.oN (n + 1) a) : Ret env.P 18 [.agg (Typ.pN (n + 1) a)] (fun r => r = .b (pb a.strm)) := by
  have h1 := l03Ok_ok h
  have h2 := l03Has_n 20 23 (n + 1) a h
  refine ret_of (nt := 15) (rvs := [.tmp 2]) Try.func18 rfl rfl rfl rfl (fun X => ?_)
  repeat' (first | exact aa | ((conv => whnf) <;> (first | refine And.intro ?_ ?_ | (intro _h; first | contradiction | (try simp only [dd] at _h)) | (refine dt_go ?_) | exact rfl | exact True.intro | exact dkk | exact dks | ((first | refine .inl ⟨_, h1, ?_⟩ | refine ⟨_, h1, ?_⟩); (try rintro _ rfl)) | ((first | refine .inl ⟨_, h2, ?_⟩ | refine ⟨_, h2, ?_⟩); (try rintro _ rfl)) | (refine wrap_succ ?_; omega))))
  all_goals (conv => whnf)
  · exact leaf_b (npb ⟨fun q => q.2.2, fun q => ⟨by assumption, by assumption, q⟩⟩)
  · exact leaf_f fun q => q.2.1 (by assumption)
  · exact leaf_f fun q => absurd q.1 (by assumption)
set_option maxRecDepth 8000 in
theorem strm_impl {n : Nat} {a : Typ} (h : Typ.oN (n + 1) a) (hp : a.np ≤ 1000000000000000) : Ret env.P 22 [.agg (Typ.pN (n + 1) a)] (fun r => r = .b (pb a.strm)) := by
  have h1 := typeOk_impl h hp
  have h2 := hasKind_n [20, 21, 22, 23] (by decide) (n + 1) a h
  rw [pb_congr has_4] at h2
  refine ret_of (nt := 16) (rvs := [.tmp 2]) Try.func22 rfl rfl rfl rfl (fun X => ?_)
  repeat' (first | exact aa | ((conv => whnf) <;> (first | (refine .inr (.inl (.inr (.inl ⟨_, RetM.wk (.cons (.refl _) (.cons (shr_litL (d := 0) (k := 4) (cO := intC) (l := [(20 : Int), 21, 22, 23]) rfl rfl) .nil)) h2.toMB, ?_⟩))); rintro _ _ ⟨rfl, rfl⟩; refine ⟨⟨rfl, rowsNs_nil⟩, _, lok_nil, ?_⟩) | refine And.intro ?_ ?_ | (intro _h; first | contradiction | (try simp only [dd] at _h)) | (refine dt_go ?_) | exact rfl | exact True.intro | exact dkk | exact dks | ((first | refine .inl ⟨_, h1, ?_⟩ | refine ⟨_, h1, ?_⟩); (try rintro _ rfl)) | ((first | refine .inl ⟨_, isUnit_ok, ?_⟩ | refine ⟨_, isUnit_ok, ?_⟩); (try rintro _ rfl)) | (refine wrap_succ ?_; omega))))
  all_goals (conv => whnf)
  · exact leaf_b (npb ⟨fun q => q.2.2, fun q => ⟨by assumption, by assumption, q⟩⟩)
  · exact leaf_f fun q => q.2.1 (by assumption)
  · exact leaf_f fun q => absurd q.1 (by assumption)
theorem sumK_cons (f : Typ → Nat) (x : Typ) (l : List Typ) : sumK f (x :: l) (x :: l).length = f x + sumK f l l.length := by
  unfold sumK
  rw [List.take_length, List.take_length]
  simp
theorem szF_np {g : Typ → Int → Int} {f : Typ → Nat} (h : ∀ a v, ¬ g a v < 0 → g a v ≤ v ∧ (f a : Int) ≤ 1 + (v - g a v)) : ∀ (l : List Typ) (v : Int), ¬ szF g l v < 0 → szF g l v ≤ v ∧ ((sumK f l l.length : Nat) : Int) ≤ l.length + (v - szF g l v)
  | [], v, _ => ⟨Int.le_refl _, by show (0 : Int) ≤ ((0 : Nat) : Int) + (v - v); omega⟩
  | x :: r, v, hn => by
    rw [szF_cons] at hn ⊢
    by_cases c : g x v < 0
    · rw [if_pos c] at hn; omega
    rw [if_neg c] at hn ⊢
    obtain ⟨h1, h2⟩ := h x v c
    obtain ⟨h3, h4⟩ := szF_np h r (g x v) hn
    rw [sumK_cons]
    refine ⟨by omega, ?_⟩
    show _ ≤ ((r.length + 1 : Nat) : Int) + _
    omega
theorem Typ.npN_sz : ∀ (n : Nat) (a : Typ) (v : Int), ¬ Typ.zN n a v < 0 → Typ.zN n a v ≤ v ∧ (Typ.npN n a : Int) ≤ 1 + (v - Typ.zN n a v)
  | 0, a, v, hn => (hn (by show (-1 : Int) < 0; decide)).elim
  | n + 1, a, v, hn => by
    obtain ⟨c1, c2, c3, e⟩ := Typ.zN_inv hn
    rw [e]
    have h1 := szSt_dn c1
    obtain ⟨h2, h3⟩ := szLs_mk Str.mkE_sz _ _ c2
    have c4 := c3
    unfold szLs at c3 ⊢
    have e1 : szLs szSt a.labels (szSt a.name v) = (if szSt a.name v - a.labels.length < 0 then -1 else szF szSt a.labels (szSt a.name v - a.labels.length)) := rfl
    rw [← e1] at c3 ⊢
    by_cases c : szLs szSt a.labels (szSt a.name v) - a.kids.length < 0
    · rw [if_pos c] at c3; omega
    rw [if_neg c] at c3 ⊢
    obtain ⟨h4, h5⟩ := szF_np (Typ.npN_sz n) a.kids _ c3
    refine ⟨by omega, ?_⟩
    show ((1 + sumK (Typ.npN n) a.kids a.kids.length : Nat) : Int) ≤ _
    omega
theorem Typ.np_sz {a : Typ} {v : Int} (hv : v ≤ 1048576) (hn : ¬ Typ.sz a v < 0) : a.np ≤ 1048577 := by
  have := Typ.npN_sz (a.kd + 1) a v hn
  have e : a.sz v = Typ.zN (a.kd + 1) a v := rfl
  have e2 : a.np = Typ.npN (a.kd + 1) a := rfl
  omega
end Go.Proofs.Ytgjihfinbaopcaa
