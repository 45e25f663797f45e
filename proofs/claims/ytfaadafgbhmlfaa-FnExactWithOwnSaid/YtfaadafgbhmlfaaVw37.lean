/- Texts for VWithOwnP. -/
import Derived.Test.YtfaadafgbhmlfaaVw36
namespace Go.Proofs.Ytfaadafgbhmlfaa
open Go Go.RowKit
set_option linter.unusedVariables false
set_option linter.unusedSimpArgs false
section
attribute [local irreducible] IntKind.wrap
theorem sectionsOf_some {s : ByteArray} (hs : s.size ≤ 1048576) {l : List Section} (h : secAll s = some l) : RetM env.P 18 [] [.s s] (fun r H => r = .tup [.row 0 l.length, .b true] ∧ H = [some (rowL 3 Section.cs l)]) :=
  (sectionsOf_in s hs).mono fun r H ⟨l', b, h1, h2, h3, h4⟩ => by
    cases b with
    | false => exact absurd (h.symm.trans (h4 rfl)) (by simp)
    | true =>
      have := h.symm.trans (h3 rfl)
      cases this
      exact ⟨h1, h2⟩
theorem wk_any (x : AV) : Wk x .any := ⟨fun _ => trivial, fun w S u _ => Conc.any u⟩
theorem sectionsOf_none {s : ByteArray} (hs : s.size ≤ 1048576) (h : secAll s = none) : Ret env.P 18 [.s s] (fun r => r = .tup [.any, .b false]) := by
  refine Ret.ofFrz (RetM.mono (sectionsOf_in s hs) fun r H q => ?_)
  obtain ⟨l', b, h1, h2, h3, h4⟩ := q
  cases b with
  | true => exact absurd (h.symm.trans (h3 rfl)) (by simp)
  | false =>
    subst h1
    exact frz0 (frz_tup (.cons (wk_any _) (.cons (.refl _) .nil))) rfl
set_option maxRecDepth 8000 in
theorem sectionsOf_impl_ok (s : ByteArray) (hs : s.size ≤ 1048576) {l : List Section} (h : secAll s = some l) (hz : ¬ 30000 < s.size) : RetM env.P 10 [] [.s s] (fun r H => r = .tup [.row 0 l.length, .i .i64 0] ∧ H = [some (rowL 3 Section.cs l)]) := by
  have hm := sectionsOf_some hs h
  refine ret_ofM (nt := 17) (rvs := [.tmp 2, .tmp 3]) Try.func10 rfl rfl rfl rfl (fun X hX => ?_)
  repeat' (first | omega | (with_reducible show (_ : Int) < _; dsimp only; omega) | (with_reducible show (_ : Nat) ≤ _; dsimp only; omega) | ((with_reducible show SrcOk _ _ _) <;> (first | exact srcOk_1 rfl | exact srcOk_L (fun _ => ⟨rfl, rfl⟩) | exact srcOk_E (fun _ => ⟨rfl, rfl⟩))) | ((conv => whnf) <;> (first | (exfalso; omega) | refine And.intro ?_ ?_ | (intro _h; first | contradiction | (try simp only [dd] at _h)) | (refine dt_go ?_) | exact rfl | exact True.intro | exact dkk | exact dks | (refine .inr (.inl (.inl ⟨[], _, _, _, hm, viewA, ⟨rfl, rfl⟩, ?_⟩)); (rintro _ _ ⟨rfl, rfl⟩) <;> (refine ⟨rfl, _, lokA, ?_⟩)) | (refine wrap_succ ?_; omega))))
  all_goals (conv => whnf)
  all_goals exact endM_pick [0] [some (rowL 3 Section.cs l)] (.tup [.row 0 l.length, .i .i64 0]) (view_of rfl (.cons rfl (.self (rowPl_L fun _ => rfl)) .nil)) rfl rfl (fun k hk => by rw [hX] at hk; exact absurd hk (Nat.not_lt_zero _)) ⟨rfl, rfl⟩
set_option maxRecDepth 8000 in
theorem sectionsOf_impl_no (s : ByteArray) (hs : s.size ≤ 1048576) (h : soC s ≠ 0) : Ret env.P 10 [.s s] (fun r => r = .tup [.nils, .i .i64 (soC s)]) := by
  by_cases hz : 30000 < s.size
  · rw [(so_4 hz).2]
    refine ret_of (nt := 17) (rvs := [.tmp 2, .tmp 3]) Try.func10 rfl rfl rfl rfl (fun X => ?_)
    repeat' (first | omega | (with_reducible show (_ : Int) < _; dsimp only; omega) | (with_reducible show (_ : Nat) ≤ _; dsimp only; omega) | ((with_reducible show SrcOk _ _ _) <;> (first | exact srcOk_1 rfl | exact srcOk_L (fun _ => ⟨rfl, rfl⟩) | exact srcOk_E (fun _ => ⟨rfl, rfl⟩))) | ((conv => whnf) <;> (first | (exfalso; omega) | refine And.intro ?_ ?_ | (intro _h; first | contradiction | (try simp only [dd] at _h)) | (refine dt_go ?_) | exact rfl | exact True.intro | exact dkk | exact dks | (refine wrap_succ ?_; omega))))
    all_goals (conv => whnf)
    all_goals trace_state
  · have hn : secAll s = none := by
      cases e : secAll s with
      | none => rfl
      | some l => exact absurd (so_0 hz e).2 h
    rw [(so_18 hz hn).2]
    have hm := sectionsOf_none hs hn
    refine ret_of (nt := 17) (rvs := [.tmp 2, .tmp 3]) Try.func10 rfl rfl rfl rfl (fun X => ?_)
    repeat' (first | omega | (with_reducible show (_ : Int) < _; dsimp only; omega) | (with_reducible show (_ : Nat) ≤ _; dsimp only; omega) | ((with_reducible show SrcOk _ _ _) <;> (first | exact srcOk_1 rfl | exact srcOk_L (fun _ => ⟨rfl, rfl⟩) | exact srcOk_E (fun _ => ⟨rfl, rfl⟩))) | ((conv => whnf) <;> (first | (exfalso; omega) | refine And.intro ?_ ?_ | (intro _h; first | contradiction | (try simp only [dd] at _h)) | (refine dt_go ?_) | exact rfl | exact True.intro | exact dkk | exact dks | ((first | refine .inl ⟨_, hm, ?_⟩ | refine ⟨_, hm, ?_⟩); (try rintro _ rfl)) | (refine wrap_succ ?_; omega))))
    all_goals (conv => whnf)
    all_goals trace_state
end
end Go.Proofs.Ytfaadafgbhmlfaa
