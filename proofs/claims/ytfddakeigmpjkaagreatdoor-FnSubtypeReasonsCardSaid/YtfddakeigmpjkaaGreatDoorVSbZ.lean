/-
  Types that are drawn: A8Type, A8Wider, at one level.
-/
import Derived.Test.YtfddakeigmpjkaaGreatDoorVSbY
import Derived.Test.YtfddakeigmpjkaaGreatDoorVSbX
namespace Go.Proofs.YtfddakeigmpjkaaGreatDoor
open Go Go.RowKit
set_option linter.unusedVariables false
set_option linter.unusedSimpArgs false
attribute [local irreducible] IntKind.wrap

theorem oN_cut : ∀ (m n : Nat) (a : Typ), Typ.oN n a → Typ.fN m a → Typ.oN m a
  | 0, _, _, _, h => h.elim
  | m + 1, 0, _, h, _ => h.elim
  | m + 1, n + 1, a, h, k => ⟨h.1, h.2.1, ⟨h.2.2.1, fun j hj => oN_cut m n _ (h.2.2.2 j hj) (Typ.fN_get.1 k j hj)⟩⟩
theorem gd_oN {a : Typ} (h : Gd a) : Typ.oN 6 a := Typ.oN_up _ _ (Typ.oN_up _ _ h.o)
theorem a8Type6_ok (l : List UInt8) (hl : l.length ≤ 2000000) : RetM env.P 6 [] [slL 1 byteC l] (fun r H => ∃ a : Typ, Gd a ∧ r = .agg (Typ.pN 6 a) ∧ H = []) := by
  refine RetM.frz [] rfl plainH_nil (RetM.mono (a8Type_ok l hl) fun r H h => ?_)
  obtain ⟨a, ha, rfl, rfl⟩ := h
  refine ⟨[], .agg (Typ.pN 6 a), view_none, frz_agg ?_, a, ha, rfl, rfl⟩
  have e : (Typ.pN 4 a).map (shrC 5 (outM [] 0 [])) = Typ.pN 4 a := rfl
  rw [e]
  exact Typ.conv _ _ _ (Typ.oN_fN _ _ ha.o) (Typ.oN_fN _ _ (gd_oN ha))
set_option maxRecDepth 8000 in
theorem a8Wider_ok (l : List UInt8) (hl : l.length ≤ 2000000) (a : Typ) (ha : Gd a) : RetM env.P 7 [] [slL 1 byteC l, .agg (Typ.pN 6 a)] (fun r H => ∃ b : Typ, Gd b ∧ r = .agg (Typ.pN 6 b) ∧ H = []) := by
  have hn := ha.g.2.1
  have hW := fun (s : Src) (h : s.rm (2 * a.np)) => widD_all 4 s a ha.o ha.g.2.2 (by omega) h
  refine RetM.frz [] rfl plainH_nil ?_
  refine ret_ofM (nt := 15) (rvs := [.cell 4 26]) Tryz.func7 rfl rfl rfl rfl (fun X hX => ?_)
  repeat' (first | exact aa | ((conv => whnf) <;> (first | refine And.intro ?_ ?_ | (intro _h; first | contradiction | (try simp only [dd] at _h)) | (refine dt_go ?_) | exact rfl | exact True.intro | exact dkk | exact dks | (refine .inr (.inl (.inl ⟨[], _, _, _, from_gen l hl, viewA, ⟨rfl, rfl⟩, ?_⟩)); rintro _ _ ⟨s, ⟨hs1, hs2⟩, rfl, rfl⟩; refine ⟨rfl, _, lokA, ?_⟩) | (refine .inr (.inl (.inl ⟨[2], _, _, _, hW s (Src.rm_i (by omega) (by omega) (by omega)), viewA, ⟨rfl, rfl⟩, ?_⟩)); rintro _ _ ⟨b, t, hb, ht, rfl, rfl⟩; refine ⟨rfl, _, lokA, ?_⟩) | (refine .inr (.inl (.inl ⟨[3], _, _, _, hW s (Src.rm_i (by omega) (by omega) (by omega)), viewA, ⟨rfl, rfl⟩, ?_⟩)); rintro _ _ ⟨b, t, hb, ht, rfl, rfl⟩; refine ⟨rfl, _, lokA, ?_⟩) | ((first | refine .inl ⟨_, typeOk_spec (Typ.oN_up _ _ hb.o), ?_⟩ | refine ⟨_, typeOk_spec (Typ.oN_up _ _ hb.o), ?_⟩); (try rintro _ rfl)) | (refine wrap_succ ?_; omega))))
  all_goals (conv => whnf)
  all_goals first
    | exact endM_self ⟨[], .agg (Typ.pN 6 a), view_none, frz_agg (.cons (.refl _) (.cons (.refl _) (.cons (.refl _) (.cons (.refl _) .nil)))), a, ha, rfl, rfl⟩
    | exact endM_self ⟨[], .agg (Typ.pN 6 b), view_none, frz_agg (.cons (.refl _) (.cons (.refl _) (.cons (.refl _) (.cons (.refl _) .nil)))), b, ⟨oN_cut 4 5 b hb.o (Classical.not_not.1 ‹_› : b.good).1, Classical.not_not.1 ‹_›⟩, rfl, rfl⟩
    | trace_state
end Go.Proofs.YtfddakeigmpjkaaGreatDoor

namespace Go.Proofs.YtfddakeigmpjkaaGreatDoor
open Go Go.RowKit
set_option linter.unusedVariables false
set_option linter.unusedSimpArgs false

/-- Whether a valid type may stand for another one. -/
noncomputable def mayB (a b : Typ) : Bool := !rsB (whyN 6 a b ⟨#[]⟩)
theorem mayB_t {a b : Typ} : mayB a b = true ↔ mayN 6 a b := by
  unfold mayB
  rw [← why_may 6 a b ⟨#[]⟩]
  cases whyN 6 a b ⟨#[]⟩ with
  | none => exact ⟨fun _ => rfl, fun _ => rfl⟩
  | some r => exact ⟨fun h => (nomatch h), fun h => (nomatch h)⟩
theorem mayB_refl {a : Typ} (h : Gd a) : mayB a a = true := mayB_t.2 (may_refl 6 a h.g.2.2 (Typ.oN_fN _ _ (gd_oN h)) (by decide))
theorem mayB_trans {a b c : Typ} (ha : Gd a) (hb : Gd b) (hc : Gd c) (h1 : mayB a b = true) (h2 : mayB b c = true) : mayB a c = true := mayB_t.2 (may_trans 6 ha.g.2.2 hb.g.2.2 hc.g.2.2 (mayB_t.1 h1) (mayB_t.1 h2))
theorem okS_ok {a : Typ} (h : Gd a) : Ret env.P 22 [.agg (Typ.pN 6 a)] (fun r => r = .b true) := (typeOk_spec (gd_oN h)).mono fun r e => by rw [e, pb_t.mpr h.g]
theorem okI_ok {a : Typ} (h : Gd a) : Ret env.P 23 [.agg (Typ.pN 6 a)] (fun r => r = .b true) := (typeOk_impl (gd_oN h) (by have := h.g.2.1; omega)).mono fun r e => by rw [e, pb_t.mpr h.g]
theorem whyS_6 {a b : Typ} (ha : Gd a) (hb : Gd b) : Ret env.P 27 [.agg (Typ.pN 6 a), .agg (Typ.pN 6 b), .s ⟨#[]⟩] (fun r => r = rsV (whyN 6 a b ⟨#[]⟩)) := whyS_ok 6 (by decide) a b _ (gd_oN ha) (gd_oN hb) ha.g.2.2 hb.g.2.2 (by decide)
theorem whyI_6 {a b : Typ} (ha : Gd a) (hb : Gd b) : Ret env.P 24 [.agg (Typ.pN 6 a), .agg (Typ.pN 6 b), .s ⟨#[]⟩] (fun r => r = rsV (whyN 6 a b ⟨#[]⟩)) := whyI_ok 6 (by decide) a b _ (gd_oN ha) (gd_oN hb) ha.g.2.2 hb.g.2.2 (by decide)
set_option maxRecDepth 8000 in
theorem mayI_ok {a b : Typ} (ha : Gd a) (hb : Gd b) : Ret env.P 9 [.agg (Typ.pN 6 a), .agg (Typ.pN 6 b)] (fun r => r = .b (mayB a b)) := by
  have h1 := okI_ok ha
  have h2 := okI_ok hb
  have h3 := whyI_6 ha hb
  refine ret_of (nt := 23) (rvs := [.tmp 4]) Tryz.func9 rfl rfl rfl rfl (fun X => ?_)
  repeat' (first | exact aa | ((conv => whnf) <;> (first | (exfalso; exact ‹¬True› trivial) | refine And.intro ?_ ?_ | (intro _h; first | contradiction | (try simp only [dd] at _h)) | (refine dt_go ?_) | exact rfl | exact True.intro | exact dkk | exact dks | ((first | refine .inl ⟨_, h1, ?_⟩ | refine ⟨_, h1, ?_⟩); (try rintro _ rfl)) | ((first | refine .inl ⟨_, h2, ?_⟩ | refine ⟨_, h2, ?_⟩); (try rintro _ rfl)) | ((first | refine .inl ⟨_, h3, ?_⟩ | refine ⟨_, h3, ?_⟩); (try rintro _ rfl)) | (refine wrap_succ ?_; omega))))
  all_goals trace_state
set_option maxRecDepth 8000 in
theorem mayS_ok {a b : Typ} (ha : Gd a) (hb : Gd b) : Ret env.P 10 [.agg (Typ.pN 6 a), .agg (Typ.pN 6 b)] (fun r => r = .b (mayB a b)) := by
  have h1 := okS_ok ha
  have h2 := okS_ok hb
  have h3 := whyS_6 ha hb
  have h4 : Ret env.P 25 [.agg (Typ.pN 6 a), .agg (Typ.pN 6 b)] (fun r => r = .b (mayB a b)) := by
    refine ret_of (nt := 15) (rvs := [.tmp 4]) Tryz.func25 rfl rfl rfl rfl (fun X => ?_)
    repeat' (first | exact aa | ((conv => whnf) <;> (first | refine And.intro ?_ ?_ | (intro _h; first | contradiction | (try simp only [dd] at _h)) | (refine dt_go ?_) | exact rfl | exact True.intro | exact dkk | exact dks | ((first | refine .inl ⟨_, h3, ?_⟩ | refine ⟨_, h3, ?_⟩); (try rintro _ rfl)) | (refine wrap_succ ?_; omega))))
    all_goals trace_state
  refine ret_of (nt := 16) (rvs := [.tmp 4]) Tryz.func10 rfl rfl rfl rfl (fun X => ?_)
  repeat' (first | exact aa | ((conv => whnf) <;> (first | (exfalso; exact ‹¬True› trivial) | refine And.intro ?_ ?_ | (intro _h; first | contradiction | (try simp only [dd] at _h)) | (refine dt_go ?_) | exact rfl | exact True.intro | exact dkk | exact dks | ((first | refine .inl ⟨_, h1, ?_⟩ | refine ⟨_, h1, ?_⟩); (try rintro _ rfl)) | ((first | refine .inl ⟨_, h2, ?_⟩ | refine ⟨_, h2, ?_⟩); (try rintro _ rfl)) | ((first | refine .inl ⟨_, h4, ?_⟩ | refine ⟨_, h4, ?_⟩); (try rintro _ rfl)) | (refine wrap_succ ?_; omega))))
  all_goals trace_state
instance : Shr 0 byteC byteC := shr_plain fun _ => rfl
theorem mix_cap {n : Nat} (h : n ≤ 1048576) : (1 + n) * 1 ≤ 140737488355328 := by omega
theorem mix_max {n : Nat} (h : n ≤ 1048576) : 1 + n ≤ 9223372036854775807 := by omega
theorem mix_len {x : UInt8} {l : List UInt8} (h : l.length ≤ 1048576) : (x :: l).length ≤ 2000000 := by rw [List.length_cons]; omega
theorem mix_ok (k : Int) (hk : k = 1 ∨ k = 2) (l : List UInt8) (hl : l.length ≤ 1048576) : RetM env.P 8 [] [.i .i64 k, slL 1 byteC l] (fun r H => ∃ l' : List UInt8, l'.length ≤ 2000000 ∧ r = slL 1 byteC l' ∧ H = []) := by
  refine RetM.frz [] rfl plainH_nil ?_
  rcases hk with rfl | rfl
  · refine ret_ofM (nt := 10) (rvs := [.tmp 4]) Tryz.func8 rfl rfl rfl rfl (fun X hX => ?_)
    repeat' (first | exact aa | ((conv => whnf) <;> (first | exact srcOk_L (fun _ => ⟨rfl, rfl⟩) | exact mix_cap hl | exact mix_max hl | refine And.intro ?_ ?_ | (intro _h; first | contradiction | (try simp only [dd] at _h)) | (refine dt_go ?_) | exact rfl | exact True.intro | exact dkk | exact dks | (refine wrap_succ ?_; omega))))
    all_goals (conv => whnf)
    refine endM_self ⟨[], slL 1 byteC (1 :: l), view_none, frz_cell rfl ?_, 1 :: l, mix_len hl, rfl, rfl⟩
    exact shr_pre (d := 0) (k := 4) (cO := byteC) (c := byteC) (a := 1) rfl (fun j hj => by obtain rfl : j = 0 := Nat.lt_one_iff.1 hj; exact .refl _)
  · refine ret_ofM (nt := 10) (rvs := [.tmp 4]) Tryz.func8 rfl rfl rfl rfl (fun X hX => ?_)
    repeat' (first | exact aa | ((conv => whnf) <;> (first | exact srcOk_L (fun _ => ⟨rfl, rfl⟩) | exact mix_cap hl | exact mix_max hl | refine And.intro ?_ ?_ | (intro _h; first | contradiction | (try simp only [dd] at _h)) | (refine dt_go ?_) | exact rfl | exact True.intro | exact dkk | exact dks | (refine wrap_succ ?_; omega))))
    all_goals (conv => whnf)
    refine endM_self ⟨[], slL 1 byteC (2 :: l), view_none, frz_cell rfl ?_, 2 :: l, mix_len hl, rfl, rfl⟩
    exact shr_pre (d := 0) (k := 4) (cO := byteC) (c := byteC) (a := 2) rfl (fun j hj => by obtain rfl : j = 0 := Nat.lt_one_iff.1 hj; exact .refl _)
theorem bool_ne {x : Bool} (h : (x == x) = false) : False := by cases x <;> cases h
theorem bool_eq (x : Bool) : (x == x) = true := by cases x <;> rfl
theorem bool_no {x y z : Bool} (h : x = true → y = true → z = true) (h1 : ¬ x = false) (h2 : ¬ y = false) (h3 : z = false) : False := by
  cases x <;> cases y <;> simp_all
theorem retA (l : List UInt8) (hl : l.length ≤ 2000000) : Ret env.P 6 [slL 1 byteC l] (fun r => ∃ a : Typ, Gd a ∧ r = .agg (Typ.pN 6 a)) := (RetM.mono (a8Type6_ok l hl) fun r H ⟨a, ha, hr, hH⟩ => ⟨⟨a, ha, hr⟩, hH⟩).toRetG
theorem retW (l : List UInt8) (hl : l.length ≤ 2000000) (a : Typ) (ha : Gd a) : Ret env.P 7 [slL 1 byteC l, .agg (Typ.pN 6 a)] (fun r => ∃ b : Typ, Gd b ∧ r = .agg (Typ.pN 6 b)) := (RetM.mono (a8Wider_ok l hl a ha) fun r H ⟨b, hb, hr, hH⟩ => ⟨⟨b, hb, hr⟩, hH⟩).toRetG
theorem retM (k : Int) (hk : k = 1 ∨ k = 2) (l : List UInt8) (hl : l.length ≤ 1048576) : Ret env.P 8 [.i .i64 k, slL 1 byteC l] (fun r => ∃ l' : List UInt8, l'.length ≤ 2000000 ∧ r = slL 1 byteC l') := (RetM.mono (mix_ok k hk l hl) fun r H ⟨b, hb, hr, hH⟩ => ⟨⟨b, hb, hr⟩, hH⟩).toRetG
set_option maxRecDepth 8000 in
set_option maxHeartbeats 4000000 in
theorem orderLaw_of (l : List UInt8) : RetM env.P 3 [] [slL 1 byteC l] (fun r H => (r = .b true ∨ r = .kb true) ∧ H = []) := by
  by_cases hl : 1048576 < (l.length : Int)
  · refine ret_ofM (nt := 80) (rvs := [.tmp 2]) Tryz.func3 rfl rfl rfl rfl (fun X hX => ?_)
    repeat' (first | exact aa | ((conv => whnf) <;> (first | (exfalso; omega) | refine And.intro ?_ ?_ | (intro _h; first | contradiction | (try simp only [dd] at _h)) | (refine dt_go ?_) | exact rfl | exact True.intro | exact dkk | exact dks | (refine wrap_succ ?_; omega))))
    all_goals (conv => whnf)
    all_goals exact endM_pick [] [] (.kb true) (view_of rfl .nil) rfl rfl (fun k hk => by rw [hX] at hk; exact absurd hk (Nat.not_lt_zero _)) ⟨.inr rfl, rfl⟩
  · have hA := retA l (by omega)
    have hM1 := retM 1 (.inl rfl) l (by omega)
    have hM2 := retM 2 (.inr rfl) l (by omega)
    refine ret_ofM (nt := 80) (rvs := [.tmp 2]) Tryz.func3 rfl rfl rfl rfl (fun X hX => ?_)
    repeat' (first | exact aa | ((conv => whnf) <;> (first | (exfalso; omega) | ((first | refine .inl ⟨_, hA, ?_⟩ | refine ⟨_, hA, ?_⟩); rintro _ ⟨a, ha, rfl⟩) | ((first | refine .inl ⟨_, hM1, ?_⟩ | refine ⟨_, hM1, ?_⟩); rintro _ ⟨l1, hl1, rfl⟩) | ((first | refine .inl ⟨_, retW l1 hl1 a ha, ?_⟩ | refine ⟨_, retW l1 hl1 a ha, ?_⟩); rintro _ ⟨b, hb, rfl⟩) | ((first | refine .inl ⟨_, hM2, ?_⟩ | refine ⟨_, hM2, ?_⟩); rintro _ ⟨l2, hl2, rfl⟩) | ((first | refine .inl ⟨_, retW l2 hl2 b hb, ?_⟩ | refine ⟨_, retW l2 hl2 b hb, ?_⟩); rintro _ ⟨c, hc, rfl⟩) | refine And.intro ?_ ?_ | (intro _h; first | contradiction | (try simp only [dd] at _h)) | (refine dt_go ?_) | exact rfl | exact True.intro | exact dkk | exact dks | (refine wrap_succ ?_; omega))))
    all_goals
      have eAA := (mayI_ok ha ha).mono fun r e => e.trans (congrArg AV.b (mayB_refl ha))
      have eCC := (mayI_ok hc hc).mono fun r e => e.trans (congrArg AV.b (mayB_refl hc))
      have eAB := mayI_ok ha hb
      have eBC := mayI_ok hb hc
      have eAC := mayI_ok ha hc
      have eBA := mayI_ok hb ha
      have sAB := mayS_ok ha hb
      have sBC := mayS_ok hb hc
      have sAC := mayS_ok ha hc
      have sBA := mayS_ok hb ha
      have hT := mayB_trans ha hb hc
      generalize mayB a b = x at *
      generalize mayB b c = y at *
      generalize mayB a c = z at *
      generalize mayB b a = w at *
    all_goals
      repeat' (first | exact aa | ((conv => whnf) <;> (first | (exfalso; exact ‹¬True› trivial) | (exfalso; exact bool_ne ‹(_ == _) = false›) | (exfalso; exact bool_no hT ‹¬ x = false› ‹¬ y = false› ‹z = false›) | refine And.intro ?_ ?_ | (intro _h; first | contradiction | (try simp only [dd] at _h)) | (refine dt_go ?_) | exact rfl | exact True.intro | exact dkk | exact dks | ((first | refine .inl ⟨_, eAA, ?_⟩ | refine ⟨_, eAA, ?_⟩); (try rintro _ rfl)) | ((first | refine .inl ⟨_, eCC, ?_⟩ | refine ⟨_, eCC, ?_⟩); (try rintro _ rfl)) | ((first | refine .inl ⟨_, eAB, ?_⟩ | refine ⟨_, eAB, ?_⟩); (try rintro _ rfl)) | ((first | refine .inl ⟨_, eBC, ?_⟩ | refine ⟨_, eBC, ?_⟩); (try rintro _ rfl)) | ((first | refine .inl ⟨_, eAC, ?_⟩ | refine ⟨_, eAC, ?_⟩); (try rintro _ rfl)) | ((first | refine .inl ⟨_, eBA, ?_⟩ | refine ⟨_, eBA, ?_⟩); (try rintro _ rfl)) | ((first | refine .inl ⟨_, sAB, ?_⟩ | refine ⟨_, sAB, ?_⟩); (try rintro _ rfl)) | ((first | refine .inl ⟨_, sBC, ?_⟩ | refine ⟨_, sBC, ?_⟩); (try rintro _ rfl)) | ((first | refine .inl ⟨_, sAC, ?_⟩ | refine ⟨_, sAC, ?_⟩); (try rintro _ rfl)) | ((first | refine .inl ⟨_, sBA, ?_⟩ | refine ⟨_, sBA, ?_⟩); (try rintro _ rfl)) | (refine wrap_succ ?_; omega))))
      all_goals (conv => whnf)
      all_goals first
        | exact endM_pick [] [] (.b (w == w)) (view_of rfl .nil) rfl rfl (fun k hk => by rw [hX] at hk; exact absurd hk (Nat.not_lt_zero _)) ⟨.inl (congrArg AV.b (bool_eq w)), rfl⟩
        | (exfalso; exact bool_no hT ‹¬ x = false› ‹¬ y = false› ‹z = false›)
        | trace_state
end Go.Proofs.YtfddakeigmpjkaaGreatDoor
