/-
  The law FnVersions: its walk.
-/
import Derived.Test.YtcmnohbbjkdpdaaDoorVVrU
namespace Go.Proofs.YtcmnohbbjkdpdaaDoor
open Go Go.RowKit
set_option linter.unusedVariables false
set_option linter.unusedSimpArgs false
attribute [local irreducible] IntKind.wrap rgS numS hB cmpI srv

set_option maxRecDepth 8000 in
set_option maxHeartbeats 8000000 in
theorem versionsLaw (l m : List UInt8) : RetM env.P 3 [] [slL 1 byteC l, slL 1 byteC m] (fun r H => (r = .b true ∨ r = .kb true) ∧ H = []) := by
  by_cases hl : 1048576 < (l.length : Int) ∨ 1048576 < (m.length : Int)
  · have hb := b10Long_ok l m
    rw [pb_t.mpr hl] at hb
    refine ret_ofM (nt := 220) (rvs := [.tmp 4]) Tryd.func3 rfl rfl rfl rfl (fun X hX => ?_)
    repeat' (first | exact aa | ((conv => whnf) <;> (first | refine And.intro ?_ ?_ | (intro _h; first | contradiction | (try simp only [dd] at _h)) | (refine dt_go ?_) | exact rfl | exact True.intro | exact dkk | exact dks | ((first | refine .inl ⟨_, hb, ?_⟩ | refine ⟨_, hb, ?_⟩); (try rintro _ rfl)) | (refine wrap_succ ?_; omega))))
    all_goals (conv => whnf)
    all_goals exact endM_pick [] [] (.kb true) (view_of rfl .nil) rfl rfl (fun k hk => by rw [hX] at hk; exact absurd hk (Nat.not_lt_zero _)) ⟨.inr rfl, rfl⟩
  · have hb := b10Long_ok l m
    rw [pb_f.mpr hl] at hb
    refine ret_ofM (nt := 220) (rvs := [.tmp 4]) Tryd.func3 rfl rfl rfl rfl (fun X hX => ?_)
    repeat' (first | exact aa | ((conv => whnf) <;> (first | refine And.intro ?_ ?_ | (intro _h; first | contradiction | (try simp only [dd] at _h)) | (refine dt_go ?_) | exact rfl | exact True.intro | exact dkk | exact dks | ((first | refine .inl ⟨_, hb, ?_⟩ | refine ⟨_, hb, ?_⟩); (try rintro _ rfl)) | (refine .inr (.inl (.inl ⟨[], _, _, _, drawServes_ok l (by omega), viewA, ⟨rfl, rfl⟩, ?_⟩)); rintro _ _ ⟨a, b, ha, hb', rfl, rfl⟩; refine ⟨rfl, _, lokA, ?_⟩) | (refine .inr (.inl (.inl ⟨[], _, _, _, drawServes_ok m (by omega), viewA, ⟨rfl, rfl⟩, ?_⟩)); rintro _ _ ⟨c, d, hc, hd, rfl, rfl⟩; refine ⟨rfl, _, lokA, ?_⟩) | (refine wrap_succ ?_; omega))))
    have sa : a.size ≤ 20 := any_size a ha
    have sb : b.size ≤ 20 := any_size b hb'
    have sc : c.size ≤ 20 := any_size c hc
    have sd : d.size ≤ 20 := any_size d hd
    have va := vspec ha
    have vb := vspec hb'
    have vc := vspec hc
    have wa := versionOk_ok a (by omega)
    have Sab := serves_ok a b (by omega) (by omega)
    by_cases h3 : (vnum a).isSome = true ∧ (vnum b).isSome = true ∧ (vnum c).isSome = true
    · obtain ⟨x, hx⟩ := Option.isSome_iff_exists.1 h3.1
      obtain ⟨y, hy⟩ := Option.isSome_iff_exists.1 h3.2.1
      obtain ⟨z, hz⟩ := Option.isSome_iff_exists.1 h3.2.2
      have lx := vnum_lt hx
      have ly := vnum_lt hy
      have lz := vnum_lt hz
      have va1 : Ret env.P 7 [.s a] (fun r => r = .b true) := by rw [hx] at va; exact va
      have vb1 : Ret env.P 7 [.s b] (fun r => r = .b true) := by rw [hy] at vb; exact vb
      have vc1 : Ret env.P 7 [.s c] (fun r => r = .b true) := by rw [hz] at vc; exact vc
      have Saa := serves_ok a a (by omega) (by omega)
      have Sbc := serves_ok b c (by omega) (by omega)
      have Sac := serves_ok a c (by omega) (by omega)
      rw [srvN_some hx hx, f_srv] at Saa
      rw [srvN_some hx hy] at Sab
      rw [srvN_some hy hz] at Sbc
      rw [srvN_some hx hz] at Sac
      have hr := rng_all b hb'
      unfold rngB at hr
      rw [hy] at hr
      simp only [Bool.and_eq_true, decide_eq_true_eq] at hr
      have RT : Ret env.P 10 [.s (opTl ++ b)] (fun r => r = .tup [.agg (rT y).cs, .i .i64 0]) := by
        have h := rangeOf_ok' (opTl ++ b) (by rw [ByteArray.size_append]; show 1 + _ ≤ _; omega)
        rw [hr.1] at h
        exact h
      have RH : Ret env.P 10 [.s (opHat ++ b)] (fun r => r = .tup [.agg (rH y).cs, .i .i64 0]) := by
        have h := rangeOf_ok' (opHat ++ b) (by rw [ByteArray.size_append]; show 1 + _ ≤ _; omega)
        rw [hr.2.1] at h
        exact h
      have RU : Ret env.P 10 [.s (opGt ++ b)] (fun r => r = .tup [.agg (rU y).cs, .i .i64 0]) := by
        have h := rangeOf_ok' (opGt ++ b) (by rw [ByteArray.size_append]; show 1 + _ ≤ _; omega)
        rw [hr.2.2] at h
        exact h
      have hmx : ∀ o : ByteArray, o.size = 1 → (o.size + b.size).le maxLen := fun o ho => Nat.le_trans (show _ ≤ 40 by omega) (by decide)
      have IT := inR_ok a (by omega) (rT y)
      have IH := inR_ok a (by omega) (rH y)
      have IU := inR_ok a (by omega) (rU y)
      have CU := inR_ok c (by omega) (rU y)
      rw [inR_some hx, (ok3 ly).1, Bool.true_and] at IT
      rw [inR_some hx, (ok3 ly).2.1, Bool.true_and, f_hs lx] at IH
      have hcu := f_cu (y := y) lx
      have hIU : inR a (rU y) = decide (0 ≤ cmpI x y) := by rw [inR_some hx, (ok3 ly).2.2, Bool.true_and, hcu]
      have hth := f_th (x := x) ly
      have hhu := f_hu (y := y) lx
      rw [f_hs lx] at hth hhu
      rw [← hcu] at hhu
      rw [hIU] at IU
      have Kab : Ret env.P 12 [.s a, .s b] (fun r => r = .tup [.i .i64 (cmpI x y), .i .i64 0]) := by
        have h := compareV_ok a b (by omega) (by omega)
        rw [hx, hy] at h
        exact h
      have Kba : Ret env.P 12 [.s b, .s a] (fun r => r = .tup [.i .i64 (cmpI y x), .i .i64 0]) := by
        have h := compareV_ok b a (by omega) (by omega)
        rw [hx, hy] at h
        exact h
      have hneg := f_neg x y
      have hcr := cmp_r x y
      have hB := bestIn_ok [a, d, c] (show 0 < 3 by decide) (show 3 ≤ 1048576 by decide) (rU y) (fun v hv => by
        rcases List.mem_cons.1 hv with rfl | hv
        · omega
        · rcases List.mem_cons.1 hv with rfl | hv
          · omega
          · rw [List.mem_singleton.1 hv]; omega)
      have hnw : cmpI x y = IntKind.i64.wrap (0 - cmpI y x) := by rw [hneg, wrap_in (by omega) (by omega)]; omega
      generalize cmpI x y = n at *
      generalize cmpI y x = n' at *
      generalize decide ((rT y).low ≤ x ∧ (x : Int) ≤ (rT y).below - 1) = tb at *
      have htr := f_trans (x := x) (y := y) (z := z)
      generalize srv x y = s1 at *
      generalize srv y z = s2 at *
      generalize srv x z = s3 at *
      generalize hq : decide (0 ≤ n) = nb at *
      cases s1 <;> cases s2 <;> cases s3 <;> cases tb <;> cases nb
      all_goals first
        | (exfalso; simp at htr; done)
        | (exfalso; simp at hth; done)
        | (exfalso; simp at hhu; done)
        | skip
      all_goals skip
      all_goals
        repeat' (first | exact aa | ((conv => whnf) <;> (first | exact hmx _ rfl | refine And.intro ?_ ?_ | (intro _h; first | contradiction | (try simp only [dd] at _h)) | (refine dt_go ?_) | exact rfl | exact True.intro | exact dkk | exact dks | ((first | refine .inl ⟨_, va1, ?_⟩ | refine ⟨_, va1, ?_⟩); (try rintro _ rfl)) | ((first | refine .inl ⟨_, vb1, ?_⟩ | refine ⟨_, vb1, ?_⟩); (try rintro _ rfl)) | ((first | refine .inl ⟨_, vc1, ?_⟩ | refine ⟨_, vc1, ?_⟩); (try rintro _ rfl)) | ((first | refine .inl ⟨_, Saa, ?_⟩ | refine ⟨_, Saa, ?_⟩); (try rintro _ rfl)) | ((first | refine .inl ⟨_, Sab, ?_⟩ | refine ⟨_, Sab, ?_⟩); (try rintro _ rfl)) | ((first | refine .inl ⟨_, Sbc, ?_⟩ | refine ⟨_, Sbc, ?_⟩); (try rintro _ rfl)) | ((first | refine .inl ⟨_, Sac, ?_⟩ | refine ⟨_, Sac, ?_⟩); (try rintro _ rfl)) | ((first | refine .inl ⟨_, RT, ?_⟩ | refine ⟨_, RT, ?_⟩); (try rintro _ rfl)) | ((first | refine .inl ⟨_, RH, ?_⟩ | refine ⟨_, RH, ?_⟩); (try rintro _ rfl)) | ((first | refine .inl ⟨_, RU, ?_⟩ | refine ⟨_, RU, ?_⟩); (try rintro _ rfl)) | ((first | refine .inl ⟨_, IT, ?_⟩ | refine ⟨_, IT, ?_⟩); (try rintro _ rfl)) | ((first | refine .inl ⟨_, IH, ?_⟩ | refine ⟨_, IH, ?_⟩); (try rintro _ rfl)) | ((first | refine .inl ⟨_, IU, ?_⟩ | refine ⟨_, IU, ?_⟩); (try rintro _ rfl)) | ((first | refine .inl ⟨_, CU, ?_⟩ | refine ⟨_, CU, ?_⟩); (try rintro _ rfl)) | ((first | refine .inl ⟨_, Kab, ?_⟩ | refine ⟨_, Kab, ?_⟩); (try rintro _ rfl)) | ((first | refine .inl ⟨_, Kba, ?_⟩ | refine ⟨_, Kba, ?_⟩); (try rintro _ rfl)) | (refine wrap_succ ?_; omega))))
        all_goals (conv => whnf)
        refine .inr (.inl (.inr (.inl ⟨_, RetM.wk (.cons shr_lit3 (.cons (.refl _) .nil)) hB, ?_⟩)))
        rintro _ _ ⟨v, w, rfl, hw, rfl⟩
        refine ⟨⟨rfl, nssA⟩, _, lok_nil, ?_⟩
        cases w
        · have q := hw.2 rfl
          rw [q c (by simp)] at CU
          have qa := hIU.symm.trans (q a (by simp))
          first
            | (cases qa; done)
            | (repeat' (first | exact aa | ((conv => whnf) <;> (first | refine And.intro ?_ ?_ | (intro _h; first | contradiction | (try simp only [dd] at _h)) | (refine dt_go ?_) | exact rfl | exact True.intro | exact dkk | exact dks | ((first | refine .inl ⟨_, IU, ?_⟩ | refine ⟨_, IU, ?_⟩); (try rintro _ rfl)) | ((first | refine .inl ⟨_, CU, ?_⟩ | refine ⟨_, CU, ?_⟩); (try rintro _ rfl)) | ((first | refine .inl ⟨_, IH, ?_⟩ | refine ⟨_, IH, ?_⟩); (try rintro _ rfl)) | ((first | refine .inl ⟨_, Sab, ?_⟩ | refine ⟨_, Sab, ?_⟩); (try rintro _ rfl)) | (refine wrap_succ ?_; omega))))
               all_goals (conv => whnf)
               all_goals first
                 | exact absurd hnw ‹_›
                 | exact endM_pick [] [] (.b true) (view_of rfl .nil) rfl rfl (fun k hk => by rw [hX] at hk; exact absurd hk (Nat.not_lt_zero _)) ⟨.inl rfl, rfl⟩
                 | exact endM_pick [] [] (.kb true) (view_of rfl .nil) rfl rfl (fun k hk => by rw [hX] at hk; exact absurd hk (Nat.not_lt_zero _)) ⟨.inr rfl, rfl⟩
                 | exact endM_pick [] [] (.b (_ == _)) (view_of rfl .nil) rfl rfl (fun k hk => by rw [hX] at hk; exact absurd hk (Nat.not_lt_zero _)) ⟨.inl (congrArg AV.b (by rw [hq]; rfl)), rfl⟩
                 | (exfalso; simp at *; done)
                 | trace_state)
        · obtain ⟨hv, hvr⟩ := hw.1 rfl
          have sv : v.size ≤ 20 := by
            rcases List.mem_cons.1 hv with rfl | hv
            · exact sa
            · rcases List.mem_cons.1 hv with rfl | hv
              · exact sd
              · rw [List.mem_singleton.1 hv]; exact sc
          have IV := inR_ok v (by omega) (rU y)
          rw [hvr] at IV
          have hv4 : ¬v = a → ¬v = c → ¬v = d → False := fun h1 h2 h4 => by
            rcases List.mem_cons.1 hv with q | hv
            · exact h1 q
            · rcases List.mem_cons.1 hv with q | hv
              · exact h4 q
              · exact h2 (List.mem_singleton.1 hv)
          repeat' (first | exact aa | ((conv => whnf) <;> (first | refine And.intro ?_ ?_ | (intro _h; first | contradiction | (try simp only [dd] at _h)) | (refine dt_go ?_) | exact rfl | exact True.intro | exact dkk | exact dks | ((first | refine .inl ⟨_, IV, ?_⟩ | refine ⟨_, IV, ?_⟩); (try rintro _ rfl)) | ((first | refine .inl ⟨_, IU, ?_⟩ | refine ⟨_, IU, ?_⟩); (try rintro _ rfl)) | ((first | refine .inl ⟨_, CU, ?_⟩ | refine ⟨_, CU, ?_⟩); (try rintro _ rfl)) | ((first | refine .inl ⟨_, IH, ?_⟩ | refine ⟨_, IH, ?_⟩); (try rintro _ rfl)) | ((first | refine .inl ⟨_, Sab, ?_⟩ | refine ⟨_, Sab, ?_⟩); (try rintro _ rfl)) | (refine wrap_succ ?_; omega))))
          all_goals (conv => whnf)
          all_goals first
              | exact absurd hnw ‹_›
              | (exfalso; exact hv4 ‹_› ‹_› ‹_›)
              | exact endM_pick [] [] (.b true) (view_of rfl .nil) rfl rfl (fun k hk => by rw [hX] at hk; exact absurd hk (Nat.not_lt_zero _)) ⟨.inl rfl, rfl⟩
              | exact endM_pick [] [] (.kb true) (view_of rfl .nil) rfl rfl (fun k hk => by rw [hX] at hk; exact absurd hk (Nat.not_lt_zero _)) ⟨.inr rfl, rfl⟩
              | exact endM_pick [] [] (.b (_ == _)) (view_of rfl .nil) rfl rfl (fun k hk => by rw [hX] at hk; exact absurd hk (Nat.not_lt_zero _)) ⟨.inl (congrArg AV.b (by rw [hq]; rfl)), rfl⟩
              | (exfalso; simp at *; done)
              | trace_state
    · repeat' (first | exact aa | ((conv => whnf) <;> (first | refine And.intro ?_ ?_ | (intro _h; first | contradiction | (try simp only [dd] at _h)) | (refine dt_go ?_) | exact rfl | exact True.intro | exact dkk | exact dks | ((first | refine .inl ⟨_, va, ?_⟩ | refine ⟨_, va, ?_⟩); (try rintro _ rfl)) | ((first | refine .inl ⟨_, vb, ?_⟩ | refine ⟨_, vb, ?_⟩); (try rintro _ rfl)) | ((first | refine .inl ⟨_, vc, ?_⟩ | refine ⟨_, vc, ?_⟩); (try rintro _ rfl)) | ((first | refine .inl ⟨_, wa, ?_⟩ | refine ⟨_, wa, ?_⟩); (try rintro _ rfl)) | ((first | refine .inl ⟨_, Sab, ?_⟩ | refine ⟨_, Sab, ?_⟩); (try rintro _ rfl)) | (refine wrap_succ ?_; omega))))
      all_goals (conv => whnf)
      all_goals first
        | exact endM_pick [] [] (.kb true) (view_of rfl .nil) rfl rfl (fun k hk => by rw [hX] at hk; exact absurd hk (Nat.not_lt_zero _)) ⟨.inr rfl, rfl⟩
        | exact endM_pick [] [] (.b (!srvN a b)) (view_of rfl .nil) rfl rfl (fun k hk => by rw [hX] at hk; exact absurd hk (Nat.not_lt_zero _)) ⟨.inl (congrArg AV.b (by rw [← srv_a ‹_›]; rfl)), rfl⟩
        | (exfalso; have q : ((!(vnum a).isSome) == !(vnum a).isSome) = false := ‹_›; rw [beq_self_eq_true] at q; cases q)
        | (exfalso; exact h3 ⟨eq_true_of_ne_false ‹¬(vnum a).isSome = false›, eq_true_of_ne_false ‹¬(vnum b).isSome = false›, eq_true_of_ne_false ‹¬(vnum c).isSome = false›⟩)
        | trace_state
namespace fnVersions
theorem law_ret (dss : List (List AV)) (h : TyCs Tryd.prog Tryd.f3.params.toList dss) : Ret Tryd.prog 3 (mkArgs Tryd.prog Tryd.f3.params.toList dss) fun r => r = .b true := by
  obtain ⟨d0, r0, rfl, h0, h⟩ := h.cons_inv
  obtain ⟨d1, r1, rfl, h1, h⟩ := h.cons_inv
  obtain rfl := h.nil_inv
  obtain ⟨l, hl⟩ := arg_one (c := fun l => slL 1 byteC l) (rd_sl Tryd.underlying22 (by kernel_rfl) (rd_u8 Tryd.underlying5)) (by kernel_rfl) h0
  obtain ⟨m, hm⟩ := arg_one (c := fun l => slL 1 byteC l) (rd_sl Tryd.underlying22 (by kernel_rfl) (rd_u8 Tryd.underlying5)) (by kernel_rfl) h1
  exact Ret.wk (.cons hl (.cons hm .nil)) (versionsLaw l m).toRetP
end fnVersions
end Go.Proofs.YtcmnohbbjkdpdaaDoor
