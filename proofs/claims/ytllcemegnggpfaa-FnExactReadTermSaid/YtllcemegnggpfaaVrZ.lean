/-
  The law FnExactReadTerm returns true at every argument.
-/
import Derived.Test.YtllcemegnggpfaaVr40
import Derived.Test.YtllcemegnggpfaaVReadTermF
import Derived.Test.YtllcemegnggpfaaVReadTermG
namespace Go.Proofs.Ytllcemegnggpfaa
open Go Go.RowKit
set_option linter.unusedVariables false
set_option linter.unusedSimpArgs false
theorem heldTermO (n : Nat) (a : Term) (k : Int) (h0 : 0 ≤ k) (hk : (Term.mk_ n a k).2 ≤ 4611686018427387904) (h : Term.oN (n + 1) a) : Ret env.P 11 [.agg (Term.pN (n + 1) (Term.mk_ n a k).1), .i .i64 k] (fun r => r = .i .i64 (Term.mk_ n a k).2) := by
  have := heldTerm_m n (Term.mk_ n a k).1 k h0 (by rw [Term.mk_idem]; exact hk) (Term.mk_ok n a k h)
  rw [Term.mk_idem] at this
  simpa [heldI] using this
set_option maxRecDepth 8000 in
set_option maxHeartbeats 4000000 in
theorem readTermM (s : ByteArray) (hn : s.size ≤ 1048576) : RetM env.P 3 [] [.s s] (fun r H => (r = .b true ∨ r = .kb true) ∧ H = []) := by
  have h := (rdT_ok s).1
  have hm := (rdT_ok s).2.1
  have hf := Term.oN_fN _ _ h
  have hk1 : (Term.mk_ 4 (rdT s).1 1).2 ≤ 1 + (Term.mw 5 (rdT s).1 : Int) := Term.mk_mw 4 (rdT s).1 1
  have hk : (Term.mk_ 4 (rdT s).1 1).2 ≤ 4611686018427387904 := by omega
  have hm0 := Term.mk_mono 4 (rdT s).1 1
  have hS : Ret env.P 7 [.s s] (fun r => r = .tup [.agg (Term.pN 5 (rdT s).1), .i .i64 (rdT s).2]) := ReadTermS_ok s
  refine ret_ofPM (nt := 66) (rvs := [.tmp 2]) Try.func3 rfl rfl rfl rfl (fun X hX => ?_)
  refine pw_cut 3 (fun _ : Unit => True) (fun _ => [(0, .s s), (3, .ptr 0 0 0), (4, .i .i64 (rdT s).2)]) (fun _ => [some (boxRow (Term.pN 5 (rdT s).1))]) ?_ (fun _ _ => ?_)
  · repeat' (first | omega | (with_reducible show (_ : Int) < _; dsimp only; omega) | (with_reducible show (_ : Nat) ≤ _; dsimp only; omega) | ((with_reducible show SrcOk _ _ _) <;> (first | exact srcOk_1 rfl | exact srcOk_L (fun _ => ⟨rfl, rfl⟩) | exact srcOk_E (fun _ => ⟨rfl, rfl⟩))) | ((conv => whnf) <;> (first | refine And.intro ?_ ?_ | (intro _h; first | contradiction | (try simp only [dd] at _h)) | (refine dt_go ?_) | exact rfl | exact True.intro | exact dkk | exact dks | ((first | refine .inl ⟨_, hS, ?_⟩ | refine ⟨_, hS, ?_⟩); (try rintro _ rfl)) | (refine wrap_succ ?_; omega))))
    all_goals first | (exfalso; omega) | skip
    conv => whnf
    refine cut_turn (turn_box (id := 0) (ds := Term.pN 5 (rdT s).1) rfl rfl rfl (by repeat' (first | exact OwEqL.nil | refine OwEqL.cons (OwEq.refl _) ?_))) ?_
    exact cut_go () trivial (by repeat' (first | exact trivial | refine And.intro rfl ?_)) (by repeat' (first | exact trivial | refine And.intro (.inl rfl) ?_ | refine And.intro (.inr rfl) ?_ | refine And.intro rfl ?_))
  refine wpc_ok _ _ _ _ ?_
  (try dsimp only)
  conv => whnf
  repeat' (first | omega | (with_reducible show (_ : Int) < _; dsimp only; omega) | (with_reducible show (_ : Nat) ≤ _; dsimp only; omega) | ((with_reducible show SrcOk _ _ _) <;> (first | exact srcOk_1 rfl | exact srcOk_L (fun _ => ⟨rfl, rfl⟩) | exact srcOk_E (fun _ => ⟨rfl, rfl⟩))) | ((conv => whnf) <;> (first | (refine .inr (.inl (.inl ⟨[], _, _, _, ReadTermI_ok s, viewT, ⟨rfl, rfl⟩, ?_⟩)); rintro _ _ ⟨rfl, rfl⟩; refine ⟨rfl, _, lokT, ?_⟩) | ((first | refine .inl ⟨_, Ret.wk (by exact .cons (.agg (.cons (.refl _) (.cons (.refl _) (.cons (shr_L (d := 0) (k := 4) (by first | rfl | simp only [Term.mk_, markL_len])) (.cons (shr_L (d := 0) (k := 4) (by first | rfl | simp only [Term.mk_, markL_len])) .nil))))) (.cons (.agg (.cons (.refl _) (.cons (.refl _) (.cons (.refl _) (.cons (.refl _) .nil))))) .nil)) (eqTerm_m 4 (rdT s).1 h 4 (rdT s).1 hf), ?_⟩ | refine ⟨_, Ret.wk (by exact .cons (.agg (.cons (.refl _) (.cons (.refl _) (.cons (shr_L (d := 0) (k := 4) (by first | rfl | simp only [Term.mk_, markL_len])) (.cons (shr_L (d := 0) (k := 4) (by first | rfl | simp only [Term.mk_, markL_len])) .nil))))) (.cons (.agg (.cons (.refl _) (.cons (.refl _) (.cons (.refl _) (.cons (.refl _) .nil))))) .nil)) (eqTerm_m 4 (rdT s).1 h 4 (rdT s).1 hf), ?_⟩); (try rintro _ rfl)) | (refine .inr (.inl (.inl ⟨[1, 2], _, _, _, markTerm_m 4 (rdT s).1 1 (by omega) hk h, viewT, ⟨rfl, rfl⟩, ?_⟩)); rintro _ _ ⟨rfl, rfl⟩; refine ⟨rfl, _, lokT, ?_⟩) | ((first | refine .inl ⟨_, Ret.wk (by exact .cons (.agg (.cons (.refl _) (.cons (.refl _) (.cons (shr_L (d := 0) (k := 4) (by first | rfl | simp only [Term.mk_, markL_len])) (.cons (shr_L (d := 0) (k := 4) (by first | rfl | simp only [Term.mk_, markL_len])) .nil))))) (.cons (.refl _) .nil)) (heldTermO 4 (rdT s).1 1 (by omega) hk h), ?_⟩ | refine ⟨_, Ret.wk (by exact .cons (.agg (.cons (.refl _) (.cons (.refl _) (.cons (shr_L (d := 0) (k := 4) (by first | rfl | simp only [Term.mk_, markL_len])) (.cons (shr_L (d := 0) (k := 4) (by first | rfl | simp only [Term.mk_, markL_len])) .nil))))) (.cons (.refl _) .nil)) (heldTermO 4 (rdT s).1 1 (by omega) hk h), ?_⟩); (try rintro _ rfl)) | refine And.intro ?_ ?_ | (intro _h; first | contradiction | (try simp only [dd] at _h)) | (refine dt_go ?_) | exact rfl | exact True.intro | exact dkk | exact dks | (refine wrap_succ ?_; omega))))
  all_goals (first | exact absurd trivial _h | (conv => whnf); first | exact endM_pick [] [] (.kb true) view_none rfl rfl (fun k hk => by rw [hX] at hk; exact absurd hk (Nat.not_lt_zero _)) ⟨.inr rfl, rfl⟩ | exact endM_pick [] [] (.b true) view_none rfl rfl (fun k hk => by rw [hX] at hk; exact absurd hk (Nat.not_lt_zero _)) ⟨.inl rfl, rfl⟩ | (exfalso; omega) | trace_state)
set_option maxRecDepth 8000 in
theorem readTermLaw (s : ByteArray) : Ret env.P 3 [.s s] (fun r => r = .b true) := by
  by_cases hn : s.size ≤ 1048576
  · exact (readTermM s hn).toRetP
  · refine ret_of (nt := 66) (rvs := [.tmp 2]) Try.func3 rfl rfl rfl rfl (fun X => ?_)
    repeat' (first | omega | (with_reducible show (_ : Int) < _; dsimp only; omega) | (with_reducible show (_ : Nat) ≤ _; dsimp only; omega) | ((with_reducible show SrcOk _ _ _) <;> (first | exact srcOk_1 rfl | exact srcOk_L (fun _ => ⟨rfl, rfl⟩) | exact srcOk_E (fun _ => ⟨rfl, rfl⟩))) | ((conv => whnf) <;> (first | refine And.intro ?_ ?_ | (intro _h; first | contradiction | (try simp only [dd] at _h)) | (refine dt_go ?_) | exact rfl | exact True.intro | exact dkk | exact dks | (refine wrap_succ ?_; omega))))
    all_goals first | exact rfl | (exfalso; omega)
namespace fnExactReadTerm
theorem law_ret (dss : List (List AV)) (h : TyCs Try.prog Try.f3.params.toList dss) : Ret Try.prog 3 (mkArgs Try.prog Try.f3.params.toList dss) fun r => r = .b true := by
  obtain ⟨d0, r0, rfl, h0, h⟩ := h.cons_inv
  obtain rfl := h.nil_inv
  obtain ⟨x, hx⟩ := arg_one (c := fun n => .s n) (rd_str Try.underlying9) (by kernel_rfl) h0
  exact Ret.wk (.cons hx .nil) (readTermLaw x)
end fnExactReadTerm
end Go.Proofs.Ytllcemegnggpfaa
namespace Go.Proofs.Ytllcemegnggpfaa.fnExactReadTerm
open Go.ChangeShapes Go.WideShapes Go.ChangeAt Go.RowKit
set_option linter.unusedVariables false
theorem own : ownKnob Try.prog.godebug = none := by kernel_rfl
set_option maxRecDepth 100000 in
theorem lifted (os : Os) (started : os.Started) (H : Type) (enc : TypeId × Go.Value → H) :
    ReturnsInHanded {} Try.checked os 3 .any (Rows.fnExactReadTermSpec.pre6 enc Try.prog Try.f3 Rows.fnExactReadTermRow.domain false) (Rows.fnExactReadTermSpec.post enc Try.prog Try.f3 false true false false) := by
  refine returnsInHanded_of_change (C := Try.checked) own started (by kernel_rfl) Try.func3
    (ChangeSpec.witness6 (enc := enc) (C := Try.checked) false ⟨#[], #[.string ByteArray.empty], []⟩ 8 (by kernel_rfl) (by kernel_rfl) (by kernel_rfl) (by kernel_rfl)) ?_
  intro W base args ds gs before hval0 hW hcnd _
  refine law_end (k := closeT Try.prog 9 Try.f3.params.toList) rfl (by kernel_rfl) (by kernel_rfl) rfl Try.underlying4 ?_ (fun dss h => law_ret dss h) hval0 hW ⟨fun _ _ => trivial⟩
  · rintro ds hl
    match ds, hl with
    | [_], _ => rfl
theorem over : Rows.fnExactReadTermRow.holds Try.pinned (OpenSpec.ofChange Rows.fnExactReadTermSpec) :=
  OpenClaim.holds_of_wide 3 Try.f3 rfl rfl rfl rfl rfl rfl rfl ⟨rfl, rfl, rfl, rfl, rfl⟩ rfl rfl rfl rfl rfl fact_named Try.func3 fact_joined fact_inst fact_wrap
    (fun os started H enc _ => lifted os started H enc)
theorem proved : Rows.FnExactReadTermSaid :=
  over
end Go.Proofs.Ytllcemegnggpfaa.fnExactReadTerm
