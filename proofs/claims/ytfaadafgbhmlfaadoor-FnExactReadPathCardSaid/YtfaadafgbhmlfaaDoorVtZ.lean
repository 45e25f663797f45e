/-
  The law FnExactReadPath: its row and its tied card.
-/
import Derived.Test.YtfaadafgbhmlfaaDoorTie
import Derived.Test.YtfaadafgbhmlfaaDoorCards
import Derived.OpenShut
import Derived.LaidMore
import Derived.Lay
import Derived.SevenTiedAt
import Derived.Stop.Joined
import Derived.Test.YtfaadafgbhmlfaaDoorVt28
import Derived.Test.YtfaadafgbhmlfaaDoorVReadPathF
import Derived.Test.YtfaadafgbhmlfaaDoorVReadPathG
namespace Go.Proofs.YtfaadafgbhmlfaaDoor
open Go Go.RowKit
set_option linter.unusedVariables false
set_option linter.unusedSimpArgs false
theorem Pth.ext' {a b : Pth} (h1 : a.pkg = b.pkg) (h2 : a.name = b.name) (h3 : a.ver = b.ver) : a = b := by cases a; cases b; simp_all
theorem eqPath_ok (a : Pth) : Ret env.P 6 [.agg a.cs, .agg a.cs] (fun r => r = .b true) := by
  refine ret_of (nt := 20) (rvs := [.tmp 4]) Tryd.func6 rfl rfl rfl rfl (fun X => ?_)
  repeat' (first | omega | (with_reducible show (_ : Int) < _; dsimp only; omega) | (with_reducible show (_ : Nat) ≤ _; dsimp only; omega) | ((with_reducible show SrcOk _ _ _) <;> (first | exact srcOk_1 rfl | exact srcOk_L (fun _ => ⟨rfl, rfl⟩) | exact srcOk_E (fun _ => ⟨rfl, rfl⟩))) | ((conv => whnf) <;> (first | refine And.intro ?_ ?_ | (intro _h; first | contradiction | (try simp only [dd] at _h)) | (refine dt_go ?_) | exact rfl | exact True.intro | exact dkk | exact dks | (refine wrap_succ ?_; omega))))
  all_goals first | exact rfl | (refine leaf_b ?_; simp_all)
set_option maxRecDepth 8000 in
theorem readPathLaw (s : ByteArray) : Ret env.P 3 [.s s] (fun r => r = .b true) := by
  have hS : Ret env.P 4 [.s s] (fun r => r = .tup [.agg (rdP s).1.cs, .i .i64 (rdP s).2]) := ReadPathS_ok s
  have hI : Ret env.P 5 [.s s] (fun r => r = .tup [.agg (rdP s).1.cs, .i .i64 (rdP s).2]) := ReadPathI_ok s
  refine ret_of (nt := 29) (rvs := [.tmp 2]) Tryd.func3 rfl rfl rfl rfl (fun X => ?_)
  repeat' (first | omega | (with_reducible show (_ : Int) < _; dsimp only; omega) | (with_reducible show (_ : Nat) ≤ _; dsimp only; omega) | ((with_reducible show SrcOk _ _ _) <;> (first | exact srcOk_1 rfl | exact srcOk_L (fun _ => ⟨rfl, rfl⟩) | exact srcOk_E (fun _ => ⟨rfl, rfl⟩))) | ((conv => whnf) <;> (first | refine And.intro ?_ ?_ | (intro _h; first | contradiction | (try simp only [dd] at _h)) | (refine dt_go ?_) | exact rfl | exact True.intro | exact dkk | exact dks | ((first | refine .inl ⟨_, hS, ?_⟩ | refine ⟨_, hS, ?_⟩); (try rintro _ rfl)) | ((first | refine .inl ⟨_, hI, ?_⟩ | refine ⟨_, hI, ?_⟩); (try rintro _ rfl)) | ((first | refine .inl ⟨_, eqPath_ok (rdP s).1, ?_⟩ | refine ⟨_, eqPath_ok (rdP s).1, ?_⟩); (try rintro _ rfl)) | (refine wrap_succ ?_; omega))))
  all_goals first | exact rfl | (refine leaf_b ?_; simp_all) | trace_state
namespace fnExactReadPath
theorem law_ret (dss : List (List AV)) (h : TyCs Tryd.prog Tryd.f3.params.toList dss) : Ret Tryd.prog 3 (mkArgs Tryd.prog Tryd.f3.params.toList dss) fun r => r = .b true := by
  obtain ⟨d0, r0, rfl, h0, h⟩ := h.cons_inv
  obtain rfl := h.nil_inv
  obtain ⟨x, hx⟩ := arg_one (c := fun n => .s n) (rd_str Tryd.underlying9) (by kernel_rfl) h0
  exact Ret.wk (.cons hx .nil) (readPathLaw x)
end fnExactReadPath
end Go.Proofs.YtfaadafgbhmlfaaDoor
namespace Go.Proofs.YtfaadafgbhmlfaaDoor.fnExactReadPath
open Go.ChangeShapes Go.WideShapes Go.ChangeAt Go.RowKit
set_option linter.unusedVariables false
theorem own : ownKnob Tryd.prog.godebug = none := by kernel_rfl
set_option maxRecDepth 100000 in
theorem lifted (os : Os) (started : os.Started) (H : Type) (enc : TypeId × Go.Value → H) :
    ReturnsInHanded {} Tryd.checked os 3 .any (fun w args => (Rows.fnExactReadPathSpec.pre enc Tryd.prog Tryd.f3 Rows.fnExactReadPathRow.domain false w args ∧ laidMetH Tryd.prog Rows.fnExactReadPathRow.laid w) ∧ sizedMet enc Tryd.prog Tryd.f3 (OpenSpec.ofChange Rows.fnExactReadPathSpec) false w args) (Rows.fnExactReadPathSpec.post enc Tryd.prog Tryd.f3 false true false false) := by
  refine returns_laid_shaped (C := Tryd.checked) (X := fun w _ => laidMetH Tryd.prog Rows.fnExactReadPathRow.laid w) (fun _ _ _ hh h => h.of_heap hh) own started (by kernel_rfl) Tryd.func3
    (ChangeSpec.witness_shaped (enc := enc) (C := Tryd.checked) (os := os) (X := fun w _ => laidMetH Tryd.prog Rows.fnExactReadPathRow.laid w) false (World.laidAll Tryd.prog os Rows.fnExactReadPathRow.laid) #[.string ByteArray.empty] 8 (World.laidAll_os _ _ _)
      (World.shaped_of_ZipB (by kernel_rfl) (by kernel_rfl)) (by kernel_rfl) (by kernel_rfl) (by kernel_rfl)
      (by rw [MakeChecks.laidMetH_plain _ _ _ (by kernel_rfl)]; exact laidMet_laidAll _ (by kernel_rfl) (by kernel_rfl))) ?_
  intro W base args ds gs before hval0 hW hX hsh
  have hl : Lw W := lw_of hX hsh
  refine law_end (k := closeT Tryd.prog 9 Tryd.f3.params.toList) rfl (by kernel_rfl) (by kernel_rfl) rfl Tryd.underlying4 ?_ (fun dss h => law_ret dss h) hval0 hW ⟨fun w' h => hl.of_eq h⟩
  · rintro ds hl
    match ds, hl with
    | [_], _ => rfl
theorem over : Rows.fnExactReadPathRow.holds Tryd.pinned (OpenSpec.ofChange Rows.fnExactReadPathSpec) :=
  OpenClaim.holds_of_wide 3 Tryd.f3 rfl rfl rfl rfl rfl rfl rfl ⟨rfl, rfl, rfl, rfl, rfl⟩ rfl rfl rfl rfl rfl fact_named Tryd.func3 fact_joined fact_inst fact_wrap
    (fun os started H enc _ => lifted os started H enc)
theorem proved : Rows.FnExactReadPathCardSaid :=
  Claim7.holds_tied_plain_at .later [] [.data, .data, .data, .data, .sentinel, .sentinel, .pinned] true (true, "946e779b07be02a37111167d791a798fc4c64e9c5f69b2c9b3eae4ac0f8ff33b") true over (fun _ h => by cases h) (by kernel_rfl) (fun _ h => by cases h) fnExactReadPath_row_tie rfl ⟨rfl, rfl⟩ (by kernel_rfl) rfl
    (fun f fn hf hfn => by
      obtain rfl : f = 3 := Option.some.inj ((show Tryd.prog.funcNamed "loop.example/g00901/laws.FnExactReadPath" = some 3 by kernel_rfl).symm.trans hf) |>.symm
      obtain rfl : fn = Tryd.f3 := (Option.some.inj (Tryd.func3.symm.trans hfn)).symm
      exact ⟨by kernel_rfl, fun j t ht => by
        rw [Tryd.params3] at ht
        have hm : t ∈ [9] := by simpa using Array.mem_of_getElem? ht
        have hall : ([9].all fun u => !Tryd.prog.wantsStandIn u) = true := by kernel_rfl
        exact (show Tryd.prog.wantsStandIn t = false by simpa using List.all_eq_true.1 hall t hm)⟩)
    (by kernel_rfl)
end Go.Proofs.YtfaadafgbhmlfaaDoor.fnExactReadPath
