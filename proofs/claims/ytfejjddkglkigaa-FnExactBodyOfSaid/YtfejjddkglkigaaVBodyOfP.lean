/-
  The law FnExactBodyOf returns true at every argument.
-/
import Derived.Test.YtfejjddkglkigaaVInG
import Derived.Test.YtfejjddkglkigaaVBodyOfF
import Derived.Test.YtfejjddkglkigaaVBodyOfG
namespace Go.Proofs.Ytfejjddkglkigaa
open Go Go.RowKit
set_option linter.unusedVariables false
set_option linter.unusedSimpArgs false

theorem body_len {b : ByteArray} {l : List Ins} (h : bodyV b = some l) : l.length ≤ 120 := by
  have hw : ∀ (n : Nat) (p : Int) (l0 l : List Ins) (q : Int), bodyW b n p l0 = some (l, q) → l.length = l0.length + n := fun n => by
    induction n with
    | zero =>
      intro p l0 l q h
      unfold bodyW at h
      cases h
      rfl
    | succ n ih =>
      intro p l0 l q h
      unfold bodyW at h
      split at h
      · rw [ih _ _ _ _ h, List.length_append, List.length_singleton]
        omega
      · cases h
  unfold bodyV at h
  split at h
  · rename_i hc
    split at h
    · rename_i l2 p he
      have := hw _ _ _ _ _ he
      split at h
      · cases h
        simp only [List.length_nil] at this
        omega
      · cases h
    · cases h
  · cases h
theorem ins_bound : ∀ (l : List Ins) (k : Int), (markL Ins.mkE l k).2 = k + 2 * l.length
  | [], k => by simp [markL]
  | a :: l, k => by
    show (markL Ins.mkE l (Ins.mkE a k).2).2 = _
    rw [ins_bound l, List.length_cons]
    simp only [Ins.mkE]
    omega
theorem heldInsS_mk (l : List Ins) (k : Int) (h0 : 0 ≤ k) (hk : (markL Ins.mkE l k).2 ≤ 4611686018427387904) (hl : l.length ≤ 1048576) : Ret env.P 8 [slL 2 Ins.cs (markL Ins.mkE l k).1, .i .i64 k] (fun r => r = .i .i64 (markL Ins.mkE l k).2) := by
  have h1 := heldInsS_ok (markL Ins.mkE l k).1 k h0 (by rw [markL_idem Ins.mkE_idem]; exact hk) (by rw [markL_len]; exact hl)
  rw [markL_idem Ins.mkE_idem] at h1
  have e : heldI (markL Ins.mkE l k).1 (markL Ins.mkE l k) = (markL Ins.mkE l k).2 := heldI_eq rfl
  rwa [e] at h1
set_option maxRecDepth 8000 in
set_option maxHeartbeats 4000000 in
theorem bodyNone (b : ByteArray)
    (hS : b.size ≤ 1048576 → RetM env.P 4 [] [.s b] (fun r H => r = .tup [.nils, .kb false] ∧ H = []))
    (hI : b.size ≤ 1048576 → RetM env.P 5 [] [.s b] (fun r H => r = .tup [.nils, .kb false] ∧ H = [])) : Ret env.P 3 [.s b] (fun r => r = .b true) := by
  refine ret_of (nt := 66) (rvs := [.tmp 2]) Try.func3 rfl rfl rfl rfl (fun X => ?_)
  repeat' (first | exact aa | ((conv => whnf) <;> (first | (exfalso; exact ‹¬True› trivial) | refine And.intro ?_ ?_ | (intro _h; first | contradiction | (try simp only [dd] at _h)) | (refine dt_go ?_) | exact rfl | exact True.intro | exact dkk | exact dks | (refine .inr (.inl (.inr (.inl ⟨_, RetM.wka (hS (by omega)), ?_⟩))); rintro _ _ ⟨rfl, rfl⟩; refine ⟨⟨rfl, nssA⟩, _, lokA, ?_⟩) | (refine .inr (.inl (.inr (.inl ⟨_, RetM.wka (hI (by omega)), ?_⟩))); rintro _ _ ⟨rfl, rfl⟩; refine ⟨⟨rfl, nssA⟩, _, lokA, ?_⟩) | ((first | refine .inl ⟨_, Ret.wka (eqInsS_ok [] [] ⟨Nat.zero_le _, fun k hk => absurd hk (Nat.not_lt_zero _)⟩), ?_⟩ | refine ⟨_, Ret.wka (eqInsS_ok [] [] ⟨Nat.zero_le _, fun k hk => absurd hk (Nat.not_lt_zero _)⟩), ?_⟩); (try rintro _ rfl)) | ((first | refine .inl ⟨_, markInsS_nil _, ?_⟩ | refine ⟨_, markInsS_nil _, ?_⟩); (try rintro _ rfl)) | ((first | refine .inl ⟨_, Ret.wka (heldInsS_ok [] 1 (by omega) (by simp only [markL]; omega) (Nat.zero_le _)), ?_⟩ | refine ⟨_, Ret.wka (heldInsS_ok [] 1 (by omega) (by simp only [markL]; omega) (Nat.zero_le _)), ?_⟩); (try rintro _ rfl)) | (refine wrap_succ ?_; omega))))
set_option maxRecDepth 8000 in
set_option maxHeartbeats 4000000 in
theorem bodySome (b : ByteArray) (l : List Ins) (hl : l.length ≤ 120)
    (hS : b.size ≤ 1048576 → RetM env.P 4 [] [.s b] (fun r H => r = .tup [.row 0 l.length, .kb true] ∧ H = [some (rowL 2 Ins.cs l)]))
    (hI : b.size ≤ 1048576 → RetM env.P 5 [] [.s b] (fun r H => r = .tup [.row 0 l.length, .kb true] ∧ H = [some (rowL 2 Ins.cs l)])) : Ret env.P 3 [.s b] (fun r => r = .b true) := by
  have hO : okL Ins.ok l := ⟨by omega, fun _ _ => trivial⟩
  have hk : (markL Ins.mkE l 1).2 ≤ 4611686018427387904 := by rw [ins_bound]; omega
  have hk0 : 0 ≤ (markL Ins.mkE l 1).2 := by rw [ins_bound]; omega
  have hM := heldInsS_mk l 1 (by omega) hk (by omega)
  refine ret_of (nt := 66) (rvs := [.tmp 2]) Try.func3 rfl rfl rfl rfl (fun X => ?_)
  repeat' (first | exact aa | ((conv => whnf) <;> (first | (exfalso; exact ‹¬True› trivial) | refine And.intro ?_ ?_ | (intro _h; first | contradiction | (try simp only [dd] at _h)) | (refine dt_go ?_) | exact rfl | exact True.intro | exact dkk | exact dks | (refine .inr (.inl (.inr (.inl ⟨_, RetM.wka (hS (by omega)), ?_⟩))); rintro _ _ ⟨rfl, rfl⟩; refine ⟨⟨rfl, nssA⟩, _, lokA, ?_⟩) | (refine .inr (.inl (.inr (.inl ⟨_, RetM.wka (hI (by omega)), ?_⟩))); rintro _ _ ⟨rfl, rfl⟩; refine ⟨⟨rfl, nssA⟩, _, lokA, ?_⟩) | ((first | refine .inl ⟨_, Ret.wka (eqInsS_ok l l hO), ?_⟩ | refine ⟨_, Ret.wka (eqInsS_ok l l hO), ?_⟩); (try rintro _ rfl)) | (refine .inr (.inl (.inl ⟨[1], _, _, _, markInsS_ok l 1 (by omega) hk (by omega), viewA, ⟨rfl, rfl⟩, ?_⟩)); rintro _ _ ⟨rfl, rfl⟩; refine ⟨rfl, _, lokA, ?_⟩) | ((first | refine .inl ⟨_, Ret.wka (hM), ?_⟩ | refine ⟨_, Ret.wka (hM), ?_⟩); (try rintro _ rfl)) | (refine wrap_succ ?_; omega))))
theorem bodyLaw (b : ByteArray) : Ret env.P 3 [.s b] (fun r => r = .b true) := by
  cases h : bodyV b with
  | none => exact bodyNone b (fun hs => (by have := bodyOf_spec b hs; rw [h] at this; exact this)) (fun hs => (by have := bodyOf_impl b hs; rw [h] at this; exact this))
  | some l => exact bodySome b l (body_len h) (fun hs => (by have := bodyOf_spec b hs; rw [h] at this; exact this)) (fun hs => (by have := bodyOf_impl b hs; rw [h] at this; exact this))

namespace fnExactBodyOf
theorem law_ret (dss : List (List AV)) (h : TyCs Try.prog Try.f3.params.toList dss) : Ret Try.prog 3 (mkArgs Try.prog Try.f3.params.toList dss) fun r => r = .b true := by
  obtain ⟨d0, r0, rfl, h0, h⟩ := h.cons_inv
  obtain rfl := h.nil_inv
  obtain ⟨b, hb⟩ := arg_one (c := fun b => .s b) (rd_str Try.underlying9) (by kernel_rfl) h0
  exact Ret.wk (.cons hb .nil) (bodyLaw b)
end fnExactBodyOf
end Go.Proofs.Ytfejjddkglkigaa
namespace Go.Proofs.Ytfejjddkglkigaa.fnExactBodyOf
open Go.ChangeShapes Go.WideShapes Go.ChangeAt Go.RowKit
set_option linter.unusedVariables false

theorem own : ownKnob Try.prog.godebug = none := by kernel_rfl

set_option maxRecDepth 100000 in
theorem lifted (os : Os) (started : os.Started) (H : Type) (enc : TypeId × Go.Value → H) :
    ReturnsInHanded {} Try.checked os 3 .any (Rows.fnExactBodyOfSpec.pre6 enc Try.prog Try.f3 Rows.fnExactBodyOfRow.domain false) (Rows.fnExactBodyOfSpec.post enc Try.prog Try.f3 false true false false) := by
  refine returnsInHanded_of_change (C := Try.checked) own started (by kernel_rfl) Try.func3
    (ChangeSpec.witness6 (enc := enc) (C := Try.checked) false ⟨#[], #[.string ByteArray.empty], []⟩ 8 (by kernel_rfl) (by kernel_rfl) (by kernel_rfl) (by kernel_rfl)) ?_
  intro W base args ds gs before hval0 hW hcnd _
  refine law_end (k := closeT Try.prog 9 Try.f3.params.toList) rfl (by kernel_rfl) (by kernel_rfl) rfl Try.underlying4 ?_ (fun dss h => law_ret dss h) hval0 hW
  · rintro ds hl
    match ds, hl with
    | [_], _ => rfl

theorem over : Rows.fnExactBodyOfRow.holds Try.pinned (OpenSpec.ofChange Rows.fnExactBodyOfSpec) :=
  OpenClaim.holds_of_wide 3 Try.f3 rfl rfl rfl rfl rfl rfl rfl ⟨rfl, rfl, rfl, rfl, rfl⟩ rfl rfl rfl rfl rfl fact_named Try.func3 fact_joined fact_inst fact_wrap
    (fun os started H enc _ => lifted os started H enc)

theorem proved : Rows.FnExactBodyOfSaid :=
  over
end Go.Proofs.Ytfejjddkglkigaa.fnExactBodyOf
