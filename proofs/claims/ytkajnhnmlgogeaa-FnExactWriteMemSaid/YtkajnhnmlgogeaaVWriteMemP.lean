/-
  The law FnExactWriteMem returns true at every argument.
-/
import Derived.Test.YtkajnhnmlgogeaaVMeC
import Derived.Test.YtkajnhnmlgogeaaVWriteMemF
import Derived.Test.YtkajnhnmlgogeaaVWriteMemG
namespace Go.Proofs.Ytkajnhnmlgogeaa
open Go Go.RowKit
set_option linter.unusedVariables false
set_option linter.unusedSimpArgs false

theorem blkS_le (l : List Block) : ∀ (k : Int), (markL Block.mkE l k).2 = k + 2 * l.length := by
  induction l with
  | nil => intro k; simp [markL]
  | cons a l ih => intro k; simp only [markL, ih, Block.mkE, List.length_cons]; omega
theorem mem_bound (m : Memory) (h : m.ok) : (Memory.mk_ m 1).2 ≤ 4611686018427387904 := by
  have hl := h.2.1
  simp only [Memory.mk_, blkS_le]
  omega
theorem heldMemory_mk (s : Memory) (h : s.ok) : Ret env.P 13 [.agg (Memory.mk_ s 1).1.cs, .i .i64 1] (fun r => r = .i .i64 (Memory.mk_ s 1).2) := by
  have h0 := heldMemory_ok (Memory.mk_ s 1).1 1 (by omega) (by rw [Memory.mk_idem]; exact mem_bound s h) (Memory.mk_ok s 1 h)
  rw [Memory.mk_idem] at h0
  have e : heldI (Memory.mk_ s 1).1 (Memory.mk_ s 1) = (Memory.mk_ s 1).2 := heldI_eq rfl
  rwa [e] at h0
theorem okM0 : Memory.ok ⟨ByteArray.empty, []⟩ := ⟨by unfold okS; decide, Nat.zero_le _, fun k hk => absurd hk (Nat.not_lt_zero _)⟩

theorem mk_lenM (s : Memory) : s.free.length = (Memory.mk_ s 1).1.free.length := by simp only [Memory.mk_, markL_len]
set_option maxRecDepth 8000 in
set_option maxHeartbeats 4000000 in
theorem writeMemErr (s : Memory) (x : Int) (b : ByteArray) (c : Int)
    (hS : s.ok → RetM env.P 10 [] [.agg s.cs, .i .i64 x, .s b] (fun r H => r = .tup [.agg [.s ByteArray.empty, .nils], .i .i64 c] ∧ H = []))
    (hI : s.ok → RetM env.P 11 [] [.agg s.cs, .i .i64 x, .s b] (fun r H => r = .tup [.agg [.s ByteArray.empty, .nils], .i .i64 c] ∧ H = [])) : Ret env.P 4 [.agg s.cs, .i .i64 x, .s b] (fun r => r = .b true) := by
  have b1 : Memory.sz s 1048576 ≤ 1048576 := Memory.sz_le _ _ (by omega)
  have b2 := Memory.mk_mono s 1
  refine ret_of (nt := 109) (rvs := [.tmp 6]) Try.func4 rfl rfl rfl rfl (fun X => ?_)
  repeat' (first | exact aa | ((conv => whnf) <;> (first | refine And.intro ?_ ?_ | (intro _h; first | contradiction | (try simp only [dd] at _h)) | (refine dt_go ?_) | exact rfl | exact True.intro | exact dkk | exact dks | ((first | refine .inl ⟨_, szMemory_ok _ _ (by omega) (by omega), ?_⟩ | refine ⟨_, szMemory_ok _ _ (by omega) (by omega), ?_⟩); (try rintro _ rfl)) | (refine wrap_succ ?_; omega))))
  have h1 := Memory.sz_ok _ _ (by omega) (by omega) ‹¬ Memory.sz s 1048576 < 0›
  repeat' (first | exact aa | ((conv => whnf) <;> (first | (exfalso; exact ‹¬True› trivial) | refine And.intro ?_ ?_ | (intro _h; first | contradiction | (try simp only [dd] at _h)) | (refine dt_go ?_) | exact rfl | exact True.intro | exact dkk | exact dks | (refine .inr (.inl (.inl ⟨[], _, _, _, toMemoryO_ok _ h1, viewA, ⟨rfl, rfl⟩, ?_⟩)); rintro _ _ ⟨rfl, rfl⟩; refine ⟨rfl, _, lokA, ?_⟩) | ((first | refine .inl ⟨_, toMemory_ok _ h1, ?_⟩ | refine ⟨_, toMemory_ok _ h1, ?_⟩); (try rintro _ rfl)) | (refine .inr (.inl (.inr (.inl ⟨_, RetM.wka (hS h1), ?_⟩))); rintro _ _ ⟨rfl, rfl⟩; refine ⟨⟨rfl, nssA⟩, _, lokA, ?_⟩) | (refine .inr (.inl (.inr (.inl ⟨_, RetM.wka (hI h1), ?_⟩))); rintro _ _ ⟨rfl, rfl⟩; refine ⟨⟨rfl, nssA⟩, _, lokA, ?_⟩) | ((first | refine .inl ⟨_, Ret.wka (eqMemory_ok s s h1), ?_⟩ | refine ⟨_, Ret.wka (eqMemory_ok s s h1), ?_⟩); (try rintro _ rfl)) | ((first | refine .inl ⟨_, Ret.wka (eqMemory_ok ⟨ByteArray.empty, []⟩ ⟨ByteArray.empty, []⟩ okM0), ?_⟩ | refine ⟨_, Ret.wka (eqMemory_ok ⟨ByteArray.empty, []⟩ ⟨ByteArray.empty, []⟩ okM0), ?_⟩); (try rintro _ rfl)) | (refine .inr (.inl (.inl ⟨[3], _, _, _, markMemory_ok s 1 (by omega) (mem_bound s h1) h1, viewA, ⟨rfl, rfl⟩, ?_⟩)); rintro _ _ ⟨rfl, rfl⟩; refine ⟨rfl, _, lokA, ?_⟩) | ((first | refine .inl ⟨_, markMemory_nil _, ?_⟩ | refine ⟨_, markMemory_nil _, ?_⟩); (try rintro _ rfl)) | ((first | refine .inl ⟨_, Ret.wka (heldMemory_ok ⟨ByteArray.empty, []⟩ 1 (by omega) (by simp only [Memory.mk_, markL]; omega) okM0), ?_⟩ | refine ⟨_, Ret.wka (heldMemory_ok ⟨ByteArray.empty, []⟩ 1 (by omega) (by simp only [Memory.mk_, markL]; omega) okM0), ?_⟩); (try rintro _ rfl)) | (refine wrap_succ ?_; omega))))

set_option maxRecDepth 8000 in
set_option maxHeartbeats 4000000 in
theorem writeMemFine (s s' : Memory) (x : Int) (b : ByteArray) (h' : s.ok → s'.ok)
    (hS : s.ok → RetM env.P 10 [] [.agg s.cs, .i .i64 x, .s b] (fun r H => r = .tup [.agg s'.resO, .i .i64 0] ∧ H = s'.rowsO))
    (hI : s.ok → RetM env.P 11 [] [.agg s.cs, .i .i64 x, .s b] (fun r H => r = .tup [.agg s'.resO, .i .i64 0] ∧ H = s'.rowsO)) : Ret env.P 4 [.agg s.cs, .i .i64 x, .s b] (fun r => r = .b true) := by
  have b1 : Memory.sz s 1048576 ≤ 1048576 := Memory.sz_le _ _ (by omega)
  have b2 := Memory.mk_mono s 1
  refine ret_of (nt := 109) (rvs := [.tmp 6]) Try.func4 rfl rfl rfl rfl (fun X => ?_)
  repeat' (first | exact aa | ((conv => whnf) <;> (first | refine And.intro ?_ ?_ | (intro _h; first | contradiction | (try simp only [dd] at _h)) | (refine dt_go ?_) | exact rfl | exact True.intro | exact dkk | exact dks | ((first | refine .inl ⟨_, szMemory_ok _ _ (by omega) (by omega), ?_⟩ | refine ⟨_, szMemory_ok _ _ (by omega) (by omega), ?_⟩); (try rintro _ rfl)) | (refine wrap_succ ?_; omega))))
  have h1 := Memory.sz_ok _ _ (by omega) (by omega) ‹¬ Memory.sz s 1048576 < 0›
  have h2 := h' h1
  have b3 := Memory.mk_mono s' 1
  repeat' (first | exact aa | ((conv => whnf) <;> (first | (exfalso; exact ‹¬True› trivial) | ((first | refine .inl ⟨_, Ret.wk (by ((repeat (first | exact WkL.nil | exact shr_L (d := 0) (k := 4) (mk_lenM s') | refine WkL.cons ?_ ?_ | exact Wk.refl _ | exact Wk.rfc rfl | refine Wk.fn ?_ | exact Wk.nilS0 | exact shr_L (d := 0) (k := 4) rfl | exact shr_L (d := 1) (k := 3) rfl | exact shr_L (d := 2) (k := 2) rfl | exact shr_L (d := 0) (k := 4) (by simp only [markL_len]) | exact shr_L (d := 1) (k := 3) (by simp only [markL_len]) | refine Wk.agg ?_ | exact shr_L (d := 0) (k := 3) rfl | exact shr_L (d := 1) (k := 2) rfl | exact shr_ow (d := 1) (k := 2) | exact shr_ow (d := 0) (k := 3) | refine Wk.rfLo ?_)); first | done | fail)) (heldMemory_mk s' h2), ?_⟩ | refine ⟨_, Ret.wk (by ((repeat (first | exact WkL.nil | exact shr_L (d := 0) (k := 4) (mk_lenM s') | refine WkL.cons ?_ ?_ | exact Wk.refl _ | exact Wk.rfc rfl | refine Wk.fn ?_ | exact Wk.nilS0 | exact shr_L (d := 0) (k := 4) rfl | exact shr_L (d := 1) (k := 3) rfl | exact shr_L (d := 2) (k := 2) rfl | exact shr_L (d := 0) (k := 4) (by simp only [markL_len]) | exact shr_L (d := 1) (k := 3) (by simp only [markL_len]) | refine Wk.agg ?_ | exact shr_L (d := 0) (k := 3) rfl | exact shr_L (d := 1) (k := 2) rfl | exact shr_ow (d := 1) (k := 2) | exact shr_ow (d := 0) (k := 3) | refine Wk.rfLo ?_)); first | done | fail)) (heldMemory_mk s' h2), ?_⟩); (try rintro _ rfl)) | refine And.intro ?_ ?_ | (intro _h; first | contradiction | (try simp only [dd] at _h)) | (refine dt_go ?_) | exact rfl | exact True.intro | exact dkk | exact dks | (refine .inr (.inl (.inl ⟨[], _, _, _, toMemoryO_ok _ h1, viewA, ⟨rfl, rfl⟩, ?_⟩)); rintro _ _ ⟨rfl, rfl⟩; refine ⟨rfl, _, lokA, ?_⟩) | ((first | refine .inl ⟨_, toMemory_ok _ h1, ?_⟩ | refine ⟨_, toMemory_ok _ h1, ?_⟩); (try rintro _ rfl)) | (refine .inr (.inl (.inr (.inl ⟨_, RetM.wka (hS h1), ?_⟩))); rintro _ _ ⟨rfl, rfl⟩; refine ⟨⟨rfl, nssA⟩, _, lokA, ?_⟩) | (refine .inr (.inl (.inr (.inl ⟨_, RetM.wka (hI h1), ?_⟩))); rintro _ _ ⟨rfl, rfl⟩; refine ⟨⟨rfl, nssA⟩, _, lokA, ?_⟩) | ((first | refine .inl ⟨_, Ret.wka (eqMemory_ok s s h1), ?_⟩ | refine ⟨_, Ret.wka (eqMemory_ok s s h1), ?_⟩); (try rintro _ rfl)) | ((first | refine .inl ⟨_, Ret.wka (eqMemory_ok s' s' h2), ?_⟩ | refine ⟨_, Ret.wka (eqMemory_ok s' s' h2), ?_⟩); (try rintro _ rfl)) | (refine .inr (.inl (.inl ⟨[4], _, _, _, markMemory_ok s 1 (by omega) (mem_bound s h1) h1, viewA, ⟨rfl, rfl⟩, ?_⟩)); rintro _ _ ⟨rfl, rfl⟩; refine ⟨rfl, _, lokA, ?_⟩) | (refine .inr (.inl (.inl ⟨[6], _, _, _, markMemory_ok s' 1 (by omega) (mem_bound s' h2) h2, viewA, ⟨rfl, rfl⟩, ?_⟩)); rintro _ _ ⟨rfl, rfl⟩; refine ⟨rfl, _, lokA, ?_⟩) | (refine wrap_succ ?_; omega))))

theorem writeMemLaw (s : Memory) (x : Int) (b : ByteArray) : Ret env.P 4 [.agg s.cs, .i .i64 x, .s b] (fun r => r = .b true) := by
  by_cases hh : s.wrS x b
  · exact writeMemFine s (s.wr x b) x b (fun h => Memory.wr_ok h hh.2) (fun h => writeMem_spec_yes s x b h hh) (fun h => writeMem_impl_yes s x b h hh)
  · exact writeMemErr s x b (s.wrC x b) (fun h => writeMem_spec_no s x b h hh) (fun h => writeMem_impl_no s x b h hh)

theorem rd_Block : Rd Try.prog 53 Block Block.cs :=
  rd_st Try.underlying53 (by kernel_rfl) rfl (rdF_cons (rd_int Try.underlying2) (rdF_cons (rd_int Try.underlying2) rdF_nil)) (fun p => ⟨p.1, p.2.1⟩) fun _ => rfl
theorem rd_Memory : Rd Try.prog 24 Memory Memory.cs :=
  rd_st Try.underlying24 (by kernel_rfl) rfl (rdF_cons (rd_str Try.underlying9) (rdF_cons (rd_sl Try.underlying22 (by kernel_rfl) rd_Block) rdF_nil)) (fun p => ⟨p.1, p.2.1⟩) fun _ => rfl

namespace fnExactWriteMem
theorem law_ret (dss : List (List AV)) (h : TyCs Try.prog Try.f4.params.toList dss) : Ret Try.prog 4 (mkArgs Try.prog Try.f4.params.toList dss) fun r => r = .b true := by
  obtain ⟨d0, r0, rfl, h0, h⟩ := h.cons_inv
  obtain ⟨d1, r1, rfl, h1, h⟩ := h.cons_inv
  obtain ⟨d2, r2, rfl, h2, h⟩ := h.cons_inv
  obtain rfl := h.nil_inv
  obtain ⟨a, ha⟩ := arg_agg rd_Memory (by kernel_rfl) h0
  obtain ⟨x, hx⟩ := arg_one (c := fun n => .i .i64 n) (rd_int Try.underlying2) (by kernel_rfl) h1
  obtain ⟨y, hy⟩ := arg_one (c := fun n => .s n) (rd_str Try.underlying9) (by kernel_rfl) h2
  exact Ret.wk (.cons ha (.cons hx (.cons hy .nil))) (writeMemLaw a x y)
end fnExactWriteMem
end Go.Proofs.Ytkajnhnmlgogeaa
namespace Go.Proofs.Ytkajnhnmlgogeaa.fnExactWriteMem
open Go.ChangeShapes Go.WideShapes Go.ChangeAt Go.RowKit
set_option linter.unusedVariables false

theorem own : ownKnob Try.prog.godebug = none := by kernel_rfl

set_option maxRecDepth 100000 in
theorem lifted (os : Os) (started : os.Started) (H : Type) (enc : TypeId × Value → H) :
    ReturnsInHanded {} Try.checked os 4 .any (Rows.fnExactWriteMemSpec.pre6 enc Try.prog Try.f4 Rows.fnExactWriteMemRow.domain false) (Rows.fnExactWriteMemSpec.post enc Try.prog Try.f4 false true false false) := by
  refine returnsInHanded_of_change (C := Try.checked) own started (by kernel_rfl) Try.func4
    (ChangeSpec.witness6 (enc := enc) (C := Try.checked) false ⟨#[], #[.agg #[.string ByteArray.empty, .slice none 0 0], .int .i64 0, .string ByteArray.empty], []⟩ 8 (by kernel_rfl) (by kernel_rfl) (by kernel_rfl) (by kernel_rfl)) ?_
  intro W base args ds gs before hval0 hW hcnd _
  refine law_end (k := 9) rfl (by kernel_rfl) (by kernel_rfl) rfl Try.underlying4 ?_ (fun dss h => law_ret dss h) hval0 hW
  · rintro ds hl
    match ds, hl with
    | [_, _, _], _ => rfl

theorem over : Rows.fnExactWriteMemRow.holds Try.pinned (OpenSpec.ofChange Rows.fnExactWriteMemSpec) :=
  OpenClaim.holds_of_wide 4 Try.f4 rfl rfl rfl rfl rfl rfl rfl ⟨rfl, rfl, rfl, rfl, rfl⟩ rfl rfl rfl rfl rfl fact_named Try.func4 fact_joined fact_inst fact_wrap
    (fun os started H enc _ => lifted os started H enc)

theorem proved : Rows.FnExactWriteMemSaid :=
  over
end Go.Proofs.Ytkajnhnmlgogeaa.fnExactWriteMem
