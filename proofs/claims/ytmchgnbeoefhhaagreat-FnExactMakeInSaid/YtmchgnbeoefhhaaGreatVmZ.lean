/-
  The law FnExactMakeIn returns true at every argument.
-/
import Derived.Test.YtmchgnbeoefhhaaGreatVm32
import Derived.Test.YtmchgnbeoefhhaaGreatVm33
import Derived.Test.YtmchgnbeoefhhaaGreatVMakeInF
import Derived.Test.YtmchgnbeoefhhaaGreatVMakeInG
namespace Go.Proofs.YtmchgnbeoefhhaaGreat
open Go Go.RowKit
set_option linter.unusedVariables false
set_option linter.unusedSimpArgs false
theorem int_bound (a : Int) (k : Int) : (Int64.mkE a k).2 ≤ k + (1 : Nat) := by simp only [Int64.mkE]; omega
theorem call_bound (a : Call) (h : a.ok) (k : Int) : (Call.mkE a k).2 ≤ k + (1048579 : Nat) := by
 have h1 := markL_bound (f := Int64.mkE) (B := 1) a.args (fun b _ => int_bound b) (((k + 1) + 1) + 1)
 have h2 : a.args.length ≤ 1048576 := h.1
 simp only [Call.mkE]
 omega
theorem yard_bound (y : Yard) (h : y.ok) : (Yard.mk_ y 1).2 ≤ 4611686018427387904 := by
 have h1 := markL_bound (f := Table.mkE) (B := 7340033) y.shelf.tables (fun b hb => table_bound b (okL_mem h.1.1 hb)) 1
 have h2 := markL_bound (f := Thing.mkE) (B := 3) y.shelf.things (fun b _ => thing_bound b) (markL Table.mkE y.shelf.tables 1).2
 have h3 := markL_bound (f := Call.mkE) (B := 1048579) y.stack (fun b hb => call_bound b (okL_mem h.2.1 hb)) (markL Thing.mkE y.shelf.things (markL Table.mkE y.shelf.tables 1).2).2
 have h4 := markL_bound (f := Int64.mkE) (B := 1) y.dead (fun b _ => int_bound b) (markL Call.mkE y.stack (markL Thing.mkE y.shelf.things (markL Table.mkE y.shelf.tables 1).2).2).2
 have h5 : y.shelf.tables.length ≤ 1048576 := h.1.1.1
 have h6 : y.shelf.things.length ≤ 1048576 := h.1.2.1
 have h7 : y.stack.length ≤ 1048576 := h.2.1.1
 have h8 : y.dead.length ≤ 1048576 := h.2.2.1
 simp only [Yard.mk_]
 omega
theorem heldYard_mk (y : Yard) (h : y.ok) : Ret env.P 11 [.agg (Yard.mk_ y 1).1.cs, .i .i64 1] (fun r => r = .i .i64 (Yard.mk_ y 1).2) := by
 have h0 := heldYard_ok (Yard.mk_ y 1).1 1 (by omega) (by rw [Yard.mk_idem]; exact yard_bound y h) (Yard.mk_ok y 1 h)
 rw [Yard.mk_idem] at h0
 have e : heldI (Yard.mk_ y 1).1 (Yard.mk_ y 1) = (Yard.mk_ y 1).2 := heldI_eq rfl
 rwa [e] at h0
theorem yk_len1 (y : Yard) : y.shelf.tables.length = (Yard.mk_ y 1).1.shelf.tables.length := by simp only [Yard.mk_, markL_len]
theorem yk_len2 (y : Yard) : y.shelf.things.length = (Yard.mk_ y 1).1.shelf.things.length := by simp only [Yard.mk_, markL_len]
theorem yk_len3 (y : Yard) : y.stack.length = (Yard.mk_ y 1).1.stack.length := by simp only [Yard.mk_, markL_len]
theorem yk_len4 (y : Yard) : y.dead.length = (Yard.mk_ y 1).1.dead.length := by simp only [Yard.mk_, markL_len]
set_option maxRecDepth 8000 in
set_option maxHeartbeats 8000000 in
theorem makeInErr (y : Yard) (res rep c : Int) (hc : ¬ c = 0)
  (hS : y.ok → RetM env.P 6 [] [.agg y.cs, .i .i64 res, .i .i64 rep] (fun r H => r = .tup [.agg yaZ, .i .i64 0, .i .i64 c] ∧ H = []))
  (hI : y.ok → RetM env.P 8 [] [.agg y.cs, .i .i64 res, .i .i64 rep] (fun r H => r = .tup [.agg yaZ, .i .i64 0, .i .i64 c] ∧ H = [])) : Ret env.P 3 [.agg y.cs, .i .i64 res, .i .i64 rep] (fun r => r = .b true) := by
 have b1 : Yard.sz y 1048576 ≤ 1048576 := Yard.sz_le _ _ (by omega)
 have b2 := Yard.mk_mono y 1
 refine ret_of (nt := 127) (rvs := [.tmp 6]) Tryz.func3 rfl rfl rfl rfl (fun X => ?_)
 repeat' (first | exact aa | ((conv => whnf) <;> (first | refine And.intro ?_ ?_ | (intro _h; first | contradiction | (try simp only [dd] at _h)) | (refine dt_go ?_) | exact rfl | exact True.intro | exact dkk | exact dks | ((first | refine .inl ⟨_, szYard_ok _ _ (by omega) (by omega), ?_⟩ | refine ⟨_, szYard_ok _ _ (by omega) (by omega), ?_⟩); (try rintro _ rfl)) | (refine wrap_succ ?_; omega))))
 have h1 := Yard.sz_ok _ _ (by omega) (by omega) _h
 repeat' (first | exact aa | ((conv => whnf) <;> (first | (exfalso; exact ‹¬True› trivial) | refine And.intro ?_ ?_ | (intro _h; first | contradiction | (try simp only [dd] at _h)) | (refine dt_go ?_) | exact rfl | exact True.intro | exact dkk | exact dks | (refine .inr (.inl (.inl ⟨[], _, _, _, toYardO_ok _ h1, viewA, ⟨rfl, rfl⟩, ?_⟩)); rintro _ _ ⟨rfl, rfl⟩; refine ⟨rfl, _, lokA, ?_⟩) | ((first | refine .inl ⟨_, toYard_ok _ h1, ?_⟩ | refine ⟨_, toYard_ok _ h1, ?_⟩); (try rintro _ rfl)) | (refine .inr (.inl (.inr (.inl ⟨_, RetM.wka (hS h1), ?_⟩))); rintro _ _ ⟨rfl, rfl⟩; refine ⟨⟨rfl, nssA⟩, _, lokA, ?_⟩) | (refine .inr (.inl (.inr (.inl ⟨_, RetM.wka (hI h1), ?_⟩))); rintro _ _ ⟨rfl, rfl⟩; refine ⟨⟨rfl, nssA⟩, _, lokA, ?_⟩) | ((first | refine .inl ⟨_, Ret.wka (eqYard_ok y y h1), ?_⟩ | refine ⟨_, Ret.wka (eqYard_ok y y h1), ?_⟩); (try rintro _ rfl)) | ((first | refine .inl ⟨_, Ret.wka (eqYard_ok ⟨⟨0, [], []⟩, [], 0, []⟩ ⟨⟨0, [], []⟩, [], 0, []⟩ ⟨⟨⟨Nat.zero_le _, fun k hk => absurd hk (Nat.not_lt_zero _)⟩, Nat.zero_le _, fun k hk => absurd hk (Nat.not_lt_zero _)⟩, ⟨Nat.zero_le _, fun k hk => absurd hk (Nat.not_lt_zero _)⟩, Nat.zero_le _, fun k hk => absurd hk (Nat.not_lt_zero _)⟩), ?_⟩ | refine ⟨_, Ret.wka (eqYard_ok ⟨⟨0, [], []⟩, [], 0, []⟩ ⟨⟨0, [], []⟩, [], 0, []⟩ ⟨⟨⟨Nat.zero_le _, fun k hk => absurd hk (Nat.not_lt_zero _)⟩, Nat.zero_le _, fun k hk => absurd hk (Nat.not_lt_zero _)⟩, ⟨Nat.zero_le _, fun k hk => absurd hk (Nat.not_lt_zero _)⟩, Nat.zero_le _, fun k hk => absurd hk (Nat.not_lt_zero _)⟩), ?_⟩); (try rintro _ rfl)) | (refine .inr (.inl (.inl ⟨[6, 7, 8, 9], _, _, _, markYard_ok y 1 (by omega) (yard_bound y h1) h1, viewA, ⟨rfl, rfl⟩, ?_⟩)); rintro _ _ ⟨rfl, rfl⟩; refine ⟨rfl, _, lokA, ?_⟩) | ((first | refine .inl ⟨_, markYard_nil _, ?_⟩ | refine ⟨_, markYard_nil _, ?_⟩); (try rintro _ rfl)) | ((first | refine .inl ⟨_, Ret.wka (heldYard_ok ⟨⟨0, [], []⟩, [], 0, []⟩ 1 (by omega) (by simp only [Yard.mk_, markL]; omega) ⟨⟨⟨Nat.zero_le _, fun k hk => absurd hk (Nat.not_lt_zero _)⟩, Nat.zero_le _, fun k hk => absurd hk (Nat.not_lt_zero _)⟩, ⟨Nat.zero_le _, fun k hk => absurd hk (Nat.not_lt_zero _)⟩, Nat.zero_le _, fun k hk => absurd hk (Nat.not_lt_zero _)⟩), ?_⟩ | refine ⟨_, Ret.wka (heldYard_ok ⟨⟨0, [], []⟩, [], 0, []⟩ 1 (by omega) (by simp only [Yard.mk_, markL]; omega) ⟨⟨⟨Nat.zero_le _, fun k hk => absurd hk (Nat.not_lt_zero _)⟩, Nat.zero_le _, fun k hk => absurd hk (Nat.not_lt_zero _)⟩, ⟨Nat.zero_le _, fun k hk => absurd hk (Nat.not_lt_zero _)⟩, Nat.zero_le _, fun k hk => absurd hk (Nat.not_lt_zero _)⟩), ?_⟩); (try rintro _ rfl)) | (refine wrap_succ ?_; omega))))
 all_goals trace_state
set_option maxRecDepth 8000 in
set_option maxHeartbeats 16000000 in
theorem makeInFine (y y' : Yard) (res rep num' : Int) (h' : y.ok → y'.ok)
  (hS : y.ok → RetM env.P 6 [] [.agg y.cs, .i .i64 res, .i .i64 rep] (fun r H => r = .tup [.agg y'.resO, .i .i64 num', .i .i64 0] ∧ H = y'.rowsO))
  (hI : y.ok → RetM env.P 8 [] [.agg y.cs, .i .i64 res, .i .i64 rep] (fun r H => r = .tup [.agg y'.resO, .i .i64 num', .i .i64 0] ∧ H = y'.rowsO)) : Ret env.P 3 [.agg y.cs, .i .i64 res, .i .i64 rep] (fun r => r = .b true) := by
 have b1 : Yard.sz y 1048576 ≤ 1048576 := Yard.sz_le _ _ (by omega)
 have b2 := Yard.mk_mono y 1
 refine ret_of (nt := 127) (rvs := [.tmp 6]) Tryz.func3 rfl rfl rfl rfl (fun X => ?_)
 repeat' (first | exact aa | ((conv => whnf) <;> (first | refine And.intro ?_ ?_ | (intro _h; first | contradiction | (try simp only [dd] at _h)) | (refine dt_go ?_) | exact rfl | exact True.intro | exact dkk | exact dks | ((first | refine .inl ⟨_, szYard_ok _ _ (by omega) (by omega), ?_⟩ | refine ⟨_, szYard_ok _ _ (by omega) (by omega), ?_⟩); (try rintro _ rfl)) | (refine wrap_succ ?_; omega))))
 have h1 := Yard.sz_ok _ _ (by omega) (by omega) _h
 have h2 := h' h1
 have b3 := Yard.mk_mono y' 1
 repeat' (first | exact aa | ((conv => whnf) <;> (first | (exfalso; exact ‹¬True› trivial) | ((first | refine .inl ⟨_, Ret.wk (by ((repeat (first | exact WkL.nil | exact shr_L (d := 1) (k := 3) (yk_len1 y') | exact shr_L (d := 0) (k := 4) (yk_len2 y') | exact shr_L (d := 1) (k := 3) (yk_len3 y') | exact shr_L (d := 0) (k := 4) (yk_len4 y') | refine WkL.cons ?_ ?_ | exact Wk.refl _ | exact Wk.rfc rfl | refine Wk.fn ?_ | exact Wk.nilS0 | exact shr_L (d := 0) (k := 4) rfl | exact shr_L (d := 1) (k := 3) rfl | exact shr_L (d := 2) (k := 2) rfl | exact shr_L (d := 0) (k := 4) (by simp only [markL_len]) | exact shr_L (d := 1) (k := 3) (by simp only [markL_len]) | refine Wk.agg ?_ | exact shr_L (d := 0) (k := 3) rfl | exact shr_L (d := 1) (k := 2) rfl | exact shr_ow (d := 1) (k := 2) | exact shr_ow (d := 0) (k := 3) | refine Wk.rfLo ?_)); first | done | fail)) (heldYard_mk y' h2), ?_⟩ | refine ⟨_, Ret.wk (by ((repeat (first | exact WkL.nil | exact shr_L (d := 1) (k := 3) (yk_len1 y') | exact shr_L (d := 0) (k := 4) (yk_len2 y') | exact shr_L (d := 1) (k := 3) (yk_len3 y') | exact shr_L (d := 0) (k := 4) (yk_len4 y') | refine WkL.cons ?_ ?_ | exact Wk.refl _ | exact Wk.rfc rfl | refine Wk.fn ?_ | exact Wk.nilS0 | exact shr_L (d := 0) (k := 4) rfl | exact shr_L (d := 1) (k := 3) rfl | exact shr_L (d := 2) (k := 2) rfl | exact shr_L (d := 0) (k := 4) (by simp only [markL_len]) | exact shr_L (d := 1) (k := 3) (by simp only [markL_len]) | refine Wk.agg ?_ | exact shr_L (d := 0) (k := 3) rfl | exact shr_L (d := 1) (k := 2) rfl | exact shr_ow (d := 1) (k := 2) | exact shr_ow (d := 0) (k := 3) | refine Wk.rfLo ?_)); first | done | fail)) (heldYard_mk y' h2), ?_⟩); (try rintro _ rfl)) | refine And.intro ?_ ?_ | (intro _h; first | contradiction | (try simp only [dd] at _h)) | (refine dt_go ?_) | exact rfl | exact True.intro | exact dkk | exact dks | (refine .inr (.inl (.inl ⟨[], _, _, _, toYardO_ok _ h1, viewA, ⟨rfl, rfl⟩, ?_⟩)); rintro _ _ ⟨rfl, rfl⟩; refine ⟨rfl, _, lokA, ?_⟩) | ((first | refine .inl ⟨_, toYard_ok _ h1, ?_⟩ | refine ⟨_, toYard_ok _ h1, ?_⟩); (try rintro _ rfl)) | (refine .inr (.inl (.inr (.inl ⟨_, RetM.wka (hS h1), ?_⟩))); rintro _ _ ⟨rfl, rfl⟩; refine ⟨⟨rfl, nssA⟩, _, lokA, ?_⟩) | (refine .inr (.inl (.inr (.inl ⟨_, RetM.wka (hI h1), ?_⟩))); rintro _ _ ⟨rfl, rfl⟩; refine ⟨⟨rfl, nssA⟩, _, lokA, ?_⟩) | ((first | refine .inl ⟨_, Ret.wka (eqYard_ok y y h1), ?_⟩ | refine ⟨_, Ret.wka (eqYard_ok y y h1), ?_⟩); (try rintro _ rfl)) | ((first | refine .inl ⟨_, Ret.wka (eqYard_ok y' y' h2), ?_⟩ | refine ⟨_, Ret.wka (eqYard_ok y' y' h2), ?_⟩); (try rintro _ rfl)) | (refine .inr (.inl (.inl ⟨[10, 11, 12, 13], _, _, _, markYard_ok y 1 (by omega) (yard_bound y h1) h1, viewA, ⟨rfl, rfl⟩, ?_⟩)); rintro _ _ ⟨rfl, rfl⟩; refine ⟨rfl, _, lokA, ?_⟩) | (refine .inr (.inl (.inl ⟨[15, 16, 17, 18], _, _, _, markYard_ok y' 1 (by omega) (yard_bound y' h2) h2, viewA, ⟨rfl, rfl⟩, ?_⟩)); rintro _ _ ⟨rfl, rfl⟩; refine ⟨rfl, _, lokA, ?_⟩) | (refine wrap_succ ?_; omega))))
 all_goals trace_state
theorem makeInLaw (y : Yard) (res rep : Int) : Ret env.P 3 [.agg y.cs, .i .i64 res, .i .i64 rep] (fun r => r = .b true) := by
 by_cases hm : y.makeS res rep
 ·have ha := makeIn_iff.1 hm
  by_cases hs : y.stack.length = 0
  ·exact makeInErr y res rep 5 (by omega) (fun h => makeIn_spec5 y h res rep hm hs) (fun h => makeIn_impl5 y h res rep ha hs)
  ·by_cases hf : y.shelf.noMake (topV y.stack).toNat
   ·exact makeInErr y res rep 4 (by omega) (fun h => makeIn_spec4 y h res rep hm hs hf) (fun h => makeIn_impl4 y h res rep ha hs hf)
   ·exact makeInFine y ((y.shelf.made (topV y.stack).toNat res rep).yd y) res rep _ (fun h => ⟨made_ok h.1 (Nat.lt_of_not_le fun q => hf (.inl q)) (tab_good ha.1.1 (top_who ha.1 hs)).1, h.2⟩) (fun h => makeIn_spec0 y h res rep hm hs hf) (fun h => makeIn_impl0 y h res rep ha hs hf)
 ·exact makeInErr y res rep 1 (by omega) (fun h => makeIn_spec1 y h res rep hm) (fun h => makeIn_impl1 y h res rep fun q => hm (makeIn_iff.2 q))
theorem rd_Entry : Rd Tryz.prog 167 Entry Entry.cs :=
 rd_st Tryz.underlying167 (by kernel_rfl) rfl (rdF_cons (rd_int Tryz.underlying2) (rdF_cons (rd_int Tryz.underlying2) (rdF_cons (rd_bool Tryz.underlying4) (rdF_cons (rd_int Tryz.underlying2) (rdF_cons (rd_int Tryz.underlying2) (rdF_cons (rd_int Tryz.underlying2) (rdF_cons (rd_int Tryz.underlying2) rdF_nil))))))) (fun p => ⟨p.1, p.2.1, p.2.2.1, p.2.2.2.1, p.2.2.2.2.1, p.2.2.2.2.2.1, p.2.2.2.2.2.2.1⟩) fun _ => rfl
theorem rd_Table : Rd Tryz.prog 128 Table Table.cs :=
 rd_st Tryz.underlying128 (by kernel_rfl) rfl (rdF_cons (rd_int Tryz.underlying2) (rdF_cons (rd_sl Tryz.underlying126 (by kernel_rfl) rd_Entry) rdF_nil)) (fun p => ⟨p.1, p.2.1⟩) fun _ => rfl
theorem rd_Thing : Rd Tryz.prog 136 Thing Thing.cs :=
 rd_st Tryz.underlying136 (by kernel_rfl) rfl (rdF_cons (rd_int Tryz.underlying2) (rdF_cons (rd_int Tryz.underlying2) (rdF_cons (rd_int Tryz.underlying2) rdF_nil))) (fun p => ⟨p.1, p.2.1, p.2.2.1⟩) fun _ => rfl
theorem rd_Shelf : Rd Tryz.prog 25 Shelf Shelf.cs :=
 rd_st Tryz.underlying25 (by kernel_rfl) rfl (rdF_cons (rd_int Tryz.underlying2) (rdF_cons (rd_sl Tryz.underlying22 (by kernel_rfl) rd_Table) (rdF_cons (rd_sl Tryz.underlying23 (by kernel_rfl) rd_Thing) rdF_nil))) (fun p => ⟨p.1, p.2.1, p.2.2.1⟩) fun _ => rfl
theorem rd_Call : Rd Tryz.prog 86 Call Call.cs :=
 rd_st Tryz.underlying86 (by kernel_rfl) rfl (rdF_cons (rd_int Tryz.underlying2) (rdF_cons (rd_int Tryz.underlying2) (rdF_cons (rd_int Tryz.underlying2) (rdF_cons (rd_sl Tryz.underlying27 (by kernel_rfl) (rd_int Tryz.underlying2)) rdF_nil)))) (fun p => ⟨p.1, p.2.1, p.2.2.1, p.2.2.2.1⟩) fun _ => rfl
theorem rd_Yard : Rd Tryz.prog 29 Yard Yard.cs :=
 rd_st Tryz.underlying29 (by kernel_rfl) rfl (rdF_cons rd_Shelf (rdF_cons (rd_sl Tryz.underlying26 (by kernel_rfl) rd_Call) (rdF_cons (rd_int Tryz.underlying2) (rdF_cons (rd_sl Tryz.underlying27 (by kernel_rfl) (rd_int Tryz.underlying2)) rdF_nil)))) (fun p => ⟨p.1, p.2.1, p.2.2.1, p.2.2.2.1⟩) fun _ => rfl
namespace fnExactMakeIn
theorem law_ret (dss : List (List AV)) (h : TyCs Tryz.prog Tryz.f3.params.toList dss) : Ret Tryz.prog 3 (mkArgs Tryz.prog Tryz.f3.params.toList dss) fun r => r = .b true := by
 obtain ⟨d0, r0, rfl, h0, h⟩ := h.cons_inv
 obtain ⟨d1, r1, rfl, h1, h⟩ := h.cons_inv
 obtain ⟨d2, r2, rfl, h2, h⟩ := h.cons_inv
 obtain rfl := h.nil_inv
 obtain ⟨y, hy⟩ := arg_agg rd_Yard (by kernel_rfl) h0
 obtain ⟨res, hx1⟩ := arg_one (c := fun n => .i .i64 n) (rd_int Tryz.underlying2) (by kernel_rfl) h1
 obtain ⟨rep, hx2⟩ := arg_one (c := fun n => .i .i64 n) (rd_int Tryz.underlying2) (by kernel_rfl) h2
 exact Ret.wk (.cons hy (.cons hx1 (.cons hx2 .nil))) (makeInLaw y res rep)
end fnExactMakeIn
end Go.Proofs.YtmchgnbeoefhhaaGreat
namespace Go.Proofs.YtmchgnbeoefhhaaGreat.fnExactMakeIn
open Go.ChangeShapes Go.WideShapes Go.ChangeAt Go.RowKit
set_option linter.unusedVariables false
theorem own : ownKnob Tryz.prog.godebug = none := by kernel_rfl
set_option maxRecDepth 100000 in
theorem lifted (os : Os) (started : os.Started) (H : Type) (enc : TypeId × Go.Value → H) :
  ReturnsInHanded {} Tryz.checked os 3 .any (Rows.fnExactMakeInSpec.pre6 enc Tryz.prog Tryz.f3 Rows.fnExactMakeInRow.domain false) (Rows.fnExactMakeInSpec.post enc Tryz.prog Tryz.f3 false true false false) := by
 refine returnsInHanded_of_change (C := Tryz.checked) own started (by kernel_rfl) Tryz.func3
  (ChangeSpec.witness6 (enc := enc) (C := Tryz.checked) false ⟨#[], #[.agg #[.int .i64 0, .slice none 0 0, .slice none 0 0, .slice none 0 0, .int .i64 0, .slice none 0 0], .int .i64 0, .int .i64 0], []⟩ 8 (by kernel_rfl) (by kernel_rfl) (by kernel_rfl) (by kernel_rfl)) ?_
 intro W base args ds gs before hval0 hW hcnd _
 refine law_end (k := closeT Tryz.prog 9 Tryz.f3.params.toList) rfl (by kernel_rfl) (by kernel_rfl) rfl Tryz.underlying4 ?_ (fun dss h => law_ret dss h) hval0 hW
 ·rintro ds hl
  match ds, hl with
  | [_, _, _], _ => rfl
theorem over : Rows.fnExactMakeInRow.holds Tryz.pinned (OpenSpec.ofChange Rows.fnExactMakeInSpec) :=
 OpenClaim.holds_of_wide 3 Tryz.f3 rfl rfl rfl rfl rfl rfl rfl ⟨rfl, rfl, rfl, rfl, rfl⟩ rfl rfl rfl rfl rfl fact_named Tryz.func3 fact_joined fact_inst fact_wrap
  (fun os started H enc _ => lifted os started H enc)
theorem proved : Rows.FnExactMakeInSaid :=
 over
end Go.Proofs.YtmchgnbeoefhhaaGreat.fnExactMakeIn
