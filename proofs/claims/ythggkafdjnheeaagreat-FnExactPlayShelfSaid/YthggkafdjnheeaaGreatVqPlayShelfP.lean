import Derived.Test.YthggkafdjnheeaaGreatVqf
import Derived.Test.YthggkafdjnheeaaGreatVq5
import Derived.Test.YthggkafdjnheeaaGreatVq1
import Derived.Test.YthggkafdjnheeaaGreatVPlayShelfF
import Derived.Test.YthggkafdjnheeaaGreatVPlayShelfG
namespace Go.Proofs.YthggkafdjnheeaaGreat
open Go Go.RowKit
set_option linter.unusedVariables false
set_option linter.unusedSimpArgs false
theorem heldShelf_mk (s : Shelf) (h : s.ok) : Ret env.P 24 [.agg (Shelf.mk_ s 1).1.cs, .i .i64 1] (fun r => r = .i .i64 (Shelf.mk_ s 1).2) := by
  have h0 := heldShelf_ok (Shelf.mk_ s 1).1 1 (by omega) (by rw [Shelf.mk_idem]; exact shelf_bound s h) (Shelf.mk_ok s 1 h)
  rw [Shelf.mk_idem] at h0
  have e : heldI (Shelf.mk_ s 1).1 (Shelf.mk_ s 1) = (Shelf.mk_ s 1).2 := heldI_eq rfl
  rwa [e] at h0
theorem mk_len1 (s : Shelf) : s.tables.length = (Shelf.mk_ s 1).1.tables.length := by simp only [Shelf.mk_, markL_len]
theorem mk_len2 (s : Shelf) : s.things.length = (Shelf.mk_ s 1).1.things.length := by simp only [Shelf.mk_, markL_len]
theorem act_bound (a : ShelfAct) (k : Int) : (ShelfAct.mkE a k).2 ≤ k + (6 : Nat) := by simp only [ShelfAct.mkE]; omega
theorem acts_bound (s : Shelf) (h : s.ok) (L : List ShelfAct) (hL : L.length ≤ 1048576) : (markL ShelfAct.mkE L (Shelf.mk_ s 1).2).2 ≤ 4611686018427387904 := by
  have h0 := markL_bound (f := ShelfAct.mkE) (B := 6) L (fun b _ => act_bound b) (Shelf.mk_ s 1).2
  have h1 := markL_bound (f := Table.mkE) (B := 7340033) s.tables (fun b hb => table_bound b (okL_mem h.1 hb)) 1
  have h2 := markL_bound (f := Thing.mkE) (B := 3) s.things (fun b _ => thing_bound b) (markL Table.mkE s.tables 1).2
  have h3 : s.tables.length ≤ 1048576 := h.1.1
  have h4 : s.things.length ≤ 1048576 := h.2.1
  simp only [Shelf.mk_] at h0 ⊢
  omega
set_option maxRecDepth 8000 in
set_option maxHeartbeats 8000000 in
theorem playErr (s : Shelf) (l : List ShelfAct)
    (hS : s.ok → l.length ≤ 1048576 → RetM env.P 10 [] [.agg s.cs, slL 6 ShelfAct.cs l] (fun r H => r = .tup [.agg [.i .i64 0, .nils, .nils], .i .i64 0, .i .i64 1] ∧ H = []))
    (hI : s.ok → l.length ≤ 1048576 → RetM env.P 9 [] [.agg s.cs, slL 6 ShelfAct.cs l] (fun r H => r = .tup [.agg [.i .i64 0, .nils, .nils], .i .i64 0, .i .i64 1] ∧ H = [])) : Ret env.P 6 [.agg s.cs, slL 6 ShelfAct.cs l] (fun r => r = .b true) := by
  have b1 : Shelf.sz s 1048576 ≤ 1048576 := Shelf.sz_le _ _ (by omega)
  have b2 := Shelf.mk_mono s 1
  have b7 := markL_mono ShelfAct.mkE_mono l (Shelf.mk_ s 1).2
  refine ret_of (nt := 140) (rvs := [.tmp 4]) Tryz.func6 rfl rfl rfl rfl (fun X => ?_)
  repeat' (first | exact aa | ((conv => whnf) <;> (first | refine And.intro ?_ ?_ | (intro _h; first | contradiction | (try simp only [dd] at _h)) | (refine dt_go ?_) | exact rfl | exact True.intro | exact dkk | exact dks | ((first | refine .inl ⟨_, szShelf_ok _ _ (by omega) (by omega), ?_⟩ | refine ⟨_, szShelf_ok _ _ (by omega) (by omega), ?_⟩); (try rintro _ rfl)) | (refine wrap_succ ?_; omega))))
  have h1 := Shelf.sz_ok _ _ (by omega) (by omega) _h
  repeat' (first | exact aa | ((conv => whnf) <;> (first | refine And.intro ?_ ?_ | (intro _h; first | contradiction | (try simp only [dd] at _h)) | (refine dt_go ?_) | exact rfl | exact True.intro | exact dkk | exact dks | ((first | refine .inl ⟨_, szShelfActS_ok l _ (by omega) (by omega), ?_⟩ | refine ⟨_, szShelfActS_ok l _ (by omega) (by omega), ?_⟩); (try rintro _ rfl)) | (refine wrap_succ ?_; omega))))
  have hL := szFl_ok (p := ShelfAct.ok) (fun _ => trivial) (by omega) b1 _h
  have b8 : (markL ShelfAct.mkE l (Shelf.mk_ s 1).2).2 ≤ 4611686018427387904 := acts_bound s h1 l hL.1
  repeat' (first | exact aa | ((conv => whnf) <;> (first | (exfalso; exact ‹¬True› trivial) | refine And.intro ?_ ?_ | (intro _h; first | contradiction | (try simp only [dd] at _h)) | (refine dt_go ?_) | exact rfl | exact True.intro | exact dkk | exact dks | (refine .inr (.inl (.inl ⟨[], _, _, _, toShelfO_ok _ h1, viewA, ⟨rfl, rfl⟩, ?_⟩)); rintro _ _ ⟨rfl, rfl⟩; refine ⟨rfl, _, lokA, ?_⟩) | ((first | refine .inl ⟨_, toShelf_ok _ h1, ?_⟩ | refine ⟨_, toShelf_ok _ h1, ?_⟩); (try rintro _ rfl)) | (refine .inr (.inl (.inl ⟨[], _, _, _, toShelfActSO_ok _ hL, viewA, ⟨rfl, rfl⟩, ?_⟩)); rintro _ _ ⟨rfl, rfl⟩; refine ⟨rfl, _, lokA, ?_⟩) | ((first | refine .inl ⟨_, toShelfActS_ok _ hL, ?_⟩ | refine ⟨_, toShelfActS_ok _ hL, ?_⟩); (try rintro _ rfl)) | (refine .inr (.inl (.inr ⟨_, RetM.wka (hS h1 hL.1), ?_⟩)); rintro _ _ ⟨rfl, rfl⟩; refine ⟨⟨rfl, nssA⟩, _, lokA, ?_⟩) | (refine .inr (.inl (.inr ⟨_, RetM.wka (hI h1 hL.1), ?_⟩)); rintro _ _ ⟨rfl, rfl⟩; refine ⟨⟨rfl, nssA⟩, _, lokA, ?_⟩) | ((first | refine .inl ⟨_, Ret.wka (eqShelf_ok s s h1), ?_⟩ | refine ⟨_, Ret.wka (eqShelf_ok s s h1), ?_⟩); (try rintro _ rfl)) | ((first | refine .inl ⟨_, Ret.wka (eqShelfActS_ok l l hL), ?_⟩ | refine ⟨_, Ret.wka (eqShelfActS_ok l l hL), ?_⟩); (try rintro _ rfl)) | ((first | refine .inl ⟨_, Ret.wka (eqShelf_ok ⟨0, [], []⟩ ⟨0, [], []⟩ ⟨⟨Nat.zero_le _, fun k hk => absurd hk (Nat.not_lt_zero _)⟩, Nat.zero_le _, fun k hk => absurd hk (Nat.not_lt_zero _)⟩), ?_⟩ | refine ⟨_, Ret.wka (eqShelf_ok ⟨0, [], []⟩ ⟨0, [], []⟩ ⟨⟨Nat.zero_le _, fun k hk => absurd hk (Nat.not_lt_zero _)⟩, Nat.zero_le _, fun k hk => absurd hk (Nat.not_lt_zero _)⟩), ?_⟩); (try rintro _ rfl)) | (refine .inr (.inl (.inl ⟨[5, 6], _, _, _, markShelf_ok s 1 (by omega) (shelf_bound s h1) h1, viewA, ⟨rfl, rfl⟩, ?_⟩)); rintro _ _ ⟨rfl, rfl⟩; refine ⟨rfl, _, lokA, ?_⟩) | (refine .inr (.inl (.inl ⟨[8], _, _, _, markShelfActS_ok l (Shelf.mk_ s 1).2 (by omega) b8 hL.1, viewA, ⟨rfl, rfl⟩, ?_⟩)); rintro _ _ ⟨rfl, rfl⟩; refine ⟨rfl, _, lokA, ?_⟩) | ((first | refine .inl ⟨_, markShelf_nil _, ?_⟩ | refine ⟨_, markShelf_nil _, ?_⟩); (try rintro _ rfl)) | ((first | refine .inl ⟨_, Ret.wka (heldShelf_ok ⟨0, [], []⟩ 1 (by omega) (by simp only [Shelf.mk_, markL]; omega) ⟨⟨Nat.zero_le _, fun k hk => absurd hk (Nat.not_lt_zero _)⟩, Nat.zero_le _, fun k hk => absurd hk (Nat.not_lt_zero _)⟩), ?_⟩ | refine ⟨_, Ret.wka (heldShelf_ok ⟨0, [], []⟩ 1 (by omega) (by simp only [Shelf.mk_, markL]; omega) ⟨⟨Nat.zero_le _, fun k hk => absurd hk (Nat.not_lt_zero _)⟩, Nat.zero_le _, fun k hk => absurd hk (Nat.not_lt_zero _)⟩), ?_⟩); (try rintro _ rfl)) | (refine wrap_succ ?_; omega))))
set_option maxRecDepth 8000 in
set_option maxHeartbeats 16000000 in
theorem playFine (s s' : Shelf) (l : List ShelfAct) (n : Int) (h' : s.ok → s'.ok)
    (hS : s.ok → l.length ≤ 1048576 → RetM env.P 10 [] [.agg s.cs, slL 6 ShelfAct.cs l] (fun r H => r = .tup [.agg s'.resO, .i .i64 n, .i .i64 0] ∧ H = s'.rowsO))
    (hI : s.ok → l.length ≤ 1048576 → RetM env.P 9 [] [.agg s.cs, slL 6 ShelfAct.cs l] (fun r H => r = .tup [.agg s'.resO, .i .i64 n, .i .i64 0] ∧ H = s'.rowsO)) : Ret env.P 6 [.agg s.cs, slL 6 ShelfAct.cs l] (fun r => r = .b true) := by
  have b1 : Shelf.sz s 1048576 ≤ 1048576 := Shelf.sz_le _ _ (by omega)
  have b2 := Shelf.mk_mono s 1
  have b7 := markL_mono ShelfAct.mkE_mono l (Shelf.mk_ s 1).2
  refine ret_of (nt := 140) (rvs := [.tmp 4]) Tryz.func6 rfl rfl rfl rfl (fun X => ?_)
  repeat' (first | exact aa | ((conv => whnf) <;> (first | refine And.intro ?_ ?_ | (intro _h; first | contradiction | (try simp only [dd] at _h)) | (refine dt_go ?_) | exact rfl | exact True.intro | exact dkk | exact dks | ((first | refine .inl ⟨_, szShelf_ok _ _ (by omega) (by omega), ?_⟩ | refine ⟨_, szShelf_ok _ _ (by omega) (by omega), ?_⟩); (try rintro _ rfl)) | (refine wrap_succ ?_; omega))))
  have h1 := Shelf.sz_ok _ _ (by omega) (by omega) _h
  repeat' (first | exact aa | ((conv => whnf) <;> (first | refine And.intro ?_ ?_ | (intro _h; first | contradiction | (try simp only [dd] at _h)) | (refine dt_go ?_) | exact rfl | exact True.intro | exact dkk | exact dks | ((first | refine .inl ⟨_, szShelfActS_ok l _ (by omega) (by omega), ?_⟩ | refine ⟨_, szShelfActS_ok l _ (by omega) (by omega), ?_⟩); (try rintro _ rfl)) | (refine wrap_succ ?_; omega))))
  have hL := szFl_ok (p := ShelfAct.ok) (fun _ => trivial) (by omega) b1 _h
  have b8 : (markL ShelfAct.mkE l (Shelf.mk_ s 1).2).2 ≤ 4611686018427387904 := acts_bound s h1 l hL.1
  have h2 := h' h1
  have b3 := Shelf.mk_mono s' 1
  have b4 := shelf_bound s' h2
  repeat' (first | exact aa | ((conv => whnf) <;> (first | (exfalso; exact ‹¬True› trivial) | ((first | refine .inl ⟨_, Ret.wk (by ((repeat (first | exact WkL.nil | exact shr_L (d := 1) (k := 3) (mk_len1 _) | exact shr_L (d := 0) (k := 4) (mk_len2 _) | exact shr_L (d := 0) (k := 4) (markL_len _ _).symm | refine WkL.cons ?_ ?_ | exact Wk.refl _ | exact Wk.rfc rfl | refine Wk.fn ?_ | exact Wk.nilS0 | exact shr_L (d := 0) (k := 4) rfl | exact shr_L (d := 1) (k := 3) rfl | exact shr_L (d := 2) (k := 2) rfl | exact shr_L (d := 0) (k := 4) (by simp only [markL_len]) | exact shr_L (d := 1) (k := 3) (by simp only [markL_len]) | refine Wk.agg ?_ | exact shr_L (d := 0) (k := 3) rfl | exact shr_L (d := 1) (k := 2) rfl | exact shr_ow (d := 1) (k := 2) | exact shr_ow (d := 0) (k := 3) | refine Wk.rfLo ?_)); first | done | fail)) (heldShelf_mk s' h2), ?_⟩ | refine ⟨_, Ret.wk (by ((repeat (first | exact WkL.nil | exact shr_L (d := 1) (k := 3) (mk_len1 _) | exact shr_L (d := 0) (k := 4) (mk_len2 _) | exact shr_L (d := 0) (k := 4) (markL_len _ _).symm | refine WkL.cons ?_ ?_ | exact Wk.refl _ | exact Wk.rfc rfl | refine Wk.fn ?_ | exact Wk.nilS0 | exact shr_L (d := 0) (k := 4) rfl | exact shr_L (d := 1) (k := 3) rfl | exact shr_L (d := 2) (k := 2) rfl | exact shr_L (d := 0) (k := 4) (by simp only [markL_len]) | exact shr_L (d := 1) (k := 3) (by simp only [markL_len]) | refine Wk.agg ?_ | exact shr_L (d := 0) (k := 3) rfl | exact shr_L (d := 1) (k := 2) rfl | exact shr_ow (d := 1) (k := 2) | exact shr_ow (d := 0) (k := 3) | refine Wk.rfLo ?_)); first | done | fail)) (heldShelf_mk s' h2), ?_⟩); (try rintro _ rfl)) | refine And.intro ?_ ?_ | (intro _h; first | contradiction | (try simp only [dd] at _h)) | (refine dt_go ?_) | exact rfl | exact True.intro | exact dkk | exact dks | (refine .inr (.inl (.inl ⟨[], _, _, _, toShelfO_ok _ h1, viewA, ⟨rfl, rfl⟩, ?_⟩)); rintro _ _ ⟨rfl, rfl⟩; refine ⟨rfl, _, lokA, ?_⟩) | ((first | refine .inl ⟨_, toShelf_ok _ h1, ?_⟩ | refine ⟨_, toShelf_ok _ h1, ?_⟩); (try rintro _ rfl)) | (refine .inr (.inl (.inl ⟨[], _, _, _, toShelfActSO_ok _ hL, viewA, ⟨rfl, rfl⟩, ?_⟩)); rintro _ _ ⟨rfl, rfl⟩; refine ⟨rfl, _, lokA, ?_⟩) | ((first | refine .inl ⟨_, toShelfActS_ok _ hL, ?_⟩ | refine ⟨_, toShelfActS_ok _ hL, ?_⟩); (try rintro _ rfl)) | (refine .inr (.inl (.inr ⟨_, RetM.wka (hS h1 hL.1), ?_⟩)); rintro _ _ ⟨rfl, rfl⟩; refine ⟨⟨rfl, nssA⟩, _, lokA, ?_⟩) | (refine .inr (.inl (.inr ⟨_, RetM.wka (hI h1 hL.1), ?_⟩)); rintro _ _ ⟨rfl, rfl⟩; refine ⟨⟨rfl, nssA⟩, _, lokA, ?_⟩) | ((first | refine .inl ⟨_, Ret.wka (eqShelf_ok s s h1), ?_⟩ | refine ⟨_, Ret.wka (eqShelf_ok s s h1), ?_⟩); (try rintro _ rfl)) | ((first | refine .inl ⟨_, Ret.wka (eqShelfActS_ok l l hL), ?_⟩ | refine ⟨_, Ret.wka (eqShelfActS_ok l l hL), ?_⟩); (try rintro _ rfl)) | ((first | refine .inl ⟨_, Ret.wka (eqShelf_ok s' s' h2), ?_⟩ | refine ⟨_, Ret.wka (eqShelf_ok s' s' h2), ?_⟩); (try rintro _ rfl)) | (refine .inr (.inl (.inl ⟨[7, 8], _, _, _, markShelf_ok s 1 (by omega) (shelf_bound s h1) h1, viewA, ⟨rfl, rfl⟩, ?_⟩)); rintro _ _ ⟨rfl, rfl⟩; refine ⟨rfl, _, lokA, ?_⟩) | (refine .inr (.inl (.inl ⟨[10], _, _, _, markShelfActS_ok l (Shelf.mk_ s 1).2 (by omega) b8 hL.1, viewA, ⟨rfl, rfl⟩, ?_⟩)); rintro _ _ ⟨rfl, rfl⟩; refine ⟨rfl, _, lokA, ?_⟩) | (refine .inr (.inl (.inl ⟨[11, 12], _, _, _, markShelf_ok s' 1 (by omega) (shelf_bound s' h2) h2, viewA, ⟨rfl, rfl⟩, ?_⟩)); rintro _ _ ⟨rfl, rfl⟩; refine ⟨rfl, _, lokA, ?_⟩) | (refine wrap_succ ?_; omega))))
theorem playLaw (s : Shelf) (l : List ShelfAct) : Ret env.P 6 [.agg s.cs, slL 6 ShelfAct.cs l] (fun r => r = .b true) := by
  by_cases hm : s.playS l
  · have hi := playS_iff.1 hm
    obtain ⟨F, hF⟩ := step_is
    exact playFine s (playK F s l l.length).1 l _ (fun h => (play_ok hF h hi.1 hi.2.2 (Nat.le_refl _)).1) (fun h _ => play_specF hF s l h hm) (fun h _ => play_implF hF s l h hi)
  · exact playErr s l (fun h hl => play_spec1 s l h hl hm) (fun h hl => play_impl1 s l h hl fun q => hm (playS_iff.2 q))
theorem rd_Entry : Rd Tryz.prog 191 Entry Entry.cs :=
  rd_st Tryz.underlying191 (by kernel_rfl) rfl (rdF_cons (rd_int Tryz.underlying2) (rdF_cons (rd_int Tryz.underlying2) (rdF_cons (rd_bool Tryz.underlying4) (rdF_cons (rd_int Tryz.underlying2) (rdF_cons (rd_int Tryz.underlying2) (rdF_cons (rd_int Tryz.underlying2) (rdF_cons (rd_int Tryz.underlying2) rdF_nil))))))) (fun p => ⟨p.1, p.2.1, p.2.2.1, p.2.2.2.1, p.2.2.2.2.1, p.2.2.2.2.2.1, p.2.2.2.2.2.2.1⟩) fun _ => rfl
theorem rd_Table : Rd Tryz.prog 152 Table Table.cs :=
  rd_st Tryz.underlying152 (by kernel_rfl) rfl (rdF_cons (rd_int Tryz.underlying2) (rdF_cons (rd_sl Tryz.underlying150 (by kernel_rfl) rd_Entry) rdF_nil)) (fun p => ⟨p.1, p.2.1⟩) fun _ => rfl
theorem rd_Thing : Rd Tryz.prog 157 Thing Thing.cs :=
  rd_st Tryz.underlying157 (by kernel_rfl) rfl (rdF_cons (rd_int Tryz.underlying2) (rdF_cons (rd_int Tryz.underlying2) (rdF_cons (rd_int Tryz.underlying2) rdF_nil))) (fun p => ⟨p.1, p.2.1, p.2.2.1⟩) fun _ => rfl
theorem rd_Shelf : Rd Tryz.prog 47 Shelf Shelf.cs :=
  rd_st Tryz.underlying47 (by kernel_rfl) rfl (rdF_cons (rd_int Tryz.underlying2) (rdF_cons (rd_sl Tryz.underlying44 (by kernel_rfl) rd_Table) (rdF_cons (rd_sl Tryz.underlying45 (by kernel_rfl) rd_Thing) rdF_nil))) (fun p => ⟨p.1, p.2.1, p.2.2.1⟩) fun _ => rfl
theorem rd_ShelfAct : Rd Tryz.prog 112 ShelfAct ShelfAct.cs :=
  rd_st Tryz.underlying112 (by kernel_rfl) rfl (rdF_cons (rd_int Tryz.underlying2) (rdF_cons (rd_int Tryz.underlying2) (rdF_cons (rd_int Tryz.underlying2) (rdF_cons (rd_int Tryz.underlying2) (rdF_cons (rd_int Tryz.underlying2) (rdF_cons (rd_int Tryz.underlying2) rdF_nil)))))) (fun p => ⟨p.1, p.2.1, p.2.2.1, p.2.2.2.1, p.2.2.2.2.1, p.2.2.2.2.2.1⟩) fun _ => rfl
namespace fnExactPlayShelf
theorem law_ret (dss : List (List AV)) (h : TyCs Tryz.prog Tryz.f6.params.toList dss) : Ret Tryz.prog 6 (mkArgs Tryz.prog Tryz.f6.params.toList dss) fun r => r = .b true := by
  obtain ⟨d0, r0, rfl, h0, h⟩ := h.cons_inv
  obtain ⟨d1, r1, rfl, h1, h⟩ := h.cons_inv
  obtain rfl := h.nil_inv
  obtain ⟨s, hs⟩ := arg_agg rd_Shelf (by kernel_rfl) h0
  obtain ⟨l, hx1⟩ := arg_one (c := fun l => slL 6 ShelfAct.cs l) (rd_sl Tryz.underlying62 (by kernel_rfl) rd_ShelfAct) (by kernel_rfl) h1
  exact Ret.wk (.cons hs (.cons hx1 .nil)) (playLaw s l)
end fnExactPlayShelf
end Go.Proofs.YthggkafdjnheeaaGreat
namespace Go.Proofs.YthggkafdjnheeaaGreat.fnExactPlayShelf
open Go.ChangeShapes Go.WideShapes Go.ChangeAt Go.RowKit
set_option linter.unusedVariables false
theorem own : ownKnob Tryz.prog.godebug = none := by kernel_rfl
set_option maxRecDepth 100000 in
theorem lifted (os : Os) (started : os.Started) (H : Type) (enc : TypeId × Value → H) :
    ReturnsInHanded {} Tryz.checked os 6 .any (Rows.fnExactPlayShelfSpec.pre6 enc Tryz.prog Tryz.f6 Rows.fnExactPlayShelfRow.domain false) (Rows.fnExactPlayShelfSpec.post enc Tryz.prog Tryz.f6 false true false false) := by
  refine returnsInHanded_of_change (C := Tryz.checked) own started (by kernel_rfl) Tryz.func6
    (ChangeSpec.witness6 (enc := enc) (C := Tryz.checked) false ⟨#[], #[.agg #[.int .i64 0, .slice none 0 0, .slice none 0 0], .slice none 0 0], []⟩ 8 (by kernel_rfl) (by kernel_rfl) (by kernel_rfl) (by kernel_rfl)) ?_
  intro W base args ds gs before hval0 hW hcnd _
  refine law_end (k := 9) rfl (by kernel_rfl) (by kernel_rfl) rfl Tryz.underlying4 ?_ (fun dss h => law_ret dss h) hval0 hW
  · rintro ds hl
    match ds, hl with
    | [_, _], _ => rfl
theorem over : Rows.fnExactPlayShelfRow.holds Tryz.pinned (OpenSpec.ofChange Rows.fnExactPlayShelfSpec) :=
  OpenClaim.holds_of_wide 6 Tryz.f6 rfl rfl rfl rfl rfl rfl rfl ⟨rfl, rfl, rfl, rfl, rfl⟩ rfl rfl rfl rfl rfl fact_named Tryz.func6 fact_joined fact_inst fact_wrap
    (fun os started H enc _ => lifted os started H enc)
theorem proved : Rows.FnExactPlayShelfSaid :=
  over
end Go.Proofs.YthggkafdjnheeaaGreat.fnExactPlayShelf
