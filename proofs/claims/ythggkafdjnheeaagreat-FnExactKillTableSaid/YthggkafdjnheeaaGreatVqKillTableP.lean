import Derived.Test.YthggkafdjnheeaaGreatVqe
import Derived.Test.YthggkafdjnheeaaGreatVq5
import Derived.Test.YthggkafdjnheeaaGreatVKillTableF
import Derived.Test.YthggkafdjnheeaaGreatVKillTableG
namespace Go.Proofs.YthggkafdjnheeaaGreat
open Go Go.RowKit
set_option linter.unusedVariables false
set_option linter.unusedSimpArgs false
theorem heldShelf_mk (s : Shelf) (h : s.ok) : Ret env.P 24 [.agg (Shelf.mk_ s 1).1.cs, .i .i64 1] (fun r => r = .i .i64 (Shelf.mk_ s 1).2) := by
  have h0 := heldShelf_ok (Shelf.mk_ s 1).1 1 (by omega) (by rw [Shelf.mk_idem]; exact shelf_bound s h) (Shelf.mk_ok s 1 h)
  rw [Shelf.mk_idem] at h0
  have e : heldI (Shelf.mk_ s 1).1 (Shelf.mk_ s 1) = (Shelf.mk_ s 1).2 := heldI_eq rfl
  rwa [e] at h0
theorem mk_len1 (s : Shelf) : s.tables.length = (Shelf.mk_ s 1).1.tables.length := by simp only [Shelf.mk_, markL_len]
theorem mk_len2 (s : Shelf) : s.things.length = (Shelf.mk_ s 1).1.things.length := by simp only [Shelf.mk_, markL_len]
theorem heldThingS_mk (l : List Thing) (k : Int) (h0 : 0 ≤ k) (hk : (markL Thing.mkE l k).2 ≤ 4611686018427387904) (hl : l.length ≤ 1048576) : Ret env.P 25 [slL 3 Thing.cs (markL Thing.mkE l k).1, .i .i64 k] (fun r => r = .i .i64 (markL Thing.mkE l k).2) := by
  have h1 := heldThingS_ok (markL Thing.mkE l k).1 k h0 (by rw [markL_idem Thing.mkE_idem]; exact hk) (by rw [markL_len]; exact hl)
  rw [markL_idem Thing.mkE_idem] at h1
  have e : heldI (markL Thing.mkE l k).1 (markL Thing.mkE l k) = (markL Thing.mkE l k).2 := heldI_eq rfl
  rwa [e] at h1
theorem things_bound (s : Shelf) (h : s.ok) (L : List Thing) (hL : L.length ≤ 1048576) : (markL Thing.mkE L (Shelf.mk_ s 1).2).2 ≤ 4611686018427387904 := by
  have h0 := markL_bound (f := Thing.mkE) (B := 3) L (fun b _ => thing_bound b) (Shelf.mk_ s 1).2
  have h1 := markL_bound (f := Table.mkE) (B := 7340033) s.tables (fun b hb => table_bound b (okL_mem h.1 hb)) 1
  have h2 := markL_bound (f := Thing.mkE) (B := 3) s.things (fun b _ => thing_bound b) (markL Table.mkE s.tables 1).2
  have h3 : s.tables.length ≤ 1048576 := h.1.1
  have h4 : s.things.length ≤ 1048576 := h.2.1
  simp only [Shelf.mk_] at h0 ⊢
  omega
set_option maxRecDepth 8000 in
set_option maxHeartbeats 4000000 in
theorem killErr (s : Shelf) (who : Int)
    (hS : s.ok → RetM env.P 17 [] [.agg s.cs, .i .i64 who] (fun r H => r = .tup [.agg [.i .i64 0, .nils, .nils], .row 0 0] ∧ H = [some (rowL 3 Thing.cs [])]))
    (hI : s.ok → RetM env.P 19 [] [.agg s.cs, .i .i64 who] (fun r H => r = .tup [.agg [.i .i64 0, .nils, .nils], .nils] ∧ H = [])) : Ret env.P 4 [.agg s.cs, .i .i64 who] (fun r => r = .b true) := by
  have b1 : Shelf.sz s 1048576 ≤ 1048576 := Shelf.sz_le _ _ (by omega)
  have b2 := Shelf.mk_mono s 1
  refine ret_of (nt := 117) (rvs := [.tmp 4]) Tryz.func4 rfl rfl rfl rfl (fun X => ?_)
  repeat' (first | exact aa | ((conv => whnf) <;> (first | refine And.intro ?_ ?_ | (intro _h; first | contradiction | (try simp only [dd] at _h)) | (refine dt_go ?_) | exact rfl | exact True.intro | exact dkk | exact dks | ((first | refine .inl ⟨_, szShelf_ok _ _ (by omega) (by omega), ?_⟩ | refine ⟨_, szShelf_ok _ _ (by omega) (by omega), ?_⟩); (try rintro _ rfl)) | (refine wrap_succ ?_; omega))))
  have h1 := Shelf.sz_ok _ _ (by omega) (by omega) _h
  repeat' (first | exact aa | ((conv => whnf) <;> (first | (exfalso; exact ‹¬True› trivial) | refine And.intro ?_ ?_ | (intro _h; first | contradiction | (try simp only [dd] at _h)) | (refine dt_go ?_) | exact rfl | exact True.intro | exact dkk | exact dks | (refine .inr (.inl (.inl ⟨[], _, _, _, toShelfO_ok _ h1, viewA, ⟨rfl, rfl⟩, ?_⟩)); rintro _ _ ⟨rfl, rfl⟩; refine ⟨rfl, _, lokA, ?_⟩) | ((first | refine .inl ⟨_, toShelf_ok _ h1, ?_⟩ | refine ⟨_, toShelf_ok _ h1, ?_⟩); (try rintro _ rfl)) | (refine .inr (.inl (.inr ⟨_, RetM.wka (hS h1), ?_⟩)); rintro _ _ ⟨rfl, rfl⟩; refine ⟨⟨rfl, nssA⟩, _, lokA, ?_⟩) | (refine .inr (.inl (.inr ⟨_, RetM.wka (hI h1), ?_⟩)); rintro _ _ ⟨rfl, rfl⟩; refine ⟨⟨rfl, nssA⟩, _, lokA, ?_⟩) | ((first | refine .inl ⟨_, Ret.wka (eqShelf_ok s s h1), ?_⟩ | refine ⟨_, Ret.wka (eqShelf_ok s s h1), ?_⟩); (try rintro _ rfl)) | ((first | refine .inl ⟨_, Ret.wka (eqShelf_ok ⟨0, [], []⟩ ⟨0, [], []⟩ ⟨⟨Nat.zero_le _, fun k hk => absurd hk (Nat.not_lt_zero _)⟩, Nat.zero_le _, fun k hk => absurd hk (Nat.not_lt_zero _)⟩), ?_⟩ | refine ⟨_, Ret.wka (eqShelf_ok ⟨0, [], []⟩ ⟨0, [], []⟩ ⟨⟨Nat.zero_le _, fun k hk => absurd hk (Nat.not_lt_zero _)⟩, Nat.zero_le _, fun k hk => absurd hk (Nat.not_lt_zero _)⟩), ?_⟩); (try rintro _ rfl)) | ((first | refine .inl ⟨_, Ret.wka (eqThingS_ok [] [] ⟨Nat.zero_le _, fun k hk => absurd hk (Nat.not_lt_zero _)⟩), ?_⟩ | refine ⟨_, Ret.wka (eqThingS_ok [] [] ⟨Nat.zero_le _, fun k hk => absurd hk (Nat.not_lt_zero _)⟩), ?_⟩); (try rintro _ rfl)) | (refine .inr (.inl (.inl ⟨[5, 6], _, _, _, markShelf_ok s 1 (by omega) (shelf_bound s h1) h1, viewA, ⟨rfl, rfl⟩, ?_⟩)); rintro _ _ ⟨rfl, rfl⟩; refine ⟨rfl, _, lokA, ?_⟩) | ((first | refine .inl ⟨_, markShelf_nil _, ?_⟩ | refine ⟨_, markShelf_nil _, ?_⟩); (try rintro _ rfl)) | ((first | refine .inl ⟨_, markThingS_nil _, ?_⟩ | refine ⟨_, markThingS_nil _, ?_⟩); (try rintro _ rfl)) | ((first | refine .inl ⟨_, Ret.wka (heldShelf_ok ⟨0, [], []⟩ 1 (by omega) (by simp only [Shelf.mk_, markL]; omega) ⟨⟨Nat.zero_le _, fun k hk => absurd hk (Nat.not_lt_zero _)⟩, Nat.zero_le _, fun k hk => absurd hk (Nat.not_lt_zero _)⟩), ?_⟩ | refine ⟨_, Ret.wka (heldShelf_ok ⟨0, [], []⟩ 1 (by omega) (by simp only [Shelf.mk_, markL]; omega) ⟨⟨Nat.zero_le _, fun k hk => absurd hk (Nat.not_lt_zero _)⟩, Nat.zero_le _, fun k hk => absurd hk (Nat.not_lt_zero _)⟩), ?_⟩); (try rintro _ rfl)) | ((first | refine .inl ⟨_, Ret.wka (heldThingS_ok [] 1 (by omega) (by simp only [markL]; omega) (Nat.zero_le _)), ?_⟩ | refine ⟨_, Ret.wka (heldThingS_ok [] 1 (by omega) (by simp only [markL]; omega) (Nat.zero_le _)), ?_⟩); (try rintro _ rfl)) | (refine wrap_succ ?_; omega))))
set_option maxRecDepth 8000 in
set_option maxHeartbeats 8000000 in
theorem killFine (s s' : Shelf) (L : List Thing) (who : Int) (h' : s.ok → s'.ok) (hL : s.ok → L.length ≤ 1048576)
    (hS : s.ok → RetM env.P 17 [] [.agg s.cs, .i .i64 who] (fun r H => r = .tup [.agg s'.resO, .row 2 L.length] ∧ H = s'.rowsO ++ [some (rowL 3 Thing.cs L)]))
    (hI : s.ok → RetM env.P 19 [] [.agg s.cs, .i .i64 who] (fun r H => r = .tup [.agg s'.resO, .row 2 L.length] ∧ H = s'.rowsO ++ [some (rowL 3 Thing.cs L)])) : Ret env.P 4 [.agg s.cs, .i .i64 who] (fun r => r = .b true) := by
  have b1 : Shelf.sz s 1048576 ≤ 1048576 := Shelf.sz_le _ _ (by omega)
  have b2 := Shelf.mk_mono s 1
  refine ret_of (nt := 117) (rvs := [.tmp 4]) Tryz.func4 rfl rfl rfl rfl (fun X => ?_)
  repeat' (first | exact aa | ((conv => whnf) <;> (first | refine And.intro ?_ ?_ | (intro _h; first | contradiction | (try simp only [dd] at _h)) | (refine dt_go ?_) | exact rfl | exact True.intro | exact dkk | exact dks | ((first | refine .inl ⟨_, szShelf_ok _ _ (by omega) (by omega), ?_⟩ | refine ⟨_, szShelf_ok _ _ (by omega) (by omega), ?_⟩); (try rintro _ rfl)) | (refine wrap_succ ?_; omega))))
  have h1 := Shelf.sz_ok _ _ (by omega) (by omega) _h
  have h2 := h' h1
  have hL1 := hL h1
  have b3 := Shelf.mk_mono s' 1
  have b4 := shelf_bound s' h2
  have b5 := markL_mono Thing.mkE_mono L (Shelf.mk_ s' 1).2
  have b6 : (markL Thing.mkE L (Shelf.mk_ s' 1).2).2 ≤ 4611686018427387904 := things_bound s' h2 L hL1
  have hO : okL Thing.ok L := ⟨hL1, fun _ _ => trivial⟩
  repeat' (first | exact aa | ((conv => whnf) <;> (first | (exfalso; exact ‹¬True› trivial) | ((first | refine .inl ⟨_, Ret.wk (by ((repeat (first | exact WkL.nil | exact shr_L (d := 1) (k := 3) (mk_len1 _) | exact shr_L (d := 0) (k := 4) (mk_len2 _) | exact shr_L (d := 0) (k := 4) (markL_len _ _).symm | refine WkL.cons ?_ ?_ | exact Wk.refl _ | exact Wk.rfc rfl | refine Wk.fn ?_ | exact Wk.nilS0 | exact shr_L (d := 0) (k := 4) rfl | exact shr_L (d := 1) (k := 3) rfl | exact shr_L (d := 2) (k := 2) rfl | exact shr_L (d := 0) (k := 4) (by simp only [markL_len]) | exact shr_L (d := 1) (k := 3) (by simp only [markL_len]) | refine Wk.agg ?_ | exact shr_L (d := 0) (k := 3) rfl | exact shr_L (d := 1) (k := 2) rfl | exact shr_ow (d := 1) (k := 2) | exact shr_ow (d := 0) (k := 3) | refine Wk.rfLo ?_)); first | done | fail)) (heldShelf_mk s' h2), ?_⟩ | refine ⟨_, Ret.wk (by ((repeat (first | exact WkL.nil | exact shr_L (d := 1) (k := 3) (mk_len1 _) | exact shr_L (d := 0) (k := 4) (mk_len2 _) | exact shr_L (d := 0) (k := 4) (markL_len _ _).symm | refine WkL.cons ?_ ?_ | exact Wk.refl _ | exact Wk.rfc rfl | refine Wk.fn ?_ | exact Wk.nilS0 | exact shr_L (d := 0) (k := 4) rfl | exact shr_L (d := 1) (k := 3) rfl | exact shr_L (d := 2) (k := 2) rfl | exact shr_L (d := 0) (k := 4) (by simp only [markL_len]) | exact shr_L (d := 1) (k := 3) (by simp only [markL_len]) | refine Wk.agg ?_ | exact shr_L (d := 0) (k := 3) rfl | exact shr_L (d := 1) (k := 2) rfl | exact shr_ow (d := 1) (k := 2) | exact shr_ow (d := 0) (k := 3) | refine Wk.rfLo ?_)); first | done | fail)) (heldShelf_mk s' h2), ?_⟩); (try rintro _ rfl)) | ((first | refine .inl ⟨_, Ret.wk (by ((repeat (first | exact WkL.nil | exact shr_L (d := 1) (k := 3) (mk_len1 _) | exact shr_L (d := 0) (k := 4) (mk_len2 _) | exact shr_L (d := 0) (k := 4) (markL_len _ _).symm | refine WkL.cons ?_ ?_ | exact Wk.refl _ | exact Wk.rfc rfl | refine Wk.fn ?_ | exact Wk.nilS0 | exact shr_L (d := 0) (k := 4) rfl | exact shr_L (d := 1) (k := 3) rfl | exact shr_L (d := 2) (k := 2) rfl | exact shr_L (d := 0) (k := 4) (by simp only [markL_len]) | exact shr_L (d := 1) (k := 3) (by simp only [markL_len]) | refine Wk.agg ?_ | exact shr_L (d := 0) (k := 3) rfl | exact shr_L (d := 1) (k := 2) rfl | exact shr_ow (d := 1) (k := 2) | exact shr_ow (d := 0) (k := 3) | refine Wk.rfLo ?_)); first | done | fail)) (heldThingS_mk L (Shelf.mk_ s' 1).2 (by omega) b6 hL1), ?_⟩ | refine ⟨_, Ret.wk (by ((repeat (first | exact WkL.nil | exact shr_L (d := 1) (k := 3) (mk_len1 _) | exact shr_L (d := 0) (k := 4) (mk_len2 _) | exact shr_L (d := 0) (k := 4) (markL_len _ _).symm | refine WkL.cons ?_ ?_ | exact Wk.refl _ | exact Wk.rfc rfl | refine Wk.fn ?_ | exact Wk.nilS0 | exact shr_L (d := 0) (k := 4) rfl | exact shr_L (d := 1) (k := 3) rfl | exact shr_L (d := 2) (k := 2) rfl | exact shr_L (d := 0) (k := 4) (by simp only [markL_len]) | exact shr_L (d := 1) (k := 3) (by simp only [markL_len]) | refine Wk.agg ?_ | exact shr_L (d := 0) (k := 3) rfl | exact shr_L (d := 1) (k := 2) rfl | exact shr_ow (d := 1) (k := 2) | exact shr_ow (d := 0) (k := 3) | refine Wk.rfLo ?_)); first | done | fail)) (heldThingS_mk L (Shelf.mk_ s' 1).2 (by omega) b6 hL1), ?_⟩); (try rintro _ rfl)) | refine And.intro ?_ ?_ | (intro _h; first | contradiction | (try simp only [dd] at _h)) | (refine dt_go ?_) | exact rfl | exact True.intro | exact dkk | exact dks | (refine .inr (.inl (.inl ⟨[], _, _, _, toShelfO_ok _ h1, viewA, ⟨rfl, rfl⟩, ?_⟩)); rintro _ _ ⟨rfl, rfl⟩; refine ⟨rfl, _, lokA, ?_⟩) | ((first | refine .inl ⟨_, toShelf_ok _ h1, ?_⟩ | refine ⟨_, toShelf_ok _ h1, ?_⟩); (try rintro _ rfl)) | (refine .inr (.inl (.inr ⟨_, RetM.wka (hS h1), ?_⟩)); rintro _ _ ⟨rfl, rfl⟩; refine ⟨⟨rfl, nssA⟩, _, lokA, ?_⟩) | (refine .inr (.inl (.inr ⟨_, RetM.wka (hI h1), ?_⟩)); rintro _ _ ⟨rfl, rfl⟩; refine ⟨⟨rfl, nssA⟩, _, lokA, ?_⟩) | ((first | refine .inl ⟨_, Ret.wka (eqShelf_ok s s h1), ?_⟩ | refine ⟨_, Ret.wka (eqShelf_ok s s h1), ?_⟩); (try rintro _ rfl)) | ((first | refine .inl ⟨_, Ret.wka (eqShelf_ok s' s' h2), ?_⟩ | refine ⟨_, Ret.wka (eqShelf_ok s' s' h2), ?_⟩); (try rintro _ rfl)) | ((first | refine .inl ⟨_, Ret.wka (eqThingS_ok L L hO), ?_⟩ | refine ⟨_, Ret.wka (eqThingS_ok L L hO), ?_⟩); (try rintro _ rfl)) | (refine .inr (.inl (.inl ⟨[7, 8], _, _, _, markShelf_ok s 1 (by omega) (shelf_bound s h1) h1, viewA, ⟨rfl, rfl⟩, ?_⟩)); rintro _ _ ⟨rfl, rfl⟩; refine ⟨rfl, _, lokA, ?_⟩) | (refine .inr (.inl (.inl ⟨[10, 11], _, _, _, markShelf_ok s' 1 (by omega) (shelf_bound s' h2) h2, viewA, ⟨rfl, rfl⟩, ?_⟩)); rintro _ _ ⟨rfl, rfl⟩; refine ⟨rfl, _, lokA, ?_⟩) | (refine .inr (.inl (.inl ⟨[12], _, _, _, markThingS_ok L (Shelf.mk_ s' 1).2 (by omega) b6 hL1, viewA, ⟨rfl, rfl⟩, ?_⟩)); rintro _ _ ⟨rfl, rfl⟩; refine ⟨rfl, _, lokA, ?_⟩) | (refine wrap_succ ?_; omega))))
theorem killLaw (s : Shelf) (who : Int) : Ret env.P 4 [.agg s.cs, .i .i64 who] (fun r => r = .b true) := by
  by_cases hm : s.killS who
  · have hi := killS_iff.1 hm
    have hH := (good_H hi.1).1
    have hw2 : who.toNat < s.tables.length := by omega
    exact killFine s (s.killed who.toNat) (s.dead who.toNat) who (fun h => lendU_ok (keep_ok (bared_ok h))) (fun h => by rw [(dead_perm hH hw2).length_eq]; exact Nat.le_trans (own_len hH hw2) (by decide)) (fun h => kill_specF s h who hm) (fun h => kill_implF s h who hi)
  · exact killErr s who (fun h => kill_spec1 s h who hm) (fun h => kill_impl1 s h who fun q => hm (killS_iff.2 q))
theorem rd_Entry : Rd Tryz.prog 191 Entry Entry.cs :=
  rd_st Tryz.underlying191 (by kernel_rfl) rfl (rdF_cons (rd_int Tryz.underlying2) (rdF_cons (rd_int Tryz.underlying2) (rdF_cons (rd_bool Tryz.underlying4) (rdF_cons (rd_int Tryz.underlying2) (rdF_cons (rd_int Tryz.underlying2) (rdF_cons (rd_int Tryz.underlying2) (rdF_cons (rd_int Tryz.underlying2) rdF_nil))))))) (fun p => ⟨p.1, p.2.1, p.2.2.1, p.2.2.2.1, p.2.2.2.2.1, p.2.2.2.2.2.1, p.2.2.2.2.2.2.1⟩) fun _ => rfl
theorem rd_Table : Rd Tryz.prog 152 Table Table.cs :=
  rd_st Tryz.underlying152 (by kernel_rfl) rfl (rdF_cons (rd_int Tryz.underlying2) (rdF_cons (rd_sl Tryz.underlying150 (by kernel_rfl) rd_Entry) rdF_nil)) (fun p => ⟨p.1, p.2.1⟩) fun _ => rfl
theorem rd_Thing : Rd Tryz.prog 157 Thing Thing.cs :=
  rd_st Tryz.underlying157 (by kernel_rfl) rfl (rdF_cons (rd_int Tryz.underlying2) (rdF_cons (rd_int Tryz.underlying2) (rdF_cons (rd_int Tryz.underlying2) rdF_nil))) (fun p => ⟨p.1, p.2.1, p.2.2.1⟩) fun _ => rfl
theorem rd_Shelf : Rd Tryz.prog 47 Shelf Shelf.cs :=
  rd_st Tryz.underlying47 (by kernel_rfl) rfl (rdF_cons (rd_int Tryz.underlying2) (rdF_cons (rd_sl Tryz.underlying44 (by kernel_rfl) rd_Table) (rdF_cons (rd_sl Tryz.underlying45 (by kernel_rfl) rd_Thing) rdF_nil))) (fun p => ⟨p.1, p.2.1, p.2.2.1⟩) fun _ => rfl
namespace fnExactKillTable
theorem law_ret (dss : List (List AV)) (h : TyCs Tryz.prog Tryz.f4.params.toList dss) : Ret Tryz.prog 4 (mkArgs Tryz.prog Tryz.f4.params.toList dss) fun r => r = .b true := by
  obtain ⟨d0, r0, rfl, h0, h⟩ := h.cons_inv
  obtain ⟨d1, r1, rfl, h1, h⟩ := h.cons_inv
  obtain rfl := h.nil_inv
  obtain ⟨s, hs⟩ := arg_agg rd_Shelf (by kernel_rfl) h0
  obtain ⟨sc, hx1⟩ := arg_one (c := fun n => .i .i64 n) (rd_int Tryz.underlying2) (by kernel_rfl) h1
  exact Ret.wk (.cons hs (.cons hx1 .nil)) (killLaw s sc)
end fnExactKillTable
end Go.Proofs.YthggkafdjnheeaaGreat
namespace Go.Proofs.YthggkafdjnheeaaGreat.fnExactKillTable
open Go.ChangeShapes Go.WideShapes Go.ChangeAt Go.RowKit
set_option linter.unusedVariables false
theorem own : ownKnob Tryz.prog.godebug = none := by kernel_rfl
set_option maxRecDepth 100000 in
theorem lifted (os : Os) (started : os.Started) (H : Type) (enc : TypeId × Value → H) :
    ReturnsInHanded {} Tryz.checked os 4 .any (Rows.fnExactKillTableSpec.pre6 enc Tryz.prog Tryz.f4 Rows.fnExactKillTableRow.domain false) (Rows.fnExactKillTableSpec.post enc Tryz.prog Tryz.f4 false true false false) := by
  refine returnsInHanded_of_change (C := Tryz.checked) own started (by kernel_rfl) Tryz.func4
    (ChangeSpec.witness6 (enc := enc) (C := Tryz.checked) false ⟨#[], #[.agg #[.int .i64 0, .slice none 0 0, .slice none 0 0], .int .i64 0], []⟩ 8 (by kernel_rfl) (by kernel_rfl) (by kernel_rfl) (by kernel_rfl)) ?_
  intro W base args ds gs before hval0 hW hcnd _
  refine law_end (k := 9) rfl (by kernel_rfl) (by kernel_rfl) rfl Tryz.underlying4 ?_ (fun dss h => law_ret dss h) hval0 hW
  · rintro ds hl
    match ds, hl with
    | [_, _], _ => rfl
theorem over : Rows.fnExactKillTableRow.holds Tryz.pinned (OpenSpec.ofChange Rows.fnExactKillTableSpec) :=
  OpenClaim.holds_of_wide 4 Tryz.f4 rfl rfl rfl rfl rfl rfl rfl ⟨rfl, rfl, rfl, rfl, rfl⟩ rfl rfl rfl rfl rfl fact_named Tryz.func4 fact_joined fact_inst fact_wrap
    (fun os started H enc _ => lifted os started H enc)
theorem proved : Rows.FnExactKillTableSaid :=
  over
end Go.Proofs.YthggkafdjnheeaaGreat.fnExactKillTable
