/-
  The law FnExactDropIn returns true at every argument. Printed by ymp.py.
-/
import Derived.Test.YtmjjadcmmpfljaaGreatVd38
import Derived.Test.YtmjjadcmmpfljaaGreatVDropInF
import Derived.Test.YtmjjadcmmpfljaaGreatVDropInG
namespace Go.Proofs.YtmjjadcmmpfljaaGreat
open Go Go.RowKit
set_option linter.unusedVariables false
set_option linter.unusedSimpArgs false
theorem int_bound (a : Int) (k : Int) : (Int64.mkE a k).2 ≤ k + (1 : Nat) := by simp only [Int64.mkE]; omega
theorem call_bound (a : Call) (h : a.ok) (k : Int) : (Call.mkE a k).2 ≤ k + (1048579 : Nat) := by
 have h1 := markL_bound (f := Int64.mkE) (B := 1) a.args (fun b _ => int_bound b) (((k + 1) + 1) + 1)
 have h2 : a.args.length ≤ 1048576 := h.1
 simp only [Call.mkE]
 omega
theorem yard_bound (y : Yard) (h : y.ok) : (Yard.mk_ y 1).2 ≤ 4611686018427387904 := by
 have h1 := markL_bound (f := Table.mkE) (B := 7340033) y.shelf.tables (fun b hb => table_bound b (okL_mem h.1.1 hb)) 1
 have h2 := markL_bound (f := Thing.mkE) (B := 3) y.shelf.things (fun b _ => thing_bound b) (markL Table.mkE y.shelf.tables 1).2
 have h3 := markL_bound (f := Call.mkE) (B := 1048579) y.stack (fun b hb => call_bound b (okL_mem h.2.1 hb)) (markL Thing.mkE y.shelf.things (markL Table.mkE y.shelf.tables 1).2).2
 have h4 := markL_bound (f := Int64.mkE) (B := 1) y.dead (fun b _ => int_bound b) (markL Call.mkE y.stack (markL Thing.mkE y.shelf.things (markL Table.mkE y.shelf.tables 1).2).2).2
 have h5 : y.shelf.tables.length ≤ 1048576 := h.1.1.1
 have h6 : y.shelf.things.length ≤ 1048576 := h.1.2.1
 have h7 : y.stack.length ≤ 1048576 := h.2.1.1
 have h8 : y.dead.length ≤ 1048576 := h.2.2.1
 simp only [Yard.mk_]
 omega
theorem heldYard_mk (y : Yard) (h : y.ok) : Ret env.P 13 [.agg (Yard.mk_ y 1).1.cs, .i .i64 1] (fun r => r = .i .i64 (Yard.mk_ y 1).2) := by
 have h0 := heldYard_ok (Yard.mk_ y 1).1 1 (by omega) (by rw [Yard.mk_idem]; exact yard_bound y h) (Yard.mk_ok y 1 h)
 rw [Yard.mk_idem] at h0
 have e : heldI (Yard.mk_ y 1).1 (Yard.mk_ y 1) = (Yard.mk_ y 1).2 := heldI_eq rfl
 rwa [e] at h0
theorem yk_len1 (y : Yard) : y.shelf.tables.length = (Yard.mk_ y 1).1.shelf.tables.length := by simp only [Yard.mk_, markL_len]
theorem yk_len2 (y : Yard) : y.shelf.things.length = (Yard.mk_ y 1).1.shelf.things.length := by simp only [Yard.mk_, markL_len]
theorem yk_len3 (y : Yard) : y.stack.length = (Yard.mk_ y 1).1.stack.length := by simp only [Yard.mk_, markL_len]
theorem yk_len4 (y : Yard) : y.dead.length = (Yard.mk_ y 1).1.dead.length := by simp only [Yard.mk_, markL_len]
set_option maxRecDepth 8000 in
set_option maxHeartbeats 8000000 in
theorem dropInErr (y : Yard) (num c : Int) (hc : ¬ c = 0)
  (hS : y.ok → RetM env.P 7 [] [.agg y.cs, .i .i64 num] (fun r H => r = .tup [.agg yaZ, .agg [.i .i64 0, .i .i64 0, .i .i64 0], .i .i64 c] ∧ H = []))
  (hI : y.ok → RetM env.P 9 [] [.agg y.cs, .i .i64 num] (fun r H => r = .tup [.agg yaZ, .agg [.i .i64 0, .i .i64 0, .i .i64 0], .i .i64 c] ∧ H = [])) : Ret env.P 3 [.agg y.cs, .i .i64 num] (fun r => r = .b true) := by
 have b1 : Yard.sz y 1048576 ≤ 1048576 := Yard.sz_le _ _ (by omega)
 have b2 := Yard.mk_mono y 1
 refine ret_of (nt := 125) (rvs := [.tmp 4]) Tryz.func3 rfl rfl rfl rfl (fun X => ?_)
 repeat' (first | exact aa | ((conv => whnf) <;> (first | refine And.intro ?_ ?_ | (intro _h; first | contradiction | (try simp only [dd] at _h)) | (refine dt_go ?_) | exact rfl | exact True.intro | exact dkk | exact dks | ((first | refine .inl ⟨_, szYard_ok _ _ (by omega) (by omega), ?_⟩ | refine ⟨_, szYard_ok _ _ (by omega) (by omega), ?_⟩); (try rintro _ rfl)) | (refine wrap_succ ?_; omega))))
 have h1 := Yard.sz_ok _ _ (by omega) (by omega) _h
 repeat' (first | exact aa | ((conv => whnf) <;> (first | (exfalso; exact ‹¬True› trivial) | refine And.intro ?_ ?_ | (intro _h; first | contradiction | (try simp only [dd] at _h)) | (refine dt_go ?_) | exact rfl | exact True.intro | exact dkk | exact dks | (refine .inr (.inl (.inl ⟨[], _, _, _, toYardO_ok _ h1, viewA, ⟨rfl, rfl⟩, ?_⟩)); rintro _ _ ⟨rfl, rfl⟩; refine ⟨rfl, _, lokA, ?_⟩) | ((first | refine .inl ⟨_, toYard_ok _ h1, ?_⟩ | refine ⟨_, toYard_ok _ h1, ?_⟩); (try rintro _ rfl)) | (refine .inr (.inl (.inr (.inl ⟨_, RetM.wka (hS h1), ?_⟩))); rintro _ _ ⟨rfl, rfl⟩; refine ⟨⟨rfl, nssA⟩, _, lokA, ?_⟩) | (refine .inr (.inl (.inr (.inl ⟨_, RetM.wka (hI h1), ?_⟩))); rintro _ _ ⟨rfl, rfl⟩; refine ⟨⟨rfl, nssA⟩, _, lokA, ?_⟩) | ((first | refine .inl ⟨_, Ret.wka (eqYard_ok y y h1), ?_⟩ | refine ⟨_, Ret.wka (eqYard_ok y y h1), ?_⟩); (try rintro _ rfl)) | ((first | refine .inl ⟨_, eqThing_ok ⟨0, 0, 0⟩ ⟨0, 0, 0⟩ trivial, ?_⟩ | refine ⟨_, eqThing_ok ⟨0, 0, 0⟩ ⟨0, 0, 0⟩ trivial, ?_⟩); (try rintro _ rfl)) | ((first | refine .inl ⟨_, Ret.wka (eqYard_ok ⟨⟨0, [], []⟩, [], 0, []⟩ ⟨⟨0, [], []⟩, [], 0, []⟩ ⟨⟨⟨Nat.zero_le _, fun k hk => absurd hk (Nat.not_lt_zero _)⟩, Nat.zero_le _, fun k hk => absurd hk (Nat.not_lt_zero _)⟩, ⟨Nat.zero_le _, fun k hk => absurd hk (Nat.not_lt_zero _)⟩, Nat.zero_le _, fun k hk => absurd hk (Nat.not_lt_zero _)⟩), ?_⟩ | refine ⟨_, Ret.wka (eqYard_ok ⟨⟨0, [], []⟩, [], 0, []⟩ ⟨⟨0, [], []⟩, [], 0, []⟩ ⟨⟨⟨Nat.zero_le _, fun k hk => absurd hk (Nat.not_lt_zero _)⟩, Nat.zero_le _, fun k hk => absurd hk (Nat.not_lt_zero _)⟩, ⟨Nat.zero_le _, fun k hk => absurd hk (Nat.not_lt_zero _)⟩, Nat.zero_le _, fun k hk => absurd hk (Nat.not_lt_zero _)⟩), ?_⟩); (try rintro _ rfl)) | (refine .inr (.inl (.inl ⟨[7, 8, 9, 10], _, _, _, markYard_ok y 1 (by omega) (yard_bound y h1) h1, viewA, ⟨rfl, rfl⟩, ?_⟩)); rintro _ _ ⟨rfl, rfl⟩; refine ⟨rfl, _, lokA, ?_⟩) | ((first | refine .inl ⟨_, markYard_nil _, ?_⟩ | refine ⟨_, markYard_nil _, ?_⟩); (try rintro _ rfl)) | ((first | refine .inl ⟨_, Ret.wka (heldYard_ok ⟨⟨0, [], []⟩, [], 0, []⟩ 1 (by omega) (by simp only [Yard.mk_, markL]; omega) ⟨⟨⟨Nat.zero_le _, fun k hk => absurd hk (Nat.not_lt_zero _)⟩, Nat.zero_le _, fun k hk => absurd hk (Nat.not_lt_zero _)⟩, ⟨Nat.zero_le _, fun k hk => absurd hk (Nat.not_lt_zero _)⟩, Nat.zero_le _, fun k hk => absurd hk (Nat.not_lt_zero _)⟩), ?_⟩ | refine ⟨_, Ret.wka (heldYard_ok ⟨⟨0, [], []⟩, [], 0, []⟩ 1 (by omega) (by simp only [Yard.mk_, markL]; omega) ⟨⟨⟨Nat.zero_le _, fun k hk => absurd hk (Nat.not_lt_zero _)⟩, Nat.zero_le _, fun k hk => absurd hk (Nat.not_lt_zero _)⟩, ⟨Nat.zero_le _, fun k hk => absurd hk (Nat.not_lt_zero _)⟩, Nat.zero_le _, fun k hk => absurd hk (Nat.not_lt_zero _)⟩), ?_⟩); (try rintro _ rfl)) | (refine wrap_succ ?_; omega))))
 all_goals trace_state
set_option maxRecDepth 8000 in
set_option maxHeartbeats 16000000 in
theorem dropInFine (y y' : Yard) (num : Int) (x : Thing) (h' : y.ok → y'.ok)
  (hS : y.ok → RetM env.P 7 [] [.agg y.cs, .i .i64 num] (fun r H => r = .tup [.agg y'.resO, .agg x.cs, .i .i64 0] ∧ H = y'.rowsO))
  (hI : y.ok → RetM env.P 9 [] [.agg y.cs, .i .i64 num] (fun r H => r = .tup [.agg y'.resO, .agg x.cs, .i .i64 0] ∧ H = y'.rowsO)) : Ret env.P 3 [.agg y.cs, .i .i64 num] (fun r => r = .b true) := by
 have b1 : Yard.sz y 1048576 ≤ 1048576 := Yard.sz_le _ _ (by omega)
 have b2 := Yard.mk_mono y 1
 refine ret_of (nt := 125) (rvs := [.tmp 4]) Tryz.func3 rfl rfl rfl rfl (fun X => ?_)
 repeat' (first | exact aa | ((conv => whnf) <;> (first | refine And.intro ?_ ?_ | (intro _h; first | contradiction | (try simp only [dd] at _h)) | (refine dt_go ?_) | exact rfl | exact True.intro | exact dkk | exact dks | ((first | refine .inl ⟨_, szYard_ok _ _ (by omega) (by omega), ?_⟩ | refine ⟨_, szYard_ok _ _ (by omega) (by omega), ?_⟩); (try rintro _ rfl)) | (refine wrap_succ ?_; omega))))
 have h1 := Yard.sz_ok _ _ (by omega) (by omega) _h
 have h2 := h' h1
 have b3 := Yard.mk_mono y' 1
 repeat' (first | exact aa | ((conv => whnf) <;> (first | (exfalso; exact ‹¬True› trivial) | ((first | refine .inl ⟨_, Ret.wk (by ((repeat (first | exact WkL.nil | exact shr_L (d := 1) (k := 3) (yk_len1 y') | exact shr_L (d := 0) (k := 4) (yk_len2 y') | exact shr_L (d := 1) (k := 3) (yk_len3 y') | exact shr_L (d := 0) (k := 4) (yk_len4 y') | refine WkL.cons ?_ ?_ | exact Wk.refl _ | exact Wk.rfc rfl | refine Wk.fn ?_ | exact Wk.nilS0 | exact shr_L (d := 0) (k := 4) rfl | exact shr_L (d := 1) (k := 3) rfl | exact shr_L (d := 2) (k := 2) rfl | exact shr_L (d := 0) (k := 4) (by simp only [markL_len]) | exact shr_L (d := 1) (k := 3) (by simp only [markL_len]) | refine Wk.agg ?_ | exact shr_L (d := 0) (k := 3) rfl | exact shr_L (d := 1) (k := 2) rfl | exact shr_ow (d := 1) (k := 2) | exact shr_ow (d := 0) (k := 3) | refine Wk.rfLo ?_)); first | done | fail)) (heldYard_mk y' h2), ?_⟩ | refine ⟨_, Ret.wk (by ((repeat (first | exact WkL.nil | exact shr_L (d := 1) (k := 3) (yk_len1 y') | exact shr_L (d := 0) (k := 4) (yk_len2 y') | exact shr_L (d := 1) (k := 3) (yk_len3 y') | exact shr_L (d := 0) (k := 4) (yk_len4 y') | refine WkL.cons ?_ ?_ | exact Wk.refl _ | exact Wk.rfc rfl | refine Wk.fn ?_ | exact Wk.nilS0 | exact shr_L (d := 0) (k := 4) rfl | exact shr_L (d := 1) (k := 3) rfl | exact shr_L (d := 2) (k := 2) rfl | exact shr_L (d := 0) (k := 4) (by simp only [markL_len]) | exact shr_L (d := 1) (k := 3) (by simp only [markL_len]) | refine Wk.agg ?_ | exact shr_L (d := 0) (k := 3) rfl | exact shr_L (d := 1) (k := 2) rfl | exact shr_ow (d := 1) (k := 2) | exact shr_ow (d := 0) (k := 3) | refine Wk.rfLo ?_)); first | done | fail)) (heldYard_mk y' h2), ?_⟩); (try rintro _ rfl)) | refine And.intro ?_ ?_ | (intro _h; first | contradiction | (try simp only [dd] at _h)) | (refine dt_go ?_) | exact rfl | exact True.intro | exact dkk | exact dks | (refine .inr (.inl (.inl ⟨[], _, _, _, toYardO_ok _ h1, viewA, ⟨rfl, rfl⟩, ?_⟩)); rintro _ _ ⟨rfl, rfl⟩; refine ⟨rfl, _, lokA, ?_⟩) | ((first | refine .inl ⟨_, toYard_ok _ h1, ?_⟩ | refine ⟨_, toYard_ok _ h1, ?_⟩); (try rintro _ rfl)) | (refine .inr (.inl (.inr (.inl ⟨_, RetM.wka (hS h1), ?_⟩))); rintro _ _ ⟨rfl, rfl⟩; refine ⟨⟨rfl, nssA⟩, _, lokA, ?_⟩) | (refine .inr (.inl (.inr (.inl ⟨_, RetM.wka (hI h1), ?_⟩))); rintro _ _ ⟨rfl, rfl⟩; refine ⟨⟨rfl, nssA⟩, _, lokA, ?_⟩) | ((first | refine .inl ⟨_, Ret.wka (eqYard_ok y y h1), ?_⟩ | refine ⟨_, Ret.wka (eqYard_ok y y h1), ?_⟩); (try rintro _ rfl)) | ((first | refine .inl ⟨_, eqThing_ok x x trivial, ?_⟩ | refine ⟨_, eqThing_ok x x trivial, ?_⟩); (try rintro _ rfl)) | ((first | refine .inl ⟨_, Ret.wka (eqYard_ok y' y' h2), ?_⟩ | refine ⟨_, Ret.wka (eqYard_ok y' y' h2), ?_⟩); (try rintro _ rfl)) | (refine .inr (.inl (.inl ⟨[11, 12, 13, 14], _, _, _, markYard_ok y 1 (by omega) (yard_bound y h1) h1, viewA, ⟨rfl, rfl⟩, ?_⟩)); rintro _ _ ⟨rfl, rfl⟩; refine ⟨rfl, _, lokA, ?_⟩) | (refine .inr (.inl (.inl ⟨[16, 17, 18, 19], _, _, _, markYard_ok y' 1 (by omega) (yard_bound y' h2) h2, viewA, ⟨rfl, rfl⟩, ?_⟩)); rintro _ _ ⟨rfl, rfl⟩; refine ⟨rfl, _, lokA, ?_⟩) | (refine wrap_succ ?_; omega))))
 all_goals trace_state
theorem thing_qx {s : Shelf} (hg : s.good) {who num : Int} {x : Entry} (hx : s.at_ who num = some x) : ∃ qx, s.thing x.id = some qx ∧ qx < s.things.length ∧ lastX x.id s.things = s.things.getD qx default ∧ cutX x.id s.things = s.things.eraseIdx qx := by
 obtain ⟨qx, h1, h2⟩ := thing_some hg hx
 obtain ⟨h3, h4, _⟩ := cutX_erase (good_uniqX hg.2.2.1) (show s.things.findIdx? (idP x.id) = some qx from h1)
 exact ⟨qx, h1, h2, h4, h3⟩
theorem ent_eta (e : Entry) : e = ⟨e.num, e.id, e.own, e.lends, e.scope, e.from_, e.fromNum⟩ := by cases e; rfl
theorem dropInLaw (y : Yard) (num : Int) : Ret env.P 3 [.agg y.cs, .i .i64 num] (fun r => r = .b true) := by
 by_cases hm : y.dropS num
 ·have hi := dropIn_iff.1 hm
  have hg := hi.1.1
  have hw := top_tab hi.1
  have ht : 1 ≤ y.shelf.tables.length := by have := hi.1.2.1.1; omega
  generalize hs : y.shelf = s at hg hw ht
  generalize hwho : topV y.stack = who at hw
  rcases at_cases s hw (num := num) with ⟨q, hq, hlt, hA⟩ | hA
  ·have hle : 0 ≤ ((s.tables.getD who.toNat default).entries.getD q default).lends := ((hg.2.2.2.1 who.toNat (by omega)).1 q hlt).2.2
   have hA' := hA
   rw [ent_eta ((s.tables.getD who.toNat default).entries.getD q default)] at hA'
   by_cases hl0 : ((s.tables.getD who.toNat default).entries.getD q default).lends = 0
   ·by_cases ho : ((s.tables.getD who.toNat default).entries.getD q default).own = true
    ·obtain ⟨qx, x1, x2, x3, x4⟩ := thing_qx hg hA
     have e1 : (s.cut who.toNat num).cutT ((s.tables.getD who.toNat default).entries.getD q default).id = ⟨s.next, (s.cut who.toNat num).tables, s.things.eraseIdx qx⟩ := by
      unfold Shelf.cutT
      rw [show (s.cut who.toNat num).things = s.things from rfl, x4]
      rfl
     have hk : y.ok → (⟨s.next, (s.cut who.toNat num).tables, s.things.eraseIdx qx⟩ : Shelf).ok := fun h => ⟨(cut_ok (hs ▸ h.1)).1, by show (s.things.eraseIdx qx).length ≤ _; rw [List.length_eraseIdx_of_lt x2]; exact Nat.le_trans (Nat.sub_le _ _) (hs ▸ h.1.2.1), fun _ _ => trivial⟩
     refine dropInFine y ((⟨s.next, (s.cut who.toNat num).tables, s.things.eraseIdx qx⟩ : Shelf).yd y) num (s.things.getD qx default) (fun h => ⟨hk h, h.2⟩) (fun h => dropIn_specF y _ h num _ hm ?_) (fun h => dropIn_implF y _ h num _ ⟨hk h, h.2⟩ (by show 1 ≤ (s.cut who.toNat num).tables.length; rw [show (s.cut who.toNat num).tables.length = s.tables.length from setE_len]; exact ht) hi (by rw [hs, hwho]; exact drop_own s (hs ▸ h.1) who num hg hw q hq ho hl0 qx x1 x2))
     rw [ho] at hA'
     rw [hs, hwho]
     have := l19Drop_ownY y s (hs ▸ h.1) who num hg hw _ _ _ _ _ _ hA' (by omega)
     rw [x3, e1] at this
     exact this
    ·have ho' : ((s.tables.getD who.toNat default).entries.getD q default).own = false := by simpa using ho
     obtain ⟨⟨x, hx⟩, hne⟩ := orig_some hg hA ho'
     have hx' : (s.cut who.toNat num).at_ ((s.tables.getD who.toNat default).entries.getD q default).from_ ((s.tables.getD who.toNat default).entries.getD q default).fromNum = some x := by rw [cut_at_other (by omega) hne]; exact hx
     obtain ⟨hf, p, hp, _⟩ := at_posD hx'
     have hf' : 0 ≤ ((s.tables.getD who.toNat default).entries.getD q default).from_ ∧ ((s.tables.getD who.toNat default).entries.getD q default).from_ < (s.tables.length : Int) := by rw [show (s.cut who.toNat num).tables.length = s.tables.length from setE_len] at hf; exact hf
     have hb : ((s.tables.getD who.toNat default).entries.getD q default) = ⟨((s.tables.getD who.toNat default).entries.getD q default).num, ((s.tables.getD who.toNat default).entries.getD q default).id, false, ((s.tables.getD who.toNat default).entries.getD q default).lends, ((s.tables.getD who.toNat default).entries.getD q default).scope, ((s.tables.getD who.toNat default).entries.getD q default).from_, ((s.tables.getD who.toNat default).entries.getD q default).fromNum⟩ := by rw [← ho']
     have hk2 : 1 ≤ ((s.cut who.toNat num).setL ((s.tables.getD who.toNat default).entries.getD q default).from_.toNat p (IntKind.i64.wrap ((((s.cut who.toNat num).tables.getD ((s.tables.getD who.toNat default).entries.getD q default).from_.toNat default).entries.getD p default).lends - 1))).tables.length := by
      rw [show ((s.cut who.toNat num).setL ((s.tables.getD who.toNat default).entries.getD q default).from_.toNat p (IntKind.i64.wrap ((((s.cut who.toNat num).tables.getD ((s.tables.getD who.toNat default).entries.getD q default).from_.toNat default).entries.getD p default).lends - 1))).tables.length = (s.cut who.toNat num).tables.length from setE_len, show (s.cut who.toNat num).tables.length = s.tables.length from setE_len]
      exact ht
     refine dropInFine y (((s.cut who.toNat num).setL ((s.tables.getD who.toNat default).entries.getD q default).from_.toNat p (IntKind.i64.wrap ((((s.cut who.toNat num).tables.getD ((s.tables.getD who.toNat default).entries.getD q default).from_.toNat default).entries.getD p default).lends - 1))).yd y) num ⟨0, 0, 0⟩ (fun h => ⟨setL_ok (cut_ok (hs ▸ h.1)), h.2⟩) (fun h => dropIn_specF y _ h num ⟨0, 0, 0⟩ hm (by rw [hs, hwho]; exact l19Drop_borSY y s (hs ▸ h.1) who num hg hw _ _ _ _ _ _ (hA.trans (congrArg some hb)) (by omega) hf' p hp)) (fun h => dropIn_implF y _ h num ⟨0, 0, 0⟩ ⟨setL_ok (cut_ok (hs ▸ h.1)), h.2⟩ hk2 hi (by rw [hs, hwho]; exact drop_bor s (hs ▸ h.1) who num hg hw q hq ho' hl0 hf' p hp))
   ·exact dropInErr y num 12 (by omega) (fun h => dropIn_specE y h num 12 (by omega) hm (by rw [hs, hwho]; exact l19Drop_lentY y s (hs ▸ h.1) who num hg hw _ _ _ _ _ _ _ hA' (by omega))) (fun h => dropIn_implE y h num 12 (by omega) hi (by rw [hs, hwho]; exact drop_lent s (hs ▸ h.1) who num hg hw q hq hl0))
  ·exact dropInErr y num 11 (by omega) (fun h => dropIn_specE y h num 11 (by omega) hm (by rw [hs, hwho]; exact l19Drop_noneY y s (hs ▸ h.1) who num hg hw hA)) (fun h => dropIn_implE y h num 11 (by omega) hi (by rw [hs, hwho]; exact drop_none s (hs ▸ h.1) who num hg hw hA))
 ·exact dropInErr y num 1 (by omega) (fun h => dropIn_spec1 y h num hm) (fun h => dropIn_impl1 y h num fun q => hm (dropIn_iff.2 q))
theorem rd_Entry : Rd Tryz.prog 233 Entry Entry.cs :=
 rd_st Tryz.underlying233 (by kernel_rfl) rfl (rdF_cons (rd_int Tryz.underlying2) (rdF_cons (rd_int Tryz.underlying2) (rdF_cons (rd_bool Tryz.underlying4) (rdF_cons (rd_int Tryz.underlying2) (rdF_cons (rd_int Tryz.underlying2) (rdF_cons (rd_int Tryz.underlying2) (rdF_cons (rd_int Tryz.underlying2) rdF_nil))))))) (fun p => ⟨p.1, p.2.1, p.2.2.1, p.2.2.2.1, p.2.2.2.2.1, p.2.2.2.2.2.1, p.2.2.2.2.2.2.1⟩) fun _ => rfl
theorem rd_Table : Rd Tryz.prog 156 Table Table.cs :=
 rd_st Tryz.underlying156 (by kernel_rfl) rfl (rdF_cons (rd_int Tryz.underlying2) (rdF_cons (rd_sl Tryz.underlying154 (by kernel_rfl) rd_Entry) rdF_nil)) (fun p => ⟨p.1, p.2.1⟩) fun _ => rfl
theorem rd_Thing : Rd Tryz.prog 159 Thing Thing.cs :=
 rd_st Tryz.underlying159 (by kernel_rfl) rfl (rdF_cons (rd_int Tryz.underlying2) (rdF_cons (rd_int Tryz.underlying2) (rdF_cons (rd_int Tryz.underlying2) rdF_nil))) (fun p => ⟨p.1, p.2.1, p.2.2.1⟩) fun _ => rfl
theorem rd_Shelf : Rd Tryz.prog 25 Shelf Shelf.cs :=
 rd_st Tryz.underlying25 (by kernel_rfl) rfl (rdF_cons (rd_int Tryz.underlying2) (rdF_cons (rd_sl Tryz.underlying22 (by kernel_rfl) rd_Table) (rdF_cons (rd_sl Tryz.underlying23 (by kernel_rfl) rd_Thing) rdF_nil))) (fun p => ⟨p.1, p.2.1, p.2.2.1⟩) fun _ => rfl
theorem rd_Call : Rd Tryz.prog 105 Call Call.cs :=
 rd_st Tryz.underlying105 (by kernel_rfl) rfl (rdF_cons (rd_int Tryz.underlying2) (rdF_cons (rd_int Tryz.underlying2) (rdF_cons (rd_int Tryz.underlying2) (rdF_cons (rd_sl Tryz.underlying27 (by kernel_rfl) (rd_int Tryz.underlying2)) rdF_nil)))) (fun p => ⟨p.1, p.2.1, p.2.2.1, p.2.2.2.1⟩) fun _ => rfl
theorem rd_Yard : Rd Tryz.prog 29 Yard Yard.cs :=
 rd_st Tryz.underlying29 (by kernel_rfl) rfl (rdF_cons rd_Shelf (rdF_cons (rd_sl Tryz.underlying26 (by kernel_rfl) rd_Call) (rdF_cons (rd_int Tryz.underlying2) (rdF_cons (rd_sl Tryz.underlying27 (by kernel_rfl) (rd_int Tryz.underlying2)) rdF_nil)))) (fun p => ⟨p.1, p.2.1, p.2.2.1, p.2.2.2.1⟩) fun _ => rfl
namespace fnExactDropIn
theorem law_ret (dss : List (List AV)) (h : TyCs Tryz.prog Tryz.f3.params.toList dss) : Ret Tryz.prog 3 (mkArgs Tryz.prog Tryz.f3.params.toList dss) fun r => r = .b true := by
 obtain ⟨d0, r0, rfl, h0, h⟩ := h.cons_inv
 obtain ⟨d1, r1, rfl, h1, h⟩ := h.cons_inv
 obtain rfl := h.nil_inv
 obtain ⟨y, hy⟩ := arg_agg rd_Yard (by kernel_rfl) h0
 obtain ⟨num, hx1⟩ := arg_one (c := fun n => .i .i64 n) (rd_int Tryz.underlying2) (by kernel_rfl) h1
 exact Ret.wk (.cons hy (.cons hx1 .nil)) (dropInLaw y num)
end fnExactDropIn
end Go.Proofs.YtmjjadcmmpfljaaGreat
namespace Go.Proofs.YtmjjadcmmpfljaaGreat.fnExactDropIn
open Go.ChangeShapes Go.WideShapes Go.ChangeAt Go.RowKit
set_option linter.unusedVariables false
theorem own : ownKnob Tryz.prog.godebug = none := by kernel_rfl
set_option maxRecDepth 100000 in
theorem lifted (os : Os) (started : os.Started) (H : Type) (enc : TypeId × Go.Value → H) :
  ReturnsInHanded {} Tryz.checked os 3 .any (Rows.fnExactDropInSpec.pre6 enc Tryz.prog Tryz.f3 Rows.fnExactDropInRow.domain false) (Rows.fnExactDropInSpec.post enc Tryz.prog Tryz.f3 false true false false) := by
 refine returnsInHanded_of_change (C := Tryz.checked) own started (by kernel_rfl) Tryz.func3
  (ChangeSpec.witness6 (enc := enc) (C := Tryz.checked) false ⟨#[], #[.agg #[.int .i64 0, .slice none 0 0, .slice none 0 0, .slice none 0 0, .int .i64 0, .slice none 0 0], .int .i64 0], []⟩ 8 (by kernel_rfl) (by kernel_rfl) (by kernel_rfl) (by kernel_rfl)) ?_
 intro W base args ds gs before hval0 hW hcnd _
 refine law_end (k := closeT Tryz.prog 9 Tryz.f3.params.toList) rfl (by kernel_rfl) (by kernel_rfl) rfl Tryz.underlying4 ?_ (fun dss h => law_ret dss h) hval0 hW
 ·rintro ds hl
  match ds, hl with
  | [_, _], _ => rfl
theorem over : Rows.fnExactDropInRow.holds Tryz.pinned (OpenSpec.ofChange Rows.fnExactDropInSpec) :=
 OpenClaim.holds_of_wide 3 Tryz.f3 rfl rfl rfl rfl rfl rfl rfl ⟨rfl, rfl, rfl, rfl, rfl⟩ rfl rfl rfl rfl rfl fact_named Tryz.func3 fact_joined fact_inst fact_wrap
  (fun os started H enc _ => lifted os started H enc)
theorem proved : Rows.FnExactDropInSaid :=
 over
end Go.Proofs.YtmjjadcmmpfljaaGreat.fnExactDropIn
