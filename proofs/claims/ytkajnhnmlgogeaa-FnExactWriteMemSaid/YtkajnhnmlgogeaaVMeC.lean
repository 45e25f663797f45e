/-
  Memories: writing.
-/
import Derived.Test.YtkajnhnmlgogeaaVMeB
import Derived.Test.YtkajnhnmlgogeaaVOMemory
namespace Go.Proofs.Ytkajnhnmlgogeaa
open Go Go.RowKit
set_option linter.unusedVariables false
set_option linter.unusedSimpArgs false

def byteAt (x : ByteArray) (i : Nat) : UInt8 := x.data.getD i 0
theorem byteAt_app (x y : ByteArray) (i : Nat) : byteAt (x ++ y) i = if i < x.size then byteAt x i else byteAt y (i - x.size) := by
  unfold byteAt
  rw [ByteArray.data_append]
  simp only [Array.getD_eq_getD_getElem?]
  have e : x.data.size = x.size := rfl
  split
  · rw [Array.getElem?_append_left (by omega)]
  · rw [Array.getElem?_append_right (by omega), e]
theorem byteAt_ext (x : ByteArray) (a b i : Nat) (hb : b ≤ x.size) (h : a + i < b) : byteAt (x.extract a b) i = byteAt x (a + i) := by
  unfold byteAt
  rw [ByteArray.data_extract]
  simp only [Array.getD_eq_getD_getElem?]
  have e : x.data.size = x.size := rfl
  rw [Array.getElem?_extract, if_pos (by omega)]
theorem bytesG_at (x : ByteArray) (i j : Nat) : bytesG x i j = .i .u8 ((byteAt x i).toNat : Int) := rfl
def Memory.wr (m : Memory) (at' : Int) (b : ByteArray) : Memory := ⟨m.bytes.extract 0 at'.toNat ++ b ++ m.bytes.extract (at' + b.size).toNat m.bytes.size, m.free⟩
theorem ba_app (x y : ByteArray) : (x ++ y).size = x.size + y.size := ByteArray.size_append
theorem ba_ext (x : ByteArray) (a b : Nat) (h : b ≤ x.size) : (x.extract a b).size = b - a := by rw [ByteArray.size_extract]; omega
theorem Memory.wr_size {m : Memory} {at' : Int} {b : ByteArray} (hh : m.has at' b.size) : (m.wr at' b).bytes.size = m.bytes.size := by
  obtain ⟨q1, q2, q3, q4⟩ := hh
  unfold Memory.wr
  rw [ba_app, ba_app, ba_ext _ _ _ (by omega), ba_ext _ _ _ (Nat.le_refl _)]
  omega
theorem Memory.wr_at {m : Memory} {at' : Int} {b : ByteArray} (hh : m.has at' b.size) {i : Nat} (hi : i < m.bytes.size) : byteAt (m.wr at' b).bytes i = if at'.toNat ≤ i ∧ i < at'.toNat + b.size then byteAt b (i - at'.toNat) else byteAt m.bytes i := by
  obtain ⟨q1, q2, q3, q4⟩ := hh
  unfold Memory.wr
  rw [byteAt_app, byteAt_app, ba_app, ba_ext _ _ _ (by omega)]
  by_cases h1 : i < at'.toNat
  · rw [if_pos (by omega), if_pos (by omega), if_neg (by omega), byteAt_ext _ _ _ _ (by omega) (by omega), Nat.zero_add]
  · by_cases h2 : i < at'.toNat + b.size
    · rw [if_pos (by omega), if_neg (by omega), if_pos (by omega), Nat.sub_zero]
    · rw [if_neg (by omega), if_neg (by omega), byteAt_ext _ _ _ _ (by omega) (by omega)]
      congr 1
      omega
theorem Memory.wr_ok {m : Memory} {at' : Int} {b : ByteArray} (h : m.ok) (hh : m.has at' b.size) : (m.wr at' b).ok := ⟨by have := Memory.wr_size hh; have := h.1; unfold okS at *; omega, h.2⟩
theorem wr_row {m : Memory} {at' : Int} {b : ByteArray} (hh : m.has at' b.size) {k : Nat} (hk : k = b.size) : OwEq (.ow 1 m.bytes.size (segE at'.toNat k (bytesG b) (bytesG m.bytes))) (.ow 1 (m.wr at' b).bytes.size (bytesG (m.wr at' b).bytes)) := by
  rw [Memory.wr_size hh]
  subst hk
  refine .ow (fun i j _ _ => trivial) fun i j hi hj => ?_
  have e : segE at'.toNat b.size (bytesG b) (bytesG m.bytes) i j = bytesG (m.wr at' b).bytes i j := by
    rw [bytesG_at, Memory.wr_at hh hi]
    split
    · rename_i q; rw [segE_in q.1 q.2]; rfl
    · rename_i q; rw [segE_out q]; rfl
  rw [e]
  exact .refl _
theorem segB_rowO (n o k : Nat) (b c : ByteArray) : RowO n ⟨1, n, segE o k (bytesG b) (bytesG c), .arr⟩ := ⟨Nat.le_refl _, fun i j _ _ => by
  show (segE o k (bytesG b) (bytesG c) i j).idfO
  unfold segE
  cases (Nat.ble o i && Nat.blt i (o + k)) <;> trivial⟩
theorem srcOk_bytes (b : ByteArray) {n : Nat} : SrcOk n 1 (bytesG b) := ⟨fun i j _ _ => rfl⟩
set_option maxRecDepth 8000 in
theorem write_no (m : Memory) (at' : Int) (b : ByteArray) (h : m.ok) (hh : ¬ m.has at' b.size) : RetM env.P 23 [some (boxRow m.stO)] [.ptr 0 0 0, .i .i64 at', .s b] (fun r H => r = .kb false ∧ H = [some (boxRow m.stO)]) := by
  refine ret_ofM (nt := 21) (rvs := [.tmp 6]) Try.func23 rfl rfl rfl rfl (fun X hX => ?_)
  repeat' (first | exact aa | ((conv => whnf) <;> (first | exact absurd ‹_› hh | refine And.intro ?_ ?_ | (intro _h; first | contradiction | (try simp only [dd] at _h)) | (refine dt_go ?_) | exact rfl | exact True.intro | exact dkk | exact dks | ((first | refine .inl ⟨_, length_s _, ?_⟩ | refine ⟨_, length_s _, ?_⟩); (try rintro _ rfl)) | ((first | refine .inl ⟨_, Ret.wka (inBounds_ok m at' b.size h), ?_⟩ | refine ⟨_, Ret.wka (inBounds_ok m at' b.size h), ?_⟩); (try rintro _ rfl)) | (refine wrap_succ ?_; omega))))
  all_goals (conv => whnf)
  all_goals exact endM_pick [0] [some (boxRow m.stO)] (.kb false) (view_of rfl (.cons rfl (.self (rowPl_box rfl)) .nil)) rfl rfl (by rw [hX]; exact keepK (n := 1) rfl rfl) ⟨rfl, rfl⟩
set_option maxRecDepth 8000 in
theorem write_yes (m : Memory) (at' : Int) (b : ByteArray) (h : m.ok) (hh : m.has at' b.size) : RetM env.P 23 [some (boxRow m.stO)] [.ptr 0 0 0, .i .i64 at', .s b] (fun r H => r = .kb true ∧ H = [some (boxRow (m.wr at' b).stO)]) := by
  obtain ⟨q1, q2, q3, q4⟩ := id hh
  refine ret_ofM (nt := 21) (rvs := [.tmp 6]) Try.func23 rfl rfl rfl rfl (fun X hX => ?_)
  repeat' (first | exact aa | ((conv => whnf) <;> (first | exact absurd hh ‹_› | exact (show ((m.bytes.size : Nat) : Int) ≤ (m.bytes.size : Nat) from Int.le_refl _) | exact srcOk_bytes _ | refine And.intro ?_ ?_ | (intro _h; first | contradiction | (try simp only [dd] at _h)) | (refine dt_go ?_) | exact rfl | exact True.intro | exact dkk | exact dks | ((first | refine .inl ⟨_, length_s _, ?_⟩ | refine ⟨_, length_s _, ?_⟩); (try rintro _ rfl)) | ((first | refine .inl ⟨_, Ret.wka (inBounds_ok m at' b.size h), ?_⟩ | refine ⟨_, Ret.wka (inBounds_ok m at' b.size h), ?_⟩); (try rintro _ rfl)) | (refine wrap_succ ?_; omega))))
  all_goals (conv => whnf)
  refine endM_turn (turn_close (id := 0) (i := 0) (j := 0) (id' := 1) rfl (show 0 < 1 by decide) (show 0 < 2 by decide) rfl rfl (show 0 ≠ 1 by decide) rfl (segB_rowO _ _ _ _ _)) ?_
  refine endM_turn (turn_box (id := 0) (ds := (m.wr at' b).stO) rfl rfl rfl (.cons (wr_row hh (by omega)) (.cons (.refl _) .nil))) ?_
  exact endM_pick [0] [some (boxRow (m.wr at' b).stO)] (.kb true) (view_of rfl (.cons rfl (.self (rowPl_box rfl)) .nil)) rfl rfl (by rw [hX]; exact keepK (n := 1) rfl rfl) ⟨rfl, rfl⟩
theorem endM_aggN {X : Ctx} {H : Hp} {b : ByteArray} {sz : Nat} {g : Nat → Nat → AV} {post : AV → Hp → Prop} (hX : X.H0 = []) (h : post (.agg [.s b, .row 0 0]) [some ⟨sz, 0, g, .arr⟩]) : EndM X H (.agg [.s b, .nils]) post :=
  ⟨fun w blk FP u hR hc he => by
    refine ⟨_, _, fun _ => ⟨0, 0⟩, fun _ => [], h, ⟨fun id r hr => ?_, fun i j r r' hi hj hij b hb => (by cases hb), fun b hb => ⟨hb.2.1, fun _ _ _ => (by simp)⟩⟩, ?_, by rw [hX]; exact fun id x hx => by simp at hx, fun b hb => by obtain ⟨_, _, _, hb⟩ := hb; cases hb⟩
    · cases id with
      | zero => cases hr; exact ⟨.inl ⟨rfl, rfl, .inl ⟨rfl, rfl⟩⟩, fun b hb => by cases hb⟩
      | succ n => simp at hr
    · obtain ⟨us, rfl, hl, hu⟩ := inv_agg hc
      match us, hl, hu with
      | [u1, u2], _, hu =>
        have e1 := inv_s (hu 0 _ _ rfl rfl)
        have e2 := inv_nils (hu 1 _ _ rfl rfl)
        obtain ⟨e1, e3⟩ := e1
        subst e1 e2
        refine .agg _ _ rfl fun j c u hj hu' => ?_
        match j with
        | 0 => cases hj; cases hu'; exact .s e3
        | 1 => cases hj; cases hu'; exact .row0 _ rfl rfl rfl _
        | j + 2 => simp at hj⟩
theorem bytes_all (b : ByteArray) : bytesOf b.size (bytesG b) = b := by
  have := bytes_cut (b := b) (a := 0) (n := b.size) (by omega)
  simp only [Nat.zero_add] at this
  rw [this]
  refine ByteArray.ext ?_
  rw [ByteArray.data_extract]
  exact Array.extract_size
set_option maxRecDepth 8000 in
theorem memory_ok (m : Memory) (h : m.ok) : RetM env.P 24 [] [rfL m.st] (fun r H => r = .agg m.resO ∧ H = m.rowsO) := by
  have hl := h.2.1
  refine ret_ofM (nt := 14) (rvs := [.cell 2 30]) Try.func24 rfl rfl rfl rfl (fun X hX => ?_)
  repeat' (first | exact aa | ((conv => whnf) <;> (first | exact ⟨fun i _ => ⟨_, rfl⟩⟩ | ((refine .inr (.inl (.inl ⟨[], _, _, _, cloneBlock_ok _ hl, (view_of rfl .nil), ⟨rfl, rfl⟩, ?_⟩))); rintro _ _ (⟨hn, rfl, rfl⟩ | ⟨rfl, rfl⟩) <;> refine ⟨rfl, _, lokA, ?_⟩) | refine And.intro ?_ ?_ | (intro _h; first | contradiction | (try simp only [dd] at _h)) | (refine dt_go ?_) | exact rfl | exact True.intro | exact dkk | exact dks | (refine wrap_succ ?_; omega))))
  all_goals (conv => whnf)
  all_goals rw [bytes_all]
  · refine endM_aggN (sz := 2) (g := elE Block.cs m.free) hX ⟨?_, ?_⟩
    · unfold Memory.resO; rw [hn]; rfl
    · unfold Memory.rowsO rowL; rw [hn]; rfl
  · exact endM_pick [1] m.rowsO (.agg m.resO) viewA rfl rfl (fun k hk => by rw [hX] at hk; exact absurd hk (Nat.not_lt_zero _)) ⟨rfl, rfl⟩
set_option maxRecDepth 8000 in
theorem l10Own_ok (m : Memory) (h : m.ok) : RetM env.P 34 [] [.agg m.cs] (fun r H => r = .agg m.resO ∧ H = m.rowsO) := by
  have hl := h.2.1
  refine ret_ofM (nt := 10) (rvs := [.cell 2 30]) Try.func34 rfl rfl rfl rfl (fun X hX => ?_)
  repeat' (first | exact aa | ((conv => whnf) <;> (first | exact capB0 hl (by decide) | exact capN0 hl | refine And.intro ?_ ?_ | (intro _h; first | contradiction | (try simp only [dd] at _h)) | (refine dt_go ?_) | exact rfl | exact True.intro | exact dkk | exact dks | (refine wrap_succ ?_; omega))))
  all_goals (conv => whnf)
  exact endM_pick [3] m.rowsO (.agg [.s m.bytes, .row 0 (0 + m.free.length)]) (view_of rfl (.cons rfl (.L (Nat.zero_add _).symm (fun _ => rfl)) .nil)) rfl rfl (fun k hk => by rw [hX] at hk; exact absurd hk (Nat.not_lt_zero _)) ⟨by rw [Nat.zero_add]; rfl, rfl⟩
theorem noM : Memory.resO ⟨ByteArray.empty, []⟩ = [.s ByteArray.empty, .row 0 0] := rfl
set_option maxRecDepth 8000 in
theorem l10Write_no (m : Memory) (at' : Int) (b : ByteArray) (h : m.ok) (hh : ¬ m.has at' b.size) : RetM env.P 22 [] [.agg m.cs, .i .i64 at', .s b] (fun r H => r = .tup [.agg [.s ByteArray.empty, .nils], .i .i64 10] ∧ H = []) := by
  refine ret_ofM (nt := 35) (rvs := [.cell 6 30, .tmp 7]) Try.func22 rfl rfl rfl rfl (fun X hX => ?_)
  repeat' (first | exact aa | ((conv => whnf) <;> (first | exact absurd ‹_› hh | refine And.intro ?_ ?_ | (intro _h; first | contradiction | (try simp only [dd] at _h)) | (refine dt_go ?_) | exact rfl | exact True.intro | exact dkk | exact dks | ((first | refine .inl ⟨_, l10In_ok m _ _ h, ?_⟩ | refine ⟨_, l10In_ok m _ _ h, ?_⟩); (try rintro _ rfl)) | (refine wrap_succ ?_; omega))))
  all_goals (conv => whnf)
  all_goals exact endM_pick [] [] (.tup [.agg [.s ByteArray.empty, .nils], .i .i64 10]) (view_of rfl .nil) rfl rfl (fun k hk => by rw [hX] at hk; exact absurd hk (Nat.not_lt_zero _)) ⟨rfl, rfl⟩
theorem cat_max1 {m : Memory} {at' : Int} {b : ByteArray} (hM : m.bytes.size ≤ 1048576) (hh : m.has at' b.size) : (m.bytes.extract (Int.toNat 0) at'.toNat).size + b.size ≤ maxLen := by
  obtain ⟨q1, q2, q3, q4⟩ := hh
  rw [ba_ext _ _ _ (by omega)]; unfold maxLen; omega
theorem cat_max2 {m : Memory} {at' : Int} {b : ByteArray} (hM : m.bytes.size ≤ 1048576) (hh : m.has at' b.size) : (m.bytes.extract (Int.toNat 0) at'.toNat ++ b).size + (m.bytes.extract (at' + b.size).toNat (m.bytes.size : Int).toNat).size ≤ maxLen := by
  obtain ⟨q1, q2, q3, q4⟩ := hh
  rw [ba_app, ba_ext _ _ _ (by omega), ba_ext _ _ _ (by omega)]; unfold maxLen; omega
set_option maxRecDepth 8000 in
set_option maxHeartbeats 1000000 in
theorem l10Write_yes (m : Memory) (at' : Int) (b : ByteArray) (h : m.ok) (hh : m.has at' b.size) : RetM env.P 22 [] [.agg m.cs, .i .i64 at', .s b] (fun r H => r = .tup [.agg (m.wr at' b).resO, .i .i64 0] ∧ H = (m.wr at' b).rowsO) := by
  obtain ⟨q1, q2, q3, q4⟩ := id hh
  have e := has_add h hh
  have hM : m.bytes.size ≤ 1048576 := h.1
  refine ret_ofM (nt := 35) (rvs := [.cell 6 30, .tmp 7]) Try.func22 rfl rfl rfl rfl (fun X hX => ?_)
  repeat' (first | exact aa | ((conv => whnf) <;> (first | exact absurd hh ‹_› | (rw [e]; omega) | exact cat_max1 hM hh | (rw [e]; exact cat_max2 hM hh) | refine And.intro ?_ ?_ | (intro _h; first | contradiction | (try simp only [dd] at _h)) | (refine dt_go ?_) | exact rfl | exact True.intro | exact dkk | exact dks | ((first | refine .inl ⟨_, l10In_ok m _ _ h, ?_⟩ | refine ⟨_, l10In_ok m _ _ h, ?_⟩); (try rintro _ rfl)) | (refine .inr (.inl (.inr (.inl ⟨_, RetM.wka (l10Own_ok m h), ?_⟩))); rintro _ _ ⟨rfl, rfl⟩; refine ⟨⟨rfl, nssA⟩, _, lokA, ?_⟩) | (refine wrap_succ ?_; omega))))
  all_goals (conv => whnf)
  exact endM_pick [2] (m.wr at' b).rowsO (.tup [.agg [.s _, .row 0 m.free.length], .i .i64 0]) viewA rfl rfl (fun k hk => by rw [hX] at hk; exact absurd hk (Nat.not_lt_zero _)) ⟨by rw [e]; rfl, rfl⟩
/-- It is written. -/
def Memory.wrS (m : Memory) (at' : Int) (b : ByteArray) : Prop := m.good ∧ m.has at' b.size
noncomputable def Memory.wrC (m : Memory) (at' : Int) (b : ByteArray) : Int := bif pb m.good then 10 else 1
set_option maxRecDepth 8000 in
theorem writeMem_spec_no (m : Memory) (at' : Int) (b : ByteArray) (h : m.ok) (hh : ¬ m.wrS at' b) : RetM env.P 10 [] [.agg m.cs, .i .i64 at', .s b] (fun r H => r = .tup [.agg [.s ByteArray.empty, .nils], .i .i64 (m.wrC at' b)] ∧ H = []) := by
  by_cases hg : m.good
  · have hn : ¬ m.has at' b.size := fun q => hh ⟨hg, q⟩
    have e : m.wrC at' b = 10 := by unfold Memory.wrC; rw [pb_t.mpr hg]; rfl
    rw [e]
    refine ret_ofM (nt := 18) (rvs := [.cell 6 30, .tmp 7]) Try.func10 rfl rfl rfl rfl (fun X hX => ?_)
    repeat' (first | exact aa | ((conv => whnf) <;> (first | exact absurd hg ‹_› | refine And.intro ?_ ?_ | (intro _h; first | contradiction | (try simp only [dd] at _h)) | (refine dt_go ?_) | exact rfl | exact True.intro | exact dkk | exact dks | ((first | refine .inl ⟨_, memoryOk_spec m h, ?_⟩ | refine ⟨_, memoryOk_spec m h, ?_⟩); (try rintro _ rfl)) | (refine .inr (.inl (.inr (.inl ⟨_, RetM.wka (l10Write_no m _ _ h hn), ?_⟩))); rintro _ _ ⟨rfl, rfl⟩; refine ⟨⟨rfl, nssA⟩, _, lokA, ?_⟩) | (refine wrap_succ ?_; omega))))
    all_goals (conv => whnf)
    all_goals exact endM_pick [] [] (.tup [.agg [.s ByteArray.empty, .nils], .i .i64 10]) (view_of rfl .nil) rfl rfl (fun k hk => by rw [hX] at hk; exact absurd hk (Nat.not_lt_zero _)) ⟨rfl, rfl⟩
  · have e : m.wrC at' b = 1 := by unfold Memory.wrC; rw [pb_f.mpr hg]; rfl
    rw [e]
    refine ret_ofM (nt := 18) (rvs := [.cell 6 30, .tmp 7]) Try.func10 rfl rfl rfl rfl (fun X hX => ?_)
    repeat' (first | exact aa | ((conv => whnf) <;> (first | exact absurd (Classical.not_not.1 ‹_›) hg | refine And.intro ?_ ?_ | (intro _h; first | contradiction | (try simp only [dd] at _h)) | (refine dt_go ?_) | exact rfl | exact True.intro | exact dkk | exact dks | ((first | refine .inl ⟨_, memoryOk_spec m h, ?_⟩ | refine ⟨_, memoryOk_spec m h, ?_⟩); (try rintro _ rfl)) | (refine wrap_succ ?_; omega))))
    all_goals (conv => whnf)
    all_goals exact endM_pick [] [] (.tup [.agg [.s ByteArray.empty, .nils], .i .i64 1]) (view_of rfl .nil) rfl rfl (fun k hk => by rw [hX] at hk; exact absurd hk (Nat.not_lt_zero _)) ⟨rfl, rfl⟩
set_option maxRecDepth 8000 in
theorem writeMem_spec_yes (m : Memory) (at' : Int) (b : ByteArray) (h : m.ok) (hh : m.wrS at' b) : RetM env.P 10 [] [.agg m.cs, .i .i64 at', .s b] (fun r H => r = .tup [.agg (m.wr at' b).resO, .i .i64 0] ∧ H = (m.wr at' b).rowsO) := by
  have hg := hh.1
  refine ret_ofM (nt := 18) (rvs := [.cell 6 30, .tmp 7]) Try.func10 rfl rfl rfl rfl (fun X hX => ?_)
  repeat' (first | exact aa | ((conv => whnf) <;> (first | exact absurd hg ‹_› | refine And.intro ?_ ?_ | (intro _h; first | contradiction | (try simp only [dd] at _h)) | (refine dt_go ?_) | exact rfl | exact True.intro | exact dkk | exact dks | ((first | refine .inl ⟨_, memoryOk_spec m h, ?_⟩ | refine ⟨_, memoryOk_spec m h, ?_⟩); (try rintro _ rfl)) | (refine .inr (.inl (.inr (.inl ⟨_, RetM.wka (l10Write_yes m _ _ h hh.2), ?_⟩))); rintro _ _ ⟨rfl, rfl⟩; refine ⟨⟨rfl, nssA⟩, _, lokA, ?_⟩) | (refine wrap_succ ?_; omega))))
  all_goals (conv => whnf)
  exact endM_pick [2] (m.wr at' b).rowsO (.tup [.agg (m.wr at' b).resO, .i .i64 0]) viewA rfl rfl (fun k hk => by rw [hX] at hk; exact absurd hk (Nat.not_lt_zero _)) ⟨rfl, rfl⟩
set_option maxRecDepth 8000 in
theorem writeMem_impl_no (m : Memory) (at' : Int) (b : ByteArray) (h : m.ok) (hh : ¬ m.wrS at' b) : RetM env.P 11 [] [.agg m.cs, .i .i64 at', .s b] (fun r H => r = .tup [.agg [.s ByteArray.empty, .nils], .i .i64 (m.wrC at' b)] ∧ H = []) := by
  by_cases hg : m.good
  · have hn : ¬ m.has at' b.size := fun q => hh ⟨hg, q⟩
    have e : m.wrC at' b = 10 := by unfold Memory.wrC; rw [pb_t.mpr hg]; rfl
    rw [e]
    refine ret_ofM (nt := 23) (rvs := [.cell 6 30, .tmp 7]) Try.func11 rfl rfl rfl rfl (fun X hX => ?_)
    repeat' (first | exact aa | ((conv => whnf) <;> (first | exact absurd hg ‹_› | refine And.intro ?_ ?_ | (intro _h; first | contradiction | (try simp only [dd] at _h)) | (refine dt_go ?_) | exact rfl | exact True.intro | exact dkk | exact dks | ((first | refine .inl ⟨_, memoryOk_impl m h, ?_⟩ | refine ⟨_, memoryOk_impl m h, ?_⟩); (try rintro _ rfl)) | (refine .inr (.inl (.inl ⟨[], _, _, _, storeOf_ok m h, viewA, ⟨rfl, rfl⟩, ?_⟩)); rintro _ _ ⟨rfl, rfl⟩; refine ⟨rfl, _, lokA, ?_⟩) | (refine .inr (.inl (.inl ⟨[2], _, _, _, write_no m _ _ h hn, viewA, ⟨rfl, rfl⟩, ?_⟩)); rintro _ _ ⟨rfl, rfl⟩; refine ⟨rfl, _, lokA, ?_⟩) | (refine wrap_succ ?_; omega))))
    all_goals (conv => whnf)
    all_goals exact endM_pick [] [] (.tup [.agg [.s ByteArray.empty, .nils], .i .i64 10]) (view_of rfl .nil) rfl rfl (fun k hk => by rw [hX] at hk; exact absurd hk (Nat.not_lt_zero _)) ⟨rfl, rfl⟩
  · have e : m.wrC at' b = 1 := by unfold Memory.wrC; rw [pb_f.mpr hg]; rfl
    rw [e]
    refine ret_ofM (nt := 23) (rvs := [.cell 6 30, .tmp 7]) Try.func11 rfl rfl rfl rfl (fun X hX => ?_)
    repeat' (first | exact aa | ((conv => whnf) <;> (first | exact absurd (Classical.not_not.1 ‹_›) hg | refine And.intro ?_ ?_ | (intro _h; first | contradiction | (try simp only [dd] at _h)) | (refine dt_go ?_) | exact rfl | exact True.intro | exact dkk | exact dks | ((first | refine .inl ⟨_, memoryOk_impl m h, ?_⟩ | refine ⟨_, memoryOk_impl m h, ?_⟩); (try rintro _ rfl)) | (refine wrap_succ ?_; omega))))
    all_goals (conv => whnf)
    all_goals exact endM_pick [] [] (.tup [.agg [.s ByteArray.empty, .nils], .i .i64 1]) (view_of rfl .nil) rfl rfl (fun k hk => by rw [hX] at hk; exact absurd hk (Nat.not_lt_zero _)) ⟨rfl, rfl⟩
set_option maxRecDepth 8000 in
theorem writeMem_impl_yes (m : Memory) (at' : Int) (b : ByteArray) (h : m.ok) (hh : m.wrS at' b) : RetM env.P 11 [] [.agg m.cs, .i .i64 at', .s b] (fun r H => r = .tup [.agg (m.wr at' b).resO, .i .i64 0] ∧ H = (m.wr at' b).rowsO) := by
  have hg := hh.1
  have h2 := Memory.wr_ok h hh.2
  refine ret_ofM (nt := 23) (rvs := [.cell 6 30, .tmp 7]) Try.func11 rfl rfl rfl rfl (fun X hX => ?_)
  repeat' (first | exact aa | ((conv => whnf) <;> (first | exact absurd hg ‹_› | refine And.intro ?_ ?_ | (intro _h; first | contradiction | (try simp only [dd] at _h)) | (refine dt_go ?_) | exact rfl | exact True.intro | exact dkk | exact dks | ((first | refine .inl ⟨_, memoryOk_impl m h, ?_⟩ | refine ⟨_, memoryOk_impl m h, ?_⟩); (try rintro _ rfl)) | (refine .inr (.inl (.inl ⟨[], _, _, _, storeOf_ok m h, viewA, ⟨rfl, rfl⟩, ?_⟩)); rintro _ _ ⟨rfl, rfl⟩; refine ⟨rfl, _, lokA, ?_⟩) | (refine .inr (.inl (.inl ⟨[2], _, _, _, write_yes m _ _ h hh.2, viewA, ⟨rfl, rfl⟩, ?_⟩)); rintro _ _ ⟨rfl, rfl⟩; refine ⟨rfl, _, lokA, ?_⟩) | (refine .inr (.inl (.inr (.inl ⟨_, RetM.wka (memory_ok _ h2), ?_⟩))); rintro _ _ ⟨rfl, rfl⟩; refine ⟨⟨rfl, nssA⟩, _, lokA, ?_⟩) | (refine wrap_succ ?_; omega))))
  all_goals (conv => whnf)
  exact endM_pick [3] (m.wr at' b).rowsO (.tup [.agg (m.wr at' b).resO, .i .i64 0]) viewA rfl rfl (fun k hk => by rw [hX] at hk; exact absurd hk (Nat.not_lt_zero _)) ⟨rfl, rfl⟩
end Go.Proofs.Ytkajnhnmlgogeaa
