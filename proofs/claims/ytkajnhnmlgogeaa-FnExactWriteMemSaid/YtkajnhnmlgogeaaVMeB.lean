/-
  Memories: reading.
-/
import Derived.Test.YtkajnhnmlgogeaaVMeA
import Derived.Test.YtkajnhnmlgogeaaVOBlock
import Derived.Test.YtkajnhnmlgogeaaVX
namespace Go.Proofs.Ytkajnhnmlgogeaa
open Go Go.RowKit
set_option linter.unusedVariables false
set_option linter.unusedSimpArgs false

def Memory.has (m : Memory) (at' n : Int) : Prop := 0 ≤ n ∧ 0 ≤ at' ∧ at' ≤ m.bytes.size ∧ n ≤ m.bytes.size - at'
instance (m : Memory) (a n : Int) : Decidable (m.has a n) := by unfold Memory.has; infer_instance
theorem wrap_subS {n a : Int} (h : n ≤ 1048576) (h0 : 0 ≤ a) (h1 : a ≤ n) : IntKind.i64.wrap (n - a) = n - a := wrap_in (by omega) (by omega)
set_option maxRecDepth 8000 in
theorem l10In_ok (m : Memory) (at' n : Int) (h : m.ok) : Ret env.P 27 [.agg m.cs, .i .i64 at', .i .i64 n] (fun r => r = .b (decide (m.has at' n))) := by
  have hm : (m.bytes.size : Int) ≤ 1048576 := Int.ofNat_le.2 h.1
  refine ret_of (nt := 29) (rvs := [.tmp 6]) Try.func27 rfl rfl rfl rfl (fun X => ?_)
  repeat' (first | exact aa | ((conv => whnf) <;> (first | refine And.intro ?_ ?_ | (intro _h; first | contradiction | (try simp only [dd] at _h)) | (refine dt_go ?_) | exact rfl | exact True.intro | exact dkk | exact dks | (refine wrap_succ ?_; omega))))
  all_goals (refine leaf_b ?_; first | (rw [wrap_subS hm ‹_› ‹_›, decide_eq_decide]; unfold Memory.has; omega) | (symm; rw [decide_eq_false_iff_not]; unfold Memory.has; omega))
theorem leaf_si {a a' : ByteArray} {b b' : Int} (h : a = a') (h' : b = b') : AV.tup [.s a, .i .i64 b] = .tup [.s a', .i .i64 b'] := by rw [h, h']
theorem leaf_sb {a a' : ByteArray} {b b' : Bool} (h : a = a') (h' : b = b') : AV.tup [.s a, .b b] = .tup [.s a', .b b'] := by rw [h, h']
def memS (m : Memory) (at' n : Int) : ByteArray := if m.has at' n then m.bytes.extract at'.toNat (at' + n).toNat else ByteArray.empty
theorem has_add {m : Memory} {at' n : Int} (h : m.ok) (hh : m.has at' n) : IntKind.i64.wrap (at' + n) = at' + n := by
  have hm : (m.bytes.size : Int) ≤ 1048576 := Int.ofNat_le.2 h.1
  obtain ⟨h1, h2, h3, h4⟩ := hh
  exact wrap_in (by omega) (by omega)
set_option maxRecDepth 8000 in
theorem l10Read_ok (m : Memory) (at' n : Int) (h : m.ok) : Ret env.P 16 [.agg m.cs, .i .i64 at', .i .i64 n] (fun r => r = .tup [.s (memS m at' n), .i .i64 (if m.has at' n then 0 else 10)]) := by
  by_cases hh : m.has at' n
  · have e := has_add h hh
    obtain ⟨q1, q2, q3, q4⟩ := id hh
    refine ret_of (nt := 20) (rvs := [.tmp 6, .tmp 7]) Try.func16 rfl rfl rfl rfl (fun X => ?_)
    repeat' (first | exact aa | ((conv => whnf) <;> (first | exact absurd hh ‹_› | (rw [e]; omega) | refine And.intro ?_ ?_ | (intro _h; first | contradiction | (try simp only [dd] at _h)) | (refine dt_go ?_) | exact rfl | exact True.intro | exact dkk | exact dks | ((first | refine .inl ⟨_, l10In_ok m _ _ h, ?_⟩ | refine ⟨_, l10In_ok m _ _ h, ?_⟩); (try rintro _ rfl)) | (refine wrap_succ ?_; omega))))
    all_goals exact leaf_si (by rw [e]; unfold memS; rw [if_pos hh]) (by rw [if_pos hh])
  · refine ret_of (nt := 20) (rvs := [.tmp 6, .tmp 7]) Try.func16 rfl rfl rfl rfl (fun X => ?_)
    repeat' (first | exact aa | ((conv => whnf) <;> (first | exact absurd ‹_› hh | refine And.intro ?_ ?_ | (intro _h; first | contradiction | (try simp only [dd] at _h)) | (refine dt_go ?_) | exact rfl | exact True.intro | exact dkk | exact dks | ((first | refine .inl ⟨_, l10In_ok m _ _ h, ?_⟩ | refine ⟨_, l10In_ok m _ _ h, ?_⟩); (try rintro _ rfl)) | (refine wrap_succ ?_; omega))))
    all_goals exact leaf_si (by unfold memS; rw [if_neg hh]; rfl) (by rw [if_neg hh])
set_option maxRecDepth 8000 in
theorem readMem_spec (m : Memory) (at' n : Int) (h : m.ok) : Ret env.P 6 [.agg m.cs, .i .i64 at', .i .i64 n] (fun r => r = .tup [.s (bif pb m.good then memS m at' n else ByteArray.empty), .i .i64 (bif pb m.good then (if m.has at' n then 0 else 10) else 1)]) := by
  refine ret_of (nt := 17) (rvs := [.tmp 6, .tmp 7]) Try.func6 rfl rfl rfl rfl (fun X => ?_)
  repeat' (first | exact aa | ((conv => whnf) <;> (first | refine And.intro ?_ ?_ | (intro _h; first | contradiction | (try simp only [dd] at _h)) | (refine dt_go ?_) | exact rfl | exact True.intro | exact dkk | exact dks | ((first | refine .inl ⟨_, memoryOk_spec m h, ?_⟩ | refine ⟨_, memoryOk_spec m h, ?_⟩); (try rintro _ rfl)) | ((first | refine .inl ⟨_, l10Read_ok m _ _ h, ?_⟩ | refine ⟨_, l10Read_ok m _ _ h, ?_⟩); (try rintro _ rfl)) | (refine wrap_succ ?_; omega))))
  · exact leaf_si (by rw [pb_f.mpr _h]; rfl) (by rw [pb_f.mpr _h]; rfl)
  · exact leaf_si (by rw [pb_t.mpr (Classical.not_not.1 _h)]; rfl) (by rw [pb_t.mpr (Classical.not_not.1 _h)]; rfl)
theorem ow_nilB {l : List Block} (h : l = []) : OwEq .nils (owL 2 Block.cs l) := by rw [h]; exact .nil _ _
def Memory.stO (m : Memory) : List AV := [.ow 1 m.bytes.size (bytesG m.bytes), owL 2 Block.cs m.free]
def Memory.st (m : Memory) : List AV := [.sl 1 m.bytes.size (bytesG m.bytes), slL 2 Block.cs m.free]
theorem capB0 {n b : Nat} (h : n ≤ 1048576) (hb : b ≤ 1000) : (0 + n) * b ≤ 140737488355328 := by
  rw [Nat.zero_add]
  exact Nat.le_trans (Nat.mul_le_mul h hb) (by decide)
theorem capN0 {n : Nat} (h : n ≤ 1048576) : 0 + n ≤ 9223372036854775807 := by omega
set_option maxRecDepth 8000 in
theorem cloneBlock_ok (l : List Block) (hl : l.length ≤ 1048576) : RetM env.P 31 [] [slL 2 Block.cs l] (fun r H => (l = [] ∧ r = .nils ∧ H = []) ∨ (r = .row 0 l.length ∧ H = [some (rowL 2 Block.cs l)])) := by
  refine ret_ofM (nt := 8) (rvs := [.tmp 2]) Try.func31 rfl rfl rfl rfl (fun X hX => ?_)
  repeat' (first | exact aa | ((conv => whnf) <;> (first | exact capB0 hl (by decide) | exact capN0 hl | refine And.intro ?_ ?_ | (intro _h; first | contradiction | (try simp only [dd] at _h)) | (refine dt_go ?_) | exact rfl | exact True.intro | exact dkk | exact dks | (refine wrap_succ ?_; omega))))
  all_goals (conv => whnf)
  · exact endM_self (.inl ⟨List.length_eq_zero_iff.1 ‹_›, rfl, rfl⟩)
  · exact endM_pick [1] [some (rowL 2 Block.cs l)] (.row 0 (0 + l.length)) (view_of rfl (.cons rfl (.L (Nat.zero_add _).symm (fun _ => rfl)) .nil)) rfl rfl (fun k hk => by rw [hX] at hk; exact absurd hk (Nat.not_lt_zero _)) (.inr ⟨by rw [Nat.zero_add], rfl⟩)
theorem bytes_rowO (b : ByteArray) : RowO b.size ⟨1, b.size, bytesG b, .arr⟩ := ⟨Nat.le_refl _, fun i j _ _ => trivial⟩
set_option maxRecDepth 8000 in
theorem storeOf_ok (m : Memory) (h : m.ok) : RetM env.P 19 [] [.agg m.cs] (fun r H => r = .ptr 0 0 0 ∧ H = [some (boxRow m.stO)]) := by
  have hl := h.2.1
  refine ret_ofM (nt := 11) (rvs := [.tmp 2]) Try.func19 rfl rfl rfl rfl (fun X hX => ?_)
  repeat' (first | exact aa | ((conv => whnf) <;> (first | ((refine .inr (.inl (.inl ⟨[], _, _, _, cloneBlock_ok _ hl, (view_of rfl .nil), ⟨rfl, rfl⟩, ?_⟩))); rintro _ _ (⟨hn, rfl, rfl⟩ | ⟨rfl, rfl⟩) <;> refine ⟨rfl, _, lokA, ?_⟩) | refine And.intro ?_ ?_ | (intro _h; first | contradiction | (try simp only [dd] at _h)) | (refine dt_go ?_) | exact rfl | exact True.intro | exact dkk | exact dks | (refine wrap_succ ?_; omega))))
  all_goals (conv => whnf)
  all_goals first
    | (refine endM_turn (turn_close (id := 2) (i := 0) (j := 0) (id' := 1) rfl (show 0 < 1 by decide) (show 0 < 2 by decide) rfl rfl (show 2 ≠ 1 by decide) rfl (bytes_rowO _)) ?_
       refine endM_turn (turn_box (id := 2) (ds := m.stO) rfl rfl rfl (.cons (.refl _) (.cons (ow_nilB hn) .nil))) ?_
       exact endM_pick [2] [some (boxRow m.stO)] (.ptr 0 0 0) (view_of rfl (.cons rfl (.self (rowPl_box rfl)) .nil)) rfl rfl (fun k hk => by rw [hX] at hk; exact absurd hk (Nat.not_lt_zero _)) ⟨rfl, rfl⟩)
    | (refine endM_turn (turn_close (id := 3) (i := 0) (j := 0) (id' := 1) rfl (show 0 < 1 by decide) (show 0 < 2 by decide) rfl rfl (show 3 ≠ 1 by decide) rfl (bytes_rowO _)) ?_
       refine endM_turn (turn_close (id := 3) (i := 0) (j := 1) (id' := 2) rfl (show 0 < 1 by decide) (show 1 < 2 by decide) rfl rfl (show 3 ≠ 2 by decide) rfl (rowO_le (Nat.le_refl _))) ?_
       refine endM_turn (turn_box (id := 3) (ds := m.stO) rfl rfl rfl (.cons (.refl _) (.cons (.refl _) .nil))) ?_
       exact endM_pick [3] [some (boxRow m.stO)] (.ptr 0 0 0) (view_of rfl (.cons rfl (.self (rowPl_box rfl)) .nil)) rfl rfl (fun k hk => by rw [hX] at hk; exact absurd hk (Nat.not_lt_zero _)) ⟨rfl, rfl⟩)
    | (refine endM_turn (turn_close (id := 3) (i := 0) (j := 0) (id' := 2) rfl (show 0 < 1 by decide) (show 0 < 2 by decide) rfl rfl (show 3 ≠ 2 by decide) rfl (bytes_rowO _)) ?_
       refine endM_turn (turn_close (id := 3) (i := 0) (j := 1) (id' := 1) rfl (show 0 < 1 by decide) (show 1 < 2 by decide) rfl rfl (show 3 ≠ 1 by decide) rfl (rowO_le (Nat.le_refl _))) ?_
       refine endM_turn (turn_box (id := 3) (ds := m.stO) rfl rfl rfl (.cons (.refl _) (.cons (.refl _) .nil))) ?_
       exact endM_pick [3] [some (boxRow m.stO)] (.ptr 0 0 0) (view_of rfl (.cons rfl (.self (rowPl_box rfl)) .nil)) rfl rfl (fun k hk => by rw [hX] at hk; exact absurd hk (Nat.not_lt_zero _)) ⟨rfl, rfl⟩)
theorem size_b (n : Nat) (g : Nat → Nat → AV) : Ret env.P 35 [.sl 1 n g] (fun r => r = .i .i64 n) := by
  refine ret_of (nt := 5) (rvs := [.tmp 2]) Try.func35 rfl rfl rfl rfl (fun X => ?_)
  repeat' (first | exact aa | ((conv => whnf) <;> (first | refine And.intro ?_ ?_ | (intro _h; first | contradiction | (try simp only [dd] at _h)) | (refine dt_go ?_) | exact rfl | exact True.intro | exact dkk | exact dks | (refine wrap_succ ?_; omega))))
set_option maxRecDepth 8000 in
theorem inBounds_ok (m : Memory) (at' n : Int) (h : m.ok) : Ret env.P 32 [rfL m.st, .i .i64 at', .i .i64 n] (fun r => r = .b (decide (m.has at' n))) := by
  have hm : (m.bytes.size : Int) ≤ 1048576 := Int.ofNat_le.2 h.1
  refine ret_of (nt := 31) (rvs := [.tmp 6]) Try.func32 rfl rfl rfl rfl (fun X => ?_)
  repeat' (first | exact aa | ((conv => whnf) <;> (first | refine And.intro ?_ ?_ | (intro _h; first | contradiction | (try simp only [dd] at _h)) | (refine dt_go ?_) | exact rfl | exact True.intro | exact dkk | exact dks | ((first | refine .inl ⟨_, size_b _ _, ?_⟩ | refine ⟨_, size_b _ _, ?_⟩); (try rintro _ rfl)) | (refine wrap_succ ?_; omega))))
  all_goals (refine leaf_b ?_; first | (rw [wrap_subS hm ‹_› ‹_›, decide_eq_decide]; unfold Memory.has; omega) | (symm; rw [decide_eq_false_iff_not]; unfold Memory.has; omega))
theorem bytes_cut {b : ByteArray} {a n : Nat} (h : a + n ≤ b.size) : bytesOf n (fun i j => bytesG b (a + i) j) = b.extract a (a + n) := by
  have e : (List.range n).map (fun i => byteA (bytesG b (a + i) 0)) = (b.data.extract a (a + n)).toList := by
    apply List.ext_getElem?
    intro i
    rw [List.getElem?_map]
    by_cases hi : i < n
    · have hb : a + i < b.data.size := by have : b.data.size = b.size := rfl; omega
      rw [List.getElem?_range hi, Option.map_some, Array.getElem?_toList, Array.getElem?_extract]
      rw [if_pos (by have : b.data.size = b.size := rfl; omega), Array.getElem?_eq_getElem hb]
      unfold bytesG byteA
      simp [Array.getD, hb]
      exact dif_pos hb
    · rw [List.getElem?_eq_none (by rw [List.length_range]; omega), Array.getElem?_toList, Array.getElem?_eq_none (by rw [Array.size_extract]; omega)]
      rfl
  unfold bytesOf
  rw [e]
  refine ByteArray.ext ?_
  rw [ByteArray.data_extract]
set_option maxRecDepth 8000 in
theorem read_ok (m : Memory) (at' n : Int) (h : m.ok) : Ret env.P 20 [rfL m.st, .i .i64 at', .i .i64 n] (fun r => r = .tup [.s (memS m at' n), .b (decide (m.has at' n))]) := by
  by_cases hh : m.has at' n
  · have e := has_add h hh
    obtain ⟨q1, q2, q3, q4⟩ := id hh
    refine ret_of (nt := 23) (rvs := [.tmp 6, .tmp 7]) Try.func20 rfl rfl rfl rfl (fun X => ?_)
    repeat' (first | exact aa | ((conv => whnf) <;> (first | exact absurd hh ‹_› | (rw [e]; omega) | exact ⟨fun i _ => ⟨_, rfl⟩⟩ | refine And.intro ?_ ?_ | (intro _h; first | contradiction | (try simp only [dd] at _h)) | (refine dt_go ?_) | exact rfl | exact True.intro | exact dkk | exact dks | ((first | refine .inl ⟨_, inBounds_ok m _ _ h, ?_⟩ | refine ⟨_, inBounds_ok m _ _ h, ?_⟩); (try rintro _ rfl)) | (refine wrap_succ ?_; omega))))
    all_goals refine leaf_sb ?_ (decide_eq_true hh).symm
    all_goals (rw [e, show (at' + n - at').toNat = n.toNat by omega, bytes_cut (by omega), show at'.toNat + n.toNat = (at' + n).toNat by omega]; unfold memS; rw [if_pos hh])
  · refine ret_of (nt := 23) (rvs := [.tmp 6, .tmp 7]) Try.func20 rfl rfl rfl rfl (fun X => ?_)
    repeat' (first | exact aa | ((conv => whnf) <;> (first | exact absurd ‹_› hh | refine And.intro ?_ ?_ | (intro _h; first | contradiction | (try simp only [dd] at _h)) | (refine dt_go ?_) | exact rfl | exact True.intro | exact dkk | exact dks | ((first | refine .inl ⟨_, inBounds_ok m _ _ h, ?_⟩ | refine ⟨_, inBounds_ok m _ _ h, ?_⟩); (try rintro _ rfl)) | (refine wrap_succ ?_; omega))))
    all_goals exact leaf_sb (by unfold memS; rw [if_neg hh]; rfl) (decide_eq_false hh).symm
set_option maxRecDepth 8000 in
theorem readMem_impl (m : Memory) (at' n : Int) (h : m.ok) : Ret env.P 8 [.agg m.cs, .i .i64 at', .i .i64 n] (fun r => r = .tup [.s (bif pb m.good then memS m at' n else ByteArray.empty), .i .i64 (bif pb m.good then (if m.has at' n then 0 else 10) else 1)]) := by
  refine ret_of (nt := 24) (rvs := [.tmp 6, .tmp 7]) Try.func8 rfl rfl rfl rfl (fun X => ?_)
  repeat' (first | exact aa | ((conv => whnf) <;> (first | refine And.intro ?_ ?_ | (intro _h; first | contradiction | (try simp only [dd] at _h)) | (refine dt_go ?_) | exact rfl | exact True.intro | exact dkk | exact dks | ((first | refine .inl ⟨_, memoryOk_impl m h, ?_⟩ | refine ⟨_, memoryOk_impl m h, ?_⟩); (try rintro _ rfl)) | (refine .inr (.inl (.inl ⟨[], _, _, _, storeOf_ok m h, viewA, ⟨rfl, rfl⟩, ?_⟩)); rintro _ _ ⟨rfl, rfl⟩; refine ⟨rfl, _, lokA, ?_⟩) | ((first | refine .inl ⟨_, Ret.wka (read_ok m _ _ h), ?_⟩ | refine ⟨_, Ret.wka (read_ok m _ _ h), ?_⟩); (try rintro _ rfl)) | (refine wrap_succ ?_; omega))))
  · exact leaf_si (by rw [pb_f.mpr _h]; rfl) (by rw [pb_f.mpr _h]; rfl)
  · refine leaf_si ?_ ?_
    · rw [pb_t.mpr (Classical.not_not.1 ‹¬¬ m.good›), cond_true]; unfold memS; rw [if_neg _h]; rfl
    · rw [pb_t.mpr (Classical.not_not.1 ‹¬¬ m.good›), cond_true, if_neg _h]
  · refine leaf_si ?_ ?_
    · rw [pb_t.mpr (Classical.not_not.1 ‹¬¬ m.good›), cond_true]
    · rw [pb_t.mpr (Classical.not_not.1 ‹¬¬ m.good›), cond_true, if_pos _h]
end Go.Proofs.Ytkajnhnmlgogeaa
