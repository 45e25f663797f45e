/- Texts for VSectionsP. -/
import Derived.Test.YtdeledeopippfaaVx21
namespace Go.Proofs.Ytdeledeopippfaa
open Go Go.RowKit
set_option linter.unusedVariables false
set_option linter.unusedSimpArgs false
set_option maxRecDepth 8000
set_option maxRecDepth 8000
def byteC (b : UInt8) : List AV := [.i .u8 b.toNat]
structure Src where
  code : List UInt8
  at' : Int
  seed : Int
def Src.cs (s : Src) : List AV := [slL 1 byteC s.code, .i .i64 s.at', .i .u64 s.seed]
def Src.ok (s : Src) (n : Int) : Prop := 0 ≤ s.at' ∧ s.at' + n ≤ 1000000000 ∧ s.code.length ≤ 2000000
def Src.byte (s : Src) : Int := if s.at' < s.code.length then ((s.code.getD s.at'.toNat default).toNat : Int) else 0
def Src.next (s : Src) : Src := ⟨s.code, s.at' + 1, IntKind.u64.wrap (IntKind.u64.wrap (IntKind.u64.wrap (s.seed * 6364136223846793005) + s.byte) + 1442695040888963407)⟩
def Src.nextV (s : Src) : Int := if s.at' < s.code.length then s.byte else bits .and .u64 (s.next.seed.fdiv (2 ^ 40)) 255
theorem wrap_u0 {n : Int} (h1 : 0 ≤ n) (h2 : n ≤ 9223372036854775807) : IntKind.u64.wrap n = n := by
  rw [IntKind.wrap_u64]; omega
theorem byte_le (s : Src) : 0 ≤ s.byte ∧ s.byte ≤ 255 := by
  unfold Src.byte
  split
  · have := (s.code.getD s.at'.toNat default).toNat_lt; omega
  · omega
theorem and_le (x : Int) : 0 ≤ bits .and .u64 x 255 ∧ bits .and .u64 x 255 ≤ 255 := by
  have h : ((BitVec.ofInt 64 x &&& BitVec.ofInt 64 255).toNat : Int) ≤ 255 := by
    rw [BitVec.toNat_and]
    have := @Nat.and_le_right (BitVec.ofInt 64 x).toNat (BitVec.ofInt 64 255).toNat
    have e : (BitVec.ofInt 64 255).toNat = 255 := by decide
    omega
  have e : bits .and .u64 x 255 = IntKind.u64.wrap ((BitVec.ofInt 64 x &&& BitVec.ofInt 64 255).toNat : Int) := rfl
  rw [e, wrap_u0 (by omega) (by omega)]
  omega
theorem wrap_bits (x : Int) : IntKind.i64.wrap (bits .and .u64 x 255) = bits .and .u64 x 255 := wrap_in (by have := and_le x; omega) (by have := and_le x; omega)
theorem nextV_le (s : Src) : 0 ≤ s.nextV ∧ s.nextV ≤ 255 := by
  unfold Src.nextV
  split
  · exact byte_le s
  · exact and_le _
theorem next_ok (s : Src) (h : s.ok 1) : RetM env.P 58 [some (boxRow s.cs)] [.ptr 0 0 0] (fun r H => r = .i .i64 s.nextV ∧ H = [some (boxRow s.next.cs)]) := by
  obtain ⟨h1, h2, h3⟩ := h
  have e0 : ((s.code.getD s.at'.toNat default).toNat : Int) < 256 := by have := (s.code.getD s.at'.toNat default).toNat_lt; omega
  have e1 : IntKind.i64.wrap (s.at' + 1) = s.at' + 1 := wrap_in (by omega) (by omega)
  have e2 : IntKind.i64.wrap ((s.code.getD s.at'.toNat default).toNat : Int) = ((s.code.getD s.at'.toNat default).toNat : Int) := wrap_in (by omega) (by omega)
  have e3 : IntKind.u64.wrap ((s.code.getD s.at'.toNat default).toNat : Int) = ((s.code.getD s.at'.toNat default).toNat : Int) := wrap_u0 (by omega) (by omega)
  have e4 : IntKind.u64.wrap 0 = 0 := by decide
  refine ret_ofM (nt := 62) (rvs := [.tmp 2]) Try.func58 rfl rfl rfl rfl (fun X hX => ?_)
  repeat' (first | omega | (with_reducible show (_ : Int) < _; dsimp only; omega) | (with_reducible show (_ : Nat) ≤ _; dsimp only; omega) | ((with_reducible show SrcOk _ _ _) <;> (first | exact srcOk_1 rfl | exact srcOk_L (fun _ => ⟨rfl, rfl⟩) | exact srcOk_E (fun _ => ⟨rfl, rfl⟩))) | ((conv => whnf) <;> (first | refine And.intro ?_ ?_ | (intro _h; first | contradiction | (try simp only [dd] at _h)) | (refine dt_go ?_) | exact rfl | exact True.intro | exact dkk | exact dks | (refine wrap_succ ?_; omega))))
  all_goals (conv => whnf)
  all_goals refine endM_turn (turn_box (id := 0) (ds := [slL 1 byteC s.code, .i .i64 _, .i .u64 _]) rfl rfl rfl (.cons (.refl _) (.cons (.refl _) (.cons (.refl _) .nil)))) ?_
  all_goals refine endM_pick [0] [some (boxRow [slL 1 byteC s.code, .i .i64 _, .i .u64 _])] (.i .i64 _) (view_of rfl (.cons rfl (.self (rowPl_box rfl)) .nil)) rfl rfl (by rw [hX]; exact keepK (n := 1) rfl rfl) ⟨?_, ?_⟩
  all_goals (try (exfalso; rw [e1] at *; omega))
  all_goals (rename_i q; first | (simp only [Src.nextV, Src.next, Src.cs, Src.byte, e1, e2, e3, e4, wrap_bits, if_pos q]; done) | (simp only [Src.nextV, Src.next, Src.cs, Src.byte, e1, e2, e3, e4, wrap_bits, if_neg q]; done) | (simp only [Src.nextV, Src.next, Src.cs, Src.byte, e1, e2, e3, e4, wrap_bits, if_pos q]; rfl) | (simp only [Src.nextV, Src.next, Src.cs, Src.byte, e1, e2, e3, e4, wrap_bits, if_neg q]; rfl))
def Src.pickV (s : Src) (n : Int) : Int := if n ≤ 1 then 0 else s.nextV.tmod n
def Src.pickS (s : Src) (n : Int) : Src := if n ≤ 1 then s else s.next
theorem pick_le (s : Src) (n : Int) : 0 ≤ s.pickV n ∧ (1 ≤ n → s.pickV n < n) := by
  have := nextV_le s
  unfold Src.pickV
  split
  · omega
  · rw [Int.tmod_eq_emod_of_nonneg this.1]
    exact ⟨Int.emod_nonneg _ (by omega), fun _ => Int.emod_lt_of_pos _ (by omega)⟩
theorem pick_ok (s : Src) (h : s.ok 1) (n : Int) (hn : n ≤ 200) : RetM env.P 39 [some (boxRow s.cs)] [.ptr 0 0 0, .i .i64 n] (fun r H => r = .i .i64 (s.pickV n) ∧ H = [some (boxRow (s.pickS n).cs)]) := by
  refine ret_ofM (nt := 20) (rvs := [.tmp 4]) Try.func39 rfl rfl rfl rfl (fun X hX => ?_)
  repeat' (first | omega | (with_reducible show (_ : Int) < _; dsimp only; omega) | (with_reducible show (_ : Nat) ≤ _; dsimp only; omega) | ((with_reducible show SrcOk _ _ _) <;> (first | exact srcOk_1 rfl | exact srcOk_L (fun _ => ⟨rfl, rfl⟩) | exact srcOk_E (fun _ => ⟨rfl, rfl⟩))) | ((conv => whnf) <;> (first | refine And.intro ?_ ?_ | (intro _h; first | contradiction | (try simp only [dd] at _h)) | (refine dt_go ?_) | exact rfl | exact True.intro | exact dkk | exact dks | (refine .inr (.inl (.inl ⟨[0], _, _, _, next_ok s h, viewA, ⟨rfl, rfl⟩, ?_⟩)); (rintro _ _ ⟨rfl, rfl⟩) <;> (refine ⟨rfl, _, lokA, ?_⟩)) | (refine wrap_succ ?_; omega))))
  all_goals (conv => whnf)
  rotate_left; rename_i q; rotate_right
  · refine endM_pick [0] [some (boxRow s.cs)] (.i .i64 _) (view_of rfl (.cons rfl (.self (rowPl_box rfl)) .nil)) rfl rfl (by rw [hX]; exact keepK (n := 1) rfl rfl) ⟨?_, ?_⟩
    · exact leaf_i (if_pos _h).symm
    · unfold Src.pickS; rw [if_pos _h]
  · refine endM_pick [0] [some (boxRow s.next.cs)] (.i .i64 _) (view_of rfl (.cons rfl (.self (rowPl_box rfl)) .nil)) rfl rfl (by rw [hX]; exact keepK (n := 1) rfl rfl) ⟨?_, ?_⟩
    · exact leaf_i (if_neg q).symm
    · unfold Src.pickS; rw [if_neg q]
theorem one_ok (s : Src) (h : s.ok 1) (n : Int) (hn : n ≤ 200) : RetM env.P 31 [some (boxRow s.cs)] [.ptr 0 0 0, .i .i64 n] (fun r H => r = .b (pb (s.pickV n = 0)) ∧ H = [some (boxRow (s.pickS n).cs)]) := by
  refine ret_ofM (nt := 9) (rvs := [.tmp 4]) Try.func31 rfl rfl rfl rfl (fun X hX => ?_)
  repeat' (first | omega | (with_reducible show (_ : Int) < _; dsimp only; omega) | (with_reducible show (_ : Nat) ≤ _; dsimp only; omega) | ((with_reducible show SrcOk _ _ _) <;> (first | exact srcOk_1 rfl | exact srcOk_L (fun _ => ⟨rfl, rfl⟩) | exact srcOk_E (fun _ => ⟨rfl, rfl⟩))) | ((conv => whnf) <;> (first | refine And.intro ?_ ?_ | (intro _h; first | contradiction | (try simp only [dd] at _h)) | (refine dt_go ?_) | exact rfl | exact True.intro | exact dkk | exact dks | (refine .inr (.inl (.inl ⟨[0], _, _, _, pick_ok s h n hn, viewA, ⟨rfl, rfl⟩, ?_⟩)); (rintro _ _ ⟨rfl, rfl⟩) <;> (refine ⟨rfl, _, lokA, ?_⟩)) | (refine wrap_succ ?_; omega))))
  all_goals (conv => whnf)
  exact endM_pick [0] [some (boxRow (s.pickS n).cs)] (.b _) (view_of rfl (.cons rfl (.self (rowPl_box rfl)) .nil)) rfl rfl (by rw [hX]; exact keepK (n := 1) rfl rfl) ⟨leaf_p (by rw [decide_eq_true_eq]), rfl⟩
theorem from_ok (l : List UInt8) : RetM env.P 15 [] [slL 1 byteC l] (fun r H => r = .ptr 0 0 0 ∧ H = [some (boxRow (Src.mk l 0 0).cs)]) := by
  refine ret_ofM (nt := 6) (rvs := [.tmp 2]) Try.func15 rfl rfl rfl rfl (fun X hX => ?_)
  repeat' (first | omega | (with_reducible show (_ : Int) < _; dsimp only; omega) | (with_reducible show (_ : Nat) ≤ _; dsimp only; omega) | ((with_reducible show SrcOk _ _ _) <;> (first | exact srcOk_1 rfl | exact srcOk_L (fun _ => ⟨rfl, rfl⟩) | exact srcOk_E (fun _ => ⟨rfl, rfl⟩))) | ((conv => whnf) <;> (first | refine And.intro ?_ ?_ | (intro _h; first | contradiction | (try simp only [dd] at _h)) | (refine dt_go ?_) | exact rfl | exact True.intro | exact dkk | exact dks | (refine wrap_succ ?_; omega))))
  all_goals (conv => whnf)
  exact endM_pick [0] [some (boxRow (Src.mk l 0 0).cs)] (.ptr 0 0 0) (view_of rfl (.cons rfl (.self (rowPl_box rfl)) .nil)) rfl rfl (fun k hk => by rw [hX] at hk; exact absurd hk (Nat.not_lt_zero k)) ⟨rfl, rfl⟩
section
attribute [local irreducible] IntKind.wrap
theorem getD_memS {α : Type} [Inhabited α] {l : List α} {k : Nat} (h : k < l.length) : l.getD k default ∈ l := by
  rw [List.getD_eq_getElem?_getD, List.getElem?_eq_getElem h]
  exact List.getElem_mem h
def Src.rm (s : Src) (n : Int) : Prop := 0 ≤ s.at' ∧ s.at' + n ≤ 100000000 ∧ s.code.length ≤ 2000000
theorem Src.rm_i {s : Src} {n : Int} (h1 : 0 ≤ s.at') (h2 : s.at' + n ≤ 100000000) (h3 : s.code.length ≤ 2000000) : s.rm n := ⟨h1, h2, h3⟩
theorem Src.rm.ok {s : Src} {n : Int} (h : s.rm n) (hn : 1 ≤ n) : s.ok 1 := ⟨h.1, by have := h.2.1; omega, h.2.2⟩
theorem pickS_at (s : Src) (n : Int) : s.at' ≤ (s.pickS n).at' ∧ (s.pickS n).at' ≤ s.at' + 1 ∧ (s.pickS n).code.length = s.code.length := by
  unfold Src.pickS
  split
  · exact ⟨by omega, by omega, rfl⟩
  · refine ⟨?_, ?_, rfl⟩ <;> (simp only [Src.next]; omega)
theorem pick_le' (s : Src) (n : Int) : 0 ≤ s.pickV n ∧ (s.pickV n = 0 ∨ s.pickV n < n) := by
  have := pick_le s n
  by_cases h : 1 ≤ n
  · exact ⟨this.1, .inr (this.2 h)⟩
  · refine ⟨this.1, .inl ?_⟩
    unfold Src.pickV
    rw [if_pos (by omega)]
theorem pick_ex (s : Src) (h : s.rm 1) (n : Int) (hn : n ≤ 200) : RetM env.P 39 [some (boxRow s.cs)] [.ptr 0 0 0, .i .i64 n] (fun r H => ∃ (v : Int) (t : Src), (0 ≤ v ∧ (v = 0 ∨ v < n)) ∧ (s.at' ≤ t.at' ∧ t.at' ≤ s.at' + 1 ∧ t.code.length = s.code.length) ∧ r = .i .i64 v ∧ H = [some (boxRow t.cs)]) :=
  (pick_ok s (h.ok (by omega)) n hn).mono fun r H hr => ⟨_, _, pick_le' s n, pickS_at s n, hr⟩
theorem one_ex (s : Src) (h : s.rm 1) (n : Int) (hn : n ≤ 200) : RetM env.P 31 [some (boxRow s.cs)] [.ptr 0 0 0, .i .i64 n] (fun r H => ∃ (v : Bool) (t : Src), (s.at' ≤ t.at' ∧ t.at' ≤ s.at' + 1 ∧ t.code.length = s.code.length) ∧ r = .b v ∧ H = [some (boxRow t.cs)]) :=
  (one_ok s (h.ok (by omega)) n hn).mono fun r H hr => ⟨_, _, pickS_at s n, hr⟩
theorem lit_at (l : List Int) {i : Nat} (hi : i < l.length) : litE (l.map fun n => [AV.i .i64 n]) i 0 = .i .i64 (l.getD i default) := by
  unfold litE
  rw [List.getD_eq_getElem?_getD (l := l.map _), List.getElem?_map, List.getD_eq_getElem?_getD (l := l), List.getElem?_eq_getElem hi]
  rfl
theorem rowBack_lit {σ : Nat → Nat} {m : Nat} (l : List Int) : RowBack σ m (rowL 1 intC l) ⟨1, l.length, litE (l.map fun n => [AV.i .i64 n]), .arr⟩ := ⟨rfl, rfl, .refl _, fun i j hi hj => by
  obtain rfl : j = 0 := Nat.lt_one_iff.1 hj
  exact ⟨lit_at l hi, rfl⟩⟩
theorem among_row (s : Src) (h : s.rm 1) (l : List Int) (h0 : 0 < l.length) (hn : l.length ≤ 200) : RetM env.P 49 [some (boxRow s.cs), some (rowL 1 intC l)] [.ptr 0 0 0, .row 1 l.length] (fun r H => ∃ (v : Int) (t : Src), v ∈ l ∧ (s.at' ≤ t.at' ∧ t.at' ≤ s.at' + 1 ∧ t.code.length = s.code.length) ∧ r = .i .i64 v ∧ H = [some (boxRow t.cs), some (rowL 1 intC l)]) := by
  have hl : (l.length : Int) ≤ 200 := by omega
  refine ret_ofM (nt := 12) (rvs := [.tmp 4]) Try.func49 rfl rfl rfl rfl (fun X hX => ?_)
  repeat' (first | omega | (with_reducible show (_ : Int) < _; dsimp only; omega) | (with_reducible show (_ : Nat) ≤ _; dsimp only; omega) | ((with_reducible show SrcOk _ _ _) <;> (first | exact srcOk_1 rfl | exact srcOk_L (fun _ => ⟨rfl, rfl⟩) | exact srcOk_E (fun _ => ⟨rfl, rfl⟩))) | ((conv => whnf) <;> (first | refine And.intro ?_ ?_ | (intro _h; first | contradiction | (try simp only [dd] at _h)) | (refine dt_go ?_) | exact rfl | exact True.intro | exact dkk | exact dks | (refine .inr (.inl (.inl ⟨[0], _, _, _, pick_ex s h (l.length : Int) hl, viewA, ⟨rfl, rfl⟩, ?_⟩)); (rintro _ _ ⟨v, t, hv, ht, rfl, rfl⟩) <;> (refine ⟨rfl, _, lokA, ?_⟩)) | (refine wrap_succ ?_; omega))))
  all_goals (conv => whnf)
  exact endM_pick [0, 1] [some (boxRow t.cs), some (rowL 1 intC l)] (.i .i64 _) (view_of rfl (.cons rfl (.self (rowPl_box rfl)) (.cons rfl (.self (rowPl_L fun _ => rfl)) .nil))) rfl rfl (by rw [hX]; exact keepK (n := 2) rfl rfl) ⟨_, t, getD_memS (k := v.toNat) (by omega), ht, rfl, rfl⟩
theorem litS_at (l : List ByteArray) {i : Nat} (hi : i < l.length) : litE (l.map fun n => [AV.s n]) i 0 = .s (l.getD i default) := by
  unfold litE
  rw [List.getD_eq_getElem?_getD (l := l.map _), List.getElem?_map, List.getD_eq_getElem?_getD (l := l), List.getElem?_eq_getElem hi]
  rfl
theorem rowBack_litS {σ : Nat → Nat} {m : Nat} (l : List ByteArray) : RowBack σ m (rowL 1 strC l) ⟨1, l.length, litE (l.map fun n => [AV.s n]), .arr⟩ := ⟨rfl, rfl, .refl _, fun i j hi hj => by
  obtain rfl : j = 0 := Nat.lt_one_iff.1 hj
  exact ⟨litS_at l hi, rfl⟩⟩
theorem text_row (s : Src) (h : s.rm 1) (l : List ByteArray) (h0 : 0 < l.length) (hn : l.length ≤ 200) : RetM env.P 43 [some (boxRow s.cs), some (rowL 1 strC l)] [.ptr 0 0 0, .row 1 l.length] (fun r H => ∃ (v : ByteArray) (t : Src), v ∈ l ∧ (s.at' ≤ t.at' ∧ t.at' ≤ s.at' + 1 ∧ t.code.length = s.code.length) ∧ r = .s v ∧ H = [some (boxRow t.cs), some (rowL 1 strC l)]) := by
  have hl : (l.length : Int) ≤ 200 := by omega
  refine ret_ofM (nt := 12) (rvs := [.tmp 4]) Try.func43 rfl rfl rfl rfl (fun X hX => ?_)
  repeat' (first | omega | (with_reducible show (_ : Int) < _; dsimp only; omega) | (with_reducible show (_ : Nat) ≤ _; dsimp only; omega) | ((with_reducible show SrcOk _ _ _) <;> (first | exact srcOk_1 rfl | exact srcOk_L (fun _ => ⟨rfl, rfl⟩) | exact srcOk_E (fun _ => ⟨rfl, rfl⟩))) | ((conv => whnf) <;> (first | refine And.intro ?_ ?_ | (intro _h; first | contradiction | (try simp only [dd] at _h)) | (refine dt_go ?_) | exact rfl | exact True.intro | exact dkk | exact dks | (refine .inr (.inl (.inl ⟨[0], _, _, _, pick_ex s h (l.length : Int) hl, viewA, ⟨rfl, rfl⟩, ?_⟩)); (rintro _ _ ⟨v, t, hv, ht, rfl, rfl⟩) <;> (refine ⟨rfl, _, lokA, ?_⟩)) | (refine wrap_succ ?_; omega))))
  all_goals (conv => whnf)
  exact endM_pick [0, 1] [some (boxRow t.cs), some (rowL 1 strC l)] (.s _) (view_of rfl (.cons rfl (.self (rowPl_box rfl)) (.cons rfl (.self (rowPl_L fun _ => rfl)) .nil))) rfl rfl (by rw [hX]; exact keepK (n := 2) rfl rfl) ⟨_, t, getD_memS (k := v.toNat) (by omega), ht, rfl, rfl⟩
theorem rd_u8 {P : Program} {t : TypeId} (hu : P.underlying t = some (.int .u8)) : Rd P t UInt8 byteC := fun cs h => by
  obtain ⟨n, rfl, hw⟩ := h.int_inv hu
  have h2 : 0 ≤ n ∧ n ≤ 255 := by
    simp only [Lit.wf, Bool.and_eq_true, decide_eq_true_eq] at hw
    exact hw
  refine ⟨UInt8.ofNat n.toNat, .cons ?_ .nil⟩
  have e : ((UInt8.ofNat n.toNat).toNat : Int) = n := by
    rw [UInt8.toNat_ofNat']; omega
  show Wk (.i .u8 n) (.i .u8 ((UInt8.ofNat n.toNat).toNat : Int))
  rw [e]; exact .refl _
theorem b10Long_ok (l m : List UInt8) : Ret env.P 4 [slL 1 byteC l, slL 1 byteC m] (fun r => r = .b (pb (1048576 < (l.length : Int) ∨ 1048576 < (m.length : Int)))) := by
  refine ret_of (nt := 13) (rvs := [.tmp 4]) Try.func4 rfl rfl rfl rfl (fun X => ?_)
  repeat' (first | omega | (with_reducible show (_ : Int) < _; dsimp only; omega) | (with_reducible show (_ : Nat) ≤ _; dsimp only; omega) | ((with_reducible show SrcOk _ _ _) <;> (first | exact srcOk_1 rfl | exact srcOk_L (fun _ => ⟨rfl, rfl⟩) | exact srcOk_E (fun _ => ⟨rfl, rfl⟩))) | ((conv => whnf) <;> (first | refine And.intro ?_ ?_ | (intro _h; first | contradiction | (try simp only [dd] at _h)) | (refine dt_go ?_) | exact rfl | exact True.intro | exact dkk | exact dks | (refine wrap_succ ?_; omega))))
  all_goals (conv => whnf)
  all_goals first
    | exact leaf_b (pb_t.mpr (.inl ‹_›)).symm
    | exact leaf_b (pb_t.mpr (.inl ‹_›))
    | (refine leaf_b ?_; by_cases h2 : 1048576 < (m.length : Int)
       · rw [pb_t.mpr (.inr h2)]; exact decide_eq_true h2
       · rw [pb_f.mpr (fun h => h.elim _h h2)]; exact decide_eq_false h2)
    | trace_state
end
section
attribute [local irreducible] IntKind.wrap
def cnL (v : Int) : List Int := [0, 1, 2, 3, 5, 7, 10, -1, -3, 64, 255, 256, 1099511627776, 9223372036854775807, -9223372036854775808, v]
theorem cnL_R {v x : Int} (h : 0 ≤ v ∧ (v = 0 ∨ v < 200)) (hx : x ∈ cnL v) : i64R x := by
  simp only [cnL, List.mem_cons, List.not_mem_nil, or_false] at hx
  unfold i64R
  omega
theorem l15Const_ok (s : Src) (h : s.rm 2) : RetM env.P 50 [some (boxRow s.cs)] [.ptr 0 0 0] (fun r H => ∃ (v : Int) (t : Src), i64R v ∧ (s.at' ≤ t.at' ∧ t.at' ≤ s.at' + 2 ∧ t.code.length = s.code.length) ∧ r = .i .i64 v ∧ H = [some (boxRow t.cs)]) := by
  obtain ⟨q1, q2, q3⟩ := h
  refine ret_ofM (nt := 8) (rvs := [.tmp 2]) Try.func50 rfl rfl rfl rfl (fun X hX => ?_)
  repeat' (first | omega | (with_reducible show (_ : Int) < _; dsimp only; omega) | (with_reducible show (_ : Nat) ≤ _; dsimp only; omega) | ((with_reducible show SrcOk _ _ _) <;> (first | exact srcOk_1 rfl | exact srcOk_L (fun _ => ⟨rfl, rfl⟩) | exact srcOk_E (fun _ => ⟨rfl, rfl⟩))) | ((conv => whnf) <;> (first | (refine Src.rm_i ?_ ?_ ?_) | ((refine .inr (.inl (.inl ⟨[0, 1], _, _, _, among_row t1 ?_ (cnL v) (Nat.succ_pos _) (show 16 ≤ 200 by decide), (view_of rfl (.cons rfl (.self (rowPl_box rfl)) (.cons rfl (rowBack_lit (cnL v)) .nil))), ⟨rfl, rfl⟩, ?_⟩))); rotate_left 1; rintro _ _ ⟨v2, t2, hv2, ht2, rfl, rfl⟩; refine ⟨rfl, _, lokA, ?_⟩) | refine And.intro ?_ ?_ | (intro _h; first | contradiction | (try simp only [dd] at _h)) | (refine dt_go ?_) | exact rfl | exact True.intro | exact dkk | exact dks | (refine .inr (.inl (.inl ⟨[0], _, _, _, pick_ex _ ?_ 200 (by decide), viewA, ⟨rfl, rfl⟩, ?_⟩)); rotate_left 1; (rintro _ _ ⟨v, t1, hv, ht1, rfl, rfl⟩) <;> (refine ⟨rfl, _, lokA, ?_⟩)) | (refine wrap_succ ?_; omega))))
  all_goals (conv => whnf)
  all_goals exact endM_pick [0] [some (boxRow (Src.cs _))] (.i .i64 v2) (view_of rfl (.cons rfl (.self (rowPl_box rfl)) .nil)) rfl rfl (by rw [hX]; exact keepK (n := 1) rfl rfl) ⟨v2, t2, cnL_R hv hv2, ⟨by omega, by omega, by omega⟩, rfl, rfl⟩
def anL (v w : Int) : List Int := [0, 0, 1, 2, v, 4096, 4097, w]
theorem l15AnyIns_ok (s : Src) (h : s.rm 5) : RetM env.P 23 [some (boxRow s.cs)] [.ptr 0 0 0] (fun r H => ∃ (i : Ins) (t : Src), (s.at' ≤ t.at' ∧ t.at' ≤ s.at' + 5 ∧ t.code.length = s.code.length) ∧ r = .agg i.cs ∧ H = [some (boxRow t.cs)]) := by
  obtain ⟨q1, q2, q3⟩ := h
  refine ret_ofM (nt := 15) (rvs := [.cell 2 30]) Try.func23 rfl rfl rfl rfl (fun X hX => ?_)
  repeat' (first | omega | (with_reducible show (_ : Int) < _; dsimp only; omega) | (with_reducible show (_ : Nat) ≤ _; dsimp only; omega) | ((with_reducible show SrcOk _ _ _) <;> (first | exact srcOk_1 rfl | exact srcOk_L (fun _ => ⟨rfl, rfl⟩) | exact srcOk_E (fun _ => ⟨rfl, rfl⟩))) | ((conv => whnf) <;> (first | (refine Src.rm_i ?_ ?_ ?_) | ((refine .inr (.inl (.inl ⟨[0, 2], _, _, _, among_row t4 ?_ (anL (IntKind.i64.wrap (v3 - 1)) v4) (Nat.succ_pos _) (show 8 ≤ 200 by decide), (view_of rfl (.cons rfl (.self (rowPl_box rfl)) (.cons rfl (rowBack_lit (anL (IntKind.i64.wrap (v3 - 1)) v4)) .nil))), ⟨rfl, rfl⟩, ?_⟩))); rotate_left 1; rintro _ _ ⟨v2, t2, hv2, ht2, rfl, rfl⟩; refine ⟨rfl, _, lokA, ?_⟩) | refine And.intro ?_ ?_ | (intro _h; first | contradiction | (try simp only [dd] at _h)) | (refine dt_go ?_) | exact rfl | exact True.intro | exact dkk | exact dks | (refine .inr (.inl (.inl ⟨[0], _, _, _, pick_ex _ ?_ 43 (by decide), viewA, ⟨rfl, rfl⟩, ?_⟩)); rotate_left 1; (rintro _ _ ⟨v, t1, hv, ht1, rfl, rfl⟩) <;> (refine ⟨rfl, _, lokA, ?_⟩)) | (refine .inr (.inl (.inl ⟨[0], _, _, _, pick_ex _ ?_ 20 (by decide), viewA, ⟨rfl, rfl⟩, ?_⟩)); rotate_left 1; (rintro _ _ ⟨v3, t3, hv3, ht3, rfl, rfl⟩) <;> (refine ⟨rfl, _, lokA, ?_⟩)) | (refine .inr (.inl (.inl ⟨[0], _, _, _, l15Const_ok _ ?_, viewA, ⟨rfl, rfl⟩, ?_⟩)); rotate_left 1; (rintro _ _ ⟨v4, t4, hv4, ht4, rfl, rfl⟩) <;> (refine ⟨rfl, _, lokA, ?_⟩)) | (refine wrap_succ ?_; omega))))
  all_goals (conv => whnf)
  all_goals exact endM_pick [0] [some (boxRow (Src.cs _))] (.agg (Ins.cs ⟨_, v2⟩)) (view_of rfl (.cons rfl (.self (rowPl_box rfl)) .nil)) rfl rfl (by rw [hX]; exact keepK (n := 1) rfl rfl) ⟨⟨_, v2⟩, t2, ⟨by omega, by omega, by omega⟩, rfl, rfl⟩
theorem next_ex (s : Src) (h : s.rm 1) : RetM env.P 58 [some (boxRow s.cs)] [.ptr 0 0 0] (fun r H => ∃ (v : Int) (t : Src), (0 ≤ v ∧ v ≤ 255) ∧ (s.at' ≤ t.at' ∧ t.at' ≤ s.at' + 1 ∧ t.code.length = s.code.length) ∧ r = .i .i64 v ∧ H = [some (boxRow t.cs)]) :=
  (next_ok s (h.ok (by omega))).mono fun r H hr => ⟨s.nextV, s.next, nextV_le s, ⟨by show s.at' ≤ s.at' + 1; omega, by show s.at' + 1 ≤ s.at' + 1; omega, rfl⟩, hr⟩
theorem tmod_rng {x n : Int} (h : 0 ≤ x) (hn : 1 ≤ n) : 0 ≤ x.tmod n ∧ (x.tmod n = 0 ∨ x.tmod n < n) := by
  rw [Int.tmod_eq_emod_of_nonneg h]
  have := Int.emod_nonneg x (show n ≠ 0 by omega)
  have := Int.emod_lt_of_pos x (show 0 < n by omega)
  omega
theorem pickB_ex (s : Src) (h : s.rm 2) (n : Int) (hn : 200 < n ∧ n ≤ 65536) : RetM env.P 39 [some (boxRow s.cs)] [.ptr 0 0 0, .i .i64 n] (fun r H => ∃ (v : Int) (t : Src), (0 ≤ v ∧ (v = 0 ∨ v < n)) ∧ (s.at' ≤ t.at' ∧ t.at' ≤ s.at' + 2 ∧ t.code.length = s.code.length) ∧ r = .i .i64 v ∧ H = [some (boxRow t.cs)]) := by
  obtain ⟨q1, q2, q3⟩ := h
  refine ret_ofM (nt := 20) (rvs := [.tmp 4]) Try.func39 rfl rfl rfl rfl (fun X hX => ?_)
  repeat' (first | omega | (with_reducible show (_ : Int) < _; dsimp only; omega) | (with_reducible show (_ : Nat) ≤ _; dsimp only; omega) | ((with_reducible show SrcOk _ _ _) <;> (first | exact srcOk_1 rfl | exact srcOk_L (fun _ => ⟨rfl, rfl⟩) | exact srcOk_E (fun _ => ⟨rfl, rfl⟩))) | ((conv => whnf) <;> (first | (refine Src.rm_i ?_ ?_ ?_) | refine And.intro ?_ ?_ | (intro _h; first | contradiction | (try simp only [dd] at _h)) | (refine dt_go ?_) | exact rfl | exact True.intro | exact dkk | exact dks | (refine .inr (.inl (.inl ⟨[0], _, _, _, next_ex _ ?_, viewA, ⟨rfl, rfl⟩, ?_⟩)); rotate_left 1; (rintro _ _ ⟨v2, t2, hv2, ht2, rfl, rfl⟩) <;> (refine ⟨rfl, _, lokA, ?_⟩)) | (refine wrap_succ ?_; omega))))
  all_goals (conv => whnf)
  all_goals exact endM_pick [0] [some (boxRow (Src.cs _))] (.i .i64 _) (view_of rfl (.cons rfl (.self (rowPl_box rfl)) .nil)) rfl rfl (by rw [hX]; exact keepK (n := 1) rfl rfl) ⟨_, t2, tmod_rng (by rw [wrap_in (n := _ * 256) (by omega) (by omega), wrap_in (by omega) (by omega)]; omega) (by omega), ⟨by omega, by omega, by omega⟩, rfl, rfl⟩
end
def ow1 : AV → Bool
  | .ow .. => true
  | _ => false
theorem own_nil {w : World} {S : Nat → Prop} {blk : Nat → BC} {H : Hp} {x : AV} {u : Value} {fp : List Nat} (h : Own w S blk H x u fp) (hx : ow1 x = false) : fp = [] := by
  cases h with
  | plain => rfl
  | ow0 => cases hx
  | ow => cases hx
def PlainH (H : Hp) : Prop := ∀ (k : Nat) (x : Option Row), H[k]? = some x → ∃ r : Row, x = some r ∧ 0 < r.cap ∧ ∀ i j, i < r.cap → j < r.sz → ow1 (r.es i j) = false
theorem plainH_nil : PlainH [] := fun k x h => by simp at h
def FrzP (π : List Nat) (post : AV → Hp → Prop) (r : AV) (H : Hp) : Prop := ∃ (H1 : Hp) (r1 : AV), ViewOk π H H1 ∧ WkC (shr (outM π 0 H) r) r1 ∧ post r1 H1
theorem RetM.frz {P : Program} {g : FuncId} {H0 : Hp} {avs : List AV} {post : AV → Hp → Prop} (π : List Nat) (hπe : List.range H0.length = π) (hp : PlainH H0) (h : RetM P g H0 avs (FrzP π post)) : RetM P g H0 avs post := .mk fun w S blk FP us hR hG hc => by
  have hbk : ∀ (k : Nat) (r : Row), H0[k]? = some (some r) → RowOk w S blk H0 [(blk k).b] (blk k) r ∧ (blk k).b ∈ FP k := fun k r hr => by
    obtain ⟨r', e, hcap, hpl⟩ := hp k _ hr
    cases e
    obtain ⟨h1, h2⟩ := hR.rows k r hr
    rcases h1 with ⟨h0, _⟩ | ⟨c0, c1, c2, c3, ty, cur, F, d1, d2, d3, d4, d5, d6⟩
    · omega
    · refine ⟨.inr ⟨c0, c1, c2, List.mem_singleton.2 rfl, ty, cur, fun _ _ => [], d1, d2, d3, fun i j hi hj => ?_, fun i j _ _ x hx => by simp at hx, fun i j i' j' _ _ _ _ _ x hx => by simp at hx⟩, c3⟩
      obtain ⟨u, e1, e2, e3⟩ := d4 i j hi hj
      have := own_nil e3 (hpl i j hi hj)
      rw [this] at e3
      exact ⟨u, e1, e2, e3⟩
  have hR' : RowsIn w S blk (fun k => [(blk k).b]) H0 := ⟨fun id r hr => ⟨(hbk id r hr).1, fun b hb => by
      rw [List.mem_singleton.1 hb]
      exact (hR.rows id r hr).2 _ (hbk id r hr).2⟩, fun i j r r' hi hj hij b hb hb' => by
      rw [List.mem_singleton.1 hb] at hb'
      have e := List.mem_singleton.1 hb'
      exact hR.apart i j r r' hi hj hij _ (hbk i r hi).2 (e ▸ (hbk j r' hj).2), fun b hb => ⟨(hR.free b hb).1, fun id r hr hm => by
      have e := List.mem_singleton.1 hm
      subst e
      exact (hR.free _ hb).2 id r hr (hbk id r hr).2⟩⟩
  refine (h.h w S blk (fun k => [(blk k).b]) us hR' hG hc).mono ?_
  rintro e w' ⟨r, u, H', blk', FP', he, ⟨H1, r1, hv, hw, hq⟩, hR2, hc2, hext, hfr, hk⟩
  have hmem : ∀ i, i ∈ π ↔ i < H0.length := fun i => by rw [← hπe]; exact List.mem_range
  have hat0 : ∀ k, k < H0.length → π[k]? = some k := fun k hk => by rw [← hπe]; simp [hk]
  have hπ : ∀ i ∈ π, i < H'.length := fun i hi => by
    obtain ⟨k, hk⟩ := List.getElem?_of_mem hi
    obtain ⟨_, y, _, hy, _⟩ := hv.row k i hk
    exact (List.getElem?_eq_some_iff.1 hy).1
  have hsm : ∀ k, k < π.length → sig π H'.length k ∈ π := fun k hk => by
    unfold sig
    rw [List.getElem?_eq_getElem hk]
    exact List.getElem_mem hk
  have hat : ∀ {k : Nat} {x : Row}, H1[k]? = some (some x) → k < π.length ∧ ∃ y, H'[sig π H'.length k]? = some (some y) ∧ RowBack (sig π H'.length) π.length x y := by
    intro k x hx
    have hk : k < π.length := by rw [← hv.len]; exact (List.getElem?_eq_some_iff.1 hx).1
    have hk' : π[k]? = some π[k] := List.getElem?_eq_getElem hk
    obtain ⟨x', y, h1, h2, h3⟩ := hv.row k _ hk'
    rw [hx] at h1
    cases h1
    exact ⟨hk, y, by unfold sig; rw [hk']; exact h2, h3⟩
  have hB : Back (sig π H'.length) π.length H' blk' H1 (fun k => blk' (sig π H'.length k)) := by
    intro k hk
    have hk' : π[k]? = some π[k] := List.getElem?_eq_getElem hk
    obtain ⟨x', y, h1, h2, h3⟩ := hv.row k _ hk'
    exact ⟨x', y, h1, by unfold sig; rw [hk']; exact h2, h3.sz, h3.cap, rfl⟩
  have hS : ∀ b, aftS S w.heap.size w'.heap.size FP' H' b → aftS S w.heap.size w'.heap.size (fun k => FP' (sig π H'.length k)) H1 b := fun b hb => ⟨hb.1, hb.2.1, fun k x hx => by
    obtain ⟨_, y, hy, _⟩ := hat hx
    exact hb.2.2 _ y hy⟩
  have hfz : ∀ (id : Nat) (y : Row), (outM π 0 H')[id]? = some (some y) → ∀ b ∈ FP' id, aftS S w.heap.size w'.heap.size (fun k => FP' (sig π H'.length k)) H1 b := fun id y hy b hb => by
    obtain ⟨hy, hn⟩ := outM_row hy
    refine ⟨?_, (hR2.rows id y hy).2 b hb, fun k x hx hbk' => ?_⟩
    · rcases hfr b ⟨id, y, hy, hb⟩ with h1 | ⟨k, r0, hr0, hb0⟩
      · exact .inr h1
      · exfalso
        have hk0 : k < H0.length := (List.getElem?_eq_some_iff.1 hr0).1
        obtain ⟨x', y', _, h2, _⟩ := hv.row k k (hat0 k hk0)
        rcases hext k _ hr0 with h4 | ⟨ra, rb, ea, h5, h6, h7, h8⟩
        · rw [h2] at h4; cases h4
        · cases ea
          obtain ⟨_, e0, hcap, _⟩ := hp k _ hr0
          cases e0
          have hb1 : (blk' k).b ∈ FP' k := by
            rcases (hR2.rows k rb h5).1 with ⟨h0, _⟩ | ⟨_, _, _, c3, _⟩
            · omega
            · exact c3
          rw [List.mem_singleton.1 hb0, ← h8] at hb
          exact hR2.apart k id rb y h5 hy (fun e => hn (e ▸ (hmem k).2 hk0)) _ hb1 hb
    · obtain ⟨hk', y', hy', _⟩ := hat hx
      exact hR2.apart id _ y y' hy hy' (fun e => hn (e ▸ hsm k hk')) b hb hbk'
  refine ⟨r1, u, H1, fun k => blk' (sig π H'.length k), fun k => FP' (sig π H'.length k), he, hq, ⟨fun k x hx => ?_, fun i j x x' hi hj hij => ?_, fun b hb => ⟨hb.2.1, hb.2.2⟩⟩, ?_, fun k x hx => ?_, fun b hb => ?_, ?_⟩
  · obtain ⟨_, y, hy, hrb⟩ := hat hx
    obtain ⟨h1, h2⟩ := hR2.rows _ y hy
    exact ⟨h1.back hrb (fun b hb => ⟨hS b hb, rfl⟩) hB fun _ _ => rfl, h2⟩
  · obtain ⟨_, y, hy, _⟩ := hat hi
    obtain ⟨_, y', hy', _⟩ := hat hj
    exact hR2.apart _ _ y y' hy hy' fun e => hij (sig_inj hv.nodup hπ e)
  · have c3 : Conc w' _ blk' (outM π 0 H') r u := hc2.mono (fun b hb => ⟨hb, rfl⟩) outM_ext
    have c4 : Conc w' (aftS S w.heap.size w'.heap.size (fun k => FP' (sig π H'.length k)) H1) (fun _ => ⟨0, 0⟩) [] (shr (outM π 0 H') r) u :=
      shr_conc (FP := FP') hS (fun id y hy => ⟨(hR2.rows id y (outM_row hy).1).1.mono (fun b hb => ⟨hb, rfl⟩) outM_ext fun _ _ => rfl, hfz id y hy⟩) c3
    exact (hw _ _ _ c4).mono (fun b hb => ⟨hb, rfl⟩) fun id x hx => by simp at hx
  · have hk0 : k < H0.length := (List.getElem?_eq_some_iff.1 hx).1
    obtain ⟨x', y, h1, h2, h3⟩ := hv.row k k (hat0 k hk0)
    rcases hext k x hx with h4 | ⟨r, r', rfl, h5, h6, h7, h8⟩
    · rw [h2] at h4; cases h4
    · rw [h2] at h5
      cases h5
      refine .inr ⟨r, x', rfl, h1, h3.sz.trans h6, h3.cap.trans h7, ?_⟩
      show blk' (sig π H'.length k) = blk k
      unfold sig
      rw [hat0 k hk0]
      exact h8
  · obtain ⟨k, x, hx, hb⟩ := hb
    obtain ⟨_, y, hy, _⟩ := hat hx
    rcases hfr b ⟨_, y, hy, hb⟩ with h1 | ⟨k', r0, hr0, hb0⟩
    · exact .inl h1
    · exact .inr ⟨k', r0, hr0, by rw [List.mem_singleton.1 hb0]; exact (hbk k' r0 hr0).2⟩
  · exact ⟨hk.os, hk.tape, hk.output, hk.size, fun k hlt hm => hk.block k hlt fun ⟨k', r0, hr0, hb0⟩ => hm ⟨k', r0, hr0, by rw [List.mem_singleton.1 hb0]; exact (hbk k' r0 hr0).2⟩⟩
theorem frz_tup {H : Hp} {cs ds : List AV} (h : WkL (cs.map fun c => match c with | .agg ds => .agg (ds.map (shrC 5 H)) | c => shrC 5 H c) ds) : WkC (shr H (.tup cs)) (.tup ds) := fun w S u hu => by
  obtain ⟨us, rfl, hl, hc⟩ := inv_tup hu
  refine .tup _ us (hl.trans h.1) fun j c u hj hju => ?_
  have hlt : j < (cs.map fun c => match c with | .agg ds => AV.agg (ds.map (shrC 5 H)) | c => shrC 5 H c).length := by rw [h.1]; exact (List.getElem?_eq_some_iff.1 hj).1
  exact (h.2 j _ c (List.getElem?_eq_getElem hlt) hj).c w S u (hc j _ u (List.getElem?_eq_getElem hlt) hju)
theorem Ret.toMB {P : Program} {g : FuncId} {av : List AV} {post : AV → Prop} (h : Ret P g av post) : RetM P g [] av (fun r H => post r ∧ H = []) := .mk fun w S blk FP us hR hG hc => by
  refine (h.h w S us ⟨fun b hb => (hR.free b hb).1, hG⟩ ⟨hc.1, fun j c u hj hu => (hc.2 j c u hj hu).nil⟩).mono fun e w' ⟨r, u, he, hq, hcu, hb⟩ => ⟨r, u, [], blk, FP, he, ⟨hq, rfl⟩, ⟨fun id r hr => by simp at hr, fun i j r r' hr => by simp at hr, fun b hb => ⟨hb.2.1, fun id r hr => by simp at hr⟩⟩, ?_, HExt.refl _ _, ?_, ⟨hb.os, hb.tape, hb.output, hb.size, fun k hk _ => hb.block k hk⟩⟩
  · have hcu' : Conc w' (fun b => S b ∨ (w.heap.size ≤ b ∧ b < w'.heap.size)) blk [] r u := hcu.nil
    refine hcu'.mono (fun b hb' => ⟨⟨?_, ?_, fun id r hr => by simp at hr⟩, rfl⟩) (HExt.refl _ _)
    · rcases hb' with h | h
      · exact .inl h
      · exact .inr h.1
    · rcases hb' with h | h
      · have := (hR.free b h).1
        have := hb.size
        omega
      · exact h.2
  · rintro b ⟨id, r, hr, _⟩
    simp at hr
theorem RetM.toRetP {P : Program} {g : FuncId} {av : List AV} {x : Bool} (h : RetM P g [] av (fun r H => (r = .b x ∨ r = .kb x) ∧ H = [])) : Ret P g av (fun r => r = .b x) := .mk fun w S us hS hc => by
  refine (h.h w S (fun _ => ⟨0, 0⟩) (fun _ => []) us ⟨fun id r q => by simp at q, fun i j r r' q => by simp at q, fun b hb => ⟨hS b hb, fun id r q => by simp at q⟩⟩ hS.gl hc).mono ?_
  rintro e w' ⟨r, u, H', blk', FP', he, ⟨hq, rfl⟩, _, hcu, _, _, hk⟩
  refine ⟨.b x, u, he, rfl, ?_, ⟨hk.os, hk.tape, hk.output, hk.size, fun k hlt => hk.block k hlt (by rintro ⟨id, r, q, _⟩; simp at q)⟩⟩
  have hcu' : Conc w' _ (fun _ => ⟨0, 0⟩) [] r u := hcu.nil
  rcases hq with rfl | rfl
  · exact hcu'.mono (fun b hb => ⟨hb.1.imp_right fun q => ⟨q, hb.2.1⟩, rfl⟩) (HExt.refl _ _)
  · cases hcu'
    exact .b x
theorem RetM.toRetG {P : Program} {g : FuncId} {av : List AV} {post : AV → Prop} (h : RetM P g [] av (fun r H => post r ∧ H = [])) : Ret P g av post := .mk fun w S us hS hc => by
  refine (h.h w S (fun _ => ⟨0, 0⟩) (fun _ => []) us ⟨fun id r q => by simp at q, fun i j r r' q => by simp at q, fun b hb => ⟨hS b hb, fun id r q => by simp at q⟩⟩ hS.gl hc).mono ?_
  rintro e w' ⟨r, u, H', blk', FP', he, ⟨hq, rfl⟩, _, hcu, _, _, hk⟩
  refine ⟨r, u, he, hq, ?_, ⟨hk.os, hk.tape, hk.output, hk.size, fun k hlt => hk.block k hlt (by rintro ⟨id, r, q, _⟩; simp at q)⟩⟩
  have hcu' : Conc w' _ (fun _ => ⟨0, 0⟩) [] r u := hcu.nil
  exact hcu'.mono (fun b hb => ⟨hb.1.imp_right fun q => ⟨q, hb.2.1⟩, rfl⟩) (HExt.refl _ _)
theorem Ret.ofFrz {P : Program} {g : FuncId} {av : List AV} {post : AV → Prop} (h : RetM P g [] av (FrzP [] fun r H => post r ∧ H = [])) : Ret P g av post := (RetM.frz [] rfl plainH_nil h).toRetG
theorem view_none {H : Hp} : ViewOk [] H [] := view_of rfl .nil
theorem frz0 {H : Hp} {r r1 : AV} {post : AV → Prop} (hw : WkC (shr (outM [] 0 H) r) r1) (hp : post r1) : FrzP [] (fun r H => post r ∧ H = []) r H := ⟨[], r1, view_none, hw, hp, rfl⟩
theorem lbz_capC {n b : Nat} (h : n ≤ 1000) (hb : b ≤ 1000) : (n + 1) * b ≤ 140737488355328 := Nat.le_trans (Nat.mul_le_mul (Nat.succ_le_succ h) hb) (by decide)
theorem lbz_capM {n : Nat} (h : n ≤ 1000) : n + 1 ≤ 9223372036854775807 := by omega
def delS (t : Nat) : Fr → Fr
  | [] => []
  | (d, v) :: f => bif Nat.beq d t then delS t f else (d, v) :: delS t f
theorem lk_delS {t u : Nat} : ∀ {f : Fr}, lk (delS t f) u = lk f u ∨ lk (delS t f) u = .any
  | [] => .inl rfl
  | (d, v) :: f => by
    unfold delS
    cases hb : Nat.beq d t with
    | true =>
      rw [cond_true]
      by_cases hu : d = u
      · right
        have hd := Nat.eq_of_beq_eq_true hb
        subst hd
        subst hu
        clear hb
        induction f with
        | nil => rfl
        | cons p f ih =>
          obtain ⟨e, z⟩ := p
          unfold delS
          cases hb : Nat.beq e d with
          | true => exact ih
          | false =>
            rw [cond_false, lk_cons, if_neg (fun q => by rw [q, Nat.beq_refl] at hb; cases hb)]
            exact ih
      · rw [lk_cons, if_neg hu]
        exact lk_delS
    | false =>
      rw [cond_false, lk_cons, lk_cons]
      split
      · exact .inl rfl
      · exact lk_delS
theorem lw_del {P : Program} {nt : Nat} {X : Ctx} {f : Fr} {Hh : Hp} {c : Code} {Q : Exit → Fr → Hp → Prop} (t : Nat) (h : LW P nt X c (delS t f) Hh Q) : LW P nt X c f Hh Q :=
  ⟨fun a w s => h.pw a w (by
    obtain ⟨blk, FP, s⟩ := s
    refine ⟨blk, FP, s.defers, s.size, s.keeps, s.rows, s.apart, fun u => ?_, s.ext⟩
    rcases lk_delS (t := t) (u := u) (f := f) with e | e
    · rw [e]; exact s.fr u
    · rw [e]; exact .any _)⟩
end Go.Proofs.Ytdeledeopippfaa
