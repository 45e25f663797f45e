/-
  The source of choices: next, pick, one, among.
-/
import Derived.Test.YtfddakeigmpjkaaGreatDoorVTOwn
import Derived.Test.YtfddakeigmpjkaaGreatDoorVZ
import Derived.Test.YtfddakeigmpjkaaGreatDoorVX
import Derived.Test.YtfddakeigmpjkaaGreatDoorVTpA
import Derived.Test.YtfddakeigmpjkaaGreatDoorVFz
import Derived.Test.YtfddakeigmpjkaaGreatDoorVTpF
namespace Go.Proofs.YtfddakeigmpjkaaGreatDoor
open Go Go.RowKit
set_option linter.unusedVariables false
set_option linter.unusedSimpArgs false

def byteC (b : UInt8) : List AV := [.i .u8 b.toNat]
structure Src where
  code : List UInt8
  at' : Int
  seed : Int
def Src.cs (s : Src) : List AV := [slL 1 byteC s.code, .i .i64 s.at', .i .u64 s.seed]
/-- The source may be asked n times more. -/
def Src.ok (s : Src) (n : Int) : Prop := 0 ≤ s.at' ∧ s.at' + n ≤ 1000000000 ∧ s.code.length ≤ 2000000
def Src.byte (s : Src) : Int := if s.at' < s.code.length then ((s.code.getD s.at'.toNat default).toNat : Int) else 0
def Src.next (s : Src) : Src := ⟨s.code, s.at' + 1, IntKind.u64.wrap (IntKind.u64.wrap (IntKind.u64.wrap (s.seed * 6364136223846793005) + s.byte) + 1442695040888963407)⟩
def Src.nextV (s : Src) : Int := if s.at' < s.code.length then s.byte else bits .and .u64 (s.next.seed.fdiv (2 ^ 40)) 255

theorem wrap_u0 {n : Int} (h1 : 0 ≤ n) (h2 : n ≤ 9223372036854775807) : IntKind.u64.wrap n = n := by
  rw [IntKind.wrap_u64]; omega
theorem byte_le (s : Src) : 0 ≤ s.byte ∧ s.byte ≤ 255 := by
  unfold Src.byte
  split
  · have := (s.code.getD s.at'.toNat default).toNat_lt; omega
  · omega
theorem and_le (x : Int) : 0 ≤ bits .and .u64 x 255 ∧ bits .and .u64 x 255 ≤ 255 := by
  have h : ((BitVec.ofInt 64 x &&& BitVec.ofInt 64 255).toNat : Int) ≤ 255 := by
    rw [BitVec.toNat_and]
    have := @Nat.and_le_right (BitVec.ofInt 64 x).toNat (BitVec.ofInt 64 255).toNat
    have e : (BitVec.ofInt 64 255).toNat = 255 := by decide
    omega
  have e : bits .and .u64 x 255 = IntKind.u64.wrap ((BitVec.ofInt 64 x &&& BitVec.ofInt 64 255).toNat : Int) := rfl
  rw [e, wrap_u0 (by omega) (by omega)]
  omega
theorem wrap_bits (x : Int) : IntKind.i64.wrap (bits .and .u64 x 255) = bits .and .u64 x 255 := wrap_in (by have := and_le x; omega) (by have := and_le x; omega)
theorem nextV_le (s : Src) : 0 ≤ s.nextV ∧ s.nextV ≤ 255 := by
  unfold Src.nextV
  split
  · exact byte_le s
  · exact and_le _

set_option maxRecDepth 8000 in
theorem next_ok (s : Src) (h : s.ok 1) : RetM env.P 70 [some (boxRow s.cs)] [.ptr 0 0 0] (fun r H => r = .i .i64 s.nextV ∧ H = [some (boxRow s.next.cs)]) := by
  obtain ⟨h1, h2, h3⟩ := h
  have e0 : ((s.code.getD s.at'.toNat default).toNat : Int) < 256 := by have := (s.code.getD s.at'.toNat default).toNat_lt; omega
  have e1 : IntKind.i64.wrap (s.at' + 1) = s.at' + 1 := wrap_in (by omega) (by omega)
  have e2 : IntKind.i64.wrap ((s.code.getD s.at'.toNat default).toNat : Int) = ((s.code.getD s.at'.toNat default).toNat : Int) := wrap_in (by omega) (by omega)
  have e3 : IntKind.u64.wrap ((s.code.getD s.at'.toNat default).toNat : Int) = ((s.code.getD s.at'.toNat default).toNat : Int) := wrap_u0 (by omega) (by omega)
  have e4 : IntKind.u64.wrap 0 = 0 := by decide
  refine ret_ofM (nt := 62) (rvs := [.tmp 2]) Tryz.func70 rfl rfl rfl rfl (fun X hX => ?_)
  repeat' (first | exact aa | ((conv => whnf) <;> (first | refine And.intro ?_ ?_ | (intro _h; first | contradiction | (try simp only [dd] at _h)) | (refine dt_go ?_) | exact rfl | exact True.intro | exact dkk | exact dks | (refine wrap_succ ?_; omega))))
  all_goals (conv => whnf)
  all_goals refine endM_turn (turn_box (id := 0) (ds := [slL 1 byteC s.code, .i .i64 _, .i .u64 _]) rfl rfl rfl (.cons (.refl _) (.cons (.refl _) (.cons (.refl _) .nil)))) ?_
  all_goals refine endM_pick [0] [some (boxRow [slL 1 byteC s.code, .i .i64 _, .i .u64 _])] (.i .i64 _) (view_of rfl (.cons rfl (.self (rowPl_box rfl)) .nil)) rfl rfl (by rw [hX]; exact keepK (n := 1) rfl rfl) ⟨?_, ?_⟩
  all_goals (try (exfalso; rw [e1] at *; omega))
  all_goals (rename_i q; first | (simp only [Src.nextV, Src.next, Src.cs, Src.byte, e1, e2, e3, e4, wrap_bits, if_pos q]; done) | (simp only [Src.nextV, Src.next, Src.cs, Src.byte, e1, e2, e3, e4, wrap_bits, if_neg q]; done) | (simp only [Src.nextV, Src.next, Src.cs, Src.byte, e1, e2, e3, e4, wrap_bits, if_pos q]; rfl) | (simp only [Src.nextV, Src.next, Src.cs, Src.byte, e1, e2, e3, e4, wrap_bits, if_neg q]; rfl))
/-- A number from 0 to n - 1 (n at most 200 here). -/
def Src.pickV (s : Src) (n : Int) : Int := if n ≤ 1 then 0 else s.nextV.tmod n
def Src.pickS (s : Src) (n : Int) : Src := if n ≤ 1 then s else s.next
theorem pick_le (s : Src) (n : Int) : 0 ≤ s.pickV n ∧ (1 ≤ n → s.pickV n < n) := by
  have := nextV_le s
  unfold Src.pickV
  split
  · omega
  · rw [Int.tmod_eq_emod_of_nonneg this.1]
    exact ⟨Int.emod_nonneg _ (by omega), fun _ => Int.emod_lt_of_pos _ (by omega)⟩
theorem next_lo {s : Src} {k m : Int} (h : s.ok k) (hm : m + 1 ≤ k) : s.next.ok m := by
  obtain ⟨h1, h2, h3⟩ := h
  refine ⟨?_, ?_, h3⟩ <;> (simp only [Src.next]; omega)
theorem ok_lo {s : Src} {k m : Int} (h : s.ok k) (hm : m ≤ k) : s.ok m := ⟨h.1, by have := h.2.1; omega, h.2.2⟩
theorem pick_lo {s : Src} {k m n : Int} (h : s.ok k) (hm : m + 1 ≤ k) : (s.pickS n).ok m := by
  unfold Src.pickS
  split
  · exact ok_lo h (by omega)
  · exact next_lo h hm

set_option maxRecDepth 8000 in
theorem pick_ok (s : Src) (h : s.ok 1) (n : Int) (hn : n ≤ 200) : RetM env.P 36 [some (boxRow s.cs)] [.ptr 0 0 0, .i .i64 n] (fun r H => r = .i .i64 (s.pickV n) ∧ H = [some (boxRow (s.pickS n).cs)]) := by
  refine ret_ofM (nt := 20) (rvs := [.tmp 4]) Tryz.func36 rfl rfl rfl rfl (fun X hX => ?_)
  repeat' (first | exact aa | ((conv => whnf) <;> (first | refine And.intro ?_ ?_ | (intro _h; first | contradiction | (try simp only [dd] at _h)) | (refine dt_go ?_) | exact rfl | exact True.intro | exact dkk | exact dks | (refine .inr (.inl (.inl ⟨[0], _, _, _, next_ok s h, viewA, ⟨rfl, rfl⟩, ?_⟩)); rintro _ _ ⟨rfl, rfl⟩; refine ⟨rfl, _, lokA, ?_⟩) | (refine wrap_succ ?_; omega))))
  all_goals (conv => whnf)
  rotate_left; rename_i q; rotate_right
  · refine endM_pick [0] [some (boxRow s.cs)] (.i .i64 _) (view_of rfl (.cons rfl (.self (rowPl_box rfl)) .nil)) rfl rfl (by rw [hX]; exact keepK (n := 1) rfl rfl) ⟨?_, ?_⟩
    · exact leaf_i (if_pos _h).symm
    · unfold Src.pickS; rw [if_pos _h]
  · refine endM_pick [0] [some (boxRow s.next.cs)] (.i .i64 _) (view_of rfl (.cons rfl (.self (rowPl_box rfl)) .nil)) rfl rfl (by rw [hX]; exact keepK (n := 1) rfl rfl) ⟨?_, ?_⟩
    · exact leaf_i (if_neg q).symm
    · unfold Src.pickS; rw [if_neg q]

set_option maxRecDepth 8000 in
theorem one_ok (s : Src) (h : s.ok 1) (n : Int) (hn : n ≤ 200) : RetM env.P 38 [some (boxRow s.cs)] [.ptr 0 0 0, .i .i64 n] (fun r H => r = .b (pb (s.pickV n = 0)) ∧ H = [some (boxRow (s.pickS n).cs)]) := by
  refine ret_ofM (nt := 9) (rvs := [.tmp 4]) Tryz.func38 rfl rfl rfl rfl (fun X hX => ?_)
  repeat' (first | exact aa | ((conv => whnf) <;> (first | refine And.intro ?_ ?_ | (intro _h; first | contradiction | (try simp only [dd] at _h)) | (refine dt_go ?_) | exact rfl | exact True.intro | exact dkk | exact dks | (refine .inr (.inl (.inl ⟨[0], _, _, _, pick_ok s h n hn, viewA, ⟨rfl, rfl⟩, ?_⟩)); rintro _ _ ⟨rfl, rfl⟩; refine ⟨rfl, _, lokA, ?_⟩) | (refine wrap_succ ?_; omega))))
  all_goals (conv => whnf)
  exact endM_pick [0] [some (boxRow (s.pickS n).cs)] (.b _) (view_of rfl (.cons rfl (.self (rowPl_box rfl)) .nil)) rfl rfl (by rw [hX]; exact keepK (n := 1) rfl rfl) ⟨leaf_p (by rw [decide_eq_true_eq]), rfl⟩

set_option maxRecDepth 8000 in
theorem among_ok (s : Src) (h : s.ok 1) (l : List Int) (h0 : 0 < l.length) (hn : l.length ≤ 200) : RetM env.P 55 [some (boxRow s.cs)] [.ptr 0 0 0, slL 1 intC l] (fun r H => r = .i .i64 (l.getD (s.pickV l.length).toNat default) ∧ H = [some (boxRow (s.pickS l.length).cs)]) := by
  have hl : (l.length : Int) ≤ 200 := by omega
  have hp := pick_le s l.length
  have hq := hp.2 (by omega)
  refine ret_ofM (nt := 12) (rvs := [.tmp 4]) Tryz.func55 rfl rfl rfl rfl (fun X hX => ?_)
  repeat' (first | exact aa | ((conv => whnf) <;> (first | refine And.intro ?_ ?_ | (intro _h; first | contradiction | (try simp only [dd] at _h)) | (refine dt_go ?_) | exact rfl | exact True.intro | exact dkk | exact dks | (refine .inr (.inl (.inl ⟨[0], _, _, _, pick_ok s h l.length hl, viewA, ⟨rfl, rfl⟩, ?_⟩)); rintro _ _ ⟨rfl, rfl⟩; refine ⟨rfl, _, lokA, ?_⟩) | (refine wrap_succ ?_; omega))))
  all_goals (conv => whnf)
  exact endM_pick [0] [some (boxRow (s.pickS l.length).cs)] (.i .i64 _) (view_of rfl (.cons rfl (.self (rowPl_box rfl)) .nil)) rfl rfl (by rw [hX]; exact keepK (n := 1) rfl rfl) ⟨rfl, rfl⟩

set_option maxRecDepth 8000 in
theorem from_ok (l : List UInt8) : RetM env.P 20 [] [slL 1 byteC l] (fun r H => r = .ptr 0 0 0 ∧ H = [some (boxRow (Src.mk l 0 0).cs)]) := by
  refine ret_ofM (nt := 6) (rvs := [.tmp 2]) Tryz.func20 rfl rfl rfl rfl (fun X hX => ?_)
  repeat' (first | exact aa | ((conv => whnf) <;> (first | refine And.intro ?_ ?_ | (intro _h; first | contradiction | (try simp only [dd] at _h)) | (refine dt_go ?_) | exact rfl | exact True.intro | exact dkk | exact dks | (refine wrap_succ ?_; omega))))
  all_goals (conv => whnf)
  exact endM_pick [0] [some (boxRow (Src.mk l 0 0).cs)] (.ptr 0 0 0) (view_of rfl (.cons rfl (.self (rowPl_box rfl)) .nil)) rfl rfl (fun k hk => by rw [hX] at hk; exact absurd hk (Nat.not_lt_zero k)) ⟨rfl, rfl⟩
end Go.Proofs.YtfddakeigmpjkaaGreatDoor

namespace Go.Proofs.YtfddakeigmpjkaaGreatDoor
open Go Go.RowKit
set_option linter.unusedVariables false
set_option linter.unusedSimpArgs false
attribute [local irreducible] IntKind.wrap

theorem getD_memS {α : Type} [Inhabited α] {l : List α} {k : Nat} (h : k < l.length) : l.getD k default ∈ l := by
  rw [List.getD_eq_getElem?_getD, List.getElem?_eq_getElem h]
  exact List.getElem_mem h
/-- The source may be asked n times more. -/
def Src.rm (s : Src) (n : Int) : Prop := 0 ≤ s.at' ∧ s.at' + n ≤ 100000000 ∧ s.code.length ≤ 2000000
theorem Src.rm_i {s : Src} {n : Int} (h1 : 0 ≤ s.at') (h2 : s.at' + n ≤ 100000000) (h3 : s.code.length ≤ 2000000) : s.rm n := ⟨h1, h2, h3⟩
theorem Src.rm.ok {s : Src} {n : Int} (h : s.rm n) (hn : 1 ≤ n) : s.ok 1 := ⟨h.1, by have := h.2.1; omega, h.2.2⟩
theorem pickS_at (s : Src) (n : Int) : s.at' ≤ (s.pickS n).at' ∧ (s.pickS n).at' ≤ s.at' + 1 ∧ (s.pickS n).code.length = s.code.length := by
  unfold Src.pickS
  split
  · exact ⟨by omega, by omega, rfl⟩
  · refine ⟨?_, ?_, rfl⟩ <;> (simp only [Src.next]; omega)
theorem pick_le' (s : Src) (n : Int) : 0 ≤ s.pickV n ∧ (s.pickV n = 0 ∨ s.pickV n < n) := by
  have := pick_le s n
  by_cases h : 1 ≤ n
  · exact ⟨this.1, .inr (this.2 h)⟩
  · refine ⟨this.1, .inl ?_⟩
    unfold Src.pickV
    rw [if_pos (by omega)]
/-- The source t is at most n choices behind s. -/
def Src.To (s t : Src) (n : Int) : Prop := s.at' ≤ t.at' ∧ t.at' ≤ s.at' + n ∧ t.code.length = s.code.length
theorem pick_ex (s : Src) (h : s.rm 1) (n : Int) (hn : n ≤ 200) : RetM env.P 36 [some (boxRow s.cs)] [.ptr 0 0 0, .i .i64 n] (fun r H => ∃ (v : Int) (t : Src), (0 ≤ v ∧ (v = 0 ∨ v < n)) ∧ (s.at' ≤ t.at' ∧ t.at' ≤ s.at' + 1 ∧ t.code.length = s.code.length) ∧ r = .i .i64 v ∧ H = [some (boxRow t.cs)]) :=
  (pick_ok s (h.ok (by omega)) n hn).mono fun r H hr => ⟨_, _, pick_le' s n, pickS_at s n, hr⟩
theorem one_ex (s : Src) (h : s.rm 1) (n : Int) (hn : n ≤ 200) : RetM env.P 38 [some (boxRow s.cs)] [.ptr 0 0 0, .i .i64 n] (fun r H => ∃ (v : Bool) (t : Src), (s.at' ≤ t.at' ∧ t.at' ≤ s.at' + 1 ∧ t.code.length = s.code.length) ∧ r = .b v ∧ H = [some (boxRow t.cs)]) :=
  (one_ok s (h.ok (by omega)) n hn).mono fun r H hr => ⟨_, _, pickS_at s n, hr⟩
theorem among_ex (s : Src) (h : s.rm 1) (l : List Int) (h0 : 0 < l.length) (hn : l.length ≤ 200) : RetM env.P 55 [some (boxRow s.cs)] [.ptr 0 0 0, slL 1 intC l] (fun r H => ∃ (v : Int) (t : Src), v ∈ l ∧ (s.at' ≤ t.at' ∧ t.at' ≤ s.at' + 1 ∧ t.code.length = s.code.length) ∧ r = .i .i64 v ∧ H = [some (boxRow t.cs)]) :=
  (among_ok s (h.ok (by omega)) l h0 hn).mono fun r H hr => ⟨_, _, by
    have := pick_le s l.length
    have q := this.2 (by omega)
    exact getD_memS (by omega), pickS_at s _, hr⟩

theorem lit_at (l : List Int) {i : Nat} (hi : i < l.length) : litE (l.map fun n => [AV.i .i64 n]) i 0 = .i .i64 (l.getD i default) := by
  unfold litE
  rw [List.getD_eq_getElem?_getD (l := l.map _), List.getElem?_map, List.getD_eq_getElem?_getD (l := l), List.getElem?_eq_getElem hi]
  rfl
theorem rowBack_lit {σ : Nat → Nat} {m : Nat} (l : List Int) : RowBack σ m (rowL 1 intC l) ⟨1, l.length, litE (l.map fun n => [AV.i .i64 n]), .arr⟩ := ⟨rfl, rfl, .refl _, fun i j hi hj => by
  obtain rfl : j = 0 := Nat.lt_one_iff.1 hj
  exact ⟨lit_at l hi, rfl⟩⟩
set_option maxRecDepth 8000 in
theorem among_row (s : Src) (h : s.rm 1) (l : List Int) (h0 : 0 < l.length) (hn : l.length ≤ 200) : RetM env.P 55 [some (boxRow s.cs), some (rowL 1 intC l)] [.ptr 0 0 0, .row 1 l.length] (fun r H => ∃ (v : Int) (t : Src), v ∈ l ∧ (s.at' ≤ t.at' ∧ t.at' ≤ s.at' + 1 ∧ t.code.length = s.code.length) ∧ r = .i .i64 v ∧ H = [some (boxRow t.cs), some (rowL 1 intC l)]) := by
  have hl : (l.length : Int) ≤ 200 := by omega
  refine ret_ofM (nt := 12) (rvs := [.tmp 4]) Tryz.func55 rfl rfl rfl rfl (fun X hX => ?_)
  repeat' (first | exact aa | ((conv => whnf) <;> (first | refine And.intro ?_ ?_ | (intro _h; first | contradiction | (try simp only [dd] at _h)) | (refine dt_go ?_) | exact rfl | exact True.intro | exact dkk | exact dks | (refine .inr (.inl (.inl ⟨[0], _, _, _, pick_ex s h (l.length : Int) hl, viewA, ⟨rfl, rfl⟩, ?_⟩)); rintro _ _ ⟨v, t, hv, ht, rfl, rfl⟩; refine ⟨rfl, _, lokA, ?_⟩) | (refine wrap_succ ?_; omega))))
  all_goals (conv => whnf)
  exact endM_pick [0, 1] [some (boxRow t.cs), some (rowL 1 intC l)] (.i .i64 _) (view_of rfl (.cons rfl (.self (rowPl_box rfl)) (.cons rfl (.self (rowPl_L fun _ => rfl)) .nil))) rfl rfl (by rw [hX]; exact keepK (n := 2) rfl rfl) ⟨_, t, getD_memS (k := v.toNat) (by omega), ht, rfl, rfl⟩
/-! Texts. -/
theorem litS_at (l : List ByteArray) {i : Nat} (hi : i < l.length) : litE (l.map fun n => [AV.s n]) i 0 = .s (l.getD i default) := by
  unfold litE
  rw [List.getD_eq_getElem?_getD (l := l.map _), List.getElem?_map, List.getD_eq_getElem?_getD (l := l), List.getElem?_eq_getElem hi]
  rfl
theorem rowBack_litS {σ : Nat → Nat} {m : Nat} (l : List ByteArray) : RowBack σ m (rowL 1 strC l) ⟨1, l.length, litE (l.map fun n => [AV.s n]), .arr⟩ := ⟨rfl, rfl, .refl _, fun i j hi hj => by
  obtain rfl : j = 0 := Nat.lt_one_iff.1 hj
  exact ⟨litS_at l hi, rfl⟩⟩
set_option maxRecDepth 8000 in
theorem text_row (s : Src) (h : s.rm 1) (l : List ByteArray) (h0 : 0 < l.length) (hn : l.length ≤ 200) : RetM env.P 56 [some (boxRow s.cs), some (rowL 1 strC l)] [.ptr 0 0 0, .row 1 l.length] (fun r H => ∃ (v : ByteArray) (t : Src), v ∈ l ∧ (s.at' ≤ t.at' ∧ t.at' ≤ s.at' + 1 ∧ t.code.length = s.code.length) ∧ r = .s v ∧ H = [some (boxRow t.cs), some (rowL 1 strC l)]) := by
  have hl : (l.length : Int) ≤ 200 := by omega
  refine ret_ofM (nt := 12) (rvs := [.tmp 4]) Tryz.func56 rfl rfl rfl rfl (fun X hX => ?_)
  repeat' (first | exact aa | ((conv => whnf) <;> (first | refine And.intro ?_ ?_ | (intro _h; first | contradiction | (try simp only [dd] at _h)) | (refine dt_go ?_) | exact rfl | exact True.intro | exact dkk | exact dks | (refine .inr (.inl (.inl ⟨[0], _, _, _, pick_ex s h (l.length : Int) hl, viewA, ⟨rfl, rfl⟩, ?_⟩)); rintro _ _ ⟨v, t, hv, ht, rfl, rfl⟩; refine ⟨rfl, _, lokA, ?_⟩) | (refine wrap_succ ?_; omega))))
  all_goals (conv => whnf)
  exact endM_pick [0, 1] [some (boxRow t.cs), some (rowL 1 strC l)] (.s _) (view_of rfl (.cons rfl (.self (rowPl_box rfl)) (.cons rfl (.self (rowPl_L fun _ => rfl)) .nil))) rfl rfl (by rw [hX]; exact keepK (n := 2) rfl rfl) ⟨_, t, getD_memS (k := v.toNat) (by omega), ht, rfl, rfl⟩
theorem rd_u8 {P : Program} {t : TypeId} (hu : P.underlying t = some (.int .u8)) : Rd P t UInt8 byteC := fun cs h => by
  obtain ⟨n, rfl, hw⟩ := h.int_inv hu
  have h2 : 0 ≤ n ∧ n ≤ 255 := by
    simp only [Lit.wf, Bool.and_eq_true, decide_eq_true_eq] at hw
    exact hw
  refine ⟨UInt8.ofNat n.toNat, .cons ?_ .nil⟩
  have e : ((UInt8.ofNat n.toNat).toNat : Int) = n := by
    rw [UInt8.toNat_ofNat']; omega
  show Wk (.i .u8 n) (.i .u8 ((UInt8.ofNat n.toNat).toNat : Int))
  rw [e]; exact .refl _

theorem from_gen (l : List UInt8) (hl : l.length ≤ 2000000) : RetM env.P 20 [] [slL 1 byteC l] (fun r H => ∃ s : Src, (s.at' = 0 ∧ s.code.length ≤ 2000000) ∧ r = .ptr 0 0 0 ∧ H = [some (boxRow s.cs)]) :=
  (from_ok l).mono fun r H h => ⟨_, ⟨rfl, hl⟩, h⟩

end Go.Proofs.YtfddakeigmpjkaaGreatDoor

namespace Go.Proofs.YtfddakeigmpjkaaGreatDoor
open Go Go.RowKit
set_option linter.unusedVariables false
set_option linter.unusedSimpArgs false

theorem lbz_zero {r : List Nat} {n sz cap cap' : Nat} {e e' : Nat → Nat → AV} {k : RK} (hc : cap = 0) (hc' : cap' = 0) : ArrP r n ⟨sz, cap, e, k⟩ ⟨sz, cap', e', k⟩ := by
  subst hc hc'
  exact ⟨rfl, rfl, rfl, fun i j hi => absurd hi (Nat.not_lt_zero _), fun i j hi => absurd hi (Nat.not_lt_zero _)⟩
theorem lbz_capC {n b : Nat} (h : n ≤ 1000) (hb : b ≤ 1000) : (n + 1) * b ≤ 140737488355328 := Nat.le_trans (Nat.mul_le_mul (Nat.succ_le_succ h) hb) (by decide)
theorem lbz_capM {n : Nat} (h : n ≤ 1000) : n + 1 ≤ 9223372036854775807 := by omega
theorem lbz_rho {X : Ctx} {r : List Nat} {id : Nat} (hX : X.H0 = []) (h : id < X.H0.length) : rhoF r id = id := by rw [hX] at h; exact absurd h (Nat.not_lt_zero _)
theorem lbz_len {α : Type} {l : List α} {a : α} : l.length + 1 = (l ++ [a]).length := by rw [List.length_append]; rfl
def delS (t : Nat) : Fr → Fr
  | [] => []
  | (d, v) :: f => bif Nat.beq d t then delS t f else (d, v) :: delS t f
theorem lk_delS {t u : Nat} : ∀ {f : Fr}, lk (delS t f) u = lk f u ∨ lk (delS t f) u = .any
  | [] => .inl rfl
  | (d, v) :: f => by
    unfold delS
    cases hb : Nat.beq d t with
    | true =>
      rw [cond_true]
      by_cases hu : d = u
      · right
        have hd := Nat.eq_of_beq_eq_true hb
        subst hd
        subst hu
        clear hb
        induction f with
        | nil => rfl
        | cons p f ih =>
          obtain ⟨e, z⟩ := p
          unfold delS
          cases hb : Nat.beq e d with
          | true => exact ih
          | false =>
            rw [cond_false, lk_cons, if_neg (fun q => by rw [q, Nat.beq_refl] at hb; cases hb)]
            exact ih
      · rw [lk_cons, if_neg hu]
        exact lk_delS
    | false =>
      rw [cond_false, lk_cons, lk_cons]
      split
      · exact .inl rfl
      · exact lk_delS
theorem lw_del {P : Program} {nt : Nat} {X : Ctx} {f : Fr} {Hh : Hp} {c : Code} {Q : Exit → Fr → Hp → Prop} (t : Nat) (h : LW P nt X c (delS t f) Hh Q) : LW P nt X c f Hh Q :=
  ⟨fun a w s => h.pw a w (by
    obtain ⟨blk, FP, s⟩ := s
    refine ⟨blk, FP, s.defers, s.size, s.keeps, s.rows, s.apart, fun u => ?_, s.ext⟩
    rcases lk_delS (t := t) (u := u) (f := f) with e | e
    · rw [e]; exact s.fr u
    · rw [e]; exact .any _)⟩
end Go.Proofs.YtfddakeigmpjkaaGreatDoor

namespace Go.Proofs.YtfddakeigmpjkaaGreatDoor
open Go Go.RowKit
set_option linter.unusedVariables false
set_option linter.unusedSimpArgs false
section
variable {E : Env} {P : Program} {nt : Nat} {X : Ctx} {f : Fr} {H : Hp} {ty : TypeId} {Q : Exit → Fr → Hp → Prop}
/-- IN WHATEVER ORDER, where operations make blocks or write. -/
theorem pw_drawH {id : Nat} {l : List Oper} (M : List Nat) {H0 : Hp} (hold : hidM M 0 (H.take H0.length) = hidM M 0 H0) (hm : P.follows .mixedOrders = true) (hok : drawOkS l.toArray = true) (h : DR P nt X l.toArray M H0 Q l.length [] f H) :
    PW P nt X (.region id l.toArray true) f H Q := by
  rintro a w ⟨blk0, FP0, s⟩
  refine wp_region_any hm ?_
  have uniq : ∀ {i j : Nat} {o p : Oper} {d : Nat}, l.toArray[i]? = some o → l.toArray[j]? = some p → o.dst = some d → p.dst = some d → i = j := by
    intro i j o p d hi hj ho hp
    by_cases e : i = j
    · exact e
    · exact absurd ho ((drawOkS_spec hok hi).2.2.2 j p d hj e hp).1
  have key : ∀ (fuel n : Nat) (D : List Nat) (f : Fr) (H' : Hp) (blk : Nat → BC) (FP : Nat → List Nat) (listed : Array Bool) (a b : Act) (w : World), Mid P nt X l.toArray M H0 Q n D f H' blk FP listed a b w → left l.toArray.size listed ≤ fuel →
      wpAny P .any l.toArray (Lift nt X Q) fuel listed a w := by
    have done : ∀ (n : Nat) (D : List Nat) (f : Fr) (H' : Hp) (blk : Nat → BC) (FP : Nat → List Nat) (listed : Array Bool) (a b : Act) (w : World), Mid P nt X l.toArray M H0 Q n D f H' blk FP listed a b w → Region.ready .any l.toArray listed = [] → Lift nt X Q .normal a w := by
      intro n D f H' blk FP listed a b w m hr
      have all : ∀ (n i : Nat), i < n → i < l.toArray.size → listed.getD i false = true := by
        intro n
        induction n with
        | zero => intro i hi; omega
        | succ n ih =>
          intro i hi hil
          rcases Nat.lt_or_ge i n with hlt | hge
          · exact ih i hlt hil
          · have hin : i = n := by omega
            subst hin
            cases hu : listed.getD i false with
            | true => rfl
            | false =>
              exfalso
              have hmem : i ∈ Region.ready .any l.toArray listed := by
                refine mem_ready.2 ⟨?_, _, Array.getElem?_eq_getElem hil, fun e he hb => ?_⟩
                · have : i < listed.size := by rw [m.size]; exact hil
                  simp [this] at hu ⊢
                  exact hu
                · have hlt := (drawOkS_spec hok (Array.getElem?_eq_getElem hil)).2.2.1 e he hb
                  exact ih e.on hlt (by omega)
              rw [hr] at hmem
              cases hmem
      have hn : n = 0 := by
        apply Classical.byContradiction
        intro hne
        obtain ⟨i, hi, hD⟩ := full m.nodup m.low (by have := m.len; omega)
        exact hD (m.inD i (all (i + 1) i (by omega) hi))
      subst hn
      refine ⟨f, H', m.dr, blk, FP, m.st.act m.defers m.tmps fun t _ => m.same t ?_⟩
      rintro ⟨i, o, ho, _, _, hl⟩
      rw [all (i + 1) i (by omega) (Array.getElem?_eq_some_iff.1 ho).1] at hl
      cases hl
    intro fuel
    induction fuel with
    | zero =>
      intro n D f H' blk FP listed a b w m hleft
      have hr : Region.ready .any l.toArray listed = [] := by
        rw [List.eq_nil_iff_forall_not_mem]
        intro i hi
        obtain ⟨hu, o, ho, _⟩ := mem_ready.1 hi
        have hil : i < l.toArray.size := (Array.getElem?_eq_some_iff.1 ho).1
        have : 0 < left l.toArray.size listed := by
          unfold left
          refine List.countP_pos_iff.2 ⟨i, List.mem_range.2 hil, ?_⟩
          have : i < listed.size := by rw [m.size]; exact hil
          simp [this] at hu ⊢
          exact hu
        omega
      exact ⟨hr, done _ _ _ _ _ _ _ _ _ _ m hr⟩
    | succ fuel ih =>
      intro n D f H' blk FP listed a b w m hleft
      refine ⟨fun hr => done _ _ _ _ _ _ _ _ _ _ m hr, fun i hi => ?_⟩
      obtain ⟨hu, o, ho, hall⟩ := mem_ready.1 hi
      have hil : i < l.toArray.size := (Array.getElem?_eq_some_iff.1 ho).1
      have hil' : i < listed.size := by rw [m.size]; exact hil
      have hu' : listed.getD i false = false := by
        simp [hil'] at hu ⊢
        exact hu
      obtain ⟨hsel, hown, _, hoth⟩ := drawOkS_spec hok ho
      have hleft' : left l.toArray.size (listed.setIfInBounds i true) ≤ fuel := by
        have : left l.toArray.size (listed.setIfInBounds i true) < left l.toArray.size listed := by
          unfold left
          refine countP_lt (i := i) _ (List.mem_range.2 hil) (fun x hx => ?_) (by simpa using hu') (by simp [hil'])
          by_cases hix : i = x
          · subst hix; simpa using hu'
          · rw [getD_set_ne false hix] at hx; exact hx
        omega
      have hsz' : (listed.setIfInBounds i true).size = l.toArray.size := by simpa using m.size
      have hset : (listed.setIfInBounds i true).getD i false = true := by simp [hil']
      unfold wpOp
      rw [ho]
      dsimp only
      -- the slots that it looks at stand as they are said to
      have hlook : ∀ {n : Nat} {D : List Nat} {f : Fr} {b : Act}, Mid P nt X l.toArray M H0 Q n D f H' blk FP listed a b w → ∀ t ∈ looks l.toArray o, a.tmps.getD t undef = b.tmps.getD t undef := by
        intro n D f b m t ht
        refine m.same t ?_
        rintro ⟨j, p, hj, hpt, hjD, hjl⟩
        by_cases hji : i = j
        · subst hji
          obtain rfl : p = o := Option.some.inj (hj.symm.trans ho)
          exact hown t hpt ht
        · have hw : ∃ e ∈ o.after, Region.binds .any e = true ∧ e.on = j := by
            rcases (hoth j p t hj hji hpt).2 ht with ⟨_, h⟩ | _
            · exact h
            · obtain ⟨p', d', _, hp', hd', _, _, _, _, _, hl, _⟩ := m.pends j hjD hjl
              obtain rfl : p' = p := Option.some.inj (hp'.symm.trans hj)
              obtain rfl : d' = t := Option.some.inj (hd'.symm.trans hpt)
              exact lone_spec hl ho hji ht
          obtain ⟨e, he, hb, hon⟩ := hw
          have := hall e he hb
          rw [hon, hjl] at this
          cases this
      have any_restr : ∀ {o : Oper} {f : Fr} {t : Nat}, lk (restr (looks l.toArray o) f) t ≠ .any → t ∈ looks l.toArray o := by
        intro o f t ht
        apply Classical.byContradiction
        intro hn
        rw [lk_restr, if_neg hn] at ht
        exact ht rfl
      have hHH : ∀ {n : Nat} {D : List Nat} {f : Fr} {b : Act}, Mid P nt X l.toArray M H0 Q n D f H' blk FP listed a b w → hide M H0.length H' = hidM M 0 H0 ++ H'.drop H0.length := fun m => by unfold hide; rw [m.old]
      have hback : ∀ {w' : World} {N' : Nat} {v : AV} {u : Value}, Conc w' (X.S FP (hide M H0.length H') N') blk (hide M H0.length H') v u → Conc w' (X.S FP H' N') blk H' v u := fun hc => hc.mono (fun b hb => ⟨(hide_S M H0.length FP H' _ b).1 hb, rfl⟩) (hide_hext M H0.length H' blk)
      -- one that was taken ahead
      have pnd : ∀ (n : Nat) (D : List Nat) (f : Fr) (b : Act), Mid P nt X l.toArray M H0 Q n D f H' blk FP listed a b w → i ∈ D →
          (if Region.wanted o (yielded l.toArray a.tmps) = true then o.wp P a w (wpAny P .any l.toArray (Lift nt X Q) fuel (listed.setIfInBounds i true)) (Lift nt X Q) ∨ (o.asks P a w ∧ LetsOut (Lift nt X Q))
            else wpAny P .any l.toArray (Lift nt X Q) fuel (listed.setIfInBounds i true) (a.put o.dst undef) w) := by
        intro n D f b m hiD
        obtain ⟨o', d, v, ho', hd, hdn, hw, hlk, hlow, hlv, _, hpr⟩ := m.pends i hiD hu'
        obtain rfl : o' = o := Option.some.inj (ho'.symm.trans ho)
        have s1 : StB nt X (restr (looks l.toArray o') f) (hidM M 0 H0 ++ H'.drop H0.length) blk FP a w := by
          rw [← hHH m]
          exact ((m.st.hide M H0.length).restr (looks l.toArray o')).act m.defers m.tmps fun t ht => hlook m t (any_restr ht)
        have next : ∀ u w', Below w.heap.size w w' → Conc w' (X.S FP (hidM M 0 H0 ++ H'.drop H0.length) w'.heap.size) blk (hidM M 0 H0 ++ H'.drop H0.length) v u → wpAny P .any l.toArray (Lift nt X Q) fuel (listed.setIfInBounds i true) (a.put o'.dst u) w' := by
          intro u w' hb hc
          rw [← hHH m] at hc
          refine ih n D f H' blk FP _ _ (b.put (some d) u) w' ?_ hleft'
          refine ⟨m.dr, m.nodup, m.low, m.len, m.old, fun j hj => ?_, hsz', ?_, put_defers.trans m.defers, put_size.trans m.tmps, fun t hp => ?_, fun j hjD hjl => ?_⟩
          · by_cases hij : i = j
            · exact hij ▸ hiD
            · rw [getD_set_ne false hij] at hj; exact m.inD j hj
          · refine ((m.st.called hb).1.put hdn (hback hc)).congr fun t => ?_
            rw [lk_cons]
            split
            · rename_i e; rw [← e]; exact hlk
            · rfl
          · rw [hd]
            refine put_eq (m.tmps.trans m.st.size.symm) fun hne => m.same t ?_
            rintro ⟨j, p, hj, hpt, hjD, hjl⟩
            refine hp ⟨j, p, hj, hpt, hjD, ?_⟩
            have hij : i ≠ j := by
              rintro rfl
              obtain rfl : p = o' := Option.some.inj (hj.symm.trans ho)
              exact hne (hd.symm.trans hpt)
            rw [getD_set_ne false hij]
            exact hjl
          · have hij : i ≠ j := by
              rintro rfl
              rw [hset] at hjl
              cases hjl
            rw [getD_set_ne false hij] at hjl
            exact m.pends j hjD hjl
        rcases hpr with ⟨hg, hy⟩ | ⟨i', t, pol, hgd, hi', hrest⟩
        · rw [if_pos (by simp [Region.wanted, hg])]
          exact .inl ((hy (H'.drop H0.length)).1 blk FP a w s1 o'.dst o'.pos o'.after o'.guard _ _ next)
        · have hlt : t ∈ looks l.toArray o' := by
            unfold looks Oper.looksAt
            rw [hgd]
            refine List.mem_append_right _ ?_
            show t ∈ ((l.toArray[i']?).bind (·.dst)).toList
            rw [hi']
            simp
          have hvt := hlook m t hlt
          have yv : ∀ bb, b.tmps.getD t undef = .bool bb → yielded l.toArray a.tmps i' = some bb := by
            intro bb hv
            rw [← hvt] at hv
            unfold yielded
            rw [hi']
            by_cases ht : t < a.tmps.size
            · have : a.tmps[t]? = some (.bool bb) := by
                rw [Array.getElem?_eq_getElem ht]
                simpa [ht] using hv
              simp [this]
            · simp [ht, undef] at hv
          rcases hrest with ⟨hp, hy⟩ | ⟨hp, hany⟩
          · have hv : b.tmps.getD t undef = .bool pol := by
              rcases hp with h | h
              · exact inv_b (h ▸ m.st.fr t)
              · exact inv_kb (h ▸ m.st.fr t)
            rw [if_pos (by simp [Region.wanted, hgd, yv _ hv])]
            exact .inl ((hy (H'.drop H0.length)).1 blk FP a w s1 o'.dst o'.pos o'.after o'.guard _ _ next)
          · have hyv : yielded l.toArray a.tmps i' ≠ some pol := by
              rcases hp with h | h | h
              · rw [yv _ (inv_b (h ▸ m.st.fr t))]; simp
              · rw [yv _ (inv_kb (h ▸ m.st.fr t))]; simp
              · have hv : b.tmps.getD t undef = .tuple #[] := by
                  have := h ▸ m.st.fr t
                  obtain ⟨us, hu, hl, _⟩ := inv_tup this
                  cases us with
                  | nil => exact hu
                  | cons => cases hl
                rw [← hvt] at hv
                unfold yielded
                rw [hi']
                by_cases ht : t < a.tmps.size
                · have : a.tmps[t]? = some (.tuple #[]) := by
                    rw [Array.getElem?_eq_getElem ht]
                    simpa [ht] using hv
                  simp [this]
                · simp [ht]
            rw [if_neg (by simpa [Region.wanted, hgd] using hyv)]
            refine next undef w (Below.refl _ _) (by rw [hany]; exact .tup [] [] rfl (by simp))
      clear hi hleft
      revert m
      revert b f D
      induction n with
      | zero =>
        intro D f b m
        refine pnd 0 D f b m ?_
        apply Classical.byContradiction
        intro hD
        have := List.Nodup.length_le_of_subset (List.nodup_cons.2 ⟨hD, m.nodup⟩) (l₂ := List.range l.toArray.size) (fun x hx => by
          rcases List.mem_cons.1 hx with rfl | hx
          · exact List.mem_range.2 hil
          · exact List.mem_range.2 (m.low x hx))
        rw [List.length_range, List.length_cons] at this
        have := m.len
        omega
      | succ n ihn =>
        intro D f b m
        by_cases hiD : i ∈ D
        · exact pnd (n + 1) D f b m hiD
        rcases m.dr with ⟨j, oj, d, v, hj, hjD, hd, hdn, hwj, hlow, hlv, hlone, hpr, hdr⟩ | hbr
        · have hjl : listed.getD j false = false := by
            cases hl : listed.getD j false with
            | false => rfl
            | true => exact absurd (m.inD j hl) hjD
          obtain ⟨_, howj, _, hothj⟩ := drawOkS_spec hok hj
          have hu : ∃ u, Conc w (X.S FP H' w.heap.size) blk H' v u := by
            have s1 : StB nt X (restr (looks l.toArray oj) f) (hidM M 0 H0 ++ H'.drop H0.length) blk FP b w := by
              rw [← hHH m]
              exact (m.st.hide M H0.length).restr (looks l.toArray oj)
            have run : PJ P nt X l.toArray (hidM M 0 H0) oj.op oj.type (restr (looks l.toArray oj) f) v → ∃ u, Conc w (X.S FP H' w.heap.size) blk H' v u := fun hy => by
              obtain ⟨u, hc⟩ := (hy (H'.drop H0.length)).2 blk FP b w s1
              rw [← hHH m] at hc
              exact ⟨u, hback hc⟩
            rcases hpr with ⟨_, hy⟩ | ⟨_, _, _, _, _, ⟨_, hy⟩ | ⟨_, hany⟩⟩
            · exact run hy
            · exact run hy
            · exact ⟨undef, by rw [hany]; exact .tup [] [] rfl (by simp)⟩
          obtain ⟨u, hc⟩ := hu
          have hlooks : ∀ {i2 : Nat} {o2 : Oper}, l.toArray[i2]? = some o2 → i2 ∈ j :: D → waits D o2 = true → ∀ t ∈ looks l.toArray o2, lk ((d, v) :: f) t = lk f t := by
            intro i2 o2 h2 hD2 hw2 t ht
            rw [lk_cons, if_neg]
            rintro rfl
            by_cases e : i2 = j
            · subst e
              obtain rfl : o2 = oj := Option.some.inj (h2.symm.trans hj)
              exact howj d hd ht
            · obtain ⟨e', he, hb, hon⟩ := lone_spec hlone h2 e ht
              exact hjD (hon ▸ waits_iff.1 hw2 e' he hb)
          have hlowc : ∀ {o2 : Oper}, (∀ t ∈ looks l.toArray o2, lk ((d, v) :: f) t = lk f t) → ((looks l.toArray o2).all fun t => low H0.length (lk f t)) = true → ((looks l.toArray o2).all fun t => low H0.length (lk ((d, v) :: f) t)) = true := by
            intro o2 h1 h2
            rw [List.all_eq_true] at h2 ⊢
            intro t ht
            rw [h1 t ht]
            exact h2 t ht
          refine ihn (j :: D) ((d, v) :: f) (b.put (some d) u) ⟨hdr, List.nodup_cons.2 ⟨hjD, m.nodup⟩, fun x hx => ?_, ?_, m.old, fun x hx => List.mem_cons_of_mem _ (m.inD x hx), m.size, m.st.put hdn hc, m.defers, m.tmps, fun t hp => ?_, fun x hx hxl => ?_⟩
          · rcases List.mem_cons.1 hx with rfl | hx
            · exact (Array.getElem?_eq_some_iff.1 hj).1
            · exact m.low x hx
          · have := m.len
            simp only [List.length_cons]
            omega
          · have hdt : d ≠ t := by
              rintro rfl
              exact hp ⟨j, oj, hj, hd, by simp, hjl⟩
            rw [getD_put hdt]
            refine m.same t ?_
            rintro ⟨x, p, hx, hpt, hxD, hxl⟩
            exact hp ⟨x, p, hx, hpt, List.mem_cons_of_mem _ hxD, hxl⟩
          · rcases List.mem_cons.1 hx with rfl | hxD
            · have h1 := hlooks hj (by simp) hwj
              refine ⟨oj, d, v, hj, hd, hdn, ?_, by rw [lk_cons, if_pos rfl], hlowc h1 hlow, hlv, hlone, hpr.congr h1⟩
              exact waits_iff.2 fun e he hb => List.mem_cons_of_mem _ (waits_iff.1 hwj e he hb)
            · obtain ⟨o2, d2, v2, h1, h2, h3, h4, h5, h6, h7, h7', h8⟩ := m.pends x hxD hxl
              have h9 := hlooks h1 hx h4
              refine ⟨o2, d2, v2, h1, h2, h3, waits_iff.2 fun e he hb => List.mem_cons_of_mem _ (waits_iff.1 h4 e he hb), ?_, hlowc h9 h6, h7, h7', h8.congr h9⟩
              rw [lk_cons, if_neg]
              · exact h5
              · rintro rfl
                have := uniq h1 hj h2 hd
                subst this
                exact hjD hxD
        · have hw : waits D o = true := waits_iff.2 fun e he hb => m.inD e.on (hall e he hb)
          have hp := hbr i o ho hiD hw b w ⟨blk, FP, m.st⟩
          unfold wpList at hp
          rw [wanted_same (ops := l.toArray) (m.tmps.trans m.st.size.symm) (hlook m)]
          have next : ∀ u w', wpList P l.toArray (Lift nt X fun e f' H2 => e = .normal ∧ Ext H0.length o.dst f f' ∧ hidM M 0 (H2.take H0.length) = hidM M 0 H0 ∧ DR P nt X l.toArray M H0 Q n (i :: D) f' H2) [] (b.put o.dst u) w' →
              wpAny P .any l.toArray (Lift nt X Q) fuel (listed.setIfInBounds i true) (a.put o.dst u) w' := by
            intro u w' hk
            obtain ⟨f2, H2, ⟨_, hext, hold, hdr⟩, blk2, FP2, s2⟩ := hk
            refine ih n (i :: D) f2 H2 blk2 FP2 _ _ (b.put o.dst u) w' ⟨hdr, List.nodup_cons.2 ⟨hiD, m.nodup⟩, fun x hx => ?_, ?_, hold, fun x hx => ?_, hsz', s2, put_defers.trans m.defers, put_size.trans m.tmps, fun t hp => ?_, fun x hx hxl => ?_⟩ hleft'
            · rcases List.mem_cons.1 hx with rfl | hx
              · exact hil
              · exact m.low x hx
            · have := m.len
              simp only [List.length_cons]
              omega
            · by_cases hix : i = x
              · subst hix; simp
              · rw [getD_set_ne false hix] at hx; exact List.mem_cons_of_mem _ (m.inD x hx)
            · refine put_eq (m.tmps.trans m.st.size.symm) fun hne => m.same t ?_
              rintro ⟨x, p, hx, hpt, hxD, hxl⟩
              refine hp ⟨x, p, hx, hpt, List.mem_cons_of_mem _ hxD, ?_⟩
              have hix : i ≠ x := by rintro rfl; exact hiD hxD
              rw [getD_set_ne false hix]
              exact hxl
            · have hix : i ≠ x := by
                rintro rfl
                rw [hset] at hxl
                cases hxl
              rw [getD_set_ne false hix] at hxl
              have hxD : x ∈ D := by
                rcases List.mem_cons.1 hx with e | hx
                · exact absurd e.symm hix
                · exact hx
              obtain ⟨o2, d2, v2, h1, h2, h3, h4, h5, h6, h7, h7', h8⟩ := m.pends x hxD hxl
              have h9 : ∀ t ∈ looks l.toArray o2, lk f2 t = lk f t := by
                intro t ht
                refine hext t (fun e => ?_) (List.all_eq_true.1 h6 t ht)
                rcases ((drawOkS_spec hok h1).2.2.2 i o t ho (Ne.symm hix) e).2 ht with ⟨_, e', he, hb, hon⟩ | ⟨_, e', he, hb, hon⟩
                · exact hiD (hon ▸ waits_iff.1 h4 e' he hb)
                · have := hall e' he hb
                  rw [hon, hxl] at this
                  cases this
              refine ⟨o2, d2, v2, h1, h2, h3, waits_iff.2 fun e he hb => List.mem_cons_of_mem _ (waits_iff.1 h4 e he hb), ?_, ?_, h7, h7', h8.congr h9⟩
              · rw [hext d2 (fun e => hix (uniq ho h1 e h2)) (by rw [h5]; exact h7)]
                exact h5
              · rw [List.all_eq_true] at h6 ⊢
                intro t ht
                rw [h9 t ht]
                exact h6 t ht
          by_cases hwt : Region.wanted o (yielded l.toArray b.tmps) = true
          · rw [if_pos hwt] at hp ⊢
            rcases hp with hp | ⟨_, a2, w2, f2, H2, ⟨hq, _⟩, _⟩
            · refine .inl (wp_same (ops := l.toArray) (exec_same hsel (hlook m)) (m.defers.trans m.st.defers.symm) next (fun d u w' hk => ?_) (fun e a w hne hq => ?_) hp)
              · obtain ⟨_, _, _, _, _, s2⟩ := hk
                have := s2.defers
                rw [put_defers] at this
                cases this
              · obtain ⟨_, _, ⟨hq, _⟩, _⟩ := hq
                exact hne hq
            · cases hq
          · rw [if_neg hwt] at hp ⊢
            exact next undef w hp
  refine key l.toArray.size l.length [] f H blk0 FP0 (Array.replicate l.toArray.size false) a a _ ?_ ?_
  · refine ⟨h, List.nodup_nil, by simp, by simp, hold, fun i hi => ?_, by simp, s.draw, s.defers, s.size, fun t _ => rfl, by simp⟩
    have : (Array.replicate l.toArray.size false).getD i false = false := by
      generalize l.toArray.size = m
      rcases Nat.lt_or_ge i m with hj | hj <;> simp [hj]
    rw [this] at hi
    cases hi
  · unfold left
    exact Nat.le_trans List.countP_le_length (by simp)

theorem dt_goH {id : Nat} {ops : Array Oper} {Q : Exit → Fr → Hp → Prop} (n0 : Nat) (M : List Nat) (hn : Nat.ble n0 H.length = true) (h : drawOkS ops = true ∧ dsC E nt ops M (H.take n0) (Q .normal) ops.toList.length [] f H) : DT E nt X id ops f H Q := ⟨by
  obtain ⟨hok, h⟩ := h
  have hl : (H.take n0).length = n0 := by rw [List.length_take]; have := Nat.le_of_ble_eq_true hn; omega
  have hold : hidM M 0 (H.take (H.take n0).length) = hidM M 0 (H.take n0) := by rw [hl]
  have := pw_drawH (id := id) (l := ops.toList) (Q := Q) (X := X) M hold E.mixed (by simpa using hok) (by simpa using dsC_ok (Q := Q) (X := X) _ _ _ _ hold h)
  simpa using this⟩
end
end Go.Proofs.YtfddakeigmpjkaaGreatDoor

namespace Go.Proofs.YtfddakeigmpjkaaGreatDoor
open Go Go.RowKit
set_option linter.unusedVariables false
set_option linter.unusedSimpArgs false

/-- A row's cells, said otherwise by a law of its own. -/
theorem turn_eqG {X : Ctx} {H : Hp} {id : Nat} {r x : Row} (hr : H[id]? = some (some r)) (h1 : x.sz = r.sz) (h2 : x.cap = r.cap) (hk : x.k.isMp = r.k.isMp) (hkm : r.k.isMp = false) (hes : ∀ i j, i < r.cap → j < r.sz → ∀ (w : World) (S : Nat → Prop) (blk : Nat → BC) (u : Value) (fp : List Nat), Own w S blk (H.set id (some x)) (r.es i j) u fp → Own w S blk (H.set id (some x)) (x.es i j) u fp) : Turn X H (H.set id (some x)) := fun w blk FP hR he => by
  obtain ⟨xsz, xcap, xes, xk⟩ := x
  dsimp only at h1 h2 hk hes
  subst h1 h2
  have hS : ∀ b, X.S FP H w.heap.size b → X.S FP (H.set id (some ⟨r.sz, r.cap, xes, xk⟩)) w.heap.size b := fun b hb => (S_set X FP hr b).2 hb
  have hext := HExt.set (H := H) (r1 := ⟨r.sz, r.cap, xes, xk⟩) blk hr rfl rfl
  refine ⟨blk, FP, ⟨fun k r' hk' => ?_, fun i j r1 r2 hi hj hij => ?_, fun b hb => ⟨hb.2.1, hb.2.2⟩⟩, hext, ?_, hS⟩
  · rcases set_cases hr hk' with ⟨rfl, rfl⟩ | ⟨hne, hk'⟩
    · refine ⟨?_, (hR.rows k r hr).2⟩
      rcases ((hR.rows k r hr).1.mono (fun b hb => ⟨hS b hb, rfl⟩) hext fun _ _ => rfl) with ⟨q1, q2, q3⟩ | ⟨h0, hle, hmp, hb, ty, cur, F, e1, e2, hall, e3, e4, e5⟩
      · refine .inl ⟨q1, q2, .inl ⟨hk.trans hkm, ?_⟩⟩
        rcases q3 with ⟨_, h⟩ | e | ⟨ak, fm, sts, e, _⟩
        · exact h
        · rw [e] at hkm; cases hkm
        · rw [e] at hkm; cases hkm
      · refine .inr ⟨h0, hle, hk.trans hmp, hb, ty, cur, F, e1, e2, hall, fun i j hi hj => ?_, e4, e5⟩
        obtain ⟨u, hu, ho, hc⟩ := e3 i j hi hj
        exact ⟨u, hu, ho, hes i j hi hj _ _ _ _ _ hc⟩
    · obtain ⟨h1, h2⟩ := hR.rows k r' hk'
      exact ⟨h1.mono (fun b hb => ⟨hS b hb, rfl⟩) hext fun _ _ => rfl, h2⟩
  · rcases set_cases hr hi with ⟨hi1, _⟩ | ⟨hne, hi'⟩ <;> rcases set_cases hr hj with ⟨hj1, _⟩ | ⟨hne', hj'⟩
    · omega
    · subst hi1; exact hR.apart i j r r2 hr hj' hij
    · subst hj1; exact hR.apart i j r1 r hi' hr hij
    · exact hR.apart i j r1 r2 hi' hj' hij
  · rintro b ⟨k, r', hk', hb⟩
    rcases set_cases hr hk' with ⟨rfl, rfl⟩ | ⟨hne, hk'⟩
    · exact ⟨k, r, hr, hb⟩
    · exact ⟨k, r', hk', hb⟩

theorem own_nils {w : World} {S : Nat → Prop} {blk : Nat → BC} {H : Hp} {u : Value} {fp : List Nat} {sz : Nat} {g : Nat → Nat → AV} (h : Own w S blk H .nils u fp) : Own w S blk H (.sl sz 0 g) u fp := by
  cases h with
  | plain h =>
    rw [inv_nils h]
    exact .plain (.sl0 none 0 (Nat.zero_le _))
theorem snoc_own {α : Type} [Inhabited α] {k sz : Nat} {c : α → List AV} {l : List α} {a : α} {g : Nat → Nat → AV} {w : World} {S : Nat → Prop} {blk : Nat → BC} {H : Hp} {u : Value} {fp : List Nat} (hk : k = l.length) (hg : ∀ j, j < sz → Own w S blk H (g 0 j) u fp → Own w S blk H ((c a).getD j .any) u fp) {i j : Nat} (hi : i < k + 1) (hj : j < sz) (h : Own w S blk H (catE k (elE c l) g i j) u fp) : Own w S blk H (elE c (l ++ [a]) i j) u fp := by
  rw [catE_at] at h
  unfold elE at h ⊢
  rw [getD_snoc]
  by_cases h' : i < k
  · rw [if_pos h'] at h
    rw [if_pos (by omega)]
    exact h
  · rw [if_neg h', show i - k = 0 by omega] at h
    rw [if_neg (by omega), if_pos (by omega)]
    exact hg j hj h
end Go.Proofs.YtfddakeigmpjkaaGreatDoor

namespace Go.Proofs.YtfddakeigmpjkaaGreatDoor
open Go Go.RowKit
set_option linter.unusedVariables false
set_option linter.unusedSimpArgs false

theorem endM_nil {X : Ctx} {H : Hp} {cs : List AV} {sz : Nat} {g : Nat → Nat → AV} {post : AV → Hp → Prop} (j : Nat) (hj : cs[j]? = some .nils) (k : EndM X (H ++ [some ⟨sz, 0, g, .arr⟩]) (.agg (cs.set j (.row H.length 0))) post) : EndM X H (.agg cs) post := ⟨fun w blk FP u hR hc he => by
  have hext := HExt.push H blk (some ⟨sz, 0, g, .arr⟩) ⟨0, 0⟩
  have hnew : ∀ id, id < H.length → (fun id => if id = H.length then ([] : List Nat) else FP id) id = FP id := fun id h => if_neg (by omega)
  have hnewb : ∀ id, id < H.length → (fun id => if id = H.length then (⟨0, 0⟩ : BC) else blk id) id = blk id := fun id h => if_neg (by omega)
  have hend : (fun id => if id = H.length then ([] : List Nat) else FP id) H.length = [] := if_pos rfl
  have hendb : (fun id => if id = H.length then (⟨0, 0⟩ : BC) else blk id) H.length = ⟨0, 0⟩ := if_pos rfl
  generalize hFP : (fun id => if id = H.length then ([] : List Nat) else FP id) = FP' at hnew hend
  generalize hBL : (fun id => if id = H.length then (⟨0, 0⟩ : BC) else blk id) = blk' at hnewb hendb hext
  have hS : X.S FP' (H ++ [some ⟨sz, 0, g, .arr⟩]) w.heap.size = X.S FP H w.heap.size := by
    funext b
    apply propext
    constructor
    · rintro ⟨h1, h2, h3⟩
      refine ⟨h1, h2, fun id r hr => ?_⟩
      have hlt := (List.getElem?_eq_some_iff.1 hr).1
      have := h3 id r (by rw [List.getElem?_append_left hlt]; exact hr)
      rwa [hnew id hlt] at this
    · rintro ⟨h1, h2, h3⟩
      refine ⟨h1, h2, fun id r hr => ?_⟩
      rcases old_or_new hr with ⟨hlt, ho⟩ | ⟨rfl, _⟩
      · rw [hnew id hlt]
        exact h3 id r ho
      · rw [hend]
        exact List.not_mem_nil
  obtain ⟨r', H2, b2, F2, q1, q2, q3, q4, q5⟩ := k.h w blk' FP' u (by
    rw [hS]
    refine ⟨fun id r hr => ?_, fun i j r r' hi hj hij b hb => ?_, fun b hb => ⟨(hR.free b hb).1, fun id r hr => ?_⟩⟩
    · rcases old_or_new hr with ⟨hlt, ho⟩ | ⟨rfl, rfl⟩
      · rw [hnew id hlt, hnewb id hlt]
        exact ⟨(hR.rows id r ho).1.mono (fun b hb => ⟨hb, rfl⟩) hext (fun _ _ => rfl), (hR.rows id r ho).2⟩
      · rw [hend, hendb]
        exact ⟨.inl ⟨rfl, rfl, .inl ⟨rfl, rfl⟩⟩, fun b hb => absurd hb List.not_mem_nil⟩
    · rcases old_or_new hi with ⟨hlt, ho⟩ | ⟨rfl, rfl⟩
      · rcases old_or_new hj with ⟨hlt', ho'⟩ | ⟨rfl, rfl⟩
        · rw [hnew i hlt] at hb
          rw [hnew j hlt']
          exact hR.apart i j r r' ho ho' hij b hb
        · rw [hend]
          exact List.not_mem_nil
      · rw [hend] at hb
        exact absurd hb List.not_mem_nil
    · rcases old_or_new hr with ⟨hlt, ho⟩ | ⟨rfl, rfl⟩
      · rw [hnew id hlt]
        exact (hR.free b hb).2 id r ho
      · rw [hend]
        exact List.not_mem_nil) (by
    rw [hS]
    obtain ⟨us, rfl, hl, hu⟩ := inv_agg hc
    refine .agg _ _ (by rw [List.length_set]; exact hl) fun i c v hi hv => ?_
    by_cases e : j = i
    · subst e
      have hlt := (List.getElem?_eq_some_iff.1 hj).1
      rw [List.getElem?_set_self hlt] at hi
      cases hi
      have e2 := inv_nils (hu j _ _ hj hv)
      subst e2
      exact .row0 ⟨sz, 0, g, .arr⟩ (by rw [List.getElem?_append_right (Nat.le_refl _), Nat.sub_self]; rfl) rfl (by rw [hendb]) none
    · rw [List.getElem?_set_ne e] at hi
      exact (hu i c v hi hv).mono (fun b hb => ⟨hb, rfl⟩) hext) (he.trans hext)
  refine ⟨r', H2, b2, F2, q1, q2, q3, q4, fun b hb => ?_⟩
  obtain ⟨id, r, hr, hm⟩ := q5 b hb
  rcases old_or_new hr with ⟨hlt, ho⟩ | ⟨rfl, _⟩
  · rw [hnew id hlt] at hm
    exact ⟨id, r, ho, hm⟩
  · rw [hend] at hm
    exact absurd hm List.not_mem_nil⟩
end Go.Proofs.YtfddakeigmpjkaaGreatDoor

namespace Go.Proofs.YtfddakeigmpjkaaGreatDoor
open Go Go.RowKit
set_option linter.unusedVariables false
set_option linter.unusedSimpArgs false
attribute [local irreducible] IntKind.wrap

theorem low_lit {r : List Nat} {n i j : Nat} {css : List (List AV)} (h : css.all (fun cs => cs.all (low1 0)) = true) : fx r n (litE css i j) = true := by
  unfold litE
  refine low_cells ?_
  by_cases hi : i < css.length
  · rw [List.getD_eq_getElem?_getD, List.getElem?_eq_getElem hi]
    exact List.all_eq_true.1 h _ (List.getElem_mem hi)
  · rw [List.getD_eq_getElem?_getD, List.getElem?_eq_none (by omega)]
    rfl
theorem rho_1 {X : Ctx} {x : Option Row} {r : List Nat} {q : Nat} (hX : X.H0 = [x]) (h : q < X.H0.length) (h0 : rhoF r 0 = 0) : rhoF r q = q := by
  rw [hX] at h
  obtain rfl : q = 0 := Nat.lt_one_iff.1 h
  exact h0
structure Dw (d : Nat) (a : Typ) : Prop where
  o : Typ.oN d a
  np : a.np ≤ 4 ^ d
  lb : a.labels.length ≤ 10
def chN : Nat → Nat
  | 0 => 8
  | d + 1 => 8 + 4 * (chN d + 1)
theorem dw_k {d : Nat} (k : Int) (hd : 1 ≤ d) : Dw d ⟨k, ByteArray.empty, [], []⟩ := by
  obtain ⟨d, rfl⟩ : ∃ n, d = n + 1 := ⟨d - 1, by omega⟩
  refine ⟨⟨Nat.zero_le _, ⟨Nat.zero_le _, fun k hk => absurd hk (Nat.not_lt_zero _)⟩, ⟨Nat.zero_le _, fun k hk => absurd hk (Nat.not_lt_zero _)⟩⟩, ?_, Nat.zero_le _⟩
  rw [Typ.np_eq]
  exact Nat.one_le_pow _ _ (by decide)
noncomputable def ownH (d : Nat) (a : Typ) (t : Src) : Hp := [some (boxRow t.cs), some (rowL 1 strC a.labels), some (rowL 4 (Typ.pN d) a.kids)]
def ownR (a : Typ) : AV := .agg [.i .i64 a.kind, .s a.name, .row 1 a.labels.length, .row 2 a.kids.length]
theorem endO {X : Ctx} {H : Hp} {r : AV} {d : Nat} {N : Int} {a : Typ} {s t : Src} (i j : Nat) (hX : X.H0 = [some (boxRow s.cs)]) (hv : ViewOk [0, i, j] H (ownH d a t)) (hr : r = renA (sig [0, i, j] H.length) (ownR a)) (ha : Dw d a) (ht : s.at' ≤ t.at' ∧ t.at' ≤ s.at' + N ∧ t.code.length = s.code.length) : EndM X H r (fun r H => ∃ (a : Typ) (t : Src), Dw d a ∧ (s.at' ≤ t.at' ∧ t.at' ≤ s.at' + N ∧ t.code.length = s.code.length) ∧ r = ownR a ∧ H = ownH d a t) := endM_pick [0, i, j] (ownH d a t) (ownR a) hv hr rfl (by rw [hX]; exact keepK (n := 1) rfl rfl) ⟨a, t, ha, ht, rfl, rfl⟩
theorem lit_map {α : Type} [Inhabited α] {c : α → List AV} {l : List α} {i j : Nat} (hi : i < l.length) : litE (l.map c) i j = elE c l i j := by
  show ((l.map c).getD i []).getD j .any = (c (l.getD i default)).getD j .any
  rw [List.getD_eq_getElem?_getD (l := l.map c), List.getElem?_map, List.getD_eq_getElem?_getD (l := l), List.getElem?_eq_getElem hi]
  rfl
theorem rowBack_litT {α : Type} [Inhabited α] {σ : Nat → Nat} {m sz : Nat} {c : α → List AV} (l : List α) (h : ∀ a, (c a).all pl1 = true) : RowBack σ m (rowL sz c l) ⟨sz, l.length, litE (l.map c), .arr⟩ := ⟨rfl, rfl, .refl _, fun i j hi hj => by
  have hp := (rowPl_L (sz := sz) (l := l) h).h i j hi hj
  exact ⟨(lit_map hi).trans (pl1_ren hp).1.symm, pl1_low2 hp⟩⟩
theorem chN_8 (d : Nat) : 8 ≤ (chN d : Int) := by
  cases d with
  | zero => exact Int.le_refl _
  | succ d => show 8 ≤ ((8 + 4 * (chN d + 1) : Nat) : Int); omega
theorem chN_s (d : Nat) : (chN (d + 1) : Int) = 8 + 4 * (chN d + 1) := by show ((8 + 4 * (chN d + 1) : Nat) : Int) = _; omega
theorem sumK_le {d : Nat} {l : List Typ} (h : ∀ k, k < l.length → Dw d (l.getD k default)) : ∀ k, k ≤ l.length → sumK Typ.np l k ≤ k * 4 ^ d
  | 0, _ => by rw [sumK_zero]; exact Nat.zero_le _
  | k + 1, hk => by
    rw [sumK_succ _ hk, Nat.succ_mul]
    have := sumK_le h k (by omega)
    have := (h k hk).np
    omega
theorem dw_kids {d : Nat} {k : Int} {ls : List ByteArray} {l : List Typ} (h1 : ls.length ≤ 10) (h2 : ∀ j, j < ls.length → (ls.getD j default).size ≤ 8) (h3 : l.length ≤ 3) (h4 : ∀ j, j < l.length → Dw d (l.getD j default)) : Dw (d + 1) ⟨k, ByteArray.empty, ls, l⟩ := by
  refine ⟨⟨Nat.zero_le _, ⟨Nat.le_trans h1 (by decide), fun j hj => Nat.le_trans (h2 j hj) (by decide)⟩, ⟨Nat.le_trans h3 (by decide), fun j hj => (h4 j hj).o⟩⟩, ?_, h1⟩
  rw [Typ.np_eq]
  show 1 + sumK Typ.np l l.length ≤ _
  have h5 := sumK_le h4 _ (Nat.le_refl _)
  have h6 : l.length * 4 ^ d ≤ 3 * 4 ^ d := Nat.mul_le_mul_right _ h3
  have h7 : 1 ≤ 4 ^ d := Nat.one_le_pow _ _ (by decide)
  rw [Nat.pow_succ]
  omega
theorem w1_lo {v n : Int} (h : 0 ≤ v ∧ (v = 0 ∨ v < n)) (hn : n ≤ 9) : 0 ≤ IntKind.i64.wrap (1 + v) := by
  rw [wrap_in (by omega) (by omega)]; omega
theorem w1_hi {v n : Int} (h : 0 ≤ v ∧ (v = 0 ∨ v < n)) (hn : n ≤ 9) : IntKind.i64.wrap (1 + v) ≤ 10 := by
  rw [wrap_in (by omega) (by omega)]; omega
theorem dw_1 {d : Nat} {k : Int} {a : Typ} (h : Dw d a) : Dw (d + 1) ⟨k, ByteArray.empty, [], [a]⟩ := dw_kids (Nat.zero_le _) (fun j hj => absurd hj (Nat.not_lt_zero _)) (show 1 ≤ 3 by decide) (fun j hj => by obtain rfl : j = 0 := Nat.lt_one_iff.1 hj; exact h)
theorem dw_2 {d : Nat} {k : Int} {a b : Typ} (h : Dw d a) (h' : Dw d b) : Dw (d + 1) ⟨k, ByteArray.empty, [], [a, b]⟩ := dw_kids (Nat.zero_le _) (fun j hj => absurd hj (Nat.not_lt_zero _)) (show 2 ≤ 3 by decide) (fun j hj => by
  have hj' : j < 2 := hj
  rcases (show j = 0 ∨ j = 1 by omega) with rfl | rfl
  · exact h
  · exact h')
theorem pN_idf : ∀ (n : Nat) (a : Typ) (j : Nat), ((Typ.pN n a).getD j .any).idf
  | 0, _, _ => trivial
  | n + 1, _, 0 => trivial
  | n + 1, _, 1 => trivial
  | n + 1, _, 2 => fun i j _ _ => match j with
    | 0 => trivial
    | _ + 1 => trivial
  | n + 1, a, 3 => fun i j _ _ => pN_idf n _ j
  | n + 1, _, _ + 4 => trivial
theorem pN_idfO (n : Nat) (a : Typ) (j : Nat) : ((Typ.pN (n + 1) a).getD j .any).idfO := match j with
  | 0 => trivial
  | 1 => trivial
  | 2 => pN_idf (n + 1) a 2
  | 3 => pN_idf (n + 1) a 3
  | _ + 4 => trivial
instance (n : Nat) : HoldC (Typ.pN (n + 1)) := ⟨pN_idfO n⟩
theorem OwEq.lenT {sz n m : Nat} {g g' : Nat → Nat → AV} (e : n = m) (hf : ∀ i j, i < n → j < sz → (g' i j).idfO) (h : ∀ i j, i < n → j < sz → OwEq (g i j) (g' i j)) : OwEq (.ow sz n g) (.ow sz m g') := by subst e; exact .ow hf h
structure TpS where
  i : Int
  l : List Typ
  t : Src
structure DI (d : Nat) (w C : Int) (t1 : Src) (y : TpS) : Prop where
  al : ∀ j, j < y.l.length → Dw d (y.l.getD j default)
  i0 : 0 ≤ y.i
  il : y.i + y.l.length = w
  lo : t1.at' ≤ y.t.at'
  hi : y.t.at' + y.i * C ≤ t1.at' + w * C
  cd : y.t.code.length = t1.code.length
theorem DI.zero {d : Nat} {w C : Int} {t1 : Src} (h : 0 ≤ w) : DI d w C t1 ⟨w, [], t1⟩ := ⟨fun j hj => absurd hj (Nat.not_lt_zero _), h, by show w + ((0 : Nat) : Int) = w; omega, Int.le_refl _, Int.le_refl _, rfl⟩
theorem DI.next {d : Nat} {w C : Int} {t1 : Src} {y : TpS} (h : DI d w C t1 y) (hi : 0 < y.i) {a : Typ} {t2 : Src} (ha : Dw d a) (ht : y.t.at' ≤ t2.at' ∧ t2.at' ≤ y.t.at' + C ∧ t2.code.length = y.t.code.length) : DI d w C t1 ⟨y.i - 1, y.l ++ [a], t2⟩ := by
  refine ⟨fun j hj => ?_, by have := hi; show 0 ≤ y.i - 1; omega, ?_, by have := h.lo; show t1.at' ≤ t2.at'; omega, ?_, by have := h.cd; show t2.code.length = _; omega⟩
  · rw [List.getD_eq_getElem?_getD]
    show Dw d ((y.l ++ [a])[j]?.getD default)
    have hj' : j < (y.l ++ [a]).length := hj
    rw [List.length_append, List.length_singleton] at hj'
    by_cases q : j < y.l.length
    · rw [List.getElem?_append_left q, ← List.getD_eq_getElem?_getD]
      exact h.al j q
    · obtain rfl : j = y.l.length := by omega
      rw [List.getElem?_append_right (Nat.le_refl _), Nat.sub_self]
      exact ha
  · have := h.il
    show y.i - 1 + ((y.l ++ [a]).length : Int) = w
    rw [List.length_append, List.length_singleton]
    omega
  · have := h.hi
    have e : (y.i - 1) * C = y.i * C - C := by rw [Int.sub_mul, Int.one_mul]
    show t2.at' + (y.i - 1) * C ≤ _
    rw [e]
    omega
theorem DI.ex {d : Nat} {w C : Int} {t1 : Src} {y : TpS} (h : DI d w C t1 y) (hC : 0 ≤ C) : t1.at' ≤ y.t.at' ∧ y.t.at' ≤ t1.at' + w * C ∧ y.t.code.length = t1.code.length := ⟨h.lo, by have := h.hi; have := Int.mul_nonneg h.i0 hC; omega, h.cd⟩
theorem DI.at {d : Nat} {w C : Int} {t1 : Src} {y : TpS} (h : DI d w C t1 y) (hi : 0 < y.i) (hC : 0 ≤ C) : y.t.at' + C ≤ t1.at' + w * C := by
  have := h.hi
  have e : y.i * C = (y.i - 1) * C + C := by rw [Int.sub_mul, Int.one_mul]; omega
  have := Int.mul_nonneg (show 0 ≤ y.i - 1 by omega) hC
  omega
theorem w_C {w C : Int} (hw : w ≤ 3) (hC : 0 ≤ C) : w * C ≤ 3 * C := Int.mul_le_mul_of_nonneg_right hw hC
theorem shr_cat {α : Type} [Inhabited α] {sz n m k : Nat} {H : Hp} {cO c : α → List AV} {l : List α} {g : Nat → Nat → AV} {x : α} (hn : n = m + 1) (hm : m = l.length) (h : ∀ i, i < l.length → ∀ j, j < sz → Wk (shrC k H ((cO (l.getD i default)).getD j .any)) ((c (l.getD i default)).getD j .any)) (hx : ∀ j, j < sz → Wk (shrC k H (g 0 j)) ((c x).getD j .any)) : Wk (.sl sz n fun i j => shrC k H (catE m (elE cO l) g i j)) (slL sz c (l ++ [x])) := by
  subst hn hm
  have e : l.length + 1 = (l ++ [x]).length := by rw [List.length_append]; rfl
  show Wk (.sl sz (l.length + 1) _) (.sl sz (l ++ [x]).length _)
  rw [← e]
  refine Wk.sl fun i j hi hj => ?_
  rcases Nat.lt_or_eq_of_le (Nat.le_of_lt_succ hi) with q | rfl
  · rw [catE_lt q]
    show Wk (shrC k H ((cO (l.getD i default)).getD j .any)) ((c ((l ++ [x]).getD i default)).getD j .any)
    have : (l ++ [x]).getD i default = l.getD i default := by
      rw [List.getD_eq_getElem?_getD, List.getElem?_append_left q, ← List.getD_eq_getElem?_getD]
    rw [this]
    exact h i q j hj
  · have h1 : catE l.length (elE cO l) g l.length j = g 0 j := by
      unfold catE
      have : Nat.blt l.length l.length = false := by
        cases hb : Nat.blt l.length l.length with
        | false => rfl
        | true => exact absurd (Nat.le_of_ble_eq_true hb) (by omega)
      rw [this, cond_false, Nat.sub_self]
    rw [h1]
    show Wk _ ((c ((l ++ [x]).getD l.length default)).getD j .any)
    have : (l ++ [x]).getD l.length default = x := by
      rw [List.getD_eq_getElem?_getD, List.getElem?_append_right (Nat.le_refl _), Nat.sub_self]
      rfl
    rw [this]
    exact hx j hj
theorem pN_shr (n k : Nat) (H : Hp) (a : Typ) (j : Nat) : shrC k H ((Typ.pN (n + 1) a).getD j .any) = (Typ.pN (n + 1) a).getD j .any := match k, j with
  | 0, 0 => rfl
  | 0, 1 => rfl
  | 0, 2 => rfl
  | 0, 3 => rfl
  | 0, _ + 4 => rfl
  | _ + 1, 0 => rfl
  | _ + 1, 1 => rfl
  | _ + 1, 2 => rfl
  | _ + 1, 3 => rfl
  | _ + 1, _ + 4 => rfl
theorem at_snoc {p : Typ → Prop} {l : List Typ} {a : Typ} (h : ∀ j, j < l.length → p (l.getD j default)) (ha : p a) : ∀ j, j < (l ++ [a]).length → p ((l ++ [a]).getD j default) := fun j hj => by
  rw [List.length_append, List.length_singleton] at hj
  rw [List.getD_eq_getElem?_getD]
  by_cases q : j < l.length
  · rw [List.getElem?_append_left q, ← List.getD_eq_getElem?_getD]
    exact h j q
  · obtain rfl : j = l.length := by omega
    rw [List.getElem?_append_right (Nat.le_refl _), Nat.sub_self]
    exact ha
end Go.Proofs.YtfddakeigmpjkaaGreatDoor

namespace Go.Proofs.YtfddakeigmpjkaaGreatDoor
open Go Go.RowKit
set_option linter.unusedVariables false
set_option linter.unusedSimpArgs false
attribute [local irreducible] IntKind.wrap

def hndL : List Int := [20, 21]
def bedL : List ByteArray := [⟨#[98, 101, 100]⟩, ⟨#[108, 97, 98]⟩]
def rawL : List Int := [12, 13, 14, 15, 16, 16, 17, 17, 18, 19, 22]
def RawC (d : Nat) : Prop := ∀ (s : Src), s.rm (chN d) → ∀ D : Int, D = d → RetM env.P 34 [some (boxRow s.cs)] [.ptr 0 0 0, .i .i64 D] (fun r H => ∃ (a : Typ) (t : Src), Dw d a ∧ (s.at' ≤ t.at' ∧ t.at' ≤ s.at' + chN d ∧ t.code.length = s.code.length) ∧ r = .agg (Typ.pN (d + 1) a) ∧ H = [some (boxRow t.cs)])
def Raw1 (d : Nat) (s : Src) (D : Int) : Prop := RetM env.P 34 [some (boxRow s.cs)] [.ptr 0 0 0, .i .i64 D] (fun r H => ∃ (a : Typ) (t : Src), Dw d a ∧ (s.at' ≤ t.at' ∧ t.at' ≤ s.at' + chN d ∧ t.code.length = s.code.length) ∧ r = ownR a ∧ H = ownH d a t)
theorem Raw1.frz {d : Nat} {s : Src} {D : Int} (h : Raw1 (d + 1) s D) : RetM env.P 34 [some (boxRow s.cs)] [.ptr 0 0 0, .i .i64 D] (fun r H => ∃ (a : Typ) (t : Src), Dw (d + 1) a ∧ (s.at' ≤ t.at' ∧ t.at' ≤ s.at' + chN (d + 1) ∧ t.code.length = s.code.length) ∧ r = .agg (Typ.pN (d + 2) a) ∧ H = [some (boxRow t.cs)]) := by
  refine RetM.frz [0] rfl (plainH_box (by rfl)) (RetM.mono h fun r H hr => ?_)
  obtain ⟨a, t, ha, ht, rfl, rfl⟩ := hr
  exact ⟨[some (boxRow t.cs)], .agg (Typ.pN (d + 2) a), view_of rfl (.cons rfl (.self (rowPl_box rfl)) .nil), frz_agg (.cons (.refl _) (.cons (.refl _) (.cons (shr_L (d := 0) (k := 4) rfl) (.cons (shr_L (d := 0) (k := 4) rfl) .nil)))), a, t, ha, ht, rfl, rfl⟩
theorem dw_n {d : Nat} {k : Int} {v : ByteArray} (h : v ∈ bedL) : Dw (d + 1) ⟨k, v, [], []⟩ := by
  refine ⟨⟨?_, ⟨Nat.zero_le _, fun k hk => absurd hk (Nat.not_lt_zero _)⟩, ⟨Nat.zero_le _, fun k hk => absurd hk (Nat.not_lt_zero _)⟩⟩, ?_, Nat.zero_le _⟩
  · show v.size ≤ 1048576
    unfold bedL at h
    simp only [List.mem_cons, List.not_mem_nil, or_false] at h
    rcases h with rfl | rfl <;> decide
  · rw [Typ.np_eq]
    exact Nat.one_le_pow _ _ (by decide)
set_option maxRecDepth 8000 in
set_option maxHeartbeats 1000000 in
theorem raw_leaf (d : Nat) (s : Src) (hs : s.rm (chN (d + 1))) (D : Int) (hD : D = d + 1) (hk : D ≤ 1 ∨ s.pickV 3 = 0) : Raw1 (d + 1) s D := by
  have hs' := hs
  unfold Src.rm at hs'
  have h8 := chN_8 (d + 1)
  unfold Raw1
  generalize hN : (chN (d + 1) : Int) = N at *
  have hp := one_ok s ((Src.rm_i (n := 1) (by omega) (by omega) (by omega)).ok (by decide)) 3 (by decide)
  have ht := pickS_at s 3
  generalize s.pickS 3 = t at *
  generalize s.pickV 3 = v at *
  refine ret_ofM (nt := 118) (rvs := [.cell 4 26]) Tryz.func34 rfl rfl rfl rfl (fun X hX => ?_)
  repeat' (first | exact aa | ((conv => whnf) <;> (first | (refine Src.rm_i ?_ ?_ ?_) | ((refine .inr (.inl (.inl ⟨[0, 2], _, _, _, among_row t1 (Src.rm_i (by omega) (by omega) (by omega)) hndL (by decide) (by decide), (view_of rfl (.cons rfl (.self (rowPl_box rfl)) (.cons rfl (rowBack_lit hndL) .nil))), ⟨rfl, rfl⟩, ?_⟩))); rintro _ _ ⟨v4, t4, hv4, ht4, rfl, rfl⟩; refine ⟨rfl, _, lokA, ?_⟩) | ((refine .inr (.inl (.inl ⟨[0, 3], _, _, _, text_row t4 (Src.rm_i (by omega) (by omega) (by omega)) bedL (by decide) (by decide), (view_of rfl (.cons rfl (.self (rowPl_box rfl)) (.cons rfl (rowBack_litS bedL) .nil))), ⟨rfl, rfl⟩, ?_⟩))); rintro _ _ ⟨v5, t5, hv5, ht5, rfl, rfl⟩; refine ⟨rfl, _, lokA, ?_⟩) | refine And.intro ?_ ?_ | (intro _h; first | contradiction | (try simp only [dd] at _h)) | (refine dt_go ?_) | exact rfl | exact True.intro | exact dkk | exact dks | (refine .inr (.inl (.inl ⟨[0], _, _, _, hp, viewA, ⟨rfl, rfl⟩, ?_⟩)); rintro _ _ ⟨rfl, rfl⟩; refine ⟨rfl, _, lokA, ?_⟩) | (refine .inr (.inl (.inl ⟨[0], _, _, _, one_ex _ ?_ 8 (by decide), viewA, ⟨rfl, rfl⟩, ?_⟩)); rotate_left 1; rintro _ _ ⟨b1, t1, ht1, rfl, rfl⟩; refine ⟨rfl, _, lokA, ?_⟩) | (refine .inr (.inl (.inl ⟨[0], _, _, _, pick_ex _ ?_ 10 (by decide), viewA, ⟨rfl, rfl⟩, ?_⟩)); rotate_left 1; rintro _ _ ⟨v3, t3, hv3, ht3, rfl, rfl⟩; refine ⟨rfl, _, lokA, ?_⟩) | (refine wrap_succ ?_; omega))))
  all_goals (conv => whnf)
  all_goals first
    | exact endM_nil (sz := 1) (g := elE strC []) 2 rfl (endM_nil (sz := 4) (g := elE (Typ.pN (d + 1)) []) 3 rfl (endO (a := ⟨v4, v5, [], []⟩) (t := t5) 4 5 hX (view_of rfl (.cons rfl (.self (rowPl_box rfl)) (.cons rfl (.self (rowPl_L fun _ => rfl)) (.cons rfl (.self (rowPl_L fun _ => rfl)) .nil)))) rfl (dw_n (k := v4) hv5) (by omega)))
    | exact endM_nil (sz := 1) (g := elE strC []) 2 rfl (endM_nil (sz := 4) (g := elE (Typ.pN (d + 1)) []) 3 rfl (endO (a := ⟨IntKind.i64.wrap (2 + v3), ByteArray.empty, [], []⟩) (t := t3) 2 3 hX (view_of rfl (.cons rfl (.self (rowPl_box rfl)) (.cons rfl (.self (rowPl_L fun _ => rfl)) (.cons rfl (.self (rowPl_L fun _ => rfl)) .nil)))) rfl (dw_k _ (Nat.succ_pos d)) (by omega)))
    | trace_state
end Go.Proofs.YtfddakeigmpjkaaGreatDoor
