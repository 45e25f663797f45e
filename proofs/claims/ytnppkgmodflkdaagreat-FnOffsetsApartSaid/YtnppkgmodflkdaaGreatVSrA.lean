/-
  The source of choices: next, pick, one, among.
-/
import Derived.Test.YtnppkgmodflkdaaGreatVTOwn
namespace Go.Proofs.YtnppkgmodflkdaaGreat
open Go Go.RowKit
set_option linter.unusedVariables false
set_option linter.unusedSimpArgs false

def byteC (b : UInt8) : List AV := [.i .u8 b.toNat]
structure Src where
  code : List UInt8
  at' : Int
  seed : Int
def Src.cs (s : Src) : List AV := [slL 1 byteC s.code, .i .i64 s.at', .i .u64 s.seed]
/-- The source may be asked n times more. -/
def Src.ok (s : Src) (n : Int) : Prop := 0 ≤ s.at' ∧ s.at' + n ≤ 1000000000 ∧ s.code.length ≤ 1048576
def Src.byte (s : Src) : Int := if s.at' < s.code.length then ((s.code.getD s.at'.toNat default).toNat : Int) else 0
def Src.next (s : Src) : Src := ⟨s.code, s.at' + 1, IntKind.u64.wrap (IntKind.u64.wrap (IntKind.u64.wrap (s.seed * 6364136223846793005) + s.byte) + 1442695040888963407)⟩
def Src.nextV (s : Src) : Int := if s.at' < s.code.length then s.byte else bits .and .u64 (s.next.seed.fdiv (2 ^ 40)) 255

theorem wrap_u0 {n : Int} (h1 : 0 ≤ n) (h2 : n ≤ 9223372036854775807) : IntKind.u64.wrap n = n := by
  rw [IntKind.wrap_u64]; omega
theorem byte_le (s : Src) : 0 ≤ s.byte ∧ s.byte ≤ 255 := by
  unfold Src.byte
  split
  · have := (s.code.getD s.at'.toNat default).toNat_lt; omega
  · omega
theorem and_le (x : Int) : 0 ≤ bits .and .u64 x 255 ∧ bits .and .u64 x 255 ≤ 255 := by
  have h : ((BitVec.ofInt 64 x &&& BitVec.ofInt 64 255).toNat : Int) ≤ 255 := by
    rw [BitVec.toNat_and]
    have := @Nat.and_le_right (BitVec.ofInt 64 x).toNat (BitVec.ofInt 64 255).toNat
    have e : (BitVec.ofInt 64 255).toNat = 255 := by decide
    omega
  have e : bits .and .u64 x 255 = IntKind.u64.wrap ((BitVec.ofInt 64 x &&& BitVec.ofInt 64 255).toNat : Int) := rfl
  rw [e, wrap_u0 (by omega) (by omega)]
  omega
theorem wrap_bits (x : Int) : IntKind.i64.wrap (bits .and .u64 x 255) = bits .and .u64 x 255 := wrap_in (by have := and_le x; omega) (by have := and_le x; omega)
theorem nextV_le (s : Src) : 0 ≤ s.nextV ∧ s.nextV ≤ 255 := by
  unfold Src.nextV
  split
  · exact byte_le s
  · exact and_le _

set_option maxRecDepth 8000 in
theorem next_ok (s : Src) (h : s.ok 1) : RetM env.P 69 [some (boxRow s.cs)] [.ptr 0 0 0] (fun r H => r = .i .i64 s.nextV ∧ H = [some (boxRow s.next.cs)]) := by
  obtain ⟨h1, h2, h3⟩ := h
  have e0 : ((s.code.getD s.at'.toNat default).toNat : Int) < 256 := by have := (s.code.getD s.at'.toNat default).toNat_lt; omega
  have e1 : IntKind.i64.wrap (s.at' + 1) = s.at' + 1 := wrap_in (by omega) (by omega)
  have e2 : IntKind.i64.wrap ((s.code.getD s.at'.toNat default).toNat : Int) = ((s.code.getD s.at'.toNat default).toNat : Int) := wrap_in (by omega) (by omega)
  have e3 : IntKind.u64.wrap ((s.code.getD s.at'.toNat default).toNat : Int) = ((s.code.getD s.at'.toNat default).toNat : Int) := wrap_u0 (by omega) (by omega)
  have e4 : IntKind.u64.wrap 0 = 0 := by decide
  refine ret_ofM (nt := 62) (rvs := [.tmp 2]) Tryz.func69 rfl rfl rfl rfl (fun X hX => ?_)
  repeat' (first | exact aa | ((conv => whnf) <;> (first | refine And.intro ?_ ?_ | (intro _h; first | contradiction | (try simp only [dd] at _h)) | (refine dt_go ?_) | exact rfl | exact True.intro | exact dkk | exact dks | (refine wrap_succ ?_; omega))))
  all_goals (conv => whnf)
  all_goals refine endM_turn (turn_box (id := 0) (ds := [slL 1 byteC s.code, .i .i64 _, .i .u64 _]) rfl rfl rfl (.cons (.refl _) (.cons (.refl _) (.cons (.refl _) .nil)))) ?_
  all_goals refine endM_pick [0] [some (boxRow [slL 1 byteC s.code, .i .i64 _, .i .u64 _])] (.i .i64 _) (view_of rfl (.cons rfl (.self (rowPl_box rfl)) .nil)) rfl rfl (by rw [hX]; exact keepK (n := 1) rfl rfl) ⟨?_, ?_⟩
  all_goals (try (exfalso; rw [e1] at *; omega))
  all_goals (rename_i q; first | (simp only [Src.nextV, Src.next, Src.cs, Src.byte, e1, e2, e3, e4, wrap_bits, if_pos q]; done) | (simp only [Src.nextV, Src.next, Src.cs, Src.byte, e1, e2, e3, e4, wrap_bits, if_neg q]; done) | (simp only [Src.nextV, Src.next, Src.cs, Src.byte, e1, e2, e3, e4, wrap_bits, if_pos q]; rfl) | (simp only [Src.nextV, Src.next, Src.cs, Src.byte, e1, e2, e3, e4, wrap_bits, if_neg q]; rfl))
/-- A number from 0 to n - 1 (n at most 200 here). -/
def Src.pickV (s : Src) (n : Int) : Int := if n ≤ 1 then 0 else s.nextV.tmod n
def Src.pickS (s : Src) (n : Int) : Src := if n ≤ 1 then s else s.next
theorem pick_le (s : Src) (n : Int) : 0 ≤ s.pickV n ∧ (1 ≤ n → s.pickV n < n) := by
  have := nextV_le s
  unfold Src.pickV
  split
  · omega
  · rw [Int.tmod_eq_emod_of_nonneg this.1]
    exact ⟨Int.emod_nonneg _ (by omega), fun _ => Int.emod_lt_of_pos _ (by omega)⟩
theorem next_lo {s : Src} {k m : Int} (h : s.ok k) (hm : m + 1 ≤ k) : s.next.ok m := by
  obtain ⟨h1, h2, h3⟩ := h
  refine ⟨?_, ?_, h3⟩ <;> (simp only [Src.next]; omega)
theorem ok_lo {s : Src} {k m : Int} (h : s.ok k) (hm : m ≤ k) : s.ok m := ⟨h.1, by have := h.2.1; omega, h.2.2⟩
theorem pick_lo {s : Src} {k m n : Int} (h : s.ok k) (hm : m + 1 ≤ k) : (s.pickS n).ok m := by
  unfold Src.pickS
  split
  · exact ok_lo h (by omega)
  · exact next_lo h hm

set_option maxRecDepth 8000 in
theorem pick_ok (s : Src) (h : s.ok 1) (n : Int) (hn : n ≤ 200) : RetM env.P 42 [some (boxRow s.cs)] [.ptr 0 0 0, .i .i64 n] (fun r H => r = .i .i64 (s.pickV n) ∧ H = [some (boxRow (s.pickS n).cs)]) := by
  refine ret_ofM (nt := 20) (rvs := [.tmp 4]) Tryz.func42 rfl rfl rfl rfl (fun X hX => ?_)
  repeat' (first | exact aa | ((conv => whnf) <;> (first | refine And.intro ?_ ?_ | (intro _h; first | contradiction | (try simp only [dd] at _h)) | (refine dt_go ?_) | exact rfl | exact True.intro | exact dkk | exact dks | (refine .inr (.inl (.inl ⟨[0], _, _, _, next_ok s h, viewA, ⟨rfl, rfl⟩, ?_⟩)); rintro _ _ ⟨rfl, rfl⟩; refine ⟨rfl, _, lokA, ?_⟩) | (refine wrap_succ ?_; omega))))
  all_goals (conv => whnf)
  rotate_left; rename_i q; rotate_right
  · refine endM_pick [0] [some (boxRow s.cs)] (.i .i64 _) (view_of rfl (.cons rfl (.self (rowPl_box rfl)) .nil)) rfl rfl (by rw [hX]; exact keepK (n := 1) rfl rfl) ⟨?_, ?_⟩
    · exact leaf_i (if_pos _h).symm
    · unfold Src.pickS; rw [if_pos _h]
  · refine endM_pick [0] [some (boxRow s.next.cs)] (.i .i64 _) (view_of rfl (.cons rfl (.self (rowPl_box rfl)) .nil)) rfl rfl (by rw [hX]; exact keepK (n := 1) rfl rfl) ⟨?_, ?_⟩
    · exact leaf_i (if_neg q).symm
    · unfold Src.pickS; rw [if_neg q]

set_option maxRecDepth 8000 in
theorem one_ok (s : Src) (h : s.ok 1) (n : Int) (hn : n ≤ 200) : RetM env.P 53 [some (boxRow s.cs)] [.ptr 0 0 0, .i .i64 n] (fun r H => r = .b (pb (s.pickV n = 0)) ∧ H = [some (boxRow (s.pickS n).cs)]) := by
  refine ret_ofM (nt := 9) (rvs := [.tmp 4]) Tryz.func53 rfl rfl rfl rfl (fun X hX => ?_)
  repeat' (first | exact aa | ((conv => whnf) <;> (first | refine And.intro ?_ ?_ | (intro _h; first | contradiction | (try simp only [dd] at _h)) | (refine dt_go ?_) | exact rfl | exact True.intro | exact dkk | exact dks | (refine .inr (.inl (.inl ⟨[0], _, _, _, pick_ok s h n hn, viewA, ⟨rfl, rfl⟩, ?_⟩)); rintro _ _ ⟨rfl, rfl⟩; refine ⟨rfl, _, lokA, ?_⟩) | (refine wrap_succ ?_; omega))))
  all_goals (conv => whnf)
  exact endM_pick [0] [some (boxRow (s.pickS n).cs)] (.b _) (view_of rfl (.cons rfl (.self (rowPl_box rfl)) .nil)) rfl rfl (by rw [hX]; exact keepK (n := 1) rfl rfl) ⟨leaf_p (by rw [decide_eq_true_eq]), rfl⟩

set_option maxRecDepth 8000 in
theorem among_ok (s : Src) (h : s.ok 1) (l : List Int) (h0 : 0 < l.length) (hn : l.length ≤ 200) : RetM env.P 67 [some (boxRow s.cs)] [.ptr 0 0 0, slL 1 intC l] (fun r H => r = .i .i64 (l.getD (s.pickV l.length).toNat default) ∧ H = [some (boxRow (s.pickS l.length).cs)]) := by
  have hl : (l.length : Int) ≤ 200 := by omega
  have hp := pick_le s l.length
  have hq := hp.2 (by omega)
  refine ret_ofM (nt := 12) (rvs := [.tmp 4]) Tryz.func67 rfl rfl rfl rfl (fun X hX => ?_)
  repeat' (first | exact aa | ((conv => whnf) <;> (first | refine And.intro ?_ ?_ | (intro _h; first | contradiction | (try simp only [dd] at _h)) | (refine dt_go ?_) | exact rfl | exact True.intro | exact dkk | exact dks | (refine .inr (.inl (.inl ⟨[0], _, _, _, pick_ok s h l.length hl, viewA, ⟨rfl, rfl⟩, ?_⟩)); rintro _ _ ⟨rfl, rfl⟩; refine ⟨rfl, _, lokA, ?_⟩) | (refine wrap_succ ?_; omega))))
  all_goals (conv => whnf)
  exact endM_pick [0] [some (boxRow (s.pickS l.length).cs)] (.i .i64 _) (view_of rfl (.cons rfl (.self (rowPl_box rfl)) .nil)) rfl rfl (by rw [hX]; exact keepK (n := 1) rfl rfl) ⟨rfl, rfl⟩

set_option maxRecDepth 8000 in
theorem from_ok (l : List UInt8) : RetM env.P 27 [] [slL 1 byteC l] (fun r H => r = .ptr 0 0 0 ∧ H = [some (boxRow (Src.mk l 0 0).cs)]) := by
  refine ret_ofM (nt := 6) (rvs := [.tmp 2]) Tryz.func27 rfl rfl rfl rfl (fun X hX => ?_)
  repeat' (first | exact aa | ((conv => whnf) <;> (first | refine And.intro ?_ ?_ | (intro _h; first | contradiction | (try simp only [dd] at _h)) | (refine dt_go ?_) | exact rfl | exact True.intro | exact dkk | exact dks | (refine wrap_succ ?_; omega))))
  all_goals (conv => whnf)
  exact endM_pick [0] [some (boxRow (Src.mk l 0 0).cs)] (.ptr 0 0 0) (view_of rfl (.cons rfl (.self (rowPl_box rfl)) .nil)) rfl rfl (fun k hk => by rw [hX] at hk; exact absurd hk (Nat.not_lt_zero k)) ⟨rfl, rfl⟩
end Go.Proofs.YtnppkgmodflkdaaGreat
