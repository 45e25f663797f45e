/- Texts for VSectionsP. -/
import Derived.Shelf.Strings.FuncGrows
import Derived.Shelf.Small.Wraps
import Derived.Test.YtdeledeopippfaaProg
import Derived.Shelf.Small.Strs
import Derived.Test.YtdeledeopippfaaVx28
import Derived.Test.YtdeledeopippfaaVx22
namespace Go.Proofs.Ytdeledeopippfaa
open Go Go.RowKit
set_option linter.unusedVariables false
set_option linter.unusedSimpArgs false
set_option maxRecDepth 8000
section
open Go Go.Shelf
def lays103_ren : Go.Shelf.Ren := ⟨fun | 103 => 44 | 210 => 65 | 206 => 82 | n => n, fun | 9 => 9 | 4 => 4 | 24 => 77 | 3 => 3 | n => n, fun | n => n⟩
theorem lays103 : Lays.n103 Try.prog lays103_ren := {
  mixed := by kernel_rfl,
  f103 := Try.func44.trans (congrArg some (by kernel_rfl)),
  f206 := Try.func82.trans (congrArg some (by kernel_rfl)),
  f210 := Try.func65.trans (congrArg some (by kernel_rfl)),
  t3 := Try.underlying3,
  a3 := Try.isAgg3,
  z3 := Try.sizeOf3,
  v3 := Try.zeroValue3,
  t4 := Try.underlying4,
  a4 := Try.isAgg4,
  z4 := Try.sizeOf4,
  v4 := Try.zeroValue4,
  t9 := Try.underlying9,
  a9 := Try.isAgg9,
  z9 := Try.sizeOf9,
  v9 := Try.zeroValue9,
  t24 := Try.underlying77,
  a24 := Try.isAgg77,
  z24 := Try.sizeOf77,
  v24 := Try.zeroValue77 }
def laysGw17_ren : Go.Shelf.Ren := ⟨fun | 17 => 67 | 15 => 83 | 20 => 89 | n => n, fun | 9 => 9 | 23 => 105 | 4 => 4 | 3 => 3 | 0 => 0 | 21 => 21 | n => n, fun | n => n⟩
theorem laysGw17 : LaysGw.n17 Try.prog laysGw17_ren := {
  mixed := by kernel_rfl,
  f15 := Try.func83.trans (congrArg some (by kernel_rfl)),
  f17 := Try.func67.trans (congrArg some (by kernel_rfl)),
  f20 := Try.func89.trans (congrArg some (by kernel_rfl)),
  t0 := Try.underlying0,
  a0 := Try.isAgg0,
  z0 := Try.sizeOf0,
  v0 := Try.zeroValue0,
  i0 := by kernel_rfl,
  t3 := Try.underlying3,
  a3 := Try.isAgg3,
  z3 := Try.sizeOf3,
  v3 := Try.zeroValue3,
  i3 := by kernel_rfl,
  t4 := Try.underlying4,
  a4 := Try.isAgg4,
  z4 := Try.sizeOf4,
  v4 := Try.zeroValue4,
  i4 := by kernel_rfl,
  t9 := Try.underlying9,
  a9 := Try.isAgg9,
  z9 := Try.sizeOf9,
  v9 := Try.zeroValue9,
  i9 := by kernel_rfl,
  t21 := Try.underlying21,
  a21 := Try.isAgg21,
  z21 := Try.sizeOf21,
  v21 := Try.zeroValue21,
  i21 := by kernel_rfl,
  t23 := Try.underlying105,
  a23 := Try.isAgg105,
  z23 := Try.sizeOf105,
  v23 := Try.zeroValue105,
  i23 := by kernel_rfl }
end
theorem concL_1 {w : World} {S : Nat → Prop} {blk : Nat → BC} {H : Hp} {x : AV} {us : List Value} (h : ConcL w S blk H [x] us) : ∃ u, us = [u] ∧ Conc w S blk H x u := by
  obtain ⟨hl, h⟩ := h
  match us, hl with
  | [u], _ => exact ⟨u, rfl, h 0 x u rfl rfl⟩
theorem concL_2 {w : World} {S : Nat → Prop} {blk : Nat → BC} {H : Hp} {x y : AV} {us : List Value} (h : ConcL w S blk H [x, y] us) : ∃ u v, us = [u, v] ∧ Conc w S blk H x u ∧ Conc w S blk H y v := by
  obtain ⟨hl, h⟩ := h
  match us, hl with
  | [u, v], _ => exact ⟨u, v, rfl, h 0 x u rfl rfl, h 1 y v rfl rfl⟩
theorem conc_i {w : World} {S : Nat → Prop} {blk : Nat → BC} {H : Hp} {z : Int} (h1 : -9223372036854775808 ≤ z) (h2 : z < 9223372036854775808) : Conc w S blk H (.i .i64 z) (.int .i64 z) := .i (by
  simp only [Lit.wf, IntKind.min, IntKind.max, IntKind.signed, IntKind.bits, Bool.and_eq_true, decide_eq_true_eq, if_true, Bool.false_eq_true, if_false]
  omega)
section
open Go Go.RowKit Go.Shelf
theorem cutPrefix_ok (s p : ByteArray) : Ret env.P 44 [.s s, .s p] (fun r => r = .tup [.s ⟨(Lib.trimPrefix s.data.toList p.data.toList).toArray⟩, .b (Lib.hasPrefix s.data.toList p.data.toList)]) := .mk fun w S us hS hc => by
  obtain ⟨u, v, rfl, h1, h2⟩ := concL_2 hc
  obtain ⟨rfl, hs⟩ := inv_s h1
  obtain ⟨rfl, _⟩ := inv_s h2
  have hle : (Lib.trimPrefix s.data.toList p.data.toList).length ≤ s.data.toList.length := by
    unfold Lib.trimPrefix
    split
    · rw [List.length_drop]; omega
    · exact Nat.le_refl _
  refine (Any.strings_CutPrefix lays103 s p w).mono fun e w' ⟨he, hw⟩ => ⟨_, _, he, rfl, .tup _ [_, _] rfl fun j c u hj hu => ?_, hw ▸ Below.refl _ _⟩
  match j with
  | 0 => cases hj; cases hu; exact .s (Nat.le_trans hle hs)
  | 1 => cases hj; cases hu; exact .b _
  | j + 2 => cases hj
theorem containsFunc_ok {g : FuncId} (eg : ∀ args w, (callFunc g args).run env.P w = .ok (.enter g args) w) (p : Nat → Bool) (hg : ∀ x : Nat, x ≤ 1114111 → Ret env.P g [.i .i32 (x : Int)] (fun r => r = .b (p x))) (s : ByteArray) :
    Ret env.P 67 [.s s, .fn g []] (fun r => r = .b (decide (0 ≤ Lib.idxFunc p true s))) := .mk fun w S us hS hc => by
  obtain ⟨u, v, rfl, h1, h2⟩ := concL_2 hc
  obtain ⟨rfl, hs⟩ := inv_s h1
  obtain ⟨cs, rfl, hl, _⟩ := inv_fn h2
  obtain rfl : cs = [] := List.eq_nil_of_length_eq_zero hl
  have hp : PredGrows env.P g #[] p w := fun W x hx hb => by
    refine ((hg x hx).h W S [.int .i32 (x : Int)] (hS.below hb (Nat.le_refl _)) ⟨rfl, fun j c u hj hu => ?_⟩).mono fun e w' ⟨r, u, he, hr, hu, hb⟩ => ?_
    · match j with
      | 0 =>
        cases hj; cases hu
        refine .i ?_
        simp only [Lit.wf, IntKind.min, IntKind.max, IntKind.signed, IntKind.bits, Bool.and_eq_true, decide_eq_true_eq, if_true, Bool.false_eq_true, if_false]
        omega
      | j + 1 => cases hj
    · subst hr
      cases hu
      exact ⟨he, hb⟩
  exact (Any.strings_ContainsFunc_grows laysGw17 g #[] eg p s w hp).mono fun e w' ⟨he, hb⟩ => ⟨_, _, he, rfl, .b _, hb⟩
end
structure Section where
  id : Int
  name : ByteArray
  bytes : ByteArray
  deriving DecidableEq, Inhabited
def Section.cs (a : Section) : List AV := [.i .i64 a.id, .s a.name, .s a.bytes]
theorem Section.low (a : Section) : a.cs.all (low1 0) = true := rfl
def Section.ok (a : Section) : Prop := okS a.name ∧ okS a.bytes
def Section.sz (a : Section) (left : Int) : Int :=
  if (szSt a.name left) < 0 then -1 else if (szSt a.bytes (szSt a.name left)) < 0 then -1 else (szSt a.bytes (szSt a.name left))
section
attribute [local irreducible] IntKind.wrap
theorem wdB_no {b : ByteArray} {k : Nat} (hw : WdTo b k) (hk : k < b.size) (h : ¬ wdC (b.data.getD k 0).toNat) : ¬ wdB b := fun q => h (q.h.h k hk)
theorem wd_end {b : ByteArray} {k : Nat} (hw : WdTo b k) (hk : k = b.size) (h1 : 1 ≤ b.size) : decide ((b.size : Int) ≤ 40) = true ↔ wdB b := by
  subst hk
  exact ⟨fun q => ⟨hw, h1, by simp at q; omega⟩, fun q => by have := q.hi; simp; omega⟩
set_option maxHeartbeats 1000000 in
theorem l15Word_ok (b : ByteArray) (hs : b.size ≤ 1048576) : Ret env.P 90 [.s b] (fun r => r = .b (pb (wdB b))) := by
  refine ret_of (nt := 49) (rvs := [.tmp 2]) Try.func90 rfl rfl rfl rfl (fun X => ?_)
  repeat' (first | omega | (with_reducible show (_ : Int) < _; dsimp only; omega) | (with_reducible show (_ : Nat) ≤ _; dsimp only; omega) | ((with_reducible show SrcOk _ _ _) <;> (first | exact srcOk_1 rfl | exact srcOk_L (fun _ => ⟨rfl, rfl⟩) | exact srcOk_E (fun _ => ⟨rfl, rfl⟩))) | ((conv => whnf) <;> (first | refine loopN b.size (fun k => [(3, .i .i64 k)]) (fun k => []) (fun k => WdTo b k) ⟨.zero b, ?_⟩ | refine And.intro ?_ ?_ | (intro _h; first | contradiction | (try simp only [dd] at _h)) | (refine dt_go ?_) | exact rfl | exact True.intro | exact dkk | exact dks | (refine wrap_succ ?_; omega))))
  all_goals (try simp only [Int.toNat_natCast] at *)
  all_goals first
    | exact WdTo.succ ‹_› (by unfold wdC; omega)
    | (conv => whnf
       exact leaf_f (wdB_no ‹WdTo b _› (by omega) (by unfold wdC; omega)))
    | (conv => whnf
       exact leaf_p (wd_end ‹WdTo b _› (by omega) (by omega)))
    | (conv => whnf
       exact leaf_f (fun q => by have := q.lo; omega))
    | trace_state
theorem lengthI_ok (b : ByteArray) : Ret env.P 33 [.s b] (fun r => r = .i .i64 b.size) := by
  refine ret_of (nt := 5) (rvs := [.tmp 2]) Try.func33 rfl rfl rfl rfl (fun X => ?_)
  repeat' (first | omega | (with_reducible show (_ : Int) < _; dsimp only; omega) | (with_reducible show (_ : Nat) ≤ _; dsimp only; omega) | ((with_reducible show SrcOk _ _ _) <;> (first | exact srcOk_1 rfl | exact srcOk_L (fun _ => ⟨rfl, rfl⟩) | exact srcOk_E (fun _ => ⟨rfl, rfl⟩))) | ((conv => whnf) <;> (first | refine And.intro ?_ ?_ | (intro _h; first | contradiction | (try simp only [dd] at _h)) | (refine dt_go ?_) | exact rfl | exact True.intro | exact dkk | exact dks | (refine wrap_succ ?_; omega))))
end
section
attribute [local irreducible] IntKind.wrap
def gbB (s : ByteArray) : ByteArray × Int × Bool := if (getL s).2.2 = true ∧ (getL s).1 ≤ (s.size : Int) - (getL s).2.1 then (s.extract (getL s).2.1.toNat ((getL s).2.1 + (getL s).1).toNat, (getL s).2.1 + (getL s).1, true) else (⟨#[]⟩, 0, false)
def gbR (v : ByteArray × Int × Bool) : AV := .tup [.s v.1, .i .i64 v.2.1, .b v.2.2]
theorem getL_rng (b : ByteArray) : 0 ≤ (getL b).1 ∧ (getL b).1 < 9223372036854775808 ∧ 0 ≤ (getL b).2.1 ∧ (getL b).2.1 ≤ b.size := by
  unfold getL
  cases h : fstI b 9 with
  | none => exact ⟨Int.le_refl _, by show (0 : Int) < _; omega, Int.le_refl _, by show (0 : Int) ≤ b.size; omega⟩
  | some i =>
    obtain ⟨h1, h2, _, _⟩ := fstI_get h
    have h3 := dec63 (b := b) h2
    dsimp only
    split
    · exact ⟨by show (0 : Int) ≤ (decL _ : Nat); omega, by show ((decL _ : Nat) : Int) < _; omega, by show (0 : Int) ≤ (i : Int) + 1; omega, by show (i : Int) + 1 ≤ b.size; omega⟩
    · exact ⟨Int.le_refl _, by show (0 : Int) < _; omega, Int.le_refl _, by show (0 : Int) ≤ b.size; omega⟩
theorem gb_ok {s : ByteArray} (h1 : (getL s).2.2 = true) (h2 : (getL s).1 ≤ (s.size : Int) - (getL s).2.1) : gbB s = (s.extract (getL s).2.1.toNat ((getL s).2.1 + (getL s).1).toNat, (getL s).2.1 + (getL s).1, true) := if_pos ⟨h1, h2⟩
theorem gb_no {s : ByteArray} (h : ¬ ((getL s).2.2 = true ∧ (getL s).1 ≤ (s.size : Int) - (getL s).2.1)) : gbB s = (⟨#[]⟩, 0, false) := if_neg h
theorem wr64 {x : Int} (h1 : -9223372036854775808 ≤ x) (h2 : x < 9223372036854775808) : IntKind.i64.wrap x = x := by rw [IntKind.wrap_i64]; omega
theorem getBytes_spec (s : ByteArray) (hs : s.size ≤ 1048576) : Ret env.P 80 [.s s] (fun r => r = gbR (gbB s)) := by
  obtain ⟨r1, r2, r3, r4⟩ := getL_rng s
  have hL := getLeb_spec s hs
  unfold gbB
  generalize hg : getL s = g at *
  obtain ⟨n, many, ok⟩ := g
  dsimp only at r1 r2 r3 r4
  have e1 : IntKind.i64.wrap ((s.size : Int) - many) = (s.size : Int) - many := wr64 (by omega) (by omega)
  dsimp only
  cases ok
  · rw [if_neg (fun q => nomatch q.1)]
    refine ret_of (nt := 33) (rvs := [.tmp 2, .tmp 3, .tmp 4]) Try.func80 rfl rfl rfl rfl (fun X => ?_)
    repeat' (first | omega | (with_reducible show (_ : Int) < _; dsimp only; omega) | (with_reducible show (_ : Nat) ≤ _; dsimp only; omega) | ((with_reducible show SrcOk _ _ _) <;> (first | exact srcOk_1 rfl | exact srcOk_L (fun _ => ⟨rfl, rfl⟩) | exact srcOk_E (fun _ => ⟨rfl, rfl⟩))) | ((conv => whnf) <;> (first | refine And.intro ?_ ?_ | (intro _h; first | contradiction | (try simp only [dd] at _h)) | (refine dt_go ?_) | exact rfl | exact True.intro | exact dkk | exact dks | ((first | refine .inl ⟨_, hL, ?_⟩ | refine ⟨_, hL, ?_⟩); (try rintro _ rfl)) | (refine wrap_succ ?_; omega))))
  by_cases hn : n ≤ (s.size : Int) - many
  · rw [if_pos ⟨rfl, hn⟩]
    have e2 : IntKind.i64.wrap (many + n) = many + n := wr64 (by omega) (by omega)
    refine ret_of (nt := 33) (rvs := [.tmp 2, .tmp 3, .tmp 4]) Try.func80 rfl rfl rfl rfl (fun X => ?_)
    repeat' (first | omega | (with_reducible show (_ : Int) < _; dsimp only; omega) | (with_reducible show (_ : Nat) ≤ _; dsimp only; omega) | ((with_reducible show SrcOk _ _ _) <;> (first | exact srcOk_1 rfl | exact srcOk_L (fun _ => ⟨rfl, rfl⟩) | exact srcOk_E (fun _ => ⟨rfl, rfl⟩))) | ((conv => whnf) <;> (first | rw [e1] | rw [e2] | (show many ≤ many + n; omega) | (show many + n ≤ (s.size : Int); omega) | refine And.intro ?_ ?_ | (intro _h; first | contradiction | (try simp only [dd] at _h)) | (refine dt_go ?_) | exact rfl | exact True.intro | exact dkk | exact dks | ((first | refine .inl ⟨_, hL, ?_⟩ | refine ⟨_, hL, ?_⟩); (try rintro _ rfl)) | (refine wrap_succ ?_; omega))))
  · rw [if_neg (fun q => hn q.2)]
    refine ret_of (nt := 33) (rvs := [.tmp 2, .tmp 3, .tmp 4]) Try.func80 rfl rfl rfl rfl (fun X => ?_)
    repeat' (first | omega | (with_reducible show (_ : Int) < _; dsimp only; omega) | (with_reducible show (_ : Nat) ≤ _; dsimp only; omega) | ((with_reducible show SrcOk _ _ _) <;> (first | exact srcOk_1 rfl | exact srcOk_L (fun _ => ⟨rfl, rfl⟩) | exact srcOk_E (fun _ => ⟨rfl, rfl⟩))) | ((conv => whnf) <;> (first | rw [e1] | refine And.intro ?_ ?_ | (intro _h; first | contradiction | (try simp only [dd] at _h)) | (refine dt_go ?_) | exact rfl | exact True.intro | exact dkk | exact dks | ((first | refine .inl ⟨_, hL, ?_⟩ | refine ⟨_, hL, ?_⟩); (try rintro _ rfl)) | (refine wrap_succ ?_; omega))))
theorem getBytes_impl (s : ByteArray) (hs : s.size ≤ 1048576) : Ret env.P 45 [.s s] (fun r => r = gbR (gbB s)) := by
  obtain ⟨r1, r2, r3, r4⟩ := getL_rng s
  have hL := getLeb_impl s hs
  unfold gbB
  generalize hg : getL s = g at *
  obtain ⟨n, many, ok⟩ := g
  dsimp only at r1 r2 r3 r4
  have e1 : IntKind.i64.wrap ((s.size : Int) - many) = (s.size : Int) - many := wr64 (by omega) (by omega)
  dsimp only
  cases ok
  · rw [if_neg (fun q => nomatch q.1)]
    refine ret_of (nt := 33) (rvs := [.tmp 2, .tmp 3, .tmp 4]) Try.func45 rfl rfl rfl rfl (fun X => ?_)
    repeat' (first | omega | (with_reducible show (_ : Int) < _; dsimp only; omega) | (with_reducible show (_ : Nat) ≤ _; dsimp only; omega) | ((with_reducible show SrcOk _ _ _) <;> (first | exact srcOk_1 rfl | exact srcOk_L (fun _ => ⟨rfl, rfl⟩) | exact srcOk_E (fun _ => ⟨rfl, rfl⟩))) | ((conv => whnf) <;> (first | refine And.intro ?_ ?_ | (intro _h; first | contradiction | (try simp only [dd] at _h)) | (refine dt_go ?_) | exact rfl | exact True.intro | exact dkk | exact dks | ((first | refine .inl ⟨_, hL, ?_⟩ | refine ⟨_, hL, ?_⟩); (try rintro _ rfl)) | ((first | refine .inl ⟨_, lengthI_ok s, ?_⟩ | refine ⟨_, lengthI_ok s, ?_⟩); (try rintro _ rfl)) | (refine wrap_succ ?_; omega))))
  by_cases hn : n ≤ (s.size : Int) - many
  · rw [if_pos ⟨rfl, hn⟩]
    have e2 : IntKind.i64.wrap (many + n) = many + n := wr64 (by omega) (by omega)
    refine ret_of (nt := 33) (rvs := [.tmp 2, .tmp 3, .tmp 4]) Try.func45 rfl rfl rfl rfl (fun X => ?_)
    repeat' (first | omega | (with_reducible show (_ : Int) < _; dsimp only; omega) | (with_reducible show (_ : Nat) ≤ _; dsimp only; omega) | ((with_reducible show SrcOk _ _ _) <;> (first | exact srcOk_1 rfl | exact srcOk_L (fun _ => ⟨rfl, rfl⟩) | exact srcOk_E (fun _ => ⟨rfl, rfl⟩))) | ((conv => whnf) <;> (first | rw [e1] | rw [e2] | (show many ≤ many + n; omega) | (show many + n ≤ (s.size : Int); omega) | refine And.intro ?_ ?_ | (intro _h; first | contradiction | (try simp only [dd] at _h)) | (refine dt_go ?_) | exact rfl | exact True.intro | exact dkk | exact dks | ((first | refine .inl ⟨_, hL, ?_⟩ | refine ⟨_, hL, ?_⟩); (try rintro _ rfl)) | ((first | refine .inl ⟨_, lengthI_ok s, ?_⟩ | refine ⟨_, lengthI_ok s, ?_⟩); (try rintro _ rfl)) | (refine wrap_succ ?_; omega))))
  · rw [if_neg (fun q => hn q.2)]
    refine ret_of (nt := 33) (rvs := [.tmp 2, .tmp 3, .tmp 4]) Try.func45 rfl rfl rfl rfl (fun X => ?_)
    repeat' (first | omega | (with_reducible show (_ : Int) < _; dsimp only; omega) | (with_reducible show (_ : Nat) ≤ _; dsimp only; omega) | ((with_reducible show SrcOk _ _ _) <;> (first | exact srcOk_1 rfl | exact srcOk_L (fun _ => ⟨rfl, rfl⟩) | exact srcOk_E (fun _ => ⟨rfl, rfl⟩))) | ((conv => whnf) <;> (first | rw [e1] | refine And.intro ?_ ?_ | (intro _h; first | contradiction | (try simp only [dd] at _h)) | (refine dt_go ?_) | exact rfl | exact True.intro | exact dkk | exact dks | ((first | refine .inl ⟨_, hL, ?_⟩ | refine ⟨_, hL, ?_⟩); (try rintro _ rfl)) | ((first | refine .inl ⟨_, lengthI_ok s, ?_⟩ | refine ⟨_, lengthI_ok s, ?_⟩); (try rintro _ rfl)) | (refine wrap_succ ?_; omega))))
def owC (c : Nat) : Prop := 33 ≤ c ∧ c ≤ 126
instance (c : Nat) : Decidable (owC c) := by unfold owC; infer_instance
structure owB (s : ByteArray) : Prop where
  lo : 1 ≤ s.size
  hi : s.size ≤ 40
  all : ∀ k, k < s.size → owC (s.data.getD k 0).toNat
def owP (x : Nat) : Bool := !decide (owC x)
theorem dcd_lo {s : ByteArray} {i : Nat} (h : (s.get! i).toNat < 128) : Utf8.decode s i = ((s.get! i).toNat, 1) := by
  unfold Utf8.decode
  simp only [Nat.add_zero]
  rw [if_pos h]
theorem dcd_hi {s : ByteArray} {i : Nat} (h : ¬ (s.get! i).toNat < 128) : 127 < (Utf8.decode s i).1 := by
  unfold Utf8.decode
  simp only [Nat.add_zero]
  rw [if_neg h]
  have e : Utf8.runeError = 65533 := rfl
  (repeat' split) <;> dsimp only <;> first | (rw [e]; decide) | omega | (rename_i q; simp only [Bool.and_eq_true, decide_eq_true_eq] at q; omega)
theorem get_at {s : ByteArray} {i : Nat} (h : i < s.size) : s.get! i = s.data.getD i 0 := by
  show s.data[i]! = _
  rw [getElem!_pos s.data i h, Array.getD_eq_getD_getElem?, Array.getElem?_eq_getElem h]
  rfl
theorem owP_dcd {s : ByteArray} {i : Nat} (h : i < s.size) : owP (Utf8.decode s i).1 = true ↔ ¬ owC (s.data.getD i 0).toNat := by
  rw [← get_at h]
  unfold owP
  rw [Bool.not_eq_true', decide_eq_false_iff_not]
  unfold owC
  by_cases q : (s.get! i).toNat < 128
  · rw [dcd_lo q]
  · have := dcd_hi q
    constructor <;> intro _ h <;> omega
theorem owI_from (s : ByteArray) : ∀ (f pos : Nat), s.size ≤ pos + f → (0 ≤ Lib.idxFuncFrom owP true s f pos ↔ ∃ k, pos ≤ k ∧ k < s.size ∧ ¬ owC (s.data.getD k 0).toNat)
  | 0, pos, h => by
    unfold Lib.idxFuncFrom
    exact ⟨fun q => by omega, fun ⟨k, h1, h2, _⟩ => by omega⟩
  | f + 1, pos, h => by
    unfold Lib.idxFuncFrom
    by_cases hp : pos < s.size
    · rw [if_pos hp]
      by_cases hb : owP (Utf8.decode s pos).1 = true
      · rw [if_pos hb]
        exact ⟨fun _ => ⟨pos, Nat.le_refl _, hp, (owP_dcd hp).1 hb⟩, fun _ => by omega⟩
      · rw [if_neg hb]
        have hc : owC (s.data.getD pos 0).toNat := Classical.not_not.1 fun q => hb ((owP_dcd hp).2 q)
        have hlt : (s.get! pos).toNat < 128 := by rw [get_at hp]; unfold owC at hc; omega
        rw [dcd_lo hlt]
        rw [owI_from s f (pos + 1) (by omega)]
        constructor
        · rintro ⟨k, h1, h2, h3⟩
          exact ⟨k, by omega, h2, h3⟩
        · rintro ⟨k, h1, h2, h3⟩
          refine ⟨k, ?_, h2, h3⟩
          rcases Nat.lt_or_eq_of_le h1 with q | rfl
          · exact q
          · exact absurd hc h3
    · rw [if_neg hp]
      exact ⟨fun q => by omega, fun ⟨k, h1, h2, _⟩ => by omega⟩
theorem owI_all (s : ByteArray) : 0 ≤ Lib.idxFunc owP true s ↔ ¬ ∀ k, k < s.size → owC (s.data.getD k 0).toNat := by
  unfold Lib.idxFunc
  rw [owI_from s s.size 0 (by omega)]
  constructor
  · rintro ⟨k, _, h2, h3⟩ q
    exact h3 (q k h2)
  · intro q
    apply Classical.byContradiction
    intro c
    exact q fun k hk => Classical.not_not.1 fun h => c ⟨k, Nat.zero_le _, hk, h⟩
theorem ownName1_ok (x : Nat) (hx : x ≤ 1114111) : Ret env.P 68 [.i .i32 (x : Int)] (fun r => r = .b (owP x)) := by
  have hP : owP x = decide ((x : Int) < 33 ∨ 126 < (x : Int)) := by
    unfold owP
    rw [← decide_not, decide_eq_decide]
    unfold owC
    omega
  rw [hP]
  refine ret_of (nt := 9) (rvs := [.tmp 2]) Try.func68 rfl rfl rfl rfl (fun X => ?_)
  repeat' (first | omega | (with_reducible show (_ : Int) < _; dsimp only; omega) | (with_reducible show (_ : Nat) ≤ _; dsimp only; omega) | ((with_reducible show SrcOk _ _ _) <;> (first | exact srcOk_1 rfl | exact srcOk_L (fun _ => ⟨rfl, rfl⟩) | exact srcOk_E (fun _ => ⟨rfl, rfl⟩))) | ((conv => whnf) <;> (first | refine And.intro ?_ ?_ | (intro _h; first | contradiction | (try simp only [dd] at _h)) | (refine dt_go ?_) | exact rfl | exact True.intro | exact dkk | exact dks | (refine wrap_succ ?_; omega))))
  all_goals (conv => whnf)
  · exact leaf_b (by rw [decide_eq_decide]; omega)
  · exact leaf_b (by symm; rw [decide_eq_true_iff]; omega)
theorem owB_iff (s : ByteArray) : owB s ↔ (1 ≤ s.size ∧ s.size ≤ 40) ∧ ¬ 0 ≤ Lib.idxFunc owP true s := by
  rw [owI_all, Classical.not_not]
  exact ⟨fun h => ⟨⟨h.lo, h.hi⟩, h.all⟩, fun h => ⟨h.1.1, h.1.2, h.2⟩⟩
theorem ownName_ok (s : ByteArray) : Ret env.P 48 [.s s] (fun r => r = .b (pb (owB s))) := by
  have hC := containsFunc_ok (fun args w => by kernel_rfl) owP ownName1_ok s
  rw [pb_congr (owB_iff s)]
  refine ret_of (nt := 11) (rvs := [.tmp 2]) Try.func48 rfl rfl rfl rfl (fun X => ?_)
  repeat' (first | omega | (with_reducible show (_ : Int) < _; dsimp only; omega) | (with_reducible show (_ : Nat) ≤ _; dsimp only; omega) | ((with_reducible show SrcOk _ _ _) <;> (first | exact srcOk_1 rfl | exact srcOk_L (fun _ => ⟨rfl, rfl⟩) | exact srcOk_E (fun _ => ⟨rfl, rfl⟩))) | ((conv => whnf) <;> (first | refine And.intro ?_ ?_ | (intro _h; first | contradiction | (try simp only [dd] at _h)) | (refine dt_go ?_) | exact rfl | exact True.intro | exact dkk | exact dks | ((first | refine .inl ⟨_, lengthI_ok s, ?_⟩ | refine ⟨_, lengthI_ok s, ?_⟩); (try rintro _ rfl)) | ((first | refine .inl ⟨_, within_ok _ _ _, ?_⟩ | refine ⟨_, within_ok _ _ _, ?_⟩); (try rintro _ rfl)) | ((first | refine .inl ⟨_, hC, ?_⟩ | refine ⟨_, hC, ?_⟩); (try rintro _ rfl)) | (refine wrap_succ ?_; omega))))
  all_goals (conv => whnf)
  · exact leaf_p (by rw [Bool.not_eq_true', decide_eq_false_iff_not]; exact ⟨fun h => ⟨by omega, h⟩, fun h => h.2⟩)
  · exact leaf_f (fun h => by have := h.1; omega)
def okSec (x : Section) : Prop := (x.id = 0 ∧ owB x.name) ∨ ((1 ≤ x.id ∧ x.id ≤ 4) ∧ x.name = ByteArray.empty)
structure OwTo (b : ByteArray) (k : Nat) : Prop where
  h : ∀ j, j < k → owC (b.data.getD j 0).toNat
theorem OwTo.zero (b : ByteArray) : OwTo b 0 := ⟨fun j h => absurd h (Nat.not_lt_zero _)⟩
theorem OwTo.succ {b : ByteArray} {k : Nat} (h : OwTo b k) (q : owC (b.data.getD k 0).toNat) : OwTo b (k + 1) := ⟨fun j hj => by
  by_cases e : j = k
  · exact e ▸ q
  · exact h.h j (by omega)⟩
theorem owB_no {b : ByteArray} {k : Nat} (hw : OwTo b k) (hk : k < b.size) (h : ¬ owC (b.data.getD k 0).toNat) : ¬ owB b := fun q => h (q.all k hk)
theorem ok_name {x : Section} (h0 : ¬ x.id = 0) (h : 1 ≤ x.id ∧ x.id ≤ 4) : decide (x.name = (⟨#[]⟩ : ByteArray)) = true ↔ okSec x := by
  rw [decide_eq_true_iff]
  exact ⟨fun q => .inr ⟨h, q⟩, fun q => q.elim (fun q => absurd q.1 h0) (fun q => q.2)⟩
theorem ok_own {x : Section} (h0 : x.id = 0) : owB x.name ↔ okSec x := ⟨fun q => .inl ⟨h0, q⟩, fun q => q.elim (fun q => q.2) (fun q => by omega)⟩
theorem ok_id {x : Section} (h0 : ¬ (0 ≤ x.id ∧ x.id ≤ 4)) : ¬ okSec x := fun q => by unfold okSec at q; omega
theorem ok_id1 {x : Section} (h : ¬ x.id = 0) (h0 : ¬ (1 ≤ x.id ∧ x.id ≤ 4)) : ¬ okSec x := fun q => by unfold okSec at q; omega
theorem l17Name_ok (s : ByteArray) : Ret env.P 79 [.s s] (fun r => r = .b (pb (owB s))) := by
  refine ret_of (nt := 27) (rvs := [.tmp 2]) Try.func79 rfl rfl rfl rfl (fun X => ?_)
  repeat' (first | omega | (with_reducible show (_ : Int) < _; dsimp only; omega) | (with_reducible show (_ : Nat) ≤ _; dsimp only; omega) | ((with_reducible show SrcOk _ _ _) <;> (first | exact srcOk_1 rfl | exact srcOk_L (fun _ => ⟨rfl, rfl⟩) | exact srcOk_E (fun _ => ⟨rfl, rfl⟩))) | ((conv => whnf) <;> (first | refine loopN s.size (fun k => [(3, .i .i64 k)]) (fun k => []) (fun k => OwTo s k) ⟨.zero s, ?_⟩ | refine And.intro ?_ ?_ | (intro _h; first | contradiction | (try simp only [dd] at _h)) | (refine dt_go ?_) | exact rfl | exact True.intro | exact dkk | exact dks | ((first | refine .inl ⟨_, l00In_ok _ _ _, ?_⟩ | refine ⟨_, l00In_ok _ _ _, ?_⟩); (try rintro _ rfl)) | (refine wrap_succ ?_; omega))))
  all_goals (try simp only [Int.toNat_natCast] at *)
  all_goals first
    | exact OwTo.succ ‹_› (by unfold owC; omega)
    | (conv => whnf
       exact leaf_f (owB_no ‹OwTo s _› (by omega) (by unfold owC; omega)))
    | (conv => whnf
       exact leaf_p ⟨fun q => ⟨by simp at q; omega, by simp at q; omega, fun j hj => (‹OwTo s _›).h j (by simp at q; omega)⟩, fun q => by have := q.lo; have := q.hi; simp; omega⟩)
    | trace_state
theorem sectionOk_ok (x : Section) : Ret env.P 18 [.agg x.cs] (fun r => r = .b (pb (okSec x))) := by
  refine ret_of (nt := 26) (rvs := [.tmp 2]) Try.func18 rfl rfl rfl rfl (fun X => ?_)
  repeat' (first | omega | (with_reducible show (_ : Int) < _; dsimp only; omega) | (with_reducible show (_ : Nat) ≤ _; dsimp only; omega) | ((with_reducible show SrcOk _ _ _) <;> (first | exact srcOk_1 rfl | exact srcOk_L (fun _ => ⟨rfl, rfl⟩) | exact srcOk_E (fun _ => ⟨rfl, rfl⟩))) | ((conv => whnf) <;> (first | refine And.intro ?_ ?_ | (intro _h; first | contradiction | (try simp only [dd] at _h)) | (refine dt_go ?_) | exact rfl | exact True.intro | exact dkk | exact dks | ((first | refine .inl ⟨_, within_ok _ _ _, ?_⟩ | refine ⟨_, within_ok _ _ _, ?_⟩); (try rintro _ rfl)) | ((first | refine .inl ⟨_, ownName_ok _, ?_⟩ | refine ⟨_, ownName_ok _, ?_⟩); (try rintro _ rfl)) | (refine wrap_succ ?_; omega))))
  all_goals first
    | exact leaf_f (ok_id ‹_›)
    | exact leaf_p (ok_name ‹_› (by omega))
    | exact leaf_t ((ok_own ‹_›).1 ‹_›)
    | exact leaf_f (fun q => absurd ((ok_own ‹_›).2 q) ‹_›)
    | trace_state
theorem l17Section_ok (x : Section) : Ret env.P 63 [.agg x.cs] (fun r => r = .b (pb (okSec x))) := by
  refine ret_of (nt := 17) (rvs := [.tmp 2]) Try.func63 rfl rfl rfl rfl (fun X => ?_)
  repeat' (first | omega | (with_reducible show (_ : Int) < _; dsimp only; omega) | (with_reducible show (_ : Nat) ≤ _; dsimp only; omega) | ((with_reducible show SrcOk _ _ _) <;> (first | exact srcOk_1 rfl | exact srcOk_L (fun _ => ⟨rfl, rfl⟩) | exact srcOk_E (fun _ => ⟨rfl, rfl⟩))) | ((conv => whnf) <;> (first | refine And.intro ?_ ?_ | (intro _h; first | contradiction | (try simp only [dd] at _h)) | (refine dt_go ?_) | exact rfl | exact True.intro | exact dkk | exact dks | ((first | refine .inl ⟨_, l00In_ok _ _ _, ?_⟩ | refine ⟨_, l00In_ok _ _ _, ?_⟩); (try rintro _ rfl)) | ((first | refine .inl ⟨_, l17Name_ok _, ?_⟩ | refine ⟨_, l17Name_ok _, ?_⟩); (try rintro _ rfl)) | (refine wrap_succ ?_; omega))))
  all_goals first
    | exact leaf_f (ok_id1 ‹_› ‹_›)
    | exact leaf_p (ok_name ‹_› ‹_›)
    | exact leaf_b (pb_congr (ok_own ‹_›))
    | trace_state
end
end Go.Proofs.Ytdeledeopippfaa
