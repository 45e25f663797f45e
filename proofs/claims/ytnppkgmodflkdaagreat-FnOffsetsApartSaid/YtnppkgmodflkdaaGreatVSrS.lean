/-
  The source of choices, by what may be said of every draw (numbers and texts; no shelf).
-/
import Derived.Test.YtnppkgmodflkdaaGreatVSrA
import Derived.Test.YtnppkgmodflkdaaGreatVZ
import Derived.Test.YtnppkgmodflkdaaGreatVX
namespace Go.Proofs.YtnppkgmodflkdaaGreat
open Go Go.RowKit
set_option linter.unusedVariables false
set_option linter.unusedSimpArgs false
attribute [local irreducible] IntKind.wrap

theorem getD_memS {α : Type} [Inhabited α] {l : List α} {k : Nat} (h : k < l.length) : l.getD k default ∈ l := by
  rw [List.getD_eq_getElem?_getD, List.getElem?_eq_getElem h]
  exact List.getElem_mem h
/-- The source may be asked n times more. -/
def Src.rm (s : Src) (n : Int) : Prop := 0 ≤ s.at' ∧ s.at' + n ≤ 100000000 ∧ s.code.length ≤ 1048576
theorem Src.rm_i {s : Src} {n : Int} (h1 : 0 ≤ s.at') (h2 : s.at' + n ≤ 100000000) (h3 : s.code.length ≤ 1048576) : s.rm n := ⟨h1, h2, h3⟩
theorem Src.rm.ok {s : Src} {n : Int} (h : s.rm n) (hn : 1 ≤ n) : s.ok 1 := ⟨h.1, by have := h.2.1; omega, h.2.2⟩
theorem pickS_at (s : Src) (n : Int) : s.at' ≤ (s.pickS n).at' ∧ (s.pickS n).at' ≤ s.at' + 1 ∧ (s.pickS n).code.length = s.code.length := by
  unfold Src.pickS
  split
  · exact ⟨by omega, by omega, rfl⟩
  · refine ⟨?_, ?_, rfl⟩ <;> (simp only [Src.next]; omega)
theorem pick_le' (s : Src) (n : Int) : 0 ≤ s.pickV n ∧ (s.pickV n = 0 ∨ s.pickV n < n) := by
  have := pick_le s n
  by_cases h : 1 ≤ n
  · exact ⟨this.1, .inr (this.2 h)⟩
  · refine ⟨this.1, .inl ?_⟩
    unfold Src.pickV
    rw [if_pos (by omega)]
/-- The source t is at most n choices behind s. -/
def Src.To (s t : Src) (n : Int) : Prop := s.at' ≤ t.at' ∧ t.at' ≤ s.at' + n ∧ t.code.length = s.code.length
theorem pick_ex (s : Src) (h : s.rm 1) (n : Int) (hn : n ≤ 200) : RetM env.P 42 [some (boxRow s.cs)] [.ptr 0 0 0, .i .i64 n] (fun r H => ∃ (v : Int) (t : Src), (0 ≤ v ∧ (v = 0 ∨ v < n)) ∧ (s.at' ≤ t.at' ∧ t.at' ≤ s.at' + 1 ∧ t.code.length = s.code.length) ∧ r = .i .i64 v ∧ H = [some (boxRow t.cs)]) :=
  (pick_ok s (h.ok (by omega)) n hn).mono fun r H hr => ⟨_, _, pick_le' s n, pickS_at s n, hr⟩
theorem one_ex (s : Src) (h : s.rm 1) (n : Int) (hn : n ≤ 200) : RetM env.P 53 [some (boxRow s.cs)] [.ptr 0 0 0, .i .i64 n] (fun r H => ∃ (v : Bool) (t : Src), (s.at' ≤ t.at' ∧ t.at' ≤ s.at' + 1 ∧ t.code.length = s.code.length) ∧ r = .b v ∧ H = [some (boxRow t.cs)]) :=
  (one_ok s (h.ok (by omega)) n hn).mono fun r H hr => ⟨_, _, pickS_at s n, hr⟩
theorem among_ex (s : Src) (h : s.rm 1) (l : List Int) (h0 : 0 < l.length) (hn : l.length ≤ 200) : RetM env.P 67 [some (boxRow s.cs)] [.ptr 0 0 0, slL 1 intC l] (fun r H => ∃ (v : Int) (t : Src), v ∈ l ∧ (s.at' ≤ t.at' ∧ t.at' ≤ s.at' + 1 ∧ t.code.length = s.code.length) ∧ r = .i .i64 v ∧ H = [some (boxRow t.cs)]) :=
  (among_ok s (h.ok (by omega)) l h0 hn).mono fun r H hr => ⟨_, _, by
    have := pick_le s l.length
    have q := this.2 (by omega)
    exact getD_memS (by omega), pickS_at s _, hr⟩

theorem lit_at (l : List Int) {i : Nat} (hi : i < l.length) : litE (l.map fun n => [AV.i .i64 n]) i 0 = .i .i64 (l.getD i default) := by
  unfold litE
  rw [List.getD_eq_getElem?_getD (l := l.map _), List.getElem?_map, List.getD_eq_getElem?_getD (l := l), List.getElem?_eq_getElem hi]
  rfl
theorem rowBack_lit {σ : Nat → Nat} {m : Nat} (l : List Int) : RowBack σ m (rowL 1 intC l) ⟨1, l.length, litE (l.map fun n => [AV.i .i64 n]), .arr⟩ := ⟨rfl, rfl, .refl _, fun i j hi hj => by
  obtain rfl : j = 0 := Nat.lt_one_iff.1 hj
  exact ⟨lit_at l hi, rfl⟩⟩
set_option maxRecDepth 8000 in
theorem among_row (s : Src) (h : s.rm 1) (l : List Int) (h0 : 0 < l.length) (hn : l.length ≤ 200) : RetM env.P 67 [some (boxRow s.cs), some (rowL 1 intC l)] [.ptr 0 0 0, .row 1 l.length] (fun r H => ∃ (v : Int) (t : Src), v ∈ l ∧ (s.at' ≤ t.at' ∧ t.at' ≤ s.at' + 1 ∧ t.code.length = s.code.length) ∧ r = .i .i64 v ∧ H = [some (boxRow t.cs), some (rowL 1 intC l)]) := by
  have hl : (l.length : Int) ≤ 200 := by omega
  refine ret_ofM (nt := 12) (rvs := [.tmp 4]) Tryz.func67 rfl rfl rfl rfl (fun X hX => ?_)
  repeat' (first | exact aa | ((conv => whnf) <;> (first | refine And.intro ?_ ?_ | (intro _h; first | contradiction | (try simp only [dd] at _h)) | (refine dt_go ?_) | exact rfl | exact True.intro | exact dkk | exact dks | (refine .inr (.inl (.inl ⟨[0], _, _, _, pick_ex s h (l.length : Int) hl, viewA, ⟨rfl, rfl⟩, ?_⟩)); rintro _ _ ⟨v, t, hv, ht, rfl, rfl⟩; refine ⟨rfl, _, lokA, ?_⟩) | (refine wrap_succ ?_; omega))))
  all_goals (conv => whnf)
  exact endM_pick [0, 1] [some (boxRow t.cs), some (rowL 1 intC l)] (.i .i64 _) (view_of rfl (.cons rfl (.self (rowPl_box rfl)) (.cons rfl (.self (rowPl_L fun _ => rfl)) .nil))) rfl rfl (by rw [hX]; exact keepK (n := 2) rfl rfl) ⟨_, t, getD_memS (k := v.toNat) (by omega), ht, rfl, rfl⟩
/-! Texts. -/
theorem litS_at (l : List ByteArray) {i : Nat} (hi : i < l.length) : litE (l.map fun n => [AV.s n]) i 0 = .s (l.getD i default) := by
  unfold litE
  rw [List.getD_eq_getElem?_getD (l := l.map _), List.getElem?_map, List.getD_eq_getElem?_getD (l := l), List.getElem?_eq_getElem hi]
  rfl
theorem rowBack_litS {σ : Nat → Nat} {m : Nat} (l : List ByteArray) : RowBack σ m (rowL 1 strC l) ⟨1, l.length, litE (l.map fun n => [AV.s n]), .arr⟩ := ⟨rfl, rfl, .refl _, fun i j hi hj => by
  obtain rfl : j = 0 := Nat.lt_one_iff.1 hj
  exact ⟨litS_at l hi, rfl⟩⟩
set_option maxRecDepth 8000 in
theorem text_row (s : Src) (h : s.rm 1) (l : List ByteArray) (h0 : 0 < l.length) (hn : l.length ≤ 200) : RetM env.P 96 [some (boxRow s.cs), some (rowL 1 strC l)] [.ptr 0 0 0, .row 1 l.length] (fun r H => ∃ (v : ByteArray) (t : Src), v ∈ l ∧ (s.at' ≤ t.at' ∧ t.at' ≤ s.at' + 1 ∧ t.code.length = s.code.length) ∧ r = .s v ∧ H = [some (boxRow t.cs), some (rowL 1 strC l)]) := by
  have hl : (l.length : Int) ≤ 200 := by omega
  refine ret_ofM (nt := 12) (rvs := [.tmp 4]) Tryz.func96 rfl rfl rfl rfl (fun X hX => ?_)
  repeat' (first | exact aa | ((conv => whnf) <;> (first | refine And.intro ?_ ?_ | (intro _h; first | contradiction | (try simp only [dd] at _h)) | (refine dt_go ?_) | exact rfl | exact True.intro | exact dkk | exact dks | (refine .inr (.inl (.inl ⟨[0], _, _, _, pick_ex s h (l.length : Int) hl, viewA, ⟨rfl, rfl⟩, ?_⟩)); rintro _ _ ⟨v, t, hv, ht, rfl, rfl⟩; refine ⟨rfl, _, lokA, ?_⟩) | (refine wrap_succ ?_; omega))))
  all_goals (conv => whnf)
  exact endM_pick [0, 1] [some (boxRow t.cs), some (rowL 1 strC l)] (.s _) (view_of rfl (.cons rfl (.self (rowPl_box rfl)) (.cons rfl (.self (rowPl_L fun _ => rfl)) .nil))) rfl rfl (by rw [hX]; exact keepK (n := 2) rfl rfl) ⟨_, t, getD_memS (k := v.toNat) (by omega), ht, rfl, rfl⟩
theorem rd_u8 {P : Program} {t : TypeId} (hu : P.underlying t = some (.int .u8)) : Rd P t UInt8 byteC := fun cs h => by
  obtain ⟨n, rfl, hw⟩ := h.int_inv hu
  have h2 : 0 ≤ n ∧ n ≤ 255 := by
    simp only [Lit.wf, Bool.and_eq_true, decide_eq_true_eq] at hw
    exact hw
  refine ⟨UInt8.ofNat n.toNat, .cons ?_ .nil⟩
  have e : ((UInt8.ofNat n.toNat).toNat : Int) = n := by
    rw [UInt8.toNat_ofNat']; omega
  show Wk (.i .u8 n) (.i .u8 ((UInt8.ofNat n.toNat).toNat : Int))
  rw [e]; exact .refl _

theorem from_gen (l : List UInt8) (hl : l.length ≤ 1048576) : RetM env.P 27 [] [slL 1 byteC l] (fun r H => ∃ s : Src, (s.at' = 0 ∧ s.code.length ≤ 1048576) ∧ r = .ptr 0 0 0 ∧ H = [some (boxRow s.cs)]) :=
  (from_ok l).mono fun r H h => ⟨_, ⟨rfl, hl⟩, h⟩

set_option maxRecDepth 8000 in
theorem b10Long_ok (l m : List UInt8) : Ret env.P 5 [slL 1 byteC l, slL 1 byteC m] (fun r => r = .b (pb (1048576 < (l.length : Int) ∨ 1048576 < (m.length : Int)))) := by
  refine ret_of (nt := 13) (rvs := [.tmp 4]) Tryz.func5 rfl rfl rfl rfl (fun X => ?_)
  repeat' (first | exact aa | ((conv => whnf) <;> (first | refine And.intro ?_ ?_ | (intro _h; first | contradiction | (try simp only [dd] at _h)) | (refine dt_go ?_) | exact rfl | exact True.intro | exact dkk | exact dks | (refine wrap_succ ?_; omega))))
  all_goals (conv => whnf)
  all_goals first
    | exact leaf_b (pb_t.mpr (.inl ‹_›)).symm
    | exact leaf_b (pb_t.mpr (.inl ‹_›))
    | (refine leaf_b ?_; by_cases h2 : 1048576 < (m.length : Int)
       · rw [pb_t.mpr (.inr h2)]; exact decide_eq_true h2
       · rw [pb_f.mpr (fun h => h.elim _h h2)]; exact decide_eq_false h2)
    | trace_state
end Go.Proofs.YtnppkgmodflkdaaGreat
