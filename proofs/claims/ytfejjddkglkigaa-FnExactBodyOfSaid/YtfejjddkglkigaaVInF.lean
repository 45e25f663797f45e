/-
  Bodies from bytes.
-/
import Derived.Test.YtfejjddkglkigaaVInE
import Derived.Test.YtfejjddkglkigaaVOIns
namespace Go.Proofs.Ytfejjddkglkigaa
open Go Go.RowKit
set_option linter.unusedVariables false
set_option linter.unusedSimpArgs false
attribute [local irreducible] IntKind.wrap

theorem insV_many (b : ByteArray) : 0 ≤ (insV b).2.1 ∧ (insV b).2.1 ≤ b.size := by
  unfold insV
  split
  · exact ⟨Int.le_refl 0, Int.natCast_nonneg _⟩
  · rename_i h
    have := argB_many h
    split
    · exact ⟨Int.le_refl 0, Int.natCast_nonneg _⟩
    · exact ⟨by show 0 ≤ 1 + (argB b).2; omega, by show 1 + (argB b).2 ≤ b.size; omega⟩
/-- n instructions. -/
def bodyW (b : ByteArray) : Nat → Int → List Ins → Option (List Ins × Int)
  | 0, p, l => some (l, p)
  | k + 1, p, l => if (insV (b.extract p.toNat b.size)).2.2 = true then bodyW b k (p + (insV (b.extract p.toNat b.size)).2.1) (l ++ [(insV (b.extract p.toNat b.size)).1]) else none
/-- What BodyOf gives. -/
def bodyV (b : ByteArray) : Option (List Ins) :=
  if (getL b).2.2 = true ∧ (getL b).1 ≤ 120 then
    match bodyW b (getL b).1.toNat (getL b).2.1 [] with
    | some (l, p) => if p = b.size then some l else none
    | none => none
  else none
structure BdS where
  k : Nat
  p : Int
  l : List Ins
structure BdI (b : ByteArray) (n : Nat) (y : BdS) : Prop where
  hk : y.k ≤ n
  hp : 0 ≤ y.p ∧ y.p ≤ b.size
  hl : y.l.length = y.k
  hw : bodyW b (n - y.k) y.p y.l = bodyW b n (getL b).2.1 []
theorem BdI.zero (b : ByteArray) (n : Nat) : BdI b n ⟨0, (getL b).2.1, []⟩ := ⟨Nat.zero_le _, getL_many b, rfl, rfl⟩
theorem ext_len {b : ByteArray} {p : Int} (h : 0 ≤ p ∧ p ≤ b.size) : ((b.extract p.toNat b.size).size : Int) = b.size - p := by
  rw [ByteArray.size_extract]
  omega
theorem BdI.many {b : ByteArray} {n : Nat} {y : BdS} (h : BdI b n y) : 0 ≤ (insV (b.extract y.p.toNat b.size)).2.1 ∧ y.p + (insV (b.extract y.p.toNat b.size)).2.1 ≤ b.size := by
  have h1 := insV_many (b.extract y.p.toNat b.size)
  rw [ext_len h.hp] at h1
  omega
theorem BdI.next {b : ByteArray} {n : Nat} {y : BdS} (h : BdI b n y) (hk : y.k < n) (hv : (insV (b.extract y.p.toNat b.size)).2.2 = true) : BdI b n ⟨y.k + 1, y.p + (insV (b.extract y.p.toNat b.size)).2.1, y.l ++ [(insV (b.extract y.p.toNat b.size)).1]⟩ := by
  refine ⟨hk, ?_, ?_, ?_⟩
  · have := h.many
    have := h.hp
    dsimp only
    omega
  · dsimp only
    rw [List.length_append, h.hl]
    rfl
  · rw [← h.hw]
    dsimp only
    rw [show n - y.k = n - (y.k + 1) + 1 by omega, bodyW, if_pos hv]
theorem BdI.none {b : ByteArray} {n : Nat} {y : BdS} (h : BdI b n y) (hk : y.k < n) (hv : ¬ (insV (b.extract y.p.toNat b.size)).2.2 = true) : bodyW b n (getL b).2.1 [] = none := by
  rw [← h.hw, show n - y.k = n - (y.k + 1) + 1 by omega, bodyW, if_neg hv]
theorem BdI.last {b : ByteArray} {n : Nat} {y : BdS} (h : BdI b n y) (hk : ¬ y.k < n) : bodyW b n (getL b).2.1 [] = some (y.l, y.p) := by
  rw [← h.hw, show n - y.k = 0 by have := h.hk; omega, bodyW]
attribute [local irreducible] insV getL bodyW
def bodyP (v : Option (List Ins)) (r : AV) (H : Hp) : Prop := match v with
  | none => r = .tup [.nils, .kb false] ∧ H = []
  | some l => r = .tup [.row 0 l.length, .kb true] ∧ H = [some (rowL 2 Ins.cs l)]
theorem body_no1 {b : ByteArray} (h : ¬ (getL b).2.2 = true) : bodyV b = none := if_neg fun q => h q.1
theorem body_no2 {b : ByteArray} (h : 120 < (getL b).1) : bodyV b = none := if_neg fun q => by omega
theorem body_no3 {b : ByteArray} (h : bodyW b (getL b).1.toNat (getL b).2.1 [] = none) : bodyV b = none := by
  unfold bodyV
  rw [h]
  exact ite_self _
theorem body_no4 {b : ByteArray} {l : List Ins} {p : Int} (h : bodyW b (getL b).1.toNat (getL b).2.1 [] = some (l, p)) (hp : ¬ p = b.size) : bodyV b = none := by
  unfold bodyV
  rw [h]
  show (if _ then (if p = b.size then some l else none) else none) = none
  rw [if_neg hp]
  exact ite_self _
theorem body_yes {b : ByteArray} {l : List Ins} {p : Int} (h1 : (getL b).2.2 = true) (h2 : (getL b).1 ≤ 120) (h : bodyW b (getL b).1.toNat (getL b).2.1 [] = some (l, p)) (hp : p = b.size) : bodyV b = some l := by
  unfold bodyV
  rw [if_pos ⟨h1, h2⟩, h]
  exact if_pos hp
theorem lbz_capB {n b : Nat} (h : n ≤ 1000) (hb : b ≤ 1000) : (n + 1) * b ≤ 140737488355328 := Nat.le_trans (Nat.mul_le_mul (Nat.succ_le_succ h) hb) (by decide)
theorem BdI.len {b : ByteArray} {n : Nat} {y : BdS} (h : BdI b n y) (hn : n ≤ 120) : y.l.length ≤ 1000 := by
  have := h.hl
  have := h.hk
  omega
theorem getL_nn (b : ByteArray) : 0 ≤ (getL b).1 := by
  unfold getL
  split
  · exact Int.le_refl 0
  · split
    · exact Int.natCast_nonneg _
    · exact Int.le_refl 0
set_option maxRecDepth 8000 in
set_option maxHeartbeats 4000000 in
theorem bodyOf_spec (b : ByteArray) (hs : b.size ≤ 1048576) : RetM env.P 4 [] [.s b] (fun r H => bodyP (bodyV b) r H) := by
  have hG : Ret env.P 9 [.s b] (fun r => r = .tup [.i .i64 (getL b).1, .i .i64 (getL b).2.1, .b (getL b).2.2]) := getLeb_spec b hs
  have hO : ∀ p : Int, Ret env.P 10 [.s (b.extract p.toNat b.size)] (fun r => r = .tup [.agg (insV (b.extract p.toNat b.size)).1.cs, .i .i64 (insV (b.extract p.toNat b.size)).2.1, .b (insV (b.extract p.toNat b.size)).2.2]) := fun p => insOf_spec _ (by rw [ByteArray.size_extract]; omega)
  have hn := getL_nn b
  refine ret_ofPM (nt := 52) (rvs := [.tmp 2, .tmp 3]) Try.func4 rfl rfl rfl rfl (fun X hX => ?_)
  refine pw_cut 4 (fun _ : Unit => (getL b).2.2 = true ∧ (getL b).1 ≤ 120) (fun _ => [(0, .s b), (4, .i .i64 (getL b).1), (5, .i .i64 (getL b).2.1), (7, .row 0 0)]) (fun _ => [some (rowL 2 Ins.cs [])]) ?_ (fun _ hc => ?_)
  · repeat' (first | exact aa | ((conv => whnf) <;> (first | refine And.intro ?_ ?_ | (intro _h; first | contradiction | (try simp only [dd] at _h)) | (refine dt_go ?_) | exact rfl | exact True.intro | exact dkk | exact dks | ((first | refine .inl ⟨_, hG, ?_⟩ | refine ⟨_, hG, ?_⟩); (try rintro _ rfl)) | (refine wrap_succ ?_; omega))))
    · conv => whnf
      refine endM_pick [] [] (.tup [.nils, .kb false]) (view_of rfl .nil) rfl rfl (fun k hk => by rw [hX] at hk; exact absurd hk (Nat.not_lt_zero _)) ?_
      rw [body_no2 ‹_›]
      exact ⟨rfl, rfl⟩
    · conv => whnf
      refine cut_turn (turn_eq (id := 0) (x := rowL 2 Ins.cs []) rfl rfl rfl rfl rfl (fun i j hi _ => absurd hi (Nat.not_lt_zero _))) ?_
      exact cut_go () ⟨by simp_all, by omega⟩ (by repeat' (first | exact trivial | refine And.intro rfl ?_)) (by repeat' (first | exact trivial | refine And.intro (.inl rfl) ?_ | refine And.intro (.inr rfl) ?_ | refine And.intro rfl ?_))
    · conv => whnf
      refine endM_pick [] [] (.tup [.nils, .kb false]) (view_of rfl .nil) rfl rfl (fun k hk => by rw [hX] at hk; exact absurd hk (Nat.not_lt_zero _)) ?_
      rw [body_no1 (by simp_all)]
      exact ⟨rfl, rfl⟩
  obtain ⟨hc1, hc2⟩ := hc
  refine wpc_ok _ _ _ _ ?_
  (try dsimp only)
  conv => whnf
  refine loopFT (fun y : BdS => [(8, .i .i64 (y.k : Int)), (5, .i .i64 y.p), (7, .row 0 y.l.length)]) (fun y => [some (.arr ⟨2, y.l.length, elE Ins.cs y.l, .arr⟩)]) (fun y => BdI b (getL b).1.toNat y) (fun y => (getL b).1.toNat - y.k) ⟨0, (getL b).2.1, []⟩ ⟨.zero b _, ?_⟩
  repeat' (first | exact aa | ((conv => whnf) <;> (first | exact lbz_zero rfl rfl | exact low_cells rfl | exact lbz_capB ((‹BdI b _ _›).len (by omega)) (show 16 ≤ 1000 by decide) | exact Nat.le_trans (Nat.succ_le_succ ((‹BdI b _ _›).len (by omega))) (by decide) | (have := (‹BdI b _ _›).hp; refine ⟨?_, ?_⟩ <;> omega) | refine And.intro ?_ ?_ | (intro _h; first | contradiction | (try simp only [dd] at _h)) | (refine dt_go ?_) | exact rfl | exact True.intro | exact dkk | exact dks | ((first | refine .inl ⟨_, hO _, ?_⟩ | refine ⟨_, hO _, ?_⟩); (try rintro _ rfl)) | (refine wrap_succ ?_; omega))))
  · rename_i y hy _
    conv => whnf
    refine endM_pick [] [] (.tup [.nils, .kb false]) (view_of rfl .nil) rfl rfl (fun k hk => by rw [hX] at hk; exact absurd hk (Nat.not_lt_zero _)) ?_
    rw [body_no3 (hy.none (by omega) (by simp_all))]
    exact ⟨rfl, rfl⟩
  · rename_i y hy _
    conv => whnf
    refine roundET_turn (turn_eq (id := 3) (x := rowL 2 Ins.cs (y.l ++ [(insV (b.extract y.p.toNat b.size)).1])) rfl rfl lbz_len.symm rfl rfl (snoc_eq (l := y.l) (sz := 2) (a := (insV (b.extract y.p.toNat b.size)).1) (c := Ins.cs) rfl (fun j hj => ?_))) ?_
    · have hj2 : j = 0 ∨ j = 1 := by omega
      rcases hj2 with rfl | rfl <;> exact .refl _
    refine roundET_end ?_
    refine ⟨⟨y.k + 1, y.p + (insV (b.extract y.p.toNat b.size)).2.1, y.l ++ [(insV (b.extract y.p.toNat b.size)).1]⟩, [3], hy.next (by omega) (by simp_all), ?_, ?_⟩
    · dsimp only; omega
    repeat' (first | exact aa | ((conv => whnf) <;> (first | exact arr_same rfl rfl (fun a j => low_cells rfl) | exact low_cells rfl | exact lbz_len | (have := hy.many; have := hy.hp; exact wrap_in (by omega) (by omega)) | (have := hy.hk; exact wrap_in (by omega) (by omega)) | exact lbz_rho hX ‹_› | refine And.intro ?_ ?_ | (intro _h; first | contradiction | (try simp only [dd] at _h)) | (refine dt_go ?_) | exact rfl | exact True.intro | exact dkk | exact dks | (refine wrap_succ ?_; omega))))
  · rename_i y hy _
    conv => whnf
    refine endM_pick [] [] (.tup [.nils, .kb false]) (view_of rfl .nil) rfl rfl (fun k hk => by rw [hX] at hk; exact absurd hk (Nat.not_lt_zero _)) ?_
    rw [body_no4 (hy.last (by omega)) ‹_›]
    exact ⟨rfl, rfl⟩
  · rename_i y hy _
    conv => whnf
    refine endM_pick [0] [some (rowL 2 Ins.cs y.l)] (.tup [.row 0 y.l.length, .kb true]) (view_of rfl (.cons rfl (.self (rowPl_L fun _ => rfl)) .nil)) rfl rfl (fun k hk => by rw [hX] at hk; exact absurd hk (Nat.not_lt_zero _)) ?_
    rw [body_yes hc1 hc2 (hy.last (by omega)) ‹_›]
    exact ⟨rfl, rfl⟩
end Go.Proofs.Ytfejjddkglkigaa
