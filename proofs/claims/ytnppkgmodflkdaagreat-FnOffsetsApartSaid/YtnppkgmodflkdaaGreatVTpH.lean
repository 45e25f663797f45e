/-
  Types that are drawn.
-/
import Derived.Test.YtnppkgmodflkdaaGreatVTpG
import Derived.Test.YtnppkgmodflkdaaGreatVTpN
namespace Go.Proofs.YtnppkgmodflkdaaGreat
open Go Go.RowKit
set_option linter.unusedVariables false
set_option linter.unusedSimpArgs false
attribute [local irreducible] IntKind.wrap

/-- A drawn type of limited depth. -/
structure Dw (d : Nat) (a : Typ) : Prop where
  o : Typ.oN d a
  np : a.np ≤ 4 ^ d
  lb : a.labels.length ≤ 10
def chN : Nat → Nat
  | 0 => 8
  | d + 1 => 8 + 4 * (chN d + 1)
def resL : List ByteArray := [⟨#[114, 101, 115]⟩, ⟨#[102, 105, 108, 101]⟩]
def kndL : List Int := [2, 3, 4, 5, 6, 7, 8, 9, 10, 11, 11]
def DrawC (d : Nat) : Prop := ∀ (s : Src), s.rm (chN d) → ∀ D : Int, D = d → RetM env.P 84 [some (boxRow s.cs)] [.ptr 0 0 0, .i .i64 D, .b true, .b true] (fun r H => ∃ (a : Typ) (t : Src), Dw d a ∧ (s.at' ≤ t.at' ∧ t.at' ≤ s.at' + chN d ∧ t.code.length = s.code.length) ∧ r = .agg (Typ.pN (d + 1) a) ∧ H = [some (boxRow t.cs)])
def SomeC (d : Nat) : Prop := ∀ (s : Src), s.rm (chN d + 1) → ∀ D : Int, D = d → RetM env.P 97 [some (boxRow s.cs)] [.ptr 0 0 0, .i .i64 D, .b true, .b true] (fun r H => ∃ (a : Typ) (t : Src), Dw d a ∧ (s.at' ≤ t.at' ∧ t.at' ≤ s.at' + (chN d + 1) ∧ t.code.length = s.code.length) ∧ r = .agg (Typ.pN (d + 1) a) ∧ H = [some (boxRow t.cs)])
/-- A type of a kind alone. -/
theorem dw_k {d : Nat} (k : Int) (hd : 1 ≤ d) : Dw d ⟨k, ByteArray.empty, [], []⟩ := by
  obtain ⟨d, rfl⟩ : ∃ n, d = n + 1 := ⟨d - 1, by omega⟩
  refine ⟨⟨Nat.zero_le _, ⟨Nat.zero_le _, fun k hk => absurd hk (Nat.not_lt_zero _)⟩, ⟨Nat.zero_le _, fun k hk => absurd hk (Nat.not_lt_zero _)⟩⟩, ?_, Nat.zero_le _⟩
  rw [Typ.np_eq]
  exact Nat.one_le_pow _ _ (by decide)
theorem endD {X : Ctx} {H : Hp} {r : AV} {d : Nat} {N : Int} {a : Typ} {s t : Src} (hv : ViewOk [0] H [some (boxRow t.cs)]) (hw : WkC (shr (outM [0] 0 H) r) (.agg (Typ.pN (d + 1) a))) (ha : Dw d a) (ht : s.at' ≤ t.at' ∧ t.at' ≤ s.at' + N ∧ t.code.length = s.code.length) : EndM X H r (FrzP [0] fun r H => ∃ (a : Typ) (t : Src), Dw d a ∧ (s.at' ≤ t.at' ∧ t.at' ≤ s.at' + N ∧ t.code.length = s.code.length) ∧ r = .agg (Typ.pN (d + 1) a) ∧ H = [some (boxRow t.cs)]) := endM_self ⟨[some (boxRow t.cs)], _, hv, hw, a, t, ha, ht, rfl, rfl⟩
set_option maxRecDepth 8000 in
set_option maxHeartbeats 2000000 in
theorem some_of {d : Nat} (hd : 1 ≤ d) (h : DrawC d) : SomeC d := fun s hs D hD => by
  have hs' := hs
  unfold Src.rm at hs'
  refine RetM.frz [0] rfl (plainH_box (by rfl)) ?_
  refine ret_ofM (nt := 17) (rvs := [.cell 8 32]) Tryz.func97 rfl rfl rfl rfl (fun X hX => ?_)
  repeat' (first | exact aa | ((conv => whnf) <;> (first | (refine Src.rm_i ?_ ?_ ?_) | refine And.intro ?_ ?_ | (intro _h; first | contradiction | (try simp only [dd] at _h)) | (refine dt_go ?_) | exact rfl | exact True.intro | exact dkk | exact dks | (refine .inr (.inl (.inl ⟨[0], _, _, _, one_ex s ?_ 3 (by decide), viewA, ⟨rfl, rfl⟩, ?_⟩)); rotate_left 1; rintro _ _ ⟨b, t, ht, rfl, rfl⟩; refine ⟨rfl, _, lokA, ?_⟩) | (refine .inr (.inl (.inl ⟨[0], _, _, _, h _ ?_ D hD, viewA, ⟨rfl, rfl⟩, ?_⟩)); rotate_left 1; rintro _ _ ⟨a, t2, ha, ht2, rfl, rfl⟩; refine ⟨rfl, _, lokA, ?_⟩) | (refine wrap_succ ?_; omega))))
  all_goals (conv => whnf)
  · exact endD (view_of rfl (.cons rfl (.self (rowPl_box rfl)) .nil)) (a := ⟨1, ByteArray.empty, [], []⟩) (t := t) (frz_agg (.cons (.refl _) (.cons (.refl _) (.cons Wk.nilS0 (.cons Wk.nilS0 .nil))))) (dw_k 1 hd) (by omega)
  · exact endD (view_of rfl (.cons rfl (.self (rowPl_box rfl)) .nil)) (frz_agg (.cons (.refl _) (.cons (.refl _) (.cons (.refl _) (.cons (.refl _) .nil))))) ha (by omega)
theorem pick_k (s : Src) (h : s.rm 1) (k : Int) (hk : s.pickV 20 = k) : RetM env.P 42 [some (boxRow s.cs)] [.ptr 0 0 0, .i .i64 20] (fun r H => r = .i .i64 k ∧ H = [some (boxRow (s.pickS 20).cs)]) := by
  have := pick_ok s (h.ok (by omega)) 20 (by decide)
  rw [hk] at this
  exact this
theorem dw_n {d : Nat} {k : Int} {v : ByteArray} (h : v ∈ resL) : Dw (d + 1) ⟨k, v, [], []⟩ := by
  refine ⟨⟨?_, ⟨Nat.zero_le _, fun k hk => absurd hk (Nat.not_lt_zero _)⟩, ⟨Nat.zero_le _, fun k hk => absurd hk (Nat.not_lt_zero _)⟩⟩, ?_, Nat.zero_le _⟩
  · show v.size ≤ 1048576
    unfold resL at h
    simp only [List.mem_cons, List.not_mem_nil, or_false] at h
    rcases h with rfl | rfl <;> decide
  · rw [Typ.np_eq]
    exact Nat.one_le_pow _ _ (by decide)
/-- What a drawn type owns. -/
noncomputable def ownH (d : Nat) (a : Typ) (t : Src) : Hp := [some (boxRow t.cs), some (rowL 1 strC a.labels), some (rowL 4 (Typ.pN d) a.kids)]
def ownR (a : Typ) : AV := .agg [.i .i64 a.kind, .s a.name, .row 1 a.labels.length, .row 2 a.kids.length]
/-- What one kind's walk shows. -/
def Draw1 (d : Nat) (s : Src) (D : Int) : Prop := RetM env.P 84 [some (boxRow s.cs)] [.ptr 0 0 0, .i .i64 D, .b true, .b true] (fun r H => ∃ (a : Typ) (t : Src), Dw d a ∧ (s.at' ≤ t.at' ∧ t.at' ≤ s.at' + chN d ∧ t.code.length = s.code.length) ∧ r = ownR a ∧ H = ownH d a t)
theorem Draw1.frz {d : Nat} {s : Src} {D : Int} (h : Draw1 (d + 1) s D) : RetM env.P 84 [some (boxRow s.cs)] [.ptr 0 0 0, .i .i64 D, .b true, .b true] (fun r H => ∃ (a : Typ) (t : Src), Dw (d + 1) a ∧ (s.at' ≤ t.at' ∧ t.at' ≤ s.at' + chN (d + 1) ∧ t.code.length = s.code.length) ∧ r = .agg (Typ.pN (d + 2) a) ∧ H = [some (boxRow t.cs)]) := by
  refine RetM.frz [0] rfl (plainH_box (by rfl)) (RetM.mono h fun r H hr => ?_)
  obtain ⟨a, t, ha, ht, rfl, rfl⟩ := hr
  exact ⟨[some (boxRow t.cs)], .agg (Typ.pN (d + 2) a), view_of rfl (.cons rfl (.self (rowPl_box rfl)) .nil), frz_agg (.cons (.refl _) (.cons (.refl _) (.cons (shr_L (d := 0) (k := 4) rfl) (.cons (shr_L (d := 0) (k := 4) rfl) .nil)))), a, t, ha, ht, rfl, rfl⟩
theorem endO {X : Ctx} {H : Hp} {r : AV} {d : Nat} {N : Int} {a : Typ} {s t : Src} (i j : Nat) (hX : X.H0 = [some (boxRow s.cs)]) (hv : ViewOk [0, i, j] H (ownH d a t)) (hr : r = renA (sig [0, i, j] H.length) (ownR a)) (ha : Dw d a) (ht : s.at' ≤ t.at' ∧ t.at' ≤ s.at' + N ∧ t.code.length = s.code.length) : EndM X H r (fun r H => ∃ (a : Typ) (t : Src), Dw d a ∧ (s.at' ≤ t.at' ∧ t.at' ≤ s.at' + N ∧ t.code.length = s.code.length) ∧ r = ownR a ∧ H = ownH d a t) := endM_pick [0, i, j] (ownH d a t) (ownR a) hv hr rfl (by rw [hX]; exact keepK (n := 1) rfl rfl) ⟨a, t, ha, ht, rfl, rfl⟩
theorem lit_map {α : Type} [Inhabited α] {c : α → List AV} {l : List α} {i j : Nat} (hi : i < l.length) : litE (l.map c) i j = elE c l i j := by
  show ((l.map c).getD i []).getD j .any = (c (l.getD i default)).getD j .any
  rw [List.getD_eq_getElem?_getD (l := l.map c), List.getElem?_map, List.getD_eq_getElem?_getD (l := l), List.getElem?_eq_getElem hi]
  rfl
theorem rowBack_litT {α : Type} [Inhabited α] {σ : Nat → Nat} {m sz : Nat} {c : α → List AV} (l : List α) (h : ∀ a, (c a).all pl1 = true) : RowBack σ m (rowL sz c l) ⟨sz, l.length, litE (l.map c), .arr⟩ := ⟨rfl, rfl, .refl _, fun i j hi hj => by
  have hp := (rowPl_L (sz := sz) (l := l) h).h i j hi hj
  exact ⟨(lit_map hi).trans (pl1_ren hp).1.symm, pl1_low2 hp⟩⟩
theorem chN_8 (d : Nat) : 8 ≤ (chN d : Int) := by
  cases d with
  | zero => exact Int.le_refl _
  | succ d => show 8 ≤ ((8 + 4 * (chN d + 1) : Nat) : Int); omega
theorem chN_s (d : Nat) : (chN (d + 1) : Int) = 8 + 4 * (chN d + 1) := by show ((8 + 4 * (chN d + 1) : Nat) : Int) = _; omega
set_option maxRecDepth 8000 in
set_option maxHeartbeats 4000000 in
theorem draw_leaf (d : Nat) (s : Src) (hs : s.rm (chN (d + 1))) (D : Int) (hD : D = d + 1) (hk : D ≤ 1 ∨ s.pickV 20 < 7) : Draw1 (d + 1) s D := by
  have hs' := hs
  unfold Src.rm at hs'
  have h8 := chN_8 (d + 1)
  unfold Draw1
  generalize hN : (chN (d + 1) : Int) = N at *
  have hp := pick_k s (Src.rm_i (by omega) (by omega) (by omega)) _ rfl
  have ht := pickS_at s 20
  generalize s.pickS 20 = t at *
  generalize s.pickV 20 = v at *
  refine ret_ofM (nt := 181) (rvs := [.cell 8 32]) Tryz.func84 rfl rfl rfl rfl (fun X hX => ?_)
  repeat' (first | exact aa | ((conv => whnf) <;> (first | (refine Src.rm_i ?_ ?_ ?_) | ((refine .inr (.inl (.inl ⟨[0, 2], _, _, _, text_row t1 (Src.rm_i (by omega) (by omega) (by omega)) resL (by decide) (by decide), (view_of rfl (.cons rfl (.self (rowPl_box rfl)) (.cons rfl (rowBack_litS resL) .nil))), ⟨rfl, rfl⟩, ?_⟩))); rintro _ _ ⟨v1, t2, hv1, ht2, rfl, rfl⟩; refine ⟨rfl, _, lokA, ?_⟩) | ((refine .inr (.inl (.inl ⟨[0, 2], _, _, _, among_row t1 (Src.rm_i (by omega) (by omega) (by omega)) kndL (by decide) (by decide), (view_of rfl (.cons rfl (.self (rowPl_box rfl)) (.cons rfl (rowBack_lit kndL) .nil))), ⟨rfl, rfl⟩, ?_⟩))); rintro _ _ ⟨v1, t2, hv1, ht2, rfl, rfl⟩; refine ⟨rfl, _, lokA, ?_⟩) | refine And.intro ?_ ?_ | (intro _h; first | contradiction | (try simp only [dd] at _h)) | (refine dt_go ?_) | exact rfl | exact True.intro | exact dkk | exact dks | (refine .inr (.inl (.inl ⟨[0], _, _, _, hp, viewA, ⟨rfl, rfl⟩, ?_⟩)); rintro _ _ ⟨rfl, rfl⟩; refine ⟨rfl, _, lokA, ?_⟩) | (refine .inr (.inl (.inl ⟨[0], _, _, _, one_ex _ ?_ 5 (by decide), viewA, ⟨rfl, rfl⟩, ?_⟩)); rotate_left 1; rintro _ _ ⟨b, t1, ht1, rfl, rfl⟩; refine ⟨rfl, _, lokA, ?_⟩) | (refine .inr (.inl (.inl ⟨[0], _, _, _, one_ex _ ?_ 2 (by decide), viewA, ⟨rfl, rfl⟩, ?_⟩)); rotate_left 1; rintro _ _ ⟨b2, t3, ht3, rfl, rfl⟩; refine ⟨rfl, _, lokA, ?_⟩) | (refine wrap_succ ?_; omega))))
  all_goals (conv => whnf)
  all_goals first
    | exact endM_nil (sz := 1) (g := elE strC []) 2 rfl (endM_nil (sz := 4) (g := elE (Typ.pN (d + 1)) []) 3 rfl (endO (a := ⟨v1, ByteArray.empty, [], []⟩) (t := t2) 3 4 hX (view_of rfl (.cons rfl (.self (rowPl_box rfl)) (.cons rfl (.self (rowPl_L fun _ => rfl)) (.cons rfl (.self (rowPl_L fun _ => rfl)) .nil)))) rfl (dw_k v1 (Nat.succ_pos d)) (by omega)))
    | exact endM_nil (sz := 1) (g := elE strC []) 2 rfl (endM_nil (sz := 4) (g := elE (Typ.pN (d + 1)) []) 3 rfl (endO (a := ⟨20, v1, [], []⟩) (t := t3) 4 5 hX (view_of rfl (.cons rfl (.self (rowPl_box rfl)) (.cons rfl (.self (rowPl_L fun _ => rfl)) (.cons rfl (.self (rowPl_L fun _ => rfl)) .nil)))) rfl (dw_n (k := 20) hv1) (by omega)))
    | exact endM_nil (sz := 1) (g := elE strC []) 2 rfl (endM_nil (sz := 4) (g := elE (Typ.pN (d + 1)) []) 3 rfl (endO (a := ⟨21, v1, [], []⟩) (t := t3) 4 5 hX (view_of rfl (.cons rfl (.self (rowPl_box rfl)) (.cons rfl (.self (rowPl_L fun _ => rfl)) (.cons rfl (.self (rowPl_L fun _ => rfl)) .nil)))) rfl (dw_n (k := 21) hv1) (by omega)))
    | trace_state
end Go.Proofs.YtnppkgmodflkdaaGreat
