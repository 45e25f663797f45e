/- Texts for VSectionsP. -/
import Derived.Test.YtdeledeopippfaaVx26
namespace Go.Proofs.Ytdeledeopippfaa
open Go Go.RowKit
set_option linter.unusedVariables false
set_option linter.unusedSimpArgs false
section
attribute [local irreducible] IntKind.wrap
def dN : Nat → Nat
  | 0 => 23
  | d + 1 => dN d + 23
def cD : Nat → Nat
  | 0 => 120
  | d + 1 => cD d + 120
theorem dN_s (d : Nat) : dN (d + 1) = dN d + 23 := rfl
theorem cD_s (d : Nat) : (cD (d + 1) : Int) = cD d + 120 := rfl
theorem srcOk_n {m sz : Nat} {g : Nat → Nat → AV} (h : ((List.range m).all fun i => (cellsAt (g i) 0 sz).all cp1) = true) : SrcOk m sz g := ⟨fun i j hi hj => by
  have h1 := List.all_eq_true.1 h i (List.mem_range.2 hi)
  have hl : j < (cellsAt (g i) 0 sz).length := by rw [cellsAt_length]; exact hj
  have h2 := List.all_eq_true.1 h1 _ (List.getElem_mem hl)
  have e := (cellsAt_get (g i) sz 0 j _ (List.getElem?_eq_getElem hl)).2
  rw [e, Nat.zero_add] at h2
  exact h2⟩
def DeedC (im : List Import) (co : List Core) (pg : Int) (d : Nat) : Prop := ∀ (s : Src), s.rm (cD d) → ∀ lc : Int, 0 ≤ lc ∧ lc ≤ 6 → ∀ D : Int, D = d → RetM env.P 74 [some (boxRow s.cs), some (rowL 3 Import.cs im), some (rowL 5 Core.csO co)] [.ptr 0 0 0, .agg [.i .i64 pg, .row 1 im.length, .row 2 co.length], .i .i64 lc, .i .i64 D] (DeedP s im co (cD d) (dN d))
theorem val2_104 (s : Src) (h : s.rm 104) (lc : Int) (hl : 0 ≤ lc ∧ lc ≤ 6) : RetM env.P 75 [some (boxRow s.cs)] [.ptr 0 0 0, .i .i64 lc, .i .i64 2] (CodeP s 104 21) := val_2 s h lc hl 2 rfl
theorem good_st {v w : Int} (h : v ∈ [37, 38, 39]) (hw : 0 ≤ w ∧ (w = 0 ∨ w < 9)) : Ins.good ⟨v, w⟩ = true := by
  simp only [List.mem_cons, List.not_mem_nil, or_false] at h
  exact good_mem (by omega) (by omega)
theorem pick_R {v n : Int} (h : 0 ≤ v ∧ (v = 0 ∨ v < n)) (hn : n ≤ 1000) : i64R v := ⟨by omega, by omega⟩
theorem wrap_R (x : Int) : i64R (IntKind.i64.wrap x) := wrapR x
theorem all_3 {a b c : Ins} (h1 : a.good = true) (h2 : b.good = true) (h3 : c.good = true) : AllG [a, b, c] := (AllG.one h1).app ((AllG.one h2).app (AllG.one h3))
theorem all_6 {a b c a' b' c' : Ins} (h1 : AllG [a, b, c]) (h2 : AllG [a', b', c']) : AllG [a, b, c, a', b', c'] := h1.app h2
set_option maxRecDepth 8000 in
set_option maxHeartbeats 4000000 in
theorem deed_0 (im : List Import) (co : List Core) (hI : ImD im) (hC : CoD co) (pg : Int) : DeedC im co pg 0 := fun s h lc hl D hD => by
  have hcl := l15Calls_ok im co hI hC pg
  subst hD
  obtain ⟨q1, q2, q3⟩ := h
  have e0 : (cD 0 : Int) = 120 := rfl
  have e1 : dN 0 = 23 := rfl
  generalize hN : (cD 0 : Int) = N at *
  generalize hM : dN 0 = M at *
  refine ret_ofM (nt := 145) (rvs := [.tmp 8]) Try.func74 rfl rfl rfl rfl (fun X hX => ?_)
  repeat' (first | omega | (with_reducible show (_ : Int) < _; dsimp only; omega) | (with_reducible show (_ : Nat) ≤ _; dsimp only; omega) | ((with_reducible show SrcOk _ _ _) <;> (first | exact srcOk_1 rfl | exact srcOk_L (fun _ => ⟨rfl, rfl⟩) | exact srcOk_E (fun _ => ⟨rfl, rfl⟩))) | ((conv => whnf) <;> (first | (refine dt_goH 0 [] rfl ?_) | (refine Src.rm_i ?_ ?_ ?_) | ((refine .inr (.inl (.inl ⟨[0, 7], _, _, _, among_row _ ?_ ([37, 38, 39]) (Nat.succ_pos _) (show 3 ≤ 200 by decide), (view_of rfl (.cons rfl (.self (rowPl_box rfl)) (.cons rfl (rowBack_lit ([37, 38, 39])) .nil))), ⟨rfl, rfl⟩, ?_⟩))); rotate_left 1; rintro _ _ ⟨v2, t2, hv2, ht2, rfl, rfl⟩; refine ⟨rfl, _, lokA, ?_⟩) | exact lbz_zero rfl rfl | exact low_cells rfl | exact srcOk_1 rfl | exact srcOk_n (m := 6) rfl | exact low_lit rfl | refine And.intro ?_ ?_ | (intro _h; first | contradiction | (try simp only [dd] at _h)) | (refine dt_go ?_) | exact rfl | exact True.intro | exact dkk | exact dks | (refine .inr (.inl (.inl ⟨[0], _, _, _, pickB_ex _ ?_ 250 (by decide), viewA, ⟨rfl, rfl⟩, ?_⟩)); rotate_left 1; (rintro _ _ ⟨v2, t2, hv2, ht2, rfl, rfl⟩) <;> (refine ⟨rfl, _, lokA, ?_⟩)) | (refine .inr (.inl (.inl ⟨[0], _, _, _, pick_ex _ ?_ _ ?_, viewA, ⟨rfl, rfl⟩, ?_⟩)); rotate_left 2; (rintro _ _ ⟨v2, t2, hv2, ht2, rfl, rfl⟩) <;> (refine ⟨rfl, _, lokA, ?_⟩)) | (refine .inr (.inl (.inl ⟨[0], _, _, _, val2_104 _ ?_ _ hl, viewA, ⟨rfl, rfl⟩, ?_⟩)); rotate_left 1; (rintro _ _ ⟨l, t3, k3, hl3, ht3, hk3, rfl, rfl⟩) <;> (refine ⟨rfl, _, lokA, ?_⟩)) | (refine .inr (.inl (.inl ⟨[0], _, _, _, val1_32 _ ?_ _ hl, viewA, ⟨rfl, rfl⟩, ?_⟩)); rotate_left 1; (rintro _ _ ⟨l, t3, k3, hl3, ht3, hk3, rfl, rfl⟩) <;> (refine ⟨rfl, _, lokA, ?_⟩)) | (refine .inr (.inl (.inl ⟨[0, 1, 2], _, _, _, hcl _ ?_ _ hl, viewA, ⟨rfl, rfl⟩, ?_⟩)); rotate_left 1; (rintro _ _ ⟨l, t3, k3, hl3, ht3, hk3, rfl, rfl⟩) <;> (refine ⟨rfl, _, lokA, ?_⟩)) | (refine wrap_succ ?_; omega))))
  all_goals (conv => whnf)
  all_goals first
    | exact endD (t := t2) hX rfl rfl rfl rfl rfl rfl rfl rfl (EG.cat (EG.el ‹_› ‹_›) (EG.one ⟨3, v2⟩ rfl (good_get (by omega) (by omega)))) (by omega) (by omega)
    | exact endD (t := t2) hX rfl rfl rfl rfl rfl rfl rfl rfl (EG.cat (EG.cat (EG.one ⟨1, v2⟩ rfl (good_const (pick_R hv2 (by decide)))) (EG.el ‹_› ‹_›)) (EG.one ⟨_, _⟩ rfl (good_st ‹_› ‹_›))) (by omega) (by omega)
    | exact endD (t := t2) hX rfl rfl rfl rfl rfl rfl rfl rfl (EG.cat (EG.cat (EG.one ⟨1, _⟩ rfl (good_const (pick_R ‹_› (by decide)))) (EG.el ‹_› ‹_›)) (EG.one ⟨_, _⟩ rfl (good_st ‹_› ‹_›))) (by omega) (by omega)
    | exact endD (t := t2) hX rfl rfl rfl rfl rfl rfl rfl rfl (EG.cat (EG.el ‹_› ‹_›) (EG.one ⟨5, 0⟩ rfl (by decide))) (by omega) (by omega)
    | exact endD (t := t3) hX rfl rfl rfl rfl rfl rfl rfl rfl (EG.cat (EG.el ‹_› ‹_›) (EG.one ⟨3, v2⟩ rfl (good_get (by omega) (by omega)))) (by omega) (by omega)
    | exact endD (t := t3) hX rfl rfl rfl rfl rfl rfl rfl rfl (EG.cat (EG.cat (EG.one ⟨1, v2⟩ rfl (good_const (pick_R hv2 (by decide)))) (EG.el ‹_› ‹_›)) (EG.one ⟨_, _⟩ rfl (good_st ‹_› ‹_›))) (by omega) (by omega)
    | exact endD (t := t3) hX rfl rfl rfl rfl rfl rfl rfl rfl (EG.cat (EG.cat (EG.one ⟨1, _⟩ rfl (good_const (pick_R ‹_› (by decide)))) (EG.el ‹_› ‹_›)) (EG.one ⟨_, _⟩ rfl (good_st ‹_› ‹_›))) (by omega) (by omega)
    | exact endD (t := t3) hX rfl rfl rfl rfl rfl rfl rfl rfl (EG.cat (EG.el ‹_› ‹_›) (EG.one ⟨5, 0⟩ rfl (by decide))) (by omega) (by omega)
    | exact endD hX rfl rfl rfl rfl rfl rfl hk3.symm rfl (EG.el hl3 hk3) (by omega) (by omega)
    | trace_state
set_option maxRecDepth 8000 in
set_option maxHeartbeats 4000000 in
theorem deed_s (im : List Import) (co : List Core) (hI : ImD im) (hC : CoD co) (pg : Int) (d : Nat) (ih : DeedC im co pg d) (h9 : d ≤ 9) (hd : dN (d + 1) ≤ 300) (hc : cD (d + 1) ≤ 10000) (hz : 120 ≤ cD d) (hz2 : 23 ≤ dN d) : DeedC im co pg (d + 1) := fun s h lc hl D hD => by
  have hcl := l15Calls_ok im co hI hC pg
  have hw : IntKind.i64.wrap (D - 1) = d := by rw [hD, wrap_in (by omega) (by omega)]; omega
  have hD0 : 0 < D := by omega
  obtain ⟨q1, q2, q3⟩ := h
  have hK := cD_s d
  have hV := dN_s d
  generalize hN : (cD (d + 1) : Int) = N at *
  generalize hM : dN (d + 1) = M at *
  refine ret_ofM (nt := 145) (rvs := [.tmp 8]) Try.func74 rfl rfl rfl rfl (fun X hX => ?_)
  repeat' (first | omega | (with_reducible show (_ : Int) < _; dsimp only; omega) | (with_reducible show (_ : Nat) ≤ _; dsimp only; omega) | ((with_reducible show SrcOk _ _ _) <;> (first | exact srcOk_1 rfl | exact srcOk_L (fun _ => ⟨rfl, rfl⟩) | exact srcOk_E (fun _ => ⟨rfl, rfl⟩))) | ((conv => whnf) <;> (first | (refine dt_goH 0 [] rfl ?_) | (refine Src.rm_i ?_ ?_ ?_) | ((refine .inr (.inl (.inl ⟨[0, 7], _, _, _, among_row _ ?_ ([37, 38, 39]) (Nat.succ_pos _) (show 3 ≤ 200 by decide), (view_of rfl (.cons rfl (.self (rowPl_box rfl)) (.cons rfl (rowBack_lit ([37, 38, 39])) .nil))), ⟨rfl, rfl⟩, ?_⟩))); rotate_left 1; rintro _ _ ⟨v2, t2, hv2, ht2, rfl, rfl⟩; refine ⟨rfl, _, lokA, ?_⟩) | exact lbz_zero rfl rfl | exact low_cells rfl | exact srcOk_1 rfl | exact srcOk_n (m := 6) rfl | exact low_lit rfl | refine And.intro ?_ ?_ | (intro _h; first | contradiction | (try simp only [dd] at _h)) | (refine dt_go ?_) | exact rfl | exact True.intro | exact dkk | exact dks | (refine .inr (.inl (.inl ⟨[0], _, _, _, pickB_ex _ ?_ 250 (by decide), viewA, ⟨rfl, rfl⟩, ?_⟩)); rotate_left 1; (rintro _ _ ⟨v2, t2, hv2, ht2, rfl, rfl⟩) <;> (refine ⟨rfl, _, lokA, ?_⟩)) | (refine .inr (.inl (.inl ⟨[0], _, _, _, pick_ex _ ?_ _ ?_, viewA, ⟨rfl, rfl⟩, ?_⟩)); rotate_left 2; (rintro _ _ ⟨v2, t2, hv2, ht2, rfl, rfl⟩) <;> (refine ⟨rfl, _, lokA, ?_⟩)) | (refine .inr (.inl (.inl ⟨[0], _, _, _, val2_104 _ ?_ _ hl, viewA, ⟨rfl, rfl⟩, ?_⟩)); rotate_left 1; (rintro _ _ ⟨l, t3, k3, hl3, ht3, hk3, rfl, rfl⟩) <;> (refine ⟨rfl, _, lokA, ?_⟩)) | (refine .inr (.inl (.inl ⟨[0], _, _, _, val1_32 _ ?_ _ hl, viewA, ⟨rfl, rfl⟩, ?_⟩)); rotate_left 1; (rintro _ _ ⟨l, t3, k3, hl3, ht3, hk3, rfl, rfl⟩) <;> (refine ⟨rfl, _, lokA, ?_⟩)) | (refine .inr (.inl (.inl ⟨[0, 1, 2], _, _, _, hcl _ ?_ _ hl, viewA, ⟨rfl, rfl⟩, ?_⟩)); rotate_left 1; (rintro _ _ ⟨l, t3, k3, hl3, ht3, hk3, rfl, rfl⟩) <;> (refine ⟨rfl, _, lokA, ?_⟩)) | (refine .inr (.inl (.inl ⟨[0, 1, 2], _, _, _, ih _ ?_ _ hl _ hw, viewA, ⟨rfl, rfl⟩, ?_⟩)); rotate_left 1; (rintro _ _ ⟨l, t3, k3, hl3, ht3, hk3, rfl, rfl⟩) <;> (refine ⟨rfl, _, lokA, ?_⟩)) | (refine wrap_succ ?_; omega))))
  all_goals (conv => whnf)
  all_goals first
    | exact endD (t := t2) hX rfl rfl rfl rfl rfl rfl rfl rfl (EG.cat (EG.el ‹_› ‹_›) (EG.one ⟨3, v2⟩ rfl (good_get (by omega) (by omega)))) (by omega) (by omega)
    | exact endD (t := t2) hX rfl rfl rfl rfl rfl rfl rfl rfl (EG.cat (EG.cat (EG.one ⟨1, v2⟩ rfl (good_const (pick_R hv2 (by decide)))) (EG.el ‹_› ‹_›)) (EG.one ⟨_, _⟩ rfl (good_st ‹_› ‹_›))) (by omega) (by omega)
    | exact endD (t := t2) hX rfl rfl rfl rfl rfl rfl rfl rfl (EG.cat (EG.cat (EG.one ⟨1, _⟩ rfl (good_const (pick_R ‹_› (by decide)))) (EG.el ‹_› ‹_›)) (EG.one ⟨_, _⟩ rfl (good_st ‹_› ‹_›))) (by omega) (by omega)
    | exact endD (t := t2) hX rfl rfl rfl rfl rfl rfl rfl rfl (EG.cat (EG.el ‹_› ‹_›) (EG.one ⟨5, 0⟩ rfl (by decide))) (by omega) (by omega)
    | exact endD (t := t2) hX rfl rfl rfl rfl rfl rfl rfl rfl (EG.cat (EG.cat (EG.cat (EG.el ‹_› ‹_›) (EG.one ⟨26, 0⟩ rfl (by decide))) (EG.el ‹_› ‹_›)) (EG.one ⟨28, 0⟩ rfl (by decide))) (by omega) (by omega)
    | exact endD (t := t2) hX rfl rfl rfl rfl rfl rfl rfl rfl (EG.cat (EG.cat (EG.lit [⟨1, _⟩, ⟨3, _⟩, ⟨25, 0⟩] rfl rfl (all_3 (good_const (wrap_R _)) (good_get (by omega) (by omega)) (by decide))) (EG.el ‹_› ‹_›)) (EG.lit [⟨2, _⟩, ⟨1, 1⟩, ⟨7, 0⟩, ⟨4, _⟩, ⟨30, 0⟩, ⟨28, 0⟩] rfl rfl (all_6 (all_3 (good_get (by omega) (by omega)) (by decide) (by decide)) (all_3 (good_get (by omega) (by omega)) (by decide) (by decide))))) (by omega) (by omega)
    | exact endD (t := t2) hX rfl rfl rfl rfl rfl rfl rfl rfl (EG.cat (EG.cat (EG.cat (EG.cat (EG.one ⟨24, 0⟩ rfl (by decide)) (EG.el ‹_› ‹_›)) (EG.one ⟨30, 0⟩ rfl (by decide))) (EG.el ‹_› ‹_›)) (EG.one ⟨28, 0⟩ rfl (by decide))) (by omega) (by omega)
    | exact endD (t := t3) hX rfl rfl rfl rfl rfl rfl rfl rfl (EG.cat (EG.el ‹_› ‹_›) (EG.one ⟨3, v2⟩ rfl (good_get (by omega) (by omega)))) (by omega) (by omega)
    | exact endD (t := t3) hX rfl rfl rfl rfl rfl rfl rfl rfl (EG.cat (EG.cat (EG.one ⟨1, v2⟩ rfl (good_const (pick_R hv2 (by decide)))) (EG.el ‹_› ‹_›)) (EG.one ⟨_, _⟩ rfl (good_st ‹_› ‹_›))) (by omega) (by omega)
    | exact endD (t := t3) hX rfl rfl rfl rfl rfl rfl rfl rfl (EG.cat (EG.cat (EG.one ⟨1, _⟩ rfl (good_const (pick_R ‹_› (by decide)))) (EG.el ‹_› ‹_›)) (EG.one ⟨_, _⟩ rfl (good_st ‹_› ‹_›))) (by omega) (by omega)
    | exact endD (t := t3) hX rfl rfl rfl rfl rfl rfl rfl rfl (EG.cat (EG.el ‹_› ‹_›) (EG.one ⟨5, 0⟩ rfl (by decide))) (by omega) (by omega)
    | exact endD (t := t3) hX rfl rfl rfl rfl rfl rfl rfl rfl (EG.cat (EG.cat (EG.cat (EG.el ‹_› ‹_›) (EG.one ⟨26, 0⟩ rfl (by decide))) (EG.el ‹_› ‹_›)) (EG.one ⟨28, 0⟩ rfl (by decide))) (by omega) (by omega)
    | exact endD (t := t3) hX rfl rfl rfl rfl rfl rfl rfl rfl (EG.cat (EG.cat (EG.lit [⟨1, _⟩, ⟨3, _⟩, ⟨25, 0⟩] rfl rfl (all_3 (good_const (wrap_R _)) (good_get (by omega) (by omega)) (by decide))) (EG.el ‹_› ‹_›)) (EG.lit [⟨2, _⟩, ⟨1, 1⟩, ⟨7, 0⟩, ⟨4, _⟩, ⟨30, 0⟩, ⟨28, 0⟩] rfl rfl (all_6 (all_3 (good_get (by omega) (by omega)) (by decide) (by decide)) (all_3 (good_get (by omega) (by omega)) (by decide) (by decide))))) (by omega) (by omega)
    | exact endD (t := t3) hX rfl rfl rfl rfl rfl rfl rfl rfl (EG.cat (EG.cat (EG.cat (EG.cat (EG.one ⟨24, 0⟩ rfl (by decide)) (EG.el ‹_› ‹_›)) (EG.one ⟨30, 0⟩ rfl (by decide))) (EG.el ‹_› ‹_›)) (EG.one ⟨28, 0⟩ rfl (by decide))) (by omega) (by omega)
    | exact endD hX rfl rfl rfl rfl rfl rfl hk3.symm rfl (EG.el hl3 hk3) (by omega) (by omega)
    | trace_state
theorem deed_1 (im : List Import) (co : List Core) (hI : ImD im) (hC : CoD co) (pg : Int) : DeedC im co pg 1 := deed_s im co hI hC pg 0 (deed_0 im co hI hC pg) (by decide) (by decide) (by decide) (by decide) (by decide)
theorem deed_2 (im : List Import) (co : List Core) (hI : ImD im) (hC : CoD co) (pg : Int) : DeedC im co pg 2 := deed_s im co hI hC pg 1 (deed_1 im co hI hC pg) (by decide) (by decide) (by decide) (by decide) (by decide)
end
end Go.Proofs.Ytdeledeopippfaa
