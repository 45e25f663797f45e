/-
  Types that are drawn: all kinds.
-/
import Derived.Test.YtnppkgmodflkdaaGreatVTpK
import Derived.Test.YtnppkgmodflkdaaGreatVTpL
import Derived.Test.YtnppkgmodflkdaaGreatVTpP
namespace Go.Proofs.YtnppkgmodflkdaaGreat
open Go Go.RowKit
set_option linter.unusedVariables false
set_option linter.unusedSimpArgs false
attribute [local irreducible] IntKind.wrap

theorem draw_step (d : Nat) (hd3 : d ≤ 10) (ih : 1 ≤ d → DrawC d) (s : Src) (hs : s.rm (chN (d + 1))) (D : Int) (hD : D = d + 1) : Draw1 (d + 1) s D := by
  by_cases h1 : D ≤ 1 ∨ s.pickV 20 < 7
  · exact draw_leaf d s hs D hD h1
  · have hd : 1 ≤ d := by omega
    have h2 := (pick_le s 20).2 (by decide)
    have h3 : s.pickV 20 = 7 ∨ s.pickV 20 = 8 ∨ s.pickV 20 = 9 ∨ s.pickV 20 = 10 ∨ s.pickV 20 = 11 ∨ s.pickV 20 = 12 ∨ s.pickV 20 = 13 ∨ s.pickV 20 = 14 ∨ s.pickV 20 = 15 ∨ s.pickV 20 = 16 ∨ s.pickV 20 = 17 ∨ s.pickV 20 = 18 ∨ s.pickV 20 = 19 := by omega
    by_cases q1 : s.pickV 20 ≤ 10
    · exact draw_one d s hs D hD hd hd3 (ih hd) (by omega)
    · by_cases q2 : s.pickV 20 ≤ 12
      · exact draw_two d s hs D hD hd hd3 (ih hd) (by omega)
      · by_cases q3 : s.pickV 20 = 13
        · exact draw_tup d s hs D hD hd hd3 (ih hd) q3
        · by_cases q4 : s.pickV 20 ≤ 15
          · exact draw_rec d s hs D hD hd hd3 (ih hd) (by omega)
          · by_cases q5 : s.pickV 20 ≤ 17
            · exact draw_var d s hs D hD hd hd3 (ih hd) (by omega)
            · exact draw_lab d s hs D hD hd (by omega)
theorem draw_C : ∀ d, d ≤ 9 → DrawC (d + 1)
  | 0, _ => fun s hs D hD => (draw_step 0 (by decide) (fun h => absurd h (by decide)) s hs D (by omega)).frz
  | d + 1, h => fun s hs D hD => (draw_step (d + 1) (by omega) (fun _ => draw_C d (by omega)) s hs D (by omega)).frz
/-- What is owned of a drawn type, at depth q + 1. -/
theorem draw_O (q : Nat) (hq : q ≤ 9) (s : Src) (hs : s.rm (chN (q + 1))) (D : Int) (hD : D = q + 1) : Draw1 (q + 1) s D := draw_step q (by omega) (fun h => by
  obtain ⟨p, rfl⟩ : ∃ p, q = p + 1 := ⟨q - 1, by omega⟩
  exact draw_C p (by omega)) s hs D hD
theorem some_C (d : Nat) (hd : d ≤ 9) : SomeC (d + 1) := some_of (Nat.succ_pos d) (draw_C d hd)
end Go.Proofs.YtnppkgmodflkdaaGreat

namespace Go.Proofs.YtnppkgmodflkdaaGreat
open Go Go.RowKit
set_option linter.unusedVariables false
set_option linter.unusedSimpArgs false
attribute [local irreducible] IntKind.wrap

/-- A drawn type (N choices at most). -/
def LtP (N : Int) (s : Src) (r : AV) (H : Hp) : Prop := ∃ (n : Nat) (a : Typ) (t : Src), (n ≤ 12 ∧ Typ.oN (n + 1) a ∧ a.np ≤ 2000) ∧ (s.at' ≤ t.at' ∧ t.at' ≤ s.at' + N ∧ t.code.length = s.code.length) ∧ r = .agg (Typ.pN (n + 2) a) ∧ H = [some (boxRow t.cs)]
theorem endL {X : Ctx} {H : Hp} {r : AV} {N : Int} {s t : Src} (n : Nat) (a : Typ) (hv : ViewOk [0] H [some (boxRow t.cs)]) (hw : WkC (shr (outM [0] 0 H) r) (.agg (Typ.pN (n + 2) a))) (hn : n ≤ 12) (ho : Typ.oN (n + 1) a) (hp : a.np ≤ 2000) (ht : s.at' ≤ t.at' ∧ t.at' ≤ s.at' + N ∧ t.code.length = s.code.length) : EndM X H r (FrzP [0] (LtP N s)) := endM_self ⟨[some (boxRow t.cs)], _, hv, hw, n, a, t, ⟨hn, ho, hp⟩, ht, rfl, rfl⟩
theorem chN_le' {q : Nat} (h : q ≤ 3) : (chN (q + 1) : Int) ≤ 3068 := by
  rcases (show q = 0 ∨ q = 1 ∨ q = 2 ∨ q = 3 by omega) with rfl | rfl | rfl | rfl <;> decide
theorem pow4' {q : Nat} (h : q ≤ 3) : 4 ^ (q + 1) ≤ 256 := by
  rcases (show q = 0 ∨ q = 1 ∨ q = 2 ∨ q = 3 by omega) with rfl | rfl | rfl | rfl <;> decide
/-- A loop that draws labels. -/
structure LbS where
  l : List ByteArray
  t : Src
structure LbI (t1 : Src) (y : LbS) : Prop where
  al : ∀ k, k < y.l.length → (y.l.getD k default).size ≤ 8
  le : y.l.length ≤ 10
  lo : t1.at' ≤ y.t.at'
  hi : y.t.at' ≤ t1.at' + y.l.length
  cd : y.t.code.length = t1.code.length
theorem LbI.zero (t1 : Src) : LbI t1 ⟨[], t1⟩ := ⟨fun k hk => absurd hk (Nat.not_lt_zero _), Nat.zero_le _, Int.le_refl _, by show t1.at' ≤ t1.at' + ((0 : Nat) : Int); omega, rfl⟩
theorem LbI.next {t1 : Src} {y : LbS} (h : LbI t1 y) {v : Int} (hv : 0 ≤ v ∧ (v = 0 ∨ v < 4)) (hlt : (y.l.length : Int) < IntKind.i64.wrap (7 + v)) {w : ByteArray} (hw : w.size ≤ 8) {t2 : Src} (ht : y.t.at' ≤ t2.at' ∧ t2.at' ≤ y.t.at' + 1 ∧ t2.code.length = y.t.code.length) : LbI t1 ⟨y.l ++ [w], t2⟩ := by
  rw [wrap_in (by omega) (by omega)] at hlt
  have e : (y.l ++ [w]).length = y.l.length + 1 := by rw [List.length_append]; rfl
  refine ⟨fun k hk => ?_, ?_, ?_, ?_, ?_⟩
  · have hk' : k < (y.l ++ [w]).length := hk
    show ((y.l ++ [w]).getD k default).size ≤ 8
    rw [List.getD_eq_getElem?_getD]
    by_cases q : k < y.l.length
    · rw [List.getElem?_append_left q, ← List.getD_eq_getElem?_getD]
      exact h.al k q
    · obtain rfl : k = y.l.length := by omega
      rw [List.getElem?_append_right (Nat.le_refl _), Nat.sub_self]
      exact hw
  · show (y.l ++ [w]).length ≤ 10
    omega
  · show t1.at' ≤ t2.at'
    have := h.lo
    omega
  · show t2.at' ≤ t1.at' + ((y.l ++ [w]).length : Int)
    have := h.hi
    omega
  · show t2.code.length = _
    have := h.cd
    omega
theorem bytes_1 {css : List AV} {v : Int} : Bytes 1 (litE [.i .u8 v :: css]) := ⟨fun i hi => by
  obtain rfl : i = 0 := Nat.lt_one_iff.1 hi
  exact ⟨v, rfl⟩⟩
theorem bytes1 (g : Nat → Nat → AV) : (bytesOf 1 g).size ≤ 8 := by
  show (((List.range 1).map fun i => byteA (g i 0)).toArray).size ≤ 8
  rw [List.size_toArray, List.length_map, List.length_range]
  decide
theorem lab_oN {L : List ByteArray} (h1 : L.length ≤ 10) (h2 : ∀ k, k < L.length → (L.getD k default).size ≤ 8) : Typ.oN 1 ⟨19, ByteArray.empty, L, []⟩ := ⟨Nat.zero_le _, ⟨Nat.le_trans h1 (by decide), fun j hj => Nat.le_trans (h2 j hj) (by decide)⟩, ⟨Nat.zero_le _, fun k hk => absurd hk (Nat.not_lt_zero _)⟩⟩
set_option maxRecDepth 8000 in
set_option maxHeartbeats 8000000 in
theorem l09_of (hAny : ∀ s : Src, s.rm 4000 → RetM env.P 76 [some (boxRow s.cs)] [.ptr 0 0 0] (LtP 4000 s)) (s : Src) (hs : s.rm 5000) : RetM env.P 52 [some (boxRow s.cs)] [.ptr 0 0 0] (LtP 5000 s) := by
  have hs' := hs
  unfold Src.rm at hs'
  refine RetM.frz [0] rfl (plainH_box (by rfl)) ?_
  have hO : ∀ (v : Int) (t : Src), (0 ≤ v ∧ (v = 0 ∨ v < 4)) → t.rm 3100 → RetM env.P 84 [some (boxRow t.cs)] [.ptr 0 0 0, .i .i64 (IntKind.i64.wrap (1 + v)), .b true, .b true] (fun r H => ∃ (q : Nat) (a : Typ) (t2 : Src), (q ≤ 3 ∧ Dw (q + 1) a) ∧ (t.at' ≤ t2.at' ∧ t2.at' ≤ t.at' + 3068 ∧ t2.code.length = t.code.length) ∧ r = .agg (Typ.pN (q + 2) a) ∧ H = [some (boxRow t2.cs)]) := fun v t hv ht => by
    have hq : v.toNat ≤ 3 := by omega
    have hN := chN_le' hq
    unfold Src.rm at ht
    refine RetM.mono (draw_C v.toNat (by omega) t (Src.rm_i (by omega) (by omega) (by omega)) _ (by rw [wrap_in (by omega) (by omega)]; omega)) fun r H hr => ?_
    obtain ⟨a, t2, ha, ht2, hr, hH⟩ := hr
    exact ⟨v.toNat, a, t2, ⟨hq, ha⟩, ⟨by omega, by omega, by omega⟩, hr, hH⟩
  have hrm : ∀ (t1 : Src) (y : LbS), (s.at' ≤ t1.at' ∧ t1.at' ≤ s.at' + 2 ∧ t1.code.length = s.code.length) → LbI t1 y → y.t.rm 1 := fun t1 y h1 hy => by
    have := hy.le
    have := hy.lo
    have := hy.hi
    have := hy.cd
    exact Src.rm_i (by omega) (by omega) (by omega)
  refine ret_ofM (nt := 35) (rvs := [.cell 2 32]) Tryz.func52 rfl rfl rfl rfl (fun X hX => ?_)
  repeat' (first | exact aa | ((conv => whnf) <;> (first | exact hrm t2 _ ⟨by omega, by omega, by omega⟩ ‹LbI _ _› | (refine Src.rm_i ?_ ?_ ?_) | (refine lw_turn _ (turn_box (id := 2) (ds := [.i .i64 19, .s ByteArray.empty, .ow 1 0 (elE strC []), .nils]) rfl rfl rfl (.cons (.refl _) (.cons (.refl _) (.cons (.nil _ _) (.cons (.refl _) .nil))))) ?_; refine loopFT (fun y : LbS => [(4, .i .i64 (y.l.length : Int))]) (fun y => [some (.box y.t.cs), none, some (.box [.i .i64 19, .s ByteArray.empty, .ow 1 y.l.length (elE strC y.l), .nils])]) (fun y => LbI t2 y) (fun y => 10 - y.l.length) ⟨[], t2⟩ ⟨LbI.zero t2, ?_⟩) | exact lbz_capC (Nat.le_trans (‹LbI _ _› : LbI _ _).le (by decide)) (show 16 ≤ 1000 by decide) | exact lbz_capM (Nat.le_trans (‹LbI _ _› : LbI _ _).le (by decide)) | exact srcOk_1 rfl | exact bytes_1 | refine And.intro ?_ ?_ | (intro _h; first | contradiction | (try simp only [dd] at _h)) | (refine dt_go ?_) | exact rfl | exact True.intro | exact dkk | exact dks | (refine .inr (.inl (.inl ⟨[0], _, _, _, one_ex _ ?_ 8 (by decide), viewA, ⟨rfl, rfl⟩, ?_⟩)); rotate_left 1; rintro _ _ ⟨b1, t1, ht1, rfl, rfl⟩; refine ⟨rfl, _, lokA, ?_⟩) | (refine .inr (.inl (.inl ⟨[0], _, _, _, one_ex _ ?_ 9 (by decide), viewA, ⟨rfl, rfl⟩, ?_⟩)); rotate_left 1; rintro _ _ ⟨b2, t2, ht2, rfl, rfl⟩; refine ⟨rfl, _, lokA, ?_⟩) | (refine .inr (.inl (.inl ⟨[0], _, _, _, hAny _ ?_, viewA, ⟨rfl, rfl⟩, ?_⟩)); rotate_left 1; rintro _ _ ⟨n, a, t3, ⟨hn, ho, hnp⟩, ht3, rfl, rfl⟩; refine ⟨rfl, _, lokA, ?_⟩) | (refine .inr (.inl (.inl ⟨[0], _, _, _, pick_ex _ ?_ 4 (by decide), viewA, ⟨rfl, rfl⟩, ?_⟩)); rotate_left 1; rintro _ _ ⟨v, t4, hv, ht4, rfl, rfl⟩; refine ⟨rfl, _, lokA, ?_⟩) | (refine .inr (.inl (.inl ⟨[0], _, _, _, hO _ t4 hv (Src.rm_i (by omega) (by omega) (by omega)), viewA, ⟨rfl, rfl⟩, ?_⟩)); rintro _ _ ⟨q, a, t5, ⟨hq, ha⟩, ht5, rfl, rfl⟩; refine ⟨rfl, _, lokA, ?_⟩) | (refine wrap_succ ?_; omega))))
  all_goals (conv => whnf)
  all_goals first
    | exact endL (t := t3) n a (view_of rfl (.cons rfl (.self (rowPl_box rfl)) .nil)) (frz_agg (.cons (.refl _) (.cons (.refl _) (.cons (.refl _) (.cons (.refl _) .nil))))) hn ho hnp (by omega)
    | exact endL (t := t5) q a (view_of rfl (.cons rfl (.self (rowPl_box rfl)) .nil)) (frz_agg (.cons (.refl _) (.cons (.refl _) (.cons (.refl _) (.cons (.refl _) .nil))))) (by omega) ha.o (Nat.le_trans ha.np (Nat.le_trans (pow4' hq) (by decide))) (by omega)
    | (rename_i y hy
       have q2 := hy.lo
       have q3 := hy.hi
       have q4 := hy.cd
       have q5 := hy.le
       exact endL (t := t4) 0 ⟨19, ByteArray.empty, y.l, []⟩ (view_of rfl (.cons rfl (.self (rowPl_box rfl)) .nil)) (frz_agg (.cons (.refl _) (.cons (.refl _) (.cons (shr_L (d := 0) (k := 4) rfl) (.cons Wk.nilS0 .nil))))) (by decide) (lab_oN hy.le hy.al) (by rw [Typ.np_eq]; exact (show 1 ≤ 2000 by decide)) (by omega))
    | skip
  rename_i y hy
  have hlt : (y.l.length : Int) < IntKind.i64.wrap (7 + v) := ‹_›
  have q5 := hy.le
  have q6 : IntKind.i64.wrap (7 + v) ≤ 10 := by rw [wrap_in (by omega) (by omega)]; omega
  generalize hW : bytesOf 1 _ = w
  have hw : w.size ≤ 8 := hW ▸ bytes1 _
  have e1 : (y.l ++ [w]).length = y.l.length + 1 := by rw [List.length_append]; rfl
  have he : IntKind.i64.wrap ((y.l.length : Int) + 1) = ((y.l ++ [w]).length : Int) := by
    rw [wrap_in (by omega) (by omega), e1]
    rfl
  refine roundET_turn (turn_close (id := 2) (i := 0) (j := 2) (id' := 6) rfl (show 0 < 1 by decide) (show 2 < 4 by decide) rfl rfl (show 2 ≠ 6 by decide) rfl ⟨Nat.le_refl _, snoc_idf rfl (fun j hj => by
    obtain rfl : j = 0 := Nat.lt_one_iff.1 hj
    exact trivial)⟩) ?_
  refine roundET_turn (turn_box (id := 2) (ds := [.i .i64 19, .s ByteArray.empty, .ow 1 (y.l ++ [w]).length (elE strC (y.l ++ [w])), .nils]) rfl rfl rfl (.cons (.refl _) (.cons (.refl _) (.cons (OwEq.lenT lbz_len (fun i j _ _ => HoldC.h _ j) (snoc_eq rfl (fun j hj => by
    obtain rfl : j = 0 := Nat.lt_one_iff.1 hj
    exact .refl _))) (.cons (.refl _) .nil))))) ?_
  refine roundET_end ?_
  refine ⟨⟨y.l ++ [w], t4⟩, [], hy.next hv hlt hw ht4, (by show 10 - (y.l ++ [w]).length < 10 - y.l.length; omega), ?_⟩
  repeat' (first | exact aa | ((conv => whnf) <;> (first | exact he | refine And.intro ?_ ?_ | (intro _h; first | contradiction | (try simp only [dd] at _h)) | (refine dt_go ?_) | exact rfl | exact True.intro | exact dkk | exact dks | (refine wrap_succ ?_; omega))))
end Go.Proofs.YtnppkgmodflkdaaGreat
