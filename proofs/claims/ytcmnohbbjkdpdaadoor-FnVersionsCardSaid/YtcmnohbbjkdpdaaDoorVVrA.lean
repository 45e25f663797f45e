/-
  Decimals, and the pieces of a text: the library's contracts as contracts of this layer.
-/
import Derived.Test.YtcmnohbbjkdpdaaDoorVVrL
import Derived.Test.YtcmnohbbjkdpdaaDoorVVrN
import Derived.Test.YtcmnohbbjkdpdaaDoorVKs0
import Derived.Test.YtcmnohbbjkdpdaaDoorVX
import Derived.Shelf.Strings.Split
import Derived.Shelf.Strconv.ParseIntPublic10
import Derived.Shelf.Strconv.Itoa4
import Derived.BigCall
namespace Go.Proofs.YtcmnohbbjkdpdaaDoor
open Go Go.RowKit Go.Shelf
set_option linter.unusedVariables false
set_option linter.unusedSimpArgs false

def i64V (n : Int) : Prop := -9223372036854775808 ≤ n ∧ n < 9223372036854775808
theorem below_growN (w : World) (k : Nat) (os : Array Obj) : Below w.heap.size w (Go.Sort.grow (w.drewN k) os) := ⟨rfl, rfl, rfl, by simp [Go.Sort.grow], fun i hi => by
  show (w.heap ++ os)[i]? = _
  rw [Array.getElem?_append_left hi]⟩
theorem split_ok (s : ByteArray) (hs : s.size < 4294967281) : Ret env.P 40 [.s s, .s dotB] (fun r => r = slL 1 strC (parts s)) := .mk fun w S us hS hc => by
  obtain ⟨u, v, rfl, h1, h2⟩ := concL_2 hc
  obtain ⟨rfl, _⟩ := inv_s h1
  obtain ⟨rfl, _⟩ := inv_s h2
  obtain ⟨m, hm⟩ := hS.gl.now.ml
  have hln : (parts s).length = Lib.countB s dotB + 1 := Lib.splitB_all dotB (by decide) 0 _ s rfl
  have hle := Lib.countB_le dotB (by decide) s.size s (Nat.le_refl _)
  have hmx : (4294967281 : Nat) ≤ maxLen := by decide
  refine (Any.strings_Split lays146 (by kernel_rfl) s dotB m w hs hm (by decide)).mono ?_
  rintro e w' ⟨rfl, rfl⟩
  refine ⟨_, _, rfl, rfl, ?_, (Below.refl _ w).alloc (Nat.le_refl _) _⟩
  unfold slL
  rw [hln]
  refine .sl w.heap.size 0 _ (fun i j => .string ((parts s).getD i default)) (.inr ⟨Nat.le_refl _, by simp⟩) (Nat.le_refl _) (by omega) (fun i j hi hj => ?_) (fun i j hi hj => ?_) (fun i j hi hj => ?_)
  · obtain rfl : j = 0 := Nat.lt_one_iff.1 hj
    have hi' : i < (parts s).length := by omega
    have e : (w.alloc (.cells ((parts s).map Value.string).toArray 9)).cell? ⟨w.heap.size, 0 + i * 1 + 0, none⟩ = ((parts s).map Value.string).toArray[0 + i * 1 + 0]? := by simp
    refine e.trans ?_
    simp [List.getD_eq_getElem?_getD, List.getElem?_eq_getElem hi']
  · obtain rfl : j = 0 := Nat.lt_one_iff.1 hj
    trivial
  · obtain rfl : j = 0 := Nat.lt_one_iff.1 hj
    have hi' : i < (parts s).length := by omega
    have := parts_size (s := s) (p := (parts s).getD i default) (by rw [List.getD_eq_getElem?_getD, List.getElem?_eq_getElem hi']; exact List.getElem_mem hi')
    exact .s (by omega)
/-- What readDecimal returns. -/
def rdV (s : ByteArray) : Int × Bool := match Lib.parseIntB 64 s.data.toList with
  | .ok v => if (⟨(Lib.itoa v).toArray⟩ : ByteArray) = s then (v, true) else (0, false)
  | _ => (0, false)
theorem rdV_some {s : ByteArray} {m : Nat} (h : pdB s = some m) : rdV s = ((m : Int), true) := by
  obtain ⟨h1, h2⟩ := pd_some h
  unfold rdV
  rw [h2, parse_dg h1]
  dsimp only
  rw [itoa_dg h1, if_pos]
  apply ByteArray.ext
  show (dg m).toArray = s.data
  rw [← h2]
theorem rdV_ok {s : ByteArray} {v : Int} (hp : Lib.parseIntB 64 s.data.toList = .ok v) (hq : (⟨(Lib.itoa v).toArray⟩ : ByteArray) = s) : rdV s = (v, true) := by
  unfold rdV; rw [hp]; dsimp only; rw [if_pos hq]
theorem rdV_f1 {s : ByteArray} {v : Int} (hp : Lib.parseIntB 64 s.data.toList = .ok v) (hq : ¬ (⟨(Lib.itoa v).toArray⟩ : ByteArray) = s) : rdV s = (0, false) := by
  unfold rdV; rw [hp]; dsimp only; rw [if_neg hq]
theorem rdV_f2 {s : ByteArray} (hp : ∀ v, Lib.parseIntB 64 s.data.toList ≠ .ok v) : rdV s = (0, false) := by
  unfold rdV
  split
  · exact absurd ‹_› (hp _)
  · rfl
theorem rdV_none {s : ByteArray} (h : pdB s = none) : ¬ ((rdV s).2 = true ∧ 0 ≤ (rdV s).1 ∧ (rdV s).1 ≤ 999) := by
  rintro ⟨h1, h2, h3⟩
  cases hp : Lib.parseIntB 64 s.data.toList
  · rename_i v
    by_cases hq : (⟨(Lib.itoa v).toArray⟩ : ByteArray) = s
    · rw [rdV_ok hp hq] at h2 h3
      dsimp only at h2 h3
      obtain ⟨k, rfl⟩ := Int.eq_ofNat_of_zero_le h2
      have hk : k < 1000 := by omega
      have e : s.data.toList = dg k := by rw [← hq, itoa_dg hk]
      unfold pdB at h
      rw [e, pd_dg k hk] at h
      cases h
    · rw [rdV_f1 hp hq] at h1; cases h1
  · rw [rdV_f2 (fun v q => by rw [hp] at q; cases q)] at h1; cases h1
  · rw [rdV_f2 (fun v q => by rw [hp] at q; cases q)] at h1; cases h1
theorem ne_of {l : List UInt8} {s : ByteArray} (hq : ¬ (⟨l.toArray⟩ : ByteArray) = s) : (l == s.toList) = false := by
  rw [ByteArray.toList_eq, beq_eq_false_iff_ne]
  intro e
  apply hq
  apply ByteArray.ext
  show l.toArray = s.data
  rw [e]
theorem parse_r {l : List UInt8} {v : Int} (h : Lib.parseIntB 64 l = .ok v) : i64V v := by
  unfold Lib.parseIntB at h
  have e : (2 : Nat) ^ (64 - 1) = 9223372036854775808 := by decide
  split at h
  · cases h
  · dsimp only at h
    rw [e] at h
    split at h
    · cases h
    · cases h
    · split at h
      · cases h
      · split at h
        · cases h
        · cases h
          unfold i64V
          split <;> (constructor <;> omega)
set_option maxRecDepth 100000 in
set_option maxHeartbeats 1000000 in
theorem decimal_calls (n : Int) (h : i64V n) (w : World) (hl : Lw w) : Calls Tryd.prog 38 #[.int .i64 n] w fun e w' => e = .returned (.string ⟨(Lib.itoa n).toArray⟩) ∧ Below w.heap.size w w' := by
  go_enter Tryd.func38, Tryd.ntmps38
  go_wp2_with (go_at_call 49; refine (Any.strconv_FormatInt_10 laysM173 n (by have := h.1; omega) (by have := h.2; omega) _ hl.tab).mono ?_; rintro e w1 ⟨rfl, k, os, rfl⟩)
  go_ret
  exact ⟨rfl, below_growN w k os⟩
set_option maxRecDepth 100000 in
set_option maxHeartbeats 1000000 in
theorem rd_walk (s : ByteArray) (hs : s.size ≤ 281474976710656) (w : World) (hl : Lw w) (hl' : ∀ W, Below w.heap.size w W → Lw W) : Calls Tryd.prog 41 #[.string s] w fun e w' => e = .returned (.tuple #[.int .i64 (rdV s).1, .bool (rdV s).2]) ∧ Below w.heap.size w w' := by
  go_enter Tryd.func41, Tryd.ntmps41
  cases hp : Lib.parseIntB 64 s.data.toList
  · rename_i v
    have hv := parse_r hp
    go_wp2_with (go_at_call 52; refine (Any.strconv_ParseInt_10_at64_ok laysC174 s (by omega) v hp _).mono ?_; rintro e w1 ⟨rfl, hw1⟩)
    have hb1 : Below w.heap.size w w1 := by
      rcases hw1 with rfl | ⟨t, rfl⟩
      · exact Below.refl _ _
      · exact Lib.bytesWorld_below _ _ _
    by_cases hq : (⟨(Lib.itoa v).toArray⟩ : ByteArray) = s
    · have hr := rdV_ok hp hq
      go_wp2_with (go_at_call 38; refine (decimal_calls v hv _ (hl' _ hb1)).mono ?_; rintro e w2 ⟨rfl, hb2⟩)
      go_ret2
      exact ⟨by rw [hr]; rfl, hb1.trans (hb2.mono hb1.size)⟩
    · have hr := rdV_f1 hp hq
      have hz := ne_of hq
      go_wp2_with (go_at_call 38; refine (decimal_calls v hv _ (hl' _ hb1)).mono ?_; rintro e w2 ⟨rfl, hb2⟩)
      go_ret2
      exact ⟨by rw [hr]; rfl, hb1.trans (hb2.mono hb1.size)⟩
  · have hr := rdV_f2 (s := s) (fun v q => by rw [hp] at q; cases q)
    obtain ⟨ev, h1, h2⟩ := hl.es
    go_wp2_with (go_at_call 52; refine (Any.strconv_ParseInt_10_at64_syntax laysC174 s hs hp ev _ h1 h2).mono ?_; rintro e w1 ⟨N, rfl, _, _, hb1⟩)
    go_ret2
    exact ⟨by rw [hr]; rfl, hb1⟩
  · have hr := rdV_f2 (s := s) (fun v q => by rw [hp] at q; cases q)
    obtain ⟨ev, h1, h2⟩ := hl.er
    go_wp2_with (go_at_call 52; refine (Any.strconv_ParseInt_10_at64_range laysC174 s hs hp ev _ h1 h2).mono ?_; rintro e w1 ⟨N, rfl, _, _, hb1⟩)
    go_ret2
    exact ⟨by rw [hr]; rfl, hb1⟩
end Go.Proofs.YtcmnohbbjkdpdaaDoor
