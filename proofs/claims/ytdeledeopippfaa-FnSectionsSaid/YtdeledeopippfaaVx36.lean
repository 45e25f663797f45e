/- Texts for VSectionsP. -/
import Derived.Test.YtdeledeopippfaaVx35
namespace Go.Proofs.Ytdeledeopippfaa
open Go Go.RowKit
set_option linter.unusedVariables false
set_option linter.unusedSimpArgs false
section
open Go Go.RowKit Go.Shelf
def conB (z : Int) (pn b : ByteArray) : ByteArray := if z = 0 then pn ++ b else b
theorem ba_toL (b : ByteArray) : (⟨(byL b).toArray⟩ : ByteArray) = b := ByteArray.ext (by show b.data.toList.toArray = b.data; simp)
def sbAcc (fx pb : Nat → ByteArray) (k : Nat) : List UInt8 := [0, 99, 111, 114, 1] ++ (List.range k).flatMap fun k => byL (fx k ++ pb k)
theorem sbAcc_next (fx pb : Nat → ByteArray) (k : Nat) : sbAcc fx pb k ++ byL (fx k ++ pb k) = sbAcc fx pb (k + 1) := by
  unfold sbAcc
  rw [List.range_succ, List.flatMap_append, List.append_assoc]
  simp
theorem sbAcc_len (fx pb : Nat → ByteArray) (h : ∀ k, (fx k).size + (pb k).size ≤ 1000000000) (k : Nat) : (sbAcc fx pb k).length ≤ 5 + k * 1000000000 := by
  have h1 := fm_lenU (f := fun k => byL (fx k ++ pb k)) (k := 1000000000) (l := List.range k) fun x _ => by
    show (fx x ++ pb x).size ≤ _
    rw [size_app]
    exact h x
  rw [List.length_range] at h1
  unfold sbAcc
  rw [List.length_append]
  show 5 + _ ≤ _
  omega
set_option maxRecDepth 100000 in
set_option maxHeartbeats 400000 in
theorem sb_walk (n : Nat) (hn : n ≤ 20) (a : Option Addr) (cap : Nat) (id : Nat → Int) (nm bs : Nat → ByteArray) (pn fx pb : Nat → ByteArray) (out : ByteArray) (w : World)
    (hnm : ∀ k, (pn k).size + (bs k).size ≤ 1000000000) (hfx : ∀ k, (fx k).size + (pb k).size ≤ 1000000000)
    (ho1 : (sbAcc fx pb n).length ≤ 30000 → out = ⟨(sbAcc fx pb n).toArray⟩) (ho2 : 30000 < (sbAcc fx pb n).length → out = ByteArray.mk #[])
    (ha : 0 < n → ∃ b o, a = some ⟨b, o, none⟩ ∧ b < w.heap.size ∧ ∀ k, k < n → w.cell? ⟨b, o + k * 3, none⟩ = some (.int .i64 (id k)) ∧ w.cell? ⟨b, o + k * 3 + 1, none⟩ = some (.string (nm k)) ∧ w.cell? ⟨b, o + k * 3 + 2, none⟩ = some (.string (bs k)))
    (cO : ∀ k W, k < n → Below w.heap.size w W → Calls Try.prog 18 #[.agg #[.int .i64 (id k), .string (nm k), .string (bs k)]] W fun e W' => e = .returned (.bool true) ∧ Below W.heap.size W W')
    (cN : ∀ k W, k < n → Below w.heap.size w W → Calls Try.prog 19 #[.string (nm k)] W fun e W' => e = .returned (.string (pn k)) ∧ Below W.heap.size W W')
    (cF : ∀ k W, k < n → Below w.heap.size w W → Calls Try.prog 20 #[.int .i64 (id k), .int .i64 1] W fun e W' => e = .returned (.string (fx k)) ∧ Below W.heap.size W W')
    (cP : ∀ k W, k < n → Below w.heap.size w W → Calls Try.prog 19 #[.string (conB (id k) (pn k) (bs k))] W fun e W' => e = .returned (.string (pb k)) ∧ Below W.heap.size W W') :
    Calls Try.prog 7 #[.slice a n cap] w fun e w' => e = .returned (.string out) ∧ Below w.heap.size w w' := by
  have z1 : ¬ (20 : Int) < (n : Int) := by omega
  have hm : (1000000000 : Nat) ≤ maxLen := by decide
  go_enter Try.func7, Try.ntmps7
  have hB1 : Below w.heap.size w (w.alloc (.cells #[.pointer none, .slice none 0 0] 46)) := (Below.refl _ w).alloc (Nat.le_refl _) _
  have hI1 := bd_fresh w
  go_wp2_with (go_at_call 17; refine (bd_write _ _ _ _ _ hI1 (by decide) (by simp)).mono ?_; rintro e w4 ⟨rfl, hA4, hb4⟩)
  have hB4 := hB1.trans (hb4.mono (Nat.le_refl _))
  replace hA4 : BdAt w.heap.size w.heap.size (Lib.byteCells (sbAcc fx pb 0)) w4 := hA4
  go_wp2
  go_loopw [13] (fun i wr => ∃ k : Nat, k ≤ n ∧ i = .int .i64 k ∧ BdAt w.heap.size w.heap.size (Lib.byteCells (sbAcc fx pb k)) wr ∧ Below w.heap.size w wr) (fun i _ => n - (intOf i).toNat)
  case atStart => exact ⟨0, Nat.zero_le _, rfl, hA4, hB4⟩
  case round =>
    obtain ⟨k, hk, rfl, hA, hB⟩ := hrel
    have hac := sbAcc_len fx pb hfx k
    by_cases hlt : k < n
    · obtain ⟨b, o, rfl, hbw, hcell⟩ := ha (by omega)
      have c0 : wr.cell? ⟨b, o + k * 3, none⟩ = some (.int .i64 (id k)) := (hB.cell (p := ⟨b, o + k * 3, none⟩) hbw).trans (hcell k hlt).1
      have c1 : wr.cell? ⟨b, o + k * 3 + 1, none⟩ = some (.string (nm k)) := (hB.cell (p := ⟨b, o + k * 3 + 1, none⟩) hbw).trans (hcell k hlt).2.1
      have c2 : wr.cell? ⟨b, o + k * 3 + 2, none⟩ = some (.string (bs k)) := (hB.cell (p := ⟨b, o + k * 3 + 2, none⟩) hbw).trans (hcell k hlt).2.2
      clear hcell ha
      have hB5 : Below w.heap.size w (wr.alloc (.cells #[.int .i64 (id k), .string (nm k), .string (bs k)] 52)) := hB.alloc hB.size _
      have hbr : Below wr.heap.size wr (wr.alloc (.cells #[.int .i64 (id k), .string (nm k), .string (bs k)] 52)) := (Below.refl _ wr).alloc (Nat.le_refl _) _
      have hA5 := bld_old hA hbr
      have hw1r : w.heap.size < wr.heap.size := hA.lt
      have e0 : (wr.alloc (.cells #[.int .i64 (id k), .string (nm k), .string (bs k)] 52)).cell? ⟨wr.heap.size, 0, none⟩ = some (.int .i64 (id k)) := by simp
      have e1 : (wr.alloc (.cells #[.int .i64 (id k), .string (nm k), .string (bs k)] 52)).cell? ⟨wr.heap.size, 1, none⟩ = some (.string (nm k)) := by simp
      have e2 : (wr.alloc (.cells #[.int .i64 (id k), .string (nm k), .string (bs k)] 52)).cell? ⟨wr.heap.size, 2, none⟩ = some (.string (bs k)) := by simp
      have es : wr.heap.size < (wr.alloc (.cells #[.int .i64 (id k), .string (nm k), .string (bs k)] 52)).heap.size := by simp
      have hnk := hnm k
      have hfk := hfx k
      have hP := cP k
      have hF := cF k
      go_wp2_with (go_at_call 18; refine (cO k _ hlt hB5).mono ?_; rintro e w5 ⟨rfl, hb5⟩; have d0 := (hb5.cell (p := ⟨wr.heap.size, 0, none⟩) es).trans e0; have d1 := (hb5.cell (p := ⟨wr.heap.size, 1, none⟩) es).trans e1; have d2 := (hb5.cell (p := ⟨wr.heap.size, 2, none⟩) es).trans e2; clear e0 e1 e2; by_cases hz : id k = 0)
      · have hA6 := bld_old hA5 hb5
        have hB6 := hB5.trans (hb5.mono hB5.size)
        have es6 : wr.heap.size < w5.heap.size := Nat.lt_of_lt_of_le es hb5.size
        unfold conB at hP
        rw [if_pos hz] at hP
        rw [hz] at hF d0
        go_wp2_with (go_at_call 19; refine (cN k _ hlt hB6).mono ?_; rintro e w6 ⟨rfl, hb6⟩; have d0 := (hb6.cell (p := ⟨wr.heap.size, 0, none⟩) es6).trans d0)
        have hA7 := bld_old hA6 hb6
        have hB7 := hB6.trans (hb6.mono hB6.size)
        go_wp2_with (go_at_call 20; refine (hF _ hlt hB7).mono ?_; rintro e w7 ⟨rfl, hb7⟩)
        have hA8 := bld_old hA7 hb7
        have hB8 := hB7.trans (hb7.mono hB7.size)
        go_wp2_with (go_at_call 19; refine (hP _ hlt hB8).mono ?_; rintro e w10 ⟨rfl, hb10⟩)
        have hA10 := bld_old hA8 hb10
        have hB10 := hB8.trans (hb10.mono hB8.size)
        have hac2 : (Lib.byteCells (sbAcc fx pb k)).length + (fx k ++ pb k).size ≤ 140737488355328 := by rw [Lib.byteCells_length, size_app]; omega
        go_wp2_with (go_at_call 17; refine (bd_write _ _ _ _ _ (.inr hA10) hac2 (by have e1 := hB10.size; have e2 := hA.lt; omega)).mono ?_; rintro e w8 ⟨rfl, hA9, hb8⟩)
        have hB9 := hB10.trans (hb8.mono (Nat.le_refl _))
        rw [← ba_toL (fx k ++ pb k), bd_cells, sbAcc_next] at hA9
        go_wp2
        go_roundw
        case rel => exact ⟨k + 1, by omega, by simp, hA9, hB9⟩
        case measure => simp [intOf]; omega
      · have hA6 := bld_old hA5 hb5
        have hB6 := hB5.trans (hb5.mono hB5.size)
        unfold conB at hP
        rw [if_neg hz] at hP
        go_wp2_with (go_at_call 20; refine (hF _ hlt hB6).mono ?_; rintro e w6 ⟨rfl, hb6⟩)
        have hA7 := bld_old hA6 hb6
        have hB7 := hB6.trans (hb6.mono hB6.size)
        go_wp2_with (go_at_call 19; refine (hP _ hlt hB7).mono ?_; rintro e w7 ⟨rfl, hb7⟩)
        have hA8 := bld_old hA7 hb7
        have hB8 := hB7.trans (hb7.mono hB7.size)
        have hac2 : (Lib.byteCells (sbAcc fx pb k)).length + (fx k ++ pb k).size ≤ 140737488355328 := by rw [Lib.byteCells_length, size_app]; omega
        go_wp2_with (go_at_call 17; refine (bd_write _ _ _ _ _ (.inr hA8) hac2 (by have e1 := hB8.size; have e2 := hA.lt; omega)).mono ?_; rintro e w8 ⟨rfl, hA9, hb8⟩)
        have hB9 := hB8.trans (hb8.mono (Nat.le_refl _))
        rw [← ba_toL (fx k ++ pb k), bd_cells, sbAcc_next] at hA9
        go_wp2
        go_roundw
        case rel => exact ⟨k + 1, by omega, by simp, hA9, hB9⟩
        case measure => simp [intOf]; omega
    · obtain rfl : k = n := by omega
      have hl2 : (Lib.byteCells (sbAcc fx pb k)).length = (sbAcc fx pb k).length := Lib.byteCells_length _
      by_cases hs : (sbAcc fx pb k).length ≤ 30000
      · have hout := ho1 hs
        have z3 : ¬ (30000 : Int) < ((sbAcc fx pb k).length : Int) := by omega
        generalize hL : sbAcc fx pb k = L at *
        generalize hN : L.length = N at *
        go_wp2_with (go_at_call 21; refine (bd_len _ _ _ _ (.inr hA)).mono ?_; rintro e w5 ⟨rfl, rfl⟩; rw [hl2])
        go_wp2_with (go_at_call 22; refine (bd_string _ _ _ _ (.inr hA) (by have := hA.lt; omega)).mono ?_; rintro e w5 ⟨rfl, hb5⟩)
        go_ret
        exact ⟨by rw [hout]; rfl, hB.trans (hb5.mono (Nat.le_refl _))⟩
      · have hout := ho2 (by omega)
        have z3 : (30000 : Int) < ((sbAcc fx pb k).length : Int) := by omega
        go_wp2_with (go_at_call 21; refine (bd_len _ _ _ _ (.inr hA)).mono ?_; rintro e w5 ⟨rfl, rfl⟩; rw [hl2])
        go_ret
        exact ⟨by rw [hout]; rfl, hB⟩
end
end Go.Proofs.Ytdeledeopippfaa
