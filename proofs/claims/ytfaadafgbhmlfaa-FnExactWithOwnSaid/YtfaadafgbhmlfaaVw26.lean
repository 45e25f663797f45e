/- Texts for VWithOwnP. -/
import Derived.Laws.NewBlocks
import Derived.Test.YtfaadafgbhmlfaaVw25
namespace Go.Proofs.Ytfaadafgbhmlfaa
open Go Go.RowKit
set_option linter.unusedVariables false
set_option linter.unusedSimpArgs false
section
open Go Go.RowKit Go.Shelf
theorem heap_setRow_ne {w : World} {b k : Nat} {A : Array Value} (h : k ≠ b) : (w.setRow b A).heap[k]? = w.heap[k]? := by
  unfold World.setRow
  simp [Array.getElem?_modify, Ne.symm h]
theorem keeps_alloc {m : Nat → Prop} {w : World} {o : Obj} : Keeps m w (w.alloc o) := ⟨rfl, rfl, rfl, (by show w.heap.size ≤ (w.heap.push o).size; simp), fun k hk _ => Below.heap_alloc w _ k hk⟩
theorem Keeps.weak {w w' : World} (h : Keeps (fun k => k = w.heap.size) w w') : Keeps (fun _ => False) w w' := ⟨h.os, h.tape, h.output, h.size, fun k hk _ => h.block k hk (by omega)⟩
theorem info_sec : ∃ (i0 : TypeInfo) (z : Value), Try.prog.info? 31 = some i0 ∧ i0.zero = some z ∧ i0.size = 3 ∧ i0.bytes = 40 ∧ z.cells = #[Value.int .i64 0, .string ByteArray.empty, .string ByteArray.empty] := by
  have h : ((Try.prog.info? 31).bind fun i => i.zero.map fun z => (i.size, i.bytes, z.cells)) = some (3, 40, #[Value.int .i64 0, .string ByteArray.empty, .string ByteArray.empty]) := by kernel_rfl
  cases hq : Try.prog.info? 31 with
  | none => rw [hq] at h; cases h
  | some i =>
    rw [hq] at h
    cases hz : i.zero with
    | none => simp [hz] at h
    | some z =>
      simp [hz] at h
      exact ⟨i, z, rfl, hz, h.1, h.2.1, h.2.2⟩
theorem zeroCells_len (l : Array Value) (k : Nat) : (Builtin.zeroCells l k).size = k * l.size := by simp [Builtin.zeroCells]
theorem zeroCells_one {l : Array Value} (h0 : 0 < l.size) (h : ∀ u ∈ l, u.oneCell' = true) (k : Nat) : ∀ u ∈ Builtin.zeroCells l k, u.oneCell' = true := fun u hu => by
  unfold Builtin.zeroCells at hu
  obtain ⟨i, _, rfl⟩ := Array.mem_map.1 hu
  have hlt : i % l.size < l.size := Nat.mod_lt _ h0
  rw [getElem!_pos l _ hlt]
  exact h _ (Array.getElem_mem hlt)
def grwA (cur z v : List Value) (i : Nat) : List Value := (cur.take (3 * i) ++ z).take (3 * i) ++ v ++ (cur.take (3 * i) ++ z).drop (3 * i + 3)
def grwB (A cur : List Value) (i n : Nat) : List Value := A.take (3 * (i + 1)) ++ (cur.drop (3 * i)).take (3 * (n - i)) ++ A.drop (3 * (n + 1))
set_option maxHeartbeats 4000000 in
set_option maxRecDepth 100000 in
theorem ins_grow (b n i vb vc : Nat) (cur vcur : Array Value) (ty vty : TypeId) (w : World) (hi : i < n) (hn : n ≤ 1000) (hb : RowAt w b cur ty) (hsz : cur.size = n * 3)
    (hv : w.heap[vb]? = some (.cells vcur vty (0, 0))) (hvs : vcur.size = 3) (h1 : ∀ u ∈ cur, u.oneCell' = true) (h1v : ∀ u ∈ vcur, u.oneCell' = true) :
    Calls Try.prog 15 #[.slice (some ⟨b, 0, none⟩) n n, .int .i64 i, .slice (some ⟨vb, 0, none⟩) 1 vc] w fun e w' =>
      ∃ (G : Nat) (Z : List Value), e = .returned (.slice (some ⟨w.heap.size, 0, none⟩) (n + 1) G) ∧ n + 1 ≤ G ∧ G ≤ maxLen ∧ Z.length = (G - i) * 3 ∧ (∀ u ∈ Z, u.oneCell' = true) ∧ RowAt w' w.heap.size (grwB (grwA cur.toList Z vcur.toList i) cur.toList i n).toArray 31 ∧ Keeps (fun _ => False) w w' := by
  obtain ⟨i0, z, hi0, hz0, hzs, hzb, hzc⟩ := info_sec
  have hm63 : maxLen ≤ 9223372036854775807 := by decide
  have hz2 : ¬ ((i : Int) = (n : Int)) := by omega
  have hw1 : IntKind.i64.wrap ((i : Int) + 1) = (i : Int) + 1 := by rw [IntKind.wrap_i64]; omega
  have hw2 : IntKind.i64.wrap ((n : Int) + 1) = (n : Int) + 1 := by rw [IntKind.wrap_i64]; omega
  have hz3 : (n : Int) < (n : Int) + 1 := by omega
  have mixed : Try.prog.follows Departure.mixedOrders = true := by kernel_rfl
  have u25 := run_underlying Try.underlying25
  have zS := sizeOf_sec
  have hb1 : (0 : Int) ≤ (i : Int) + 1 := by omega
  have hin : i ≤ n := by omega
  have htn : ((i : Int) + 1).toNat = i + 1 := by omega
  have hb3 : (i : Int) ≤ (n : Int) + 1 := by omega
  have hb4 : ¬ (n = i) := by omega
  have hl : cur.toList.length = n * 3 := hsz
  have hvl : vcur.toList.length = 3 := hvs
  have hbw := hb.lt
  have hold : (Builtin.firstCells i0.size i (.slice (some ⟨b, 0, none⟩) i n)).run Try.prog w.drew = .ok (cur.toList.take (3 * i)).toArray w.drew := by
    rw [hzs]
    exact run_firstCells_some w.drew 3 i ⟨b, 0, none⟩ i n (cur.toList.take (3 * i)) (by rw [List.length_take]; omega) (fun j v hj => by
      rw [add_mk]
      show w.cell? _ = _
      rw [hb.cell, Nat.zero_add]
      rw [List.getElem?_take] at hj
      split at hj
      · simpa using hj
      · cases hj)
  obtain ⟨G, hG⟩ : ∃ G, G = grownCap w (n + 1) n 31 := ⟨_, rfl⟩
  have hGn : n + 1 ≤ G := by rw [hG]; exact grownCap_ge w _ _ _
  have hG63 : G ≤ maxLen := by rw [hG]; exact grownCap_le_maxLen w (n + 1) n _ (by unfold maxLen; omega)
  have hrz : ∀ ty', (Builtin.append_ #[25, 3] ty' #[.slice (some ⟨b, 0, none⟩) i n, .int .i64 ((n : Int) + 1 - (i : Int))]).run Try.prog w =
      .ok (.slice (some ⟨w.heap.size, 0, none⟩) (n + 1) G) (w.drew.alloc (.cells ((cur.toList.take (3 * i)).toArray ++ Builtin.zeroCells z.cells (n + 1 - i) ++ Builtin.zeroCells z.cells (G - (n + 1))) 31)) := fun ty' => by
    have h := Lib.run_append_grow_zeros w 25 3 ty' 31 i0 _ .i64 .i64 Try.underlying25 Try.underlying3 hi0 hz0 (some ⟨b, 0, none⟩) i n (cur.toList.take (3 * i)) hold (n + 1 - i) (by omega) (by omega) (by omega) (by omega) (by rw [hzb]; omega) (by rw [hzb, show i + (n + 1 - i) = n + 1 by omega]; exact growslice_fits (by omega) (by omega))
    rw [show i + (n + 1 - i) = n + 1 by omega, ← hG] at h
    rw [show (n : Int) + 1 - (i : Int) = ((n + 1 - i : Nat) : Int) by omega]
    exact h
  obtain ⟨Z, hZ⟩ : ∃ Z : List Value, Z = (Builtin.zeroCells z.cells (n + 1 - i) ++ Builtin.zeroCells z.cells (G - (n + 1))).toList := ⟨_, rfl⟩
  have hzsz : z.cells.size = 3 := by rw [hzc]; rfl
  have hZl : Z.length = (G - i) * 3 := by
    rw [hZ, Array.length_toList, Array.size_append, zeroCells_len, zeroCells_len, hzsz]
    omega
  have hz1 : ∀ u ∈ z.cells, u.oneCell' = true := by rw [hzc]; decide
  have hZ1 : ∀ u ∈ Z, u.oneCell' = true := fun u hu => by
    rw [hZ, Array.mem_toList_iff, Array.mem_append] at hu
    rcases hu with hu | hu
    · exact zeroCells_one (by omega) hz1 _ u hu
    · exact zeroCells_one (by omega) hz1 _ u hu
  have hrow : (cur.toList.take (3 * i)).toArray ++ Builtin.zeroCells z.cells (n + 1 - i) ++ Builtin.zeroCells z.cells (G - (n + 1)) = (cur.toList.take (3 * i) ++ Z).toArray := by
    rw [hZ, Array.append_assoc]
    simp
  rw [hrow] at hrz
  have hTl : (cur.toList.take (3 * i)).length = 3 * i := by rw [List.length_take, hl]; omega
  have hRl : (cur.toList.take (3 * i) ++ Z).length = G * 3 := by rw [List.length_append, hTl, hZl]; omega
  have hAl : (grwA cur.toList Z vcur.toList i).length = G * 3 := by
    unfold grwA
    rw [List.length_append, List.length_append, List.length_take, List.length_drop, hRl, hvl]
    omega
  have hslen : ((cur.toList.drop (3 * i)).take (3 * (n - i))).length = 3 * (n - i) := by rw [List.length_take, List.length_drop, hl]; omega
  have hBl : (grwB (grwA cur.toList Z vcur.toList i) cur.toList i n).length = G * 3 := by
    unfold grwB
    rw [List.length_append, List.length_append, List.length_take, List.length_drop, hAl, hslen]
    omega
  obtain ⟨W1, hW1⟩ : ∃ W1, W1 = w.drew.alloc (.cells (cur.toList.take (3 * i) ++ Z).toArray 31) := ⟨_, rfl⟩
  have hR1 : RowAt W1 w.heap.size (cur.toList.take (3 * i) ++ Z).toArray 31 := rowAt0 (by rw [hW1]; show (w.heap.push _)[w.heap.size]? = _; exact Array.getElem?_push_size)
  have hvw : vb < w.heap.size := (Array.getElem?_eq_some_iff.1 hv).1
  have hold1 : ∀ k, k < w.heap.size → W1.heap[k]? = w.heap[k]? := fun k hk => by rw [hW1]; exact Below.heap_alloc w.drew _ k hk
  have hK1 : Keeps (fun _ => False) w W1 := by
    rw [hW1]
    exact ⟨rfl, rfl, rfl, by simp [World.alloc], fun k hk _ => Below.heap_alloc w.drew _ k hk⟩
  have hb1w : RowAt W1 b cur ty := hb.mono (hold1 b hbw)
  have hv1 : W1.heap[vb]? = some (.cells vcur vty (0, 0)) := (hold1 vb hvw).trans hv
  have hcpA : ∀ (W : World), (W = W1 ∨ W = W1.drew) → ∀ ty' dc, (Builtin.copy_ #[25, 25] ty' #[.slice (some ⟨w.heap.size, i * 3, none⟩) (n + 1 - i) dc, .slice (some ⟨vb, 0, none⟩) 1 vc]).run Try.prog W = .ok (goInt ((1 : Nat) : Int)) (W.setRow w.heap.size (grwA cur.toList Z vcur.toList i).toArray) := fun W hW ty' dc => by
    have hmin : Nat.min 1 (n + 1 - i) = 1 := by simp only [Nat.min_def]; split <;> omega
    have hRW : RowAt W w.heap.size (cur.toList.take (3 * i) ++ Z).toArray 31 := by rcases hW with rfl | rfl <;> exact hR1
    have hvW : W.heap[vb]? = some (.cells vcur vty (0, 0)) := by rcases hW with rfl | rfl <;> exact hv1
    have := run_copyZ W 25 25 ty' 31 w.heap.size (i * 3) (n + 1 - i) dc ⟨vb, 0, none⟩ 1 vc 3 (cur.toList.take (3 * i) ++ Z).toArray _ vcur.toList Try.underlying25 size_sec hRW (by rw [hmin, hvl]) (fun k v hk => by
        rw [add_mk, Nat.zero_add]
        simp only [World.cell?, hvW]
        simpa using hk) (by rw [hvl, List.size_toArray, hRl]; omega) (fun v hv => h1v v (by simpa using hv))
    rw [this, hmin]
    unfold grwA
    rw [hvl, show i * 3 = 3 * i by omega]
  have hA1 : ∀ W, (W = W1 ∨ W = W1.drew) → RowAt (W.setRow w.heap.size (grwA cur.toList Z vcur.toList i).toArray) w.heap.size (grwA cur.toList Z vcur.toList i).toArray 31 := fun W hW => by
    rcases hW with rfl | rfl
    · exact hR1.setRow (by rw [List.size_toArray, List.size_toArray, hAl, hRl])
    · exact RowAt.setRow (w := W1.drew) hR1 (by rw [List.size_toArray, List.size_toArray, hAl, hRl])
  have hGi : ¬ (G = i) := by omega
  have hGim : ¬ (G = i + 1) := by omega
  have hW2 : RowAt (W1.drew.setRow w.heap.size (grwA cur.toList Z vcur.toList i).toArray).drew w.heap.size (grwA cur.toList Z vcur.toList i).toArray 31 := hA1 _ (.inr rfl)
  have hW2' : RowAt (W1.setRow w.heap.size (grwA cur.toList Z vcur.toList i).toArray).drew w.heap.size (grwA cur.toList Z vcur.toList i).toArray 31 := hA1 _ (.inl rfl)
  have hcpB : ∀ (W : World), RowAt W w.heap.size (grwA cur.toList Z vcur.toList i).toArray 31 → RowAt W b cur ty → ∀ ty', (Builtin.copy_ #[25, 25] ty' #[.slice (some ⟨w.heap.size, (i + 1) * 3, none⟩) (n - i) (G - (i + 1)), .slice (some ⟨b, i * 3, none⟩) (n - i) (n - i)]).run Try.prog W = .ok (goInt ((n - i : Nat) : Int)) (W.setRow w.heap.size (grwB (grwA cur.toList Z vcur.toList i) cur.toList i n).toArray) := fun W hW hWb ty' => by
    have hmin : Nat.min (n - i) (n - i) = n - i := by simp only [Nat.min_def]; split <;> omega
    have := run_copyZ W 25 25 ty' 31 w.heap.size ((i + 1) * 3) (n - i) (G - (i + 1)) ⟨b, i * 3, none⟩ (n - i) (n - i) 3 (grwA cur.toList Z vcur.toList i).toArray _ ((cur.toList.drop (3 * i)).take (3 * (n - i))) Try.underlying25 size_sec hW (by rw [hmin, hslen]; omega) (fun k v hk => by
        have h2 : k < 3 * (n - i) := by
          rw [List.getElem?_take] at hk
          split at hk
          · assumption
          · cases hk
        rw [List.getElem?_take, if_pos h2, List.getElem?_drop] at hk
        rw [add_mk, hWb.cell, show i * 3 + k = 3 * i + k by omega]
        simpa using hk) (by rw [hslen, List.size_toArray, hAl]; omega) (fun v hv => h1 v (by simpa using List.mem_of_mem_drop (List.mem_of_mem_take hv)))
    rw [this, hmin]
    unfold grwB
    rw [hslen, show (i + 1) * 3 = 3 * (i + 1) by omega, show 3 * (i + 1) + 3 * (n - i) = 3 * (n + 1) by omega]
  have hWA : RowAt ((w.alloc (.cells (cur.toList.take (3 * i) ++ Z).toArray 31)).drew.setRow w.heap.size (grwA cur.toList Z vcur.toList i).toArray).drew w.heap.size (grwA cur.toList Z vcur.toList i).toArray 31 := by
    have := hW2
    rw [hW1] at this
    exact this
  have hWb : RowAt ((w.alloc (.cells (cur.toList.take (3 * i) ++ Z).toArray 31)).drew.setRow w.heap.size (grwA cur.toList Z vcur.toList i).toArray).drew b cur ty := by
    refine hb.mono ?_
    show (World.setRow _ w.heap.size _).heap[b]? = _
    rw [heap_setRow_ne (by omega)]
    have := hold1 b hbw
    rw [hW1] at this
    exact this
  have hcB := hcpB _ hWA hWb
  clear hi0 hz0 hzs hzb hzc hold hG hrow hzsz hz1 hZ
  clear z i0
  go_enter Try.func15, Try.ntmps15
  go_wp2_with (first
    | (at_builtin; refine Lib.wpList_append_run _ rfl _ _ _ _ rfl _ _ rfl rfl _ _ (hrz _) ?_)
    | (at_builtin; refine wpList_copy_runI _ rfl _ _ 25 25 rfl _ _ rfl rfl (hcpA _ (.inl hW1.symm) _ _) ?_)
    | (at_builtin; refine wpList_copy_runI _ rfl _ _ 25 25 rfl _ _ rfl rfl (hcpA _ (.inr (by rw [hW1]; rfl)) _ _) ?_))
  go_region_law_o (refine step_copy_runI rfl _ _ 25 25 rfl (.slice (some ⟨w.heap.size, (i + 1) * 3, none⟩) (n - i) (G - (i + 1))) (.slice (some ⟨b, i * 3, none⟩) (n - i) (n - i)) ?_ ?_ (hcB _) ?_)
  go_wp2
  go_ret
  exact ⟨G, Z, rfl, hGn, hG63, hZl, hZ1, hWA.setRow (by rw [List.size_toArray, List.size_toArray, hAl, hBl]), Keeps.weak (keeps_alloc.trans (keeps_drew.trans (keeps_setRow.trans (keeps_drew.trans keeps_setRow))))⟩
end
end Go.Proofs.Ytfaadafgbhmlfaa
