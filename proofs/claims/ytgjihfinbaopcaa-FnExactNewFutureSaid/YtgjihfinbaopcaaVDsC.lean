/-
  The names of a list are distinct: slices.Sorted, distinct (the call).
-/
import Derived.Test.YtgjihfinbaopcaaVDsB
import Derived.Test.YtgjihfinbaopcaaVDsL
import Derived.Sort.OwnSorted
namespace Go.Proofs.Ytgjihfinbaopcaa
open Go Go.RowKit Go.Shelf Go.Maps Go.Sort
set_option linter.unusedVariables false
set_option linter.unusedSimpArgs false

attribute [local go_sem] Oper.semAt_some

def dsSort (zs : List (List UInt8)) : List (List UInt8) := zs.mergeSort fun x y => decide (x ≤ y)

set_option maxRecDepth 100000 in
set_option maxHeartbeats 1000000 in
theorem ds_sorted (n : Nat) (hn : 5 ≤ n) (Bs : Nat) (sv : Value) (zs : List (List UInt8)) (hlen : zs.length ≤ maxLen) (hbytes : zs.length * 16 ≤ 140737488351232) (w : World)
    (hBs : Bs < w.heap.size) (hc : w.cell? ⟨Bs, 0, none⟩ = some sv) (hI : DsStr w.heap.size w sv zs) :
    CallsIn Fence.wide n Try.prog 70 #[.func (.func 75) #[] #[.pointer (some ⟨Bs, 0, none⟩)]] w fun e W' => ∃ v, e = .returned v ∧ W'.ownsRow w.heap.size 9 1 v zs.length ((dsSort zs).map encStr) ∧ (v = .slice none 0 0 ↔ zs = []) ∧ Below w.heap.size w W' := by
  have h1 : 1 ≤ n := by omega
  have hfC : Fence.wide.fn 73 := trivial
  have hfS : Fence.wide.fn 74 := trivial
  refine callsIn_of_wp Try.func70 rfl trivial ?_ rfl
  simp only [Try.ntmps70, List.size_toArray, List.length_cons, List.length_nil, Nat.reduceAdd, Nat.reduceSub, Array.replicate_succ, Array.replicate_zero, List.push_toArray, List.append_toArray, List.nil_append, List.cons_append]
  gi_wp2_with (gi_at_call 73; refine (ds_collect Fence.wide (n - 1) trivial trivial trivial rfl (by omega) Bs sv zs hlen hbytes w hBs hc hI).mono ?_; rintro e W ⟨v, rfl, hrow, hnil, hb⟩)
  rcases hrow.2 with ⟨rfl, hz⟩ | ⟨gb, cap, cur, rfl, hbase, hgb, r1, r2, r3, r4⟩
  · have hss : zs = [] := List.eq_nil_of_length_eq_zero hz
    subst hss
    have cN : CallsIn Fence.wide (n - 1) Try.prog 74 #[.slice none 0 0] W fun e w' => e = .returned (.tuple #[]) ∧ w' = W := callsIn_wide.2 (Any.slices_Sort_string_none lays190 none 0 W)
    gi_wp2_with (gi_at_call 74; refine cN.mono ?_; rintro e w' ⟨rfl, rfl⟩)
    go_ret
    exact ⟨.slice none 0 0, rfl, by simpa [dsSort] using hrow, by simp, hb⟩
  · have hH : Holds encStr W gb 0 zs.toArray := holds_of_block hgb (by simpa using r4)
    have hgl : gb < W.heap.size := (Array.getElem?_eq_some_iff.1 hgb).1
    have cS : CallsIn Fence.wide (n - 1) Try.prog 74 #[.slice (some ⟨gb, 0, none⟩) zs.length cap] W fun e w' => e = .returned (.tuple #[]) ∧ ∃ n os, w' = grow (putRow encStr (Sort.ahead W n) gb 0 (dsSort zs).toArray) os := callsIn_wide.2 (Any.slices_Sort_string lays190 gb 0 cap zs W hH hgl (by omega))
    gi_wp2_with (gi_at_call 74; refine cS.mono ?_; rintro e w' ⟨rfl, nn, os, rfl⟩)
    go_ret
    exact ⟨_, rfl, ownsRow_sorted (by simp [dsSort]) hbase hgb r1 r2 r3, hnil, hb.grown (grownBy_sorted _) hb.size (fun j hj => by cases hj; exact hbase)⟩

set_option maxRecDepth 100000 in
set_option maxHeartbeats 2000000 in
theorem ds_distinct (a : Option Addr) (cap : Nat) (zs : List (List UInt8)) (hlen : zs.length ≤ maxLen) (hbytes : zs.length * 16 ≤ 140737488351232) (w : World) (hI : DsStr w.heap.size w (.slice a zs.length cap) zs) :
    Calls Try.prog 66 #[.slice a zs.length cap] w fun e w' => e = .returned (.bool (decide ((Lib.compact (dsSort zs)).length = zs.length))) ∧ Below w.heap.size w w' := by
  refine (callsIn_wide (n := 9)).1 ?_
  have hfV : Fence.wide.fn 71 := trivial
  have hfS : Fence.wide.fn 70 := trivial
  have hfC : Fence.wide.fn 69 := trivial
  have hB0 : Below w.heap.size w (w.alloc (.cells #[.slice a zs.length cap] 22)) := (Below.refl _ w).alloc (Nat.le_refl _) _
  have cV := ds_values Fence.wide 8 trivial rfl a zs.length cap w
  have cS := ds_sorted 8 (by omega) w.heap.size (.slice a zs.length cap) zs hlen hbytes (w.alloc (.cells #[.slice a zs.length cap] 22)) (by simp) (Boxed.new w 22 (.slice a zs.length cap)).cell (by
    rcases hI.below hB0 with h | ⟨b, off, c, e, hb, h⟩
    · exact .inl h
    · exact .inr ⟨b, off, c, e, by simp; omega, h⟩)
  refine callsIn_of_wp Try.func66 rfl trivial ?_ rfl
  simp only [Try.ntmps66, List.size_toArray, List.length_cons, List.length_nil, Nat.reduceAdd, Nat.reduceSub, Array.replicate_succ, Array.replicate_zero, List.push_toArray, List.append_toArray, List.nil_append, List.cons_append]
  gi_wp2_with (first
    | (gi_at_call 71; refine cV.mono ?_; rintro e w' ⟨rfl, rfl⟩)
    | (gi_at_call 70; refine cS.mono ?_; rintro e W ⟨v, rfl, hrow, hnil, hb⟩))
  have hB1 := hB0.trans (hb.mono (by simp))
  rcases hrow.2 with ⟨rfl, hz⟩ | ⟨gb, cp, cur, rfl, hbase, hgb, r1, r2, r3, r4⟩
  · have hss : zs = [] := List.eq_nil_of_length_eq_zero hz
    subst hss
    have cN : CallsIn Fence.wide 8 Try.prog 69 #[.slice none 0 0] W fun e w' => e = .returned (.slice none 0 0) ∧ w' = W := callsIn_wide.2 (Any.slices_Compact_string_empty lays194 none 0 W)
    gi_wp2_with (gi_at_call 69; refine cN.mono ?_; rintro e w' ⟨rfl, rfl⟩)
    go_ret
    exact ⟨congrArg (fun b => Ending.returned (.bool b)) (by rw [show dsSort [] = [] by simp [dsSort]]; rfl), hB1⟩
  · have hl : (dsSort zs).length = zs.length := by simp [dsSort]
    have hH : Holds encStr W gb 0 (dsSort zs).toArray := holds_of_block hgb (by rw [hl]; simpa using r4)
    have cC : CallsIn Fence.wide 8 Try.prog 69 #[.slice (some ⟨gb, 0, none⟩) (dsSort zs).length cp] W fun e w' => e = .returned (.slice (some ⟨gb, 0, none⟩) (Lib.compact (dsSort zs)).length cp) ∧ ∃ q, w' = putRow encStr (Sort.ahead W q) gb 0 (Lib.compact (dsSort zs) ++ List.replicate ((dsSort zs).length - (Lib.compact (dsSort zs)).length) []).toArray :=
      callsIn_wide.2 (Any.slices_Compact_string lays194 gb 0 cp (dsSort zs) W hH (by rw [hl]; simp [maxLen] at hlen; omega) (by rw [hl]; omega))
    rw [hl] at cC
    gi_wp2_with (gi_at_call 69; refine cC.mono ?_; rintro e w' ⟨rfl, q, rfl⟩)
    have hg := grownBy_sorted (w := W) (g := gb) (n := q) (os := #[]) (Lib.compact (dsSort zs) ++ List.replicate (zs.length - (Lib.compact (dsSort zs)).length) []).toArray
    rw [grow_empty] at hg
    go_ret
    exact ⟨by
      show Ending.returned (Value.bool (((Lib.compact (dsSort zs)).length : Int) == (zs.length : Int))) = _
      congr 2
      rw [Bool.eq_iff_iff, decide_eq_true_iff, beq_iff_eq]
      exact Int.ofNat_inj, hB1.grown hg hB1.size (fun j hj => by cases hj; simp at hbase; omega)⟩
end Go.Proofs.Ytgjihfinbaopcaa
