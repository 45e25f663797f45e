/- Texts for VModuleBytesP. -/
import Derived.RangeFuncBox
import Derived.RangeFuncBound
import Derived.RangeFuncCalls
import Derived.RangeFuncLeaves
import Derived.RangeFuncFrom
import Derived.Shelf.Abstract
import Derived.Shelf.RegionOpen
import Derived.WalkKit
import Derived.OwnWalkIn
import Derived.TacticsInMore
import Derived.LoopNIn
import Derived.LoopIn
import Derived.Maps.AppendAt
import Derived.Sort.KeysCollected
import Derived.Test.YtoccjfeaaaaegaaGreatProg
import Derived.Shelf.Sort.Plain
import Derived.Shelf.Slices.In.SortNone
import Derived.Shelf.Slices.CompactS
import Derived.Sort.OwnSorted
import Derived.Test.YtoccjfeaaaaegaaGreatVp21
namespace Go.Proofs.YtoccjfeaaaaegaaGreat
open Go Go.RowKit
set_option linter.unusedVariables false
set_option linter.unusedSimpArgs false
section
attribute [local irreducible] IntKind.wrap
theorem strE_app (b c : ByteArray) (i j : Nat) : catE b.size (strE b) (strE c) i j = strE (b ++ c) i j := by
  rw [catE_at]
  unfold strE
  rw [ByteArray.data_append, Array.getD_eq_getD_getElem?, Array.getD_eq_getD_getElem?, Array.getD_eq_getD_getElem?, Array.getElem?_append]
  split
  · rename_i h
    rw [if_pos (show i < b.data.size from h)]
  · rename_i h
    rw [if_neg (show ¬ i < b.data.size from h)]
    rfl
theorem strE_appO (b c : ByteArray) : ∀ i j, i < b.size + c.size → j < 1 → OwEq (catE b.size (strE b) (strE c) i j) (strE (b ++ c) i j) := fun i j _ _ => by
  rw [strE_app]
  exact .refl _
theorem size_app (b c : ByteArray) : (b ++ c).size = b.size + c.size := ByteArray.size_append
theorem bytes_strE (b : ByteArray) : Bytes b.size (strE b) := ⟨fun i hi => ⟨_, rfl⟩⟩
theorem bytesOf_strE (b : ByteArray) : bytesOf b.size (strE b) = b := by
  have h : bytesOf b.size (strE b) = bytesOf (bsN b).length (elE u8C (bsN b)) := by
    rw [bsN_len]
    refine bytesOf_eq fun i hi => ?_
    show AV.i .u8 ((b.data.getD i 0).toNat : Int) = _
    rw [← bsN_at]
    rfl
  rw [h, bytesOf_u8, baN_bs]
theorem arr_str {r : List Nat} {n : Nat} {b b' : ByteArray} (e : b' = b) : ArrP r n ⟨1, b'.size, strE b', .arr⟩ ⟨1, b.size, strE b, .arr⟩ := by
  subst e
  exact ⟨rfl, rfl, rfl, fun i j hi hj => rfl, fun i j _ _ => rfl⟩
structure StS where
  k : Nat
  b : ByteArray
structure BbI (l : List Ins) (y : StS) : Prop where
  hk : y.k ≤ l.length
  hb : y.b = baN (lebL l.length ++ (l.take y.k).flatMap Ins.by)
theorem fm_take {α : Type} [Inhabited α] {f : α → List Nat} {l : List α} {k : Nat} (h : k < l.length) : (l.take (k + 1)).flatMap f = (l.take k).flatMap f ++ f (l.getD k default) := by
  rw [List.take_add_one, List.getElem?_eq_getElem h, List.flatMap_append, List.getD_eq_getElem?_getD, List.getElem?_eq_getElem h]
  simp
theorem BbI.zero (l : List Ins) : BbI l ⟨0, baN (lebL l.length)⟩ := ⟨Nat.zero_le _, by simp⟩
theorem BbI.next {l : List Ins} {y : StS} (h : BbI l y) (hk : y.k < l.length) : BbI l ⟨y.k + 1, y.b ++ baN (l.getD y.k default).by⟩ := ⟨hk, by
  dsimp only
  rw [h.hb, baN_app, fm_take hk, List.append_assoc]⟩
theorem BbI.size {l : List Ins} {y : StS} (h : BbI l y) (hl : l.length ≤ 120) : y.b.size ≤ 2000 := by
  have h1 := fm_len (f := Ins.by) (k := 11) (l := l.take y.k) fun x _ => x.by_len
  have h2 := lb_small (n := l.length) (by omega)
  rw [List.length_take] at h1
  rw [h.hb, baN_size, List.length_append]
  omega
theorem BbI.last {l : List Ins} {y : StS} (h : BbI l y) (hk : ¬ (y.k : Int) < (l.length : Int)) : y.b = baN (bodyN l) := by
  have := h.hk
  rw [h.hb, show y.k = l.length by omega, List.take_length]
  rfl
theorem by_size (i : Ins) : (baN i.by).size ≤ 2000 := by
  rw [baN_size]
  have := i.by_len
  omega
theorem ap_cap {a b : Nat} (h : a ≤ 2000) (h' : b ≤ 2000) : (a + b) * 1 ≤ 140737488355328 := by omega
theorem ap_len {a b : Nat} (h : a ≤ 2000) (h' : b ≤ 2000) : a + b ≤ 9223372036854775807 := by omega
set_option maxRecDepth 8000 in
set_option maxHeartbeats 4000000 in
theorem bodyM_spec (l : List Ins) (hl : l.length ≤ 120) (hg : CodeTo l l.length) : RetM env.P 28 [] [slL 2 Ins.cs l] (fun r H => r = .s (baN (bodyN l)) ∧ H = []) := by
  have hP : Ret env.P 25 [.i .i64 (l.length : Int)] (fun r => r = .s (baN (lebL l.length))) := (putLeb_spec l.length (by omega)).toRet
  have hO : ∀ k, k < l.length → Ret env.P 54 [.agg (l.getD k default).cs] (fun r => r = .b true) := fun k hk => by
    have := insOk_spec (l.getD k default)
    rwa [hg.h k hk] at this
  refine ret_ofPM (nt := 33) (rvs := [.tmp 2]) Tryz.func28 rfl rfl rfl rfl (fun X hX => ?_)
  refine pw_cut 3 (fun _ : Unit => True) (fun _ => [(0, slL 2 Ins.cs l), (3, .row 0 (baN (lebL l.length)).size)]) (fun _ => [some ⟨1, (baN (lebL l.length)).size, strE (baN (lebL l.length)), .arr⟩]) ?_ (fun _ _ => ?_)
  · repeat' (first | exact aa | ((conv => whnf) <;> (first | refine And.intro ?_ ?_ | (intro _h; first | contradiction | (try simp only [dd] at _h)) | (refine dt_go ?_) | exact rfl | exact True.intro | exact dkk | exact dks | ((first | refine .inl ⟨_, hP, ?_⟩ | refine ⟨_, hP, ?_⟩); (try rintro _ rfl)) | (refine wrap_succ ?_; omega))))
    all_goals (first | (exfalso; omega) | skip)
    conv => whnf
    refine cut_turn (turn_eq (id := 0) (x := ⟨1, (baN (lebL l.length)).size, strE (baN (lebL l.length)), .arr⟩) rfl rfl rfl rfl rfl (fun i j _ _ => .refl _)) ?_
    exact cut_go () trivial (by repeat' (first | exact trivial | refine And.intro rfl ?_)) (by repeat' (first | exact trivial | refine And.intro (.inl rfl) ?_ | refine And.intro (.inr rfl) ?_ | refine And.intro rfl ?_))
  refine wpc_ok _ _ _ _ ?_
  (try dsimp only)
  conv => whnf
  refine loopFT (fun y : StS => [(4, .i .i64 (y.k : Int)), (3, .row 0 y.b.size)]) (fun y => [some (.arr ⟨1, y.b.size, strE y.b, .arr⟩)]) (fun y => BbI l y) (fun y => l.length - y.k) ⟨0, baN (lebL l.length)⟩ ⟨.zero l, ?_⟩
  repeat' (first | exact aa | ((conv => whnf) <;> (first | exact arr_str rfl | exact ap_cap ((‹BbI l _›).size hl) (by_size _) | exact ap_len ((‹BbI l _›).size hl) (by_size _) | exact bytes_strE _ | refine And.intro ?_ ?_ | (intro _h; first | contradiction | (try simp only [dd] at _h)) | (refine dt_go ?_) | exact rfl | exact True.intro | exact dkk | exact dks | ((first | refine .inl ⟨_, hO _ (by omega), ?_⟩ | refine ⟨_, hO _ (by omega), ?_⟩); (try rintro _ rfl)) | ((first | refine .inl ⟨_, insBytes_spec _, ?_⟩ | refine ⟨_, insBytes_spec _, ?_⟩); (try rintro _ rfl)) | (refine wrap_succ ?_; omega))))
  · rename_i y hy _
    conv => whnf
    refine roundET_turn (turn_eq (id := 1) (x := ⟨1, (y.b ++ baN (l.getD y.k default).by).size, strE (y.b ++ baN (l.getD y.k default).by), .arr⟩) rfl rfl (size_app _ _) rfl rfl (strE_appO _ _)) ?_
    refine roundET_end ?_
    refine ⟨⟨y.k + 1, y.b ++ baN (l.getD y.k default).by⟩, [1], hy.next (by omega), ?_, ?_⟩
    · dsimp only; omega
    repeat' (first | exact aa | ((conv => whnf) <;> (first | exact arr_str rfl | exact (size_app _ _).symm | (have := ‹BbI l _›.hk; exact wrap_in (by omega) (by omega)) | exact lbz_rho hX ‹_› | refine And.intro ?_ ?_ | (intro _h; first | contradiction | (try simp only [dd] at _h)) | (refine dt_go ?_) | exact rfl | exact True.intro | exact dkk | exact dks | (refine wrap_succ ?_; omega))))
  · rename_i y hy
    conv => whnf
    exact endM_pick [] [] (.s _) (view_of rfl .nil) rfl rfl (fun k hk => by rw [hX] at hk; exact absurd hk (Nat.not_lt_zero _)) ⟨congrArg AV.s ((bytesOf_strE _).trans (hy.last _h)), rfl⟩
end
section
open Go Go.RowKit Go.Shelf Go.Maps Go.Sort
attribute [local go_sem] Oper.semAt_some
def dsUp (zs : List (List UInt8)) (k : Nat) : List (List UInt8) := zs.take k
theorem dsUp_succ {zs : List (List UInt8)} {k : Nat} (h : k < zs.length) : dsUp zs (k + 1) = dsUp zs k ++ [zs[k]?.getD []] := by
  unfold dsUp
  rw [List.take_add_one, List.getElem?_eq_getElem h]
  rfl
theorem dsUp_length {zs : List (List UInt8)} {k : Nat} (h : k ≤ zs.length) : (dsUp zs k).length = k := by
  unfold dsUp
  rw [List.length_take]
  omega
set_option maxRecDepth 100000 in
set_option maxHeartbeats 2000000 in
theorem ds_values1 (F : Fence) (n : Nat) (h7 : F.fn 92) (hro : F.round = none) (hn : 1 ≤ n) (l Bs n₀ b off cap : Nat) (zs : List (List UInt8)) (hreach : zs.length * 16 ≤ 140737488351232) (hb : b < n₀) (J Jx : List (List UInt8) → World → Prop)
    (hY : ∀ pre x W, J pre W → pre.length < zs.length → YieldAt F (n - 1) Tryz.prog l #[encStr x] W fun e W' =>
      (e = .returned (.bool true) ∧ J (pre ++ [x]) W' ∧ Below n₀ W W') ∨ (e = .returned (.bool false) ∧ Jx (pre ++ [x]) W'))
    (W : World) (hBs : W.cell? ⟨Bs, 0, none⟩ = some (.slice (some ⟨b, off, none⟩) zs.length cap)) (hc : ∀ j, j < zs.length → W.cell? ⟨b, off + j, none⟩ = some (encStr (zs[j]?.getD []))) (h0 : J [] W) :
    CallsIn F n Tryz.prog 92 #[.func (.yield l) #[] #[], .pointer (some ⟨Bs, 0, none⟩)] W fun e W' => (∃ v, e = .returned v) ∧
      ((∃ ys, ys = zs ∧ J ys W') ∨ (∃ pre, pre <+: zs ∧ Jx pre W')) := by
  refine callsIn_of_wp Tryz.func92 rfl h7 ?_ hro
  simp only [Tryz.ntmps92, List.size_toArray, List.length_cons, List.length_nil, Nat.reduceAdd, Nat.reduceSub, Array.replicate_succ, Array.replicate_zero, List.push_toArray, List.append_toArray, List.nil_append, List.cons_append]
  gi_wp2
  gi_loopw [7] (fun i wr => ∃ k : Nat, k ≤ zs.length ∧ i = .int .i64 k ∧ J (dsUp zs k) wr ∧ Below n₀ W wr)
    (fun i _ => zs.length - (intOf i).toNat)
  case atStart => exact ⟨0, Nat.zero_le _, rfl, h0, Below.refl _ _⟩
  case round =>
    obtain ⟨k, hk, rfl, hJs, hnx⟩ := hrel
    have hcx : k < zs.length → wr.cell? ⟨b, off + k, none⟩ = some (encStr (zs[k]?.getD [])) := fun h => (hnx.cell (p := ⟨b, off + k, none⟩) hb).trans (hc k h)
    by_cases hlt : k < zs.length
    · obtain ⟨fn, tmps, assign, body, hy, hR⟩ := hY _ (zs[k]?.getD []) wr hJs (by rw [dsUp_length hk]; exact hlt)
      have hcx' := hcx hlt
      have hup := dsUp_succ hlt
      clear hcx hc
      generalize zs[k]?.getD [] = x at hcx' hy hR hup
      gi_wp2
      refine hR.mono ?_
      rintro e W3 (⟨rfl, hJ3, hk3⟩ | ⟨rfl, hJx3⟩)
      · gi_wp2
        go_roundw
        case rel => exact ⟨k + 1, by omega, by simp, by rw [hup]; exact hJ3, hnx.trans hk3⟩
        case measure => simp [intOf]; omega
      · gi_wp2
        refine bodyPost_ret (results_none rfl _ _ _) rfl ?_
        exact ⟨⟨_, rfl⟩, .inr ⟨_, by rw [← hup]; exact List.take_prefix _ _, hJx3⟩⟩
    · obtain rfl : k = zs.length := by omega
      gi_wp2
      go_end0
      exact ⟨⟨_, rfl⟩, .inl ⟨_, by unfold dsUp; rw [List.take_length], hJs⟩⟩
def DsStr (n₀ : Nat) (W : World) (sv : Value) (zs : List (List UInt8)) : Prop :=
  (∃ a cap, sv = .slice a 0 cap ∧ zs = []) ∨ ∃ b off cap, sv = .slice (some ⟨b, off, none⟩) zs.length cap ∧ b < n₀ ∧ ∀ j, j < zs.length → W.cell? ⟨b, off + j, none⟩ = some (encStr (zs[j]?.getD []))
theorem DsStr.below {n₀ : Nat} {A B : World} (h : Below n₀ A B) {sv : Value} {zs : List (List UInt8)} : DsStr n₀ A sv zs → DsStr n₀ B sv zs
  | .inl e => .inl e
  | .inr ⟨b, off, cap, e, hb, hc⟩ => .inr ⟨b, off, cap, e, hb, fun j hj => (h.cell (p := ⟨b, off + j, none⟩) hb).trans (hc j hj)⟩
set_option maxRecDepth 100000 in
set_option maxHeartbeats 1000000 in
theorem ds_values1_nil (F : Fence) (n : Nat) (h7 : F.fn 92) (hro : F.round = none) (l Bs : Nat) (a : Option Addr) (cap : Nat) (J : List (List UInt8) → World → Prop) (W : World) (hBs : W.cell? ⟨Bs, 0, none⟩ = some (.slice a 0 cap)) (h0 : J [] W) :
    CallsIn F n Tryz.prog 92 #[.func (.yield l) #[] #[], .pointer (some ⟨Bs, 0, none⟩)] W fun e W' => (∃ v, e = .returned v) ∧ J [] W' := by
  refine callsIn_of_wp Tryz.func92 rfl h7 ?_ hro
  simp only [Tryz.ntmps92, List.size_toArray, List.length_cons, List.length_nil, Nat.reduceAdd, Nat.reduceSub, Array.replicate_succ, Array.replicate_zero, List.push_toArray, List.append_toArray, List.nil_append, List.cons_append]
  gi_wp2
  gi_loopw [7] (fun i wr => i = .int .i64 0 ∧ J [] wr) (fun _ _ => 0)
  case atStart => exact ⟨rfl, h0⟩
  case round =>
    obtain ⟨rfl, hJs⟩ := hrel
    gi_wp2
    go_end0
    exact ⟨⟨_, rfl⟩, hJs⟩
set_option maxHeartbeats 1000000 in
theorem ds_values (F : Fence) (n : Nat) (h5 : F.fn 79) (hro : F.round = none) (a : Option Addr) (len cap : Nat) (w : World) :
    CallsIn F n Tryz.prog 79 #[.slice a len cap] w fun e w' => e = .returned (.func (.func 92) #[] #[.pointer (some ⟨w.heap.size, 0, none⟩)]) ∧ w' = w.alloc (.cells #[.slice a len cap] 67) := by
  refine callsIn_of_wp Tryz.func79 rfl h5 ?_ hro
  simp only [Tryz.ntmps79, List.size_toArray, List.length_cons, List.length_nil, Nat.reduceAdd, Nat.reduceSub, Array.replicate_succ, Array.replicate_zero, List.push_toArray, List.append_toArray, List.nil_append, List.cons_append]
  gi_wp2
  go_ret
  exact ⟨rfl, rfl⟩
theorem ds_stops (F : Fence) (n : Nat) (h7 : F.fn 92) (hro : F.round = none) (hn : 1 ≤ n) (Bs n₀ : Nat) (sv : Value) (zs : List (List UInt8)) (hreach : zs.length * 16 ≤ 140737488351232) (w : World) (hBs : Bs < w.heap.size) (hn₀ : n₀ ≤ w.heap.size)
    (hc : w.cell? ⟨Bs, 0, none⟩ = some sv) (hI : DsStr n₀ w sv zs) :
    SeqStopsK F n Tryz.prog 92 #[.pointer (some ⟨Bs, 0, none⟩)] (fun x : List UInt8 => #[encStr x]) (Below n₀) (fun ys => ys = zs) (fun pre => pre <+: zs) zs.length w := fun l J Jx W hW _ _ hY h0 => by
  have hc' := (hW.cell (p := ⟨Bs, 0, none⟩) hBs).trans hc
  rcases hI.below (hW.mono hn₀) with ⟨a, cap, rfl, rfl⟩ | ⟨b, off, cap, rfl, hb, hcs⟩
  · exact (ds_values1_nil F n h7 hro l Bs a cap J W hc' h0).mono fun e W' ⟨he, hj⟩ => ⟨he, .inl ⟨_, rfl, hj⟩⟩
  · exact ds_values1 F n h7 hro hn l Bs n₀ b off cap zs hreach hb J Jx hY W hc' hcs h0
end
section
open Go Go.RowKit Go.Shelf Go.Maps Go.Sort
attribute [local go_sem] Oper.semAt_some
theorem ds_info : (Tryz.prog.info? 9).map (fun i => (i.zero, i.size, i.bytes)) = some (some (.string .empty), 1, 16) := by kernel_rfl
set_option maxRecDepth 100000 in
set_option maxHeartbeats 2000000 in
theorem ds_append (F : Fence) (n : Nat) (h3 : F.fn 95) (h5 : F.fn 92) (hro : F.round = none) (hn : 3 ≤ n) (Bs : Nat) (sv : Value) (zs : List (List UInt8)) (hlen : zs.length ≤ maxLen) (hbytes : zs.length * 16 ≤ 140737488351232) (w : World)
    (hBs : Bs < w.heap.size) (hc : w.cell? ⟨Bs, 0, none⟩ = some sv) (hI : DsStr w.heap.size w sv zs) :
    CallsIn F n Tryz.prog 95 #[.slice none 0 0, .func (.func 92) #[] #[.pointer (some ⟨Bs, 0, none⟩)]] w fun e W' => ∃ v, e = .returned v ∧ W'.ownsRow w.heap.size 9 1 v zs.length (zs.map encStr) ∧ (v = .slice none 0 0 ↔ zs = []) ∧ Below w.heap.size w W' := by
  have h1 : 1 ≤ n := by omega
  obtain ⟨i0, hi, hz0, hz1, hz2⟩ := info_parts ds_info
  refine callsIn_of_wp_marks Tryz.func95 rfl h3 ?_ hro
  simp only [Tryz.ntmps95, List.size_toArray, List.length_cons, List.length_nil, Nat.reduceAdd, Nat.reduceSub, Array.replicate_succ, Array.replicate_zero, List.push_toArray, List.append_toArray, List.nil_append, List.cons_append]
  gi_wp2
  have bO := Boxed.new w 67 (.slice none 0 0)
  have hB0 : Below w.heap.size w (w.alloc (.cells #[.slice none 0 0] 67)) := (Below.refl _ w).alloc (Nat.le_refl _) _
  refine wpIn_rangeFunc_ownF hro h1 (gf := 92) (lb := #[.pointer (some ⟨Bs, 0, none⟩)]) rfl h5 (enters_of Tryz.func92 (by kernel_rfl) rfl)
    (ds_stops F (n - 1) h5 hro (by omega) Bs w.heap.size sv zs hbytes _ (by simp; omega) (by simp) ((hB0.cell (p := ⟨Bs, 0, none⟩) hBs).trans hc) (hI.below hB0)) belowK_t (belowK_b (by simp)) (Below.refl _ _) (fun _ => rfl)
    (fun pre W => (∃ v, Boxed W w.heap.size 67 v ∧ W.ownsRow w.heap.size 9 1 v pre.length (pre.map encStr) ∧ (v = .slice none 0 0 ↔ pre = [])) ∧ Below w.heap.size w W)
    (fun _ _ _ => False)
    (OwnFrom.and (Own.from (holdsRow_own w.heap.size w.heap.size 67 9 1 (fun pre => pre.length) (fun pre => pre.map encStr) (fun pre v => v = .slice none 0 0 ↔ pre = [])) _) (ownFrom_below (Nat.le_refl _) (by simp)))
    (fun _ _ _ _ _ hs _ _ => hs)
    ⟨⟨_, bO, World.ownsRow_nil _ _ _ _, by simp⟩, hB0⟩
    (fun x => { tmps := #[.slice none 0 0, .func (.func 92) #[] #[.pointer (some ⟨Bs, 0, none⟩)], .pointer (some ⟨w.heap.size, 0, none⟩), undef, .slice none 0 0, encStr x, .func (.func 92) #[] #[.pointer (some ⟨Bs, 0, none⟩)], encStr x, undef, undef, undef, undef, undef], defers := [] }) ?assign ?body ?done ?stop
  case assign =>
    intro l x W K hK
    gi_wp2
    exact hK
  case body =>
    rintro l pre x W ⟨⟨v, hv, hrow, hnil⟩, hB⟩ hlt
    have hc := hv.cell
    gi_wp2_with (gi_at_builtin; refine wpListIn_append_own _ rfl _ _ 67 rfl w.heap.size 9 i0 (.string .empty) 1 16 Tryz.underlying67 hi hz0 hz1 hz2 rfl (by decide) _ _ _ rfl (hrow.alloc _) ⟨W.heap.size, 0, none⟩ 1 1 [encStr x] rfl rfl (cell_one_new _ _ _) (by simp [Value.oneCell', encStr]) (by omega) (by omega) (by have := hB.size; simp; omega) ?_; intro v' w1 hown' hgrow _; obtain ⟨g', cap', rfl⟩ := ownsRow_succ hown'; obtain ⟨hv1, hv2, hr2, hk2, hb2⟩ := hv.appended (by decide) hrow hB.size (Nat.le_refl _) hown' hgrow; have hc1 := hv1.cell; have hf1 := hv1.frozen)
    exact ⟨hk2, hb2, ⟨_, hv2, by simpa using hr2, by simp⟩, hB.trans hb2⟩
  case done =>
    rintro D ys W hD rfl ⟨⟨v, hv, hrow, hnil⟩, hB⟩ hK
    have hc := hv.cell
    gi_wp2
    refine ⟨by simp, .inl ⟨_, _, rfl, run_takeDeferred hK, ?_⟩⟩
    exact ⟨_, results_tmp rfl _ _ _, v, rfl, ownsRow_putObj hrow _ hK rfl, hnil, hB.trans (belowK_b (w := w) (Nat.le_refl _) W D _ _ (by simp at hD; omega) hK rfl rfl)⟩
  case stop =>
    rintro D c pre W _ _ h _
    exact h.elim
set_option maxRecDepth 100000 in
set_option maxHeartbeats 1000000 in
theorem ds_collect (F : Fence) (n : Nat) (h90 : F.fn 90) (h3 : F.fn 95) (h5 : F.fn 92) (hro : F.round = none) (hn : 4 ≤ n) (Bs : Nat) (sv : Value) (zs : List (List UInt8)) (hlen : zs.length ≤ maxLen) (hbytes : zs.length * 16 ≤ 140737488351232) (w : World)
    (hBs : Bs < w.heap.size) (hc : w.cell? ⟨Bs, 0, none⟩ = some sv) (hI : DsStr w.heap.size w sv zs) :
    CallsIn F n Tryz.prog 90 #[.func (.func 92) #[] #[.pointer (some ⟨Bs, 0, none⟩)]] w fun e W' => ∃ v, e = .returned v ∧ W'.ownsRow w.heap.size 9 1 v zs.length (zs.map encStr) ∧ (v = .slice none 0 0 ↔ zs = []) ∧ Below w.heap.size w W' := by
  have h1 : 1 ≤ n := by omega
  refine callsIn_of_wp Tryz.func90 rfl h90 ?_ hro
  simp only [Tryz.ntmps90, List.size_toArray, List.length_cons, List.length_nil, Nat.reduceAdd, Nat.reduceSub, Array.replicate_succ, Array.replicate_zero, List.push_toArray, List.append_toArray, List.nil_append, List.cons_append]
  gi_wp2_with (gi_at_call 95; refine (ds_append F (n - 1) h3 h5 hro (by omega) Bs sv zs hlen hbytes w hBs hc hI).mono ?_; rintro e W ⟨v, rfl, hrow, hnil, hb⟩)
  go_ret
  exact ⟨v, rfl, hrow, hnil, hb⟩
end
section
open Go Go.Shelf
def lays190_ren : Go.Shelf.Ren := ⟨fun | 190 => 91 | 125 => 97 | 258 => 96 | 128 => 109 | 129 => 110 | 302 => 100 | 303 => 101 | 304 => 102 | 305 => 103 | 306 => 104 | 307 => 105 | 308 => 106 | 309 => 107 | 310 => 108 | 333 => 111 | 329 => 112 | 330 => 113 | 334 => 114 | 335 => 115 | 336 => 116 | 344 => 117 | n => n, fun | 31 => 67 | 9 => 9 | 3 => 3 | 46 => 90 | 0 => 0 | 51 => 136 | 53 => 138 | 4 => 4 | 183 => 128 | 182 => 127 | 131 => 133 | 5 => 5 | 218 => 139 | 222 => 143 | 228 => 145 | 229 => 146 | n => n, fun | n => n⟩
theorem lays190 : Lays.n190 Tryz.prog lays190_ren := {
  mixed := by kernel_rfl,
  f125 := Tryz.func97.trans (congrArg some (by kernel_rfl)),
  f128 := Tryz.func109.trans (congrArg some (by kernel_rfl)),
  f129 := Tryz.func110.trans (congrArg some (by kernel_rfl)),
  f190 := Tryz.func91.trans (congrArg some (by kernel_rfl)),
  f258 := Tryz.func96.trans (congrArg some (by kernel_rfl)),
  f302 := Tryz.func100.trans (congrArg some (by kernel_rfl)),
  f303 := Tryz.func101.trans (congrArg some (by kernel_rfl)),
  f304 := Tryz.func102.trans (congrArg some (by kernel_rfl)),
  f305 := Tryz.func103.trans (congrArg some (by kernel_rfl)),
  f306 := Tryz.func104.trans (congrArg some (by kernel_rfl)),
  f307 := Tryz.func105.trans (congrArg some (by kernel_rfl)),
  f308 := Tryz.func106.trans (congrArg some (by kernel_rfl)),
  f309 := Tryz.func107.trans (congrArg some (by kernel_rfl)),
  f310 := Tryz.func108.trans (congrArg some (by kernel_rfl)),
  f329 := Tryz.func112.trans (congrArg some (by kernel_rfl)),
  f330 := Tryz.func113.trans (congrArg some (by kernel_rfl)),
  f333 := Tryz.func111.trans (congrArg some (by kernel_rfl)),
  f334 := Tryz.func114.trans (congrArg some (by kernel_rfl)),
  f335 := Tryz.func115.trans (congrArg some (by kernel_rfl)),
  f336 := Tryz.func116.trans (congrArg some (by kernel_rfl)),
  f344 := Tryz.func117.trans (congrArg some (by kernel_rfl)),
  t0 := Tryz.underlying0,
  a0 := Tryz.isAgg0,
  z0 := Tryz.sizeOf0,
  v0 := Tryz.zeroValue0,
  t3 := Tryz.underlying3,
  a3 := Tryz.isAgg3,
  z3 := Tryz.sizeOf3,
  v3 := Tryz.zeroValue3,
  t4 := Tryz.underlying4,
  a4 := Tryz.isAgg4,
  z4 := Tryz.sizeOf4,
  v4 := Tryz.zeroValue4,
  t5 := Tryz.underlying5,
  a5 := Tryz.isAgg5,
  z5 := Tryz.sizeOf5,
  v5 := Tryz.zeroValue5,
  t9 := Tryz.underlying9,
  a9 := Tryz.isAgg9,
  z9 := Tryz.sizeOf9,
  v9 := Tryz.zeroValue9,
  t31 := Tryz.underlying67,
  a31 := Tryz.isAgg67,
  z31 := Tryz.sizeOf67,
  v31 := Tryz.zeroValue67,
  t46 := Tryz.underlying90,
  a46 := Tryz.isAgg90,
  z46 := Tryz.sizeOf90,
  v46 := Tryz.zeroValue90,
  t51 := Tryz.underlying136,
  a51 := Tryz.isAgg136,
  z51 := Tryz.sizeOf136,
  v51 := Tryz.zeroValue136,
  t53 := Tryz.underlying138,
  a53 := Tryz.isAgg138,
  z53 := Tryz.sizeOf138,
  v53 := Tryz.zeroValue138,
  t131 := Tryz.underlying133,
  a131 := Tryz.isAgg133,
  z131 := Tryz.sizeOf133,
  v131 := Tryz.zeroValue133,
  t182 := Tryz.underlying127,
  a182 := Tryz.isAgg127,
  z182 := Tryz.sizeOf127,
  v182 := Tryz.zeroValue127,
  t183 := Tryz.underlying128,
  a183 := Tryz.isAgg128,
  z183 := Tryz.sizeOf128,
  v183 := Tryz.zeroValue128,
  t218 := Tryz.underlying139,
  a218 := Tryz.isAgg139,
  z218 := Tryz.sizeOf139,
  v218 := Tryz.zeroValue139,
  t222 := Tryz.underlying143,
  a222 := Tryz.isAgg143,
  z222 := Tryz.sizeOf143,
  v222 := Tryz.zeroValue143,
  t228 := Tryz.underlying145,
  a228 := Tryz.isAgg145,
  z228 := Tryz.sizeOf145,
  v228 := Tryz.zeroValue145,
  t229 := Tryz.underlying146,
  a229 := Tryz.isAgg146,
  z229 := Tryz.sizeOf146,
  v229 := Tryz.zeroValue146 }
def lays194_ren : Go.Shelf.Ren := ⟨fun | 194 => 77 | n => n, fun | 31 => 67 | 9 => 9 | 3 => 3 | 4 => 4 | 0 => 0 | n => n, fun | n => n⟩
theorem lays194 : Lays.n194 Tryz.prog lays194_ren := {
  mixed := by kernel_rfl,
  f194 := Tryz.func77.trans (congrArg some (by kernel_rfl)),
  t0 := Tryz.underlying0,
  a0 := Tryz.isAgg0,
  z0 := Tryz.sizeOf0,
  v0 := Tryz.zeroValue0,
  t3 := Tryz.underlying3,
  a3 := Tryz.isAgg3,
  z3 := Tryz.sizeOf3,
  v3 := Tryz.zeroValue3,
  t4 := Tryz.underlying4,
  a4 := Tryz.isAgg4,
  z4 := Tryz.sizeOf4,
  v4 := Tryz.zeroValue4,
  t9 := Tryz.underlying9,
  a9 := Tryz.isAgg9,
  z9 := Tryz.sizeOf9,
  v9 := Tryz.zeroValue9,
  t31 := Tryz.underlying67,
  a31 := Tryz.isAgg67,
  z31 := Tryz.sizeOf67,
  v31 := Tryz.zeroValue67 }
end
section
open Go Go.RowKit Go.Shelf Go.Maps Go.Sort
attribute [local go_sem] Oper.semAt_some
def dsSort (zs : List (List UInt8)) : List (List UInt8) := zs.mergeSort fun x y => decide (x ≤ y)
set_option maxRecDepth 100000 in
set_option maxHeartbeats 1000000 in
theorem ds_sorted (n : Nat) (hn : 5 ≤ n) (Bs : Nat) (sv : Value) (zs : List (List UInt8)) (hlen : zs.length ≤ maxLen) (hbytes : zs.length * 16 ≤ 140737488351232) (w : World)
    (hBs : Bs < w.heap.size) (hc : w.cell? ⟨Bs, 0, none⟩ = some sv) (hI : DsStr w.heap.size w sv zs) :
    CallsIn Fence.wide n Tryz.prog 78 #[.func (.func 92) #[] #[.pointer (some ⟨Bs, 0, none⟩)]] w fun e W' => ∃ v, e = .returned v ∧ W'.ownsRow w.heap.size 9 1 v zs.length ((dsSort zs).map encStr) ∧ (v = .slice none 0 0 ↔ zs = []) ∧ Below w.heap.size w W' := by
  have h1 : 1 ≤ n := by omega
  have hfC : Fence.wide.fn 90 := trivial
  have hfS : Fence.wide.fn 91 := trivial
  refine callsIn_of_wp Tryz.func78 rfl trivial ?_ rfl
  simp only [Tryz.ntmps78, List.size_toArray, List.length_cons, List.length_nil, Nat.reduceAdd, Nat.reduceSub, Array.replicate_succ, Array.replicate_zero, List.push_toArray, List.append_toArray, List.nil_append, List.cons_append]
  gi_wp2_with (gi_at_call 90; refine (ds_collect Fence.wide (n - 1) trivial trivial trivial rfl (by omega) Bs sv zs hlen hbytes w hBs hc hI).mono ?_; rintro e W ⟨v, rfl, hrow, hnil, hb⟩)
  rcases hrow.2 with ⟨rfl, hz⟩ | ⟨gb, cap, cur, rfl, hbase, hgb, r1, r2, r3, r4⟩
  · have hss : zs = [] := List.eq_nil_of_length_eq_zero hz
    subst hss
    have cN : CallsIn Fence.wide (n - 1) Tryz.prog 91 #[.slice none 0 0] W fun e w' => e = .returned (.tuple #[]) ∧ w' = W := callsIn_wide.2 (Any.slices_Sort_string_none lays190 none 0 W)
    gi_wp2_with (gi_at_call 91; refine cN.mono ?_; rintro e w' ⟨rfl, rfl⟩)
    go_ret
    exact ⟨.slice none 0 0, rfl, by simpa [dsSort] using hrow, by simp, hb⟩
  · have hH : Holds encStr W gb 0 zs.toArray := holds_of_block hgb (by simpa using r4)
    have hgl : gb < W.heap.size := (Array.getElem?_eq_some_iff.1 hgb).1
    have cS : CallsIn Fence.wide (n - 1) Tryz.prog 91 #[.slice (some ⟨gb, 0, none⟩) zs.length cap] W fun e w' => e = .returned (.tuple #[]) ∧ ∃ n os, w' = grow (putRow encStr (Sort.ahead W n) gb 0 (dsSort zs).toArray) os := callsIn_wide.2 (Any.slices_Sort_string lays190 gb 0 cap zs W hH hgl (by omega))
    gi_wp2_with (gi_at_call 91; refine cS.mono ?_; rintro e w' ⟨rfl, nn, os, rfl⟩)
    go_ret
    exact ⟨_, rfl, ownsRow_sorted (by simp [dsSort]) hbase hgb r1 r2 r3, hnil, hb.grown (grownBy_sorted _) hb.size (fun j hj => by cases hj; exact hbase)⟩
set_option maxRecDepth 100000 in
set_option maxHeartbeats 2000000 in
theorem ds_distinct (a : Option Addr) (cap : Nat) (zs : List (List UInt8)) (hlen : zs.length ≤ maxLen) (hbytes : zs.length * 16 ≤ 140737488351232) (w : World) (hI : DsStr w.heap.size w (.slice a zs.length cap) zs) :
    Calls Tryz.prog 60 #[.slice a zs.length cap] w fun e w' => e = .returned (.bool (decide ((Lib.compact (dsSort zs)).length = zs.length))) ∧ Below w.heap.size w w' := by
  refine (callsIn_wide (n := 9)).1 ?_
  have hfV : Fence.wide.fn 79 := trivial
  have hfS : Fence.wide.fn 78 := trivial
  have hfC : Fence.wide.fn 77 := trivial
  have hB0 : Below w.heap.size w (w.alloc (.cells #[.slice a zs.length cap] 67)) := (Below.refl _ w).alloc (Nat.le_refl _) _
  have cV := ds_values Fence.wide 8 trivial rfl a zs.length cap w
  have cS := ds_sorted 8 (by omega) w.heap.size (.slice a zs.length cap) zs hlen hbytes (w.alloc (.cells #[.slice a zs.length cap] 67)) (by simp) (Boxed.new w 67 (.slice a zs.length cap)).cell (by
    rcases hI.below hB0 with h | ⟨b, off, c, e, hb, h⟩
    · exact .inl h
    · exact .inr ⟨b, off, c, e, by simp; omega, h⟩)
  refine callsIn_of_wp Tryz.func60 rfl trivial ?_ rfl
  simp only [Tryz.ntmps60, List.size_toArray, List.length_cons, List.length_nil, Nat.reduceAdd, Nat.reduceSub, Array.replicate_succ, Array.replicate_zero, List.push_toArray, List.append_toArray, List.nil_append, List.cons_append]
  gi_wp2_with (first
    | (gi_at_call 79; refine cV.mono ?_; rintro e w' ⟨rfl, rfl⟩)
    | (gi_at_call 78; refine cS.mono ?_; rintro e W ⟨v, rfl, hrow, hnil, hb⟩))
  have hB1 := hB0.trans (hb.mono (by simp))
  rcases hrow.2 with ⟨rfl, hz⟩ | ⟨gb, cp, cur, rfl, hbase, hgb, r1, r2, r3, r4⟩
  · have hss : zs = [] := List.eq_nil_of_length_eq_zero hz
    subst hss
    have cN : CallsIn Fence.wide 8 Tryz.prog 77 #[.slice none 0 0] W fun e w' => e = .returned (.slice none 0 0) ∧ w' = W := callsIn_wide.2 (Any.slices_Compact_string_empty lays194 none 0 W)
    gi_wp2_with (gi_at_call 77; refine cN.mono ?_; rintro e w' ⟨rfl, rfl⟩)
    go_ret
    exact ⟨congrArg (fun b => Ending.returned (.bool b)) (by rw [show dsSort [] = [] by simp [dsSort]]; rfl), hB1⟩
  · have hl : (dsSort zs).length = zs.length := by simp [dsSort]
    have hH : Holds encStr W gb 0 (dsSort zs).toArray := holds_of_block hgb (by rw [hl]; simpa using r4)
    have cC : CallsIn Fence.wide 8 Tryz.prog 77 #[.slice (some ⟨gb, 0, none⟩) (dsSort zs).length cp] W fun e w' => e = .returned (.slice (some ⟨gb, 0, none⟩) (Lib.compact (dsSort zs)).length cp) ∧ ∃ q, w' = putRow encStr (Sort.ahead W q) gb 0 (Lib.compact (dsSort zs) ++ List.replicate ((dsSort zs).length - (Lib.compact (dsSort zs)).length) []).toArray :=
      callsIn_wide.2 (Any.slices_Compact_string lays194 gb 0 cp (dsSort zs) W hH (by rw [hl]; simp [maxLen] at hlen; omega) (by rw [hl]; omega))
    rw [hl] at cC
    gi_wp2_with (gi_at_call 77; refine cC.mono ?_; rintro e w' ⟨rfl, q, rfl⟩)
    have hg := grownBy_sorted (w := W) (g := gb) (n := q) (os := #[]) (Lib.compact (dsSort zs) ++ List.replicate (zs.length - (Lib.compact (dsSort zs)).length) []).toArray
    rw [grow_empty] at hg
    go_ret
    exact ⟨by
      show Ending.returned (Value.bool (((Lib.compact (dsSort zs)).length : Int) == (zs.length : Int))) = _
      congr 2
      rw [Bool.eq_iff_iff, decide_eq_true_iff, beq_iff_eq]
      exact Int.ofNat_inj, hB1.grown hg hB1.size (fun j hj => by cases hj; simp at hbase; omega)⟩
end
section
open Go Go.RowKit Go.Shelf
theorem keeps_all {α : Type} [Inhabited α] [DecidableEq α] {d : Array α} {m : Nat} (h : (Lib.compactUpTo d m).length = m) : ∀ j, j < m → Lib.keeps d j = true := by
  unfold Lib.compactUpTo at h
  rw [List.length_map] at h
  have h2 : ((List.range m).filter (Lib.keeps d)).length = (List.range m).length := by rw [h, List.length_range]
  have h3 := List.length_filter_eq_length_iff.1 h2
  exact fun j hj => h3 j (List.mem_range.2 hj)
theorem dsSort_perm (zs : List (List UInt8)) : (dsSort zs).Perm zs := List.mergeSort_perm _ _
theorem dsSort_le (zs : List (List UInt8)) : (dsSort zs).Pairwise (fun a b => decide (a ≤ b) = true) := by
  refine List.pairwise_mergeSort (fun a b c h1 h2 => ?_) (fun a b => ?_) zs
  · simp only [decide_eq_true_eq] at *
    exact List.le_trans h1 h2
  · simp only [Bool.or_eq_true, decide_eq_true_eq]
    exact List.le_total a b
theorem nodup_keeps {l : List (List UInt8)} (h : l.Nodup) : ∀ j, j < l.length → Lib.keeps l.toArray j = true := by
  intro j hj
  unfold Lib.keeps
  rw [decide_eq_true_iff]
  by_cases h0 : j = 0
  · exact .inl h0
  · refine .inr fun e => ?_
    have hj1 : j - 1 < l.length := by omega
    rw [getElem!_pos l.toArray j (by simpa using hj), getElem!_pos l.toArray (j - 1) (by simpa using hj1), List.getElem_toArray, List.getElem_toArray] at e
    exact List.pairwise_iff_getElem.1 h (j - 1) j hj1 hj (by omega) e.symm
theorem keeps_nodup : ∀ {l : List (List UInt8)}, l.Pairwise (fun a b => decide (a ≤ b) = true) → (∀ j, j < l.length → Lib.keeps l.toArray j = true) → l.Nodup := by
  intro l hs hk
  refine List.pairwise_iff_getElem.2 fun i j hi hj hij e => ?_
  have hk1 := hk (i + 1) (by omega)
  unfold Lib.keeps at hk1
  rw [decide_eq_true_iff] at hk1
  have hi1 : i + 1 < l.length := by omega
  rcases hk1 with h | h
  · omega
  · rw [show i + 1 - 1 = i by omega, getElem!_pos l.toArray (i + 1) (by simpa using hi1), getElem!_pos l.toArray i (by simpa using hi), List.getElem_toArray, List.getElem_toArray] at h
    have hp := List.pairwise_iff_getElem.1 hs
    have h1 := of_decide_eq_true (hp i (i + 1) hi hi1 (by omega))
    have h2 : l[i + 1] ≤ l[j] := by
      rcases Nat.lt_or_ge (i + 1) j with q | q
      · exact of_decide_eq_true (hp (i + 1) j hi1 hj q)
      · have : i + 1 = j := by omega
        subst this
        exact List.le_refl _
    rw [← e] at h2
    exact h (List.le_antisymm h2 h1)
theorem ds_iff (zs : List (List UInt8)) : (Lib.compact (dsSort zs)).length = zs.length ↔ zs.Nodup := by
  have hl : (dsSort zs).length = zs.length := (dsSort_perm zs).length_eq
  constructor
  · intro h
    refine (dsSort_perm zs).nodup_iff.1 (keeps_nodup (dsSort_le zs) (keeps_all ?_))
    rw [hl]
    unfold Lib.compact at h
    rw [hl] at h
    exact h
  · intro h
    rw [Lib.compact_all _ (nodup_keeps ((dsSort_perm zs).nodup_iff.2 h)), hl]
def byL (s : ByteArray) : List UInt8 := s.data.toList
theorem byL_inj {s t : ByteArray} (h : byL s = byL t) : s = t := ByteArray.ext (Array.ext' h)
theorem byL_nodup (l : List ByteArray) : (l.map byL).Nodup ↔ l.Nodup := by
  refine ⟨fun h => List.Pairwise.of_map byL (fun a b hab e => hab (congrArg byL e)) h, fun h => ?_⟩
  exact List.Pairwise.map byL (fun a b hab e => hab (byL_inj e)) h
theorem dsStr_of {w : World} {S : Nat → Prop} {l : List ByteArray} {u : Value} (hS : ∀ b, S b → b < w.heap.size) (h : Conc w S (fun _ => ⟨0, 0⟩) [] (slL 1 strC l) u) :
    ∃ a cap, u = .slice a (l.map byL).length cap ∧ DsStr w.heap.size w (.slice a (l.map byL).length cap) (l.map byL) := by
  rw [List.length_map]
  rcases Nat.eq_zero_or_pos l.length with h0 | h0
  · obtain ⟨a, cap, rfl, _⟩ := sl_form h
    have hl : l = [] := List.eq_nil_of_length_eq_zero h0
    subst hl
    exact ⟨a, cap, rfl, .inl ⟨a, cap, rfl, rfl⟩⟩
  · obtain ⟨b, o, cap, U, rfl, hb, _, _, hc, hu, _⟩ := inv_sl h h0
    refine ⟨_, cap, rfl, .inr ⟨b, o, cap, by rw [List.length_map], hS b hb, fun j hj => ?_⟩⟩
    rw [List.length_map] at hj
    have h1 := hc j 0 hj Nat.zero_lt_one
    have h2 := inv_s (hu j 0 hj Nat.zero_lt_one)
    rw [show o + j * 1 + 0 = o + j by omega] at h1
    rw [h1, h2.1]
    show some (Value.string (l.getD j default)) = some (encStr (((l.map byL)[j]?).getD []))
    rw [List.getElem?_map, List.getD_eq_getElem?_getD, List.getElem?_eq_getElem hj]
    rfl
theorem distinct_impl (l : List ByteArray) (hl : l.length ≤ 1048576) : Ret env.P 60 [slL 1 strC l] (fun r => r = .b (decide l.Nodup)) := .mk fun w S us hS hc => by
  obtain ⟨u, rfl, h0⟩ := concL_1 hc
  obtain ⟨a, cap, rfl, hI⟩ := dsStr_of hS h0
  have hk : (l.map byL).length ≤ 1048576 := by rw [List.length_map]; exact hl
  refine (ds_distinct a cap (l.map byL) (Nat.le_trans hk (by decide)) (Nat.le_trans (Nat.mul_le_mul_right 16 hk) (by decide)) w hI).mono fun e w' ⟨he, hb⟩ => ⟨.b (decide l.Nodup), _, he, rfl, ?_, hb⟩
  rw [show decide ((Lib.compact (dsSort (l.map byL))).length = (l.map byL).length) = decide l.Nodup from decide_eq_decide.2 ((ds_iff _).trans (byL_nodup l))]
  exact .b _
end
end Go.Proofs.YtoccjfeaaaaegaaGreat
