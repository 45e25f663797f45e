/- Texts for VModuleBytesP. -/
import Derived.Shelf.Strings.BuilderK
import Derived.Test.YtoccjfeaaaaegaaGreatProg
import Derived.WalkKit
import Derived.BigCall
import Derived.Test.YtoccjfeaaaaegaaGreatVp22
namespace Go.Proofs.YtoccjfeaaaaegaaGreat
open Go Go.RowKit
set_option linter.unusedVariables false
set_option linter.unusedSimpArgs false
set_option maxRecDepth 8000
section
attribute [local irreducible] IntKind.wrap
theorem indexFuncIns_ok (l : List Ins) (g : Nat) {fv} (hg : env.F.get g = some fv) (p : Ins → Bool) (hl : l.length ≤ 1048576) (hp : ∀ k, k < l.length → Ret env.P g (.agg (Ins.cs (l.getD k default)) :: []) (fun r => r = .b (p (l.getD k default)))) :
    Ret env.P 75 [slL 2 Ins.cs l, .fn g []] (fun r => r = .i .i64 (idxI (l.findIdx? p))) := by
  refine ret_of (nt := 19) (rvs := [.tmp 4]) Tryz.func75 rfl rfl rfl rfl (fun X => ?_)
  repeat' (first | exact aa | ((conv => whnf) <;> (first | rw [hg] | exact upto_succ (by assumption) (by assumption) | refine loopN l.length (fun k => [(8, .i .i64 k)]) (fun k => []) (fun k => ∀ j, j < k → p (l.getD j default) = false) ⟨fun _ h => by omega, ?_⟩ | refine And.intro ?_ ?_ | (intro _h; first | contradiction | (try simp only [dd] at _h)) | (refine dt_go ?_) | exact rfl | exact True.intro | exact dkk | exact dks | ((first | refine .inl ⟨_, hp _ (by omega), ?_⟩ | refine ⟨_, hp _ (by omega), ?_⟩); (try rintro _ rfl)) | (refine wrap_succ ?_; omega))))
  · exact leaf_i (idx_some (by omega) (by assumption) (by assumption))
  · exact leaf_i (idx_none fun j hj => by have := ‹∀ j, j < _ → p (l.getD j default) = false›; exact this j (by omega))
theorem containsFuncIns_ok (l : List Ins) (g : Nat) {fv} (hg : env.F.get g = some fv) (p : Ins → Bool) (hl : l.length ≤ 1048576) (hp : ∀ k, k < l.length → Ret env.P g (.agg (Ins.cs (l.getD k default)) :: []) (fun r => r = .b (p (l.getD k default)))) :
    Ret env.P 57 [slL 2 Ins.cs l, .fn g []] (fun r => r = .b (l.any p)) := by
  refine ret_of (nt := 9) (rvs := [.tmp 4]) Tryz.func57 rfl rfl rfl rfl (fun X => ?_)
  repeat' (first | exact aa | ((conv => whnf) <;> (first | refine And.intro ?_ ?_ | (intro _h; first | contradiction | (try simp only [dd] at _h)) | (refine dt_go ?_) | exact rfl | exact True.intro | exact dkk | exact dks | ((first | refine .inl ⟨_, indexFuncIns_ok l g hg p hl hp, ?_⟩ | refine ⟨_, indexFuncIns_ok l g hg p hl hp, ?_⟩); (try rintro _ rfl)) | (refine wrap_succ ?_; omega))))
  all_goals exact leaf_b (idx_any _ _)
theorem indexFuncString_ok (l : List ByteArray) (g : Nat) {fv} (hg : env.F.get g = some fv) (p : ByteArray → Bool) (hl : l.length ≤ 1048576) (hp : ∀ k, k < l.length → Ret env.P g (.s (l.getD k default) :: []) (fun r => r = .b (p (l.getD k default)))) :
    Ret env.P 80 [slL 1 strC l, .fn g []] (fun r => r = .i .i64 (idxI (l.findIdx? p))) := by
  refine ret_of (nt := 19) (rvs := [.tmp 4]) Tryz.func80 rfl rfl rfl rfl (fun X => ?_)
  repeat' (first | exact aa | ((conv => whnf) <;> (first | rw [hg] | exact upto_succ (by assumption) (by assumption) | refine loopN l.length (fun k => [(8, .i .i64 k)]) (fun k => []) (fun k => ∀ j, j < k → p (l.getD j default) = false) ⟨fun _ h => by omega, ?_⟩ | refine And.intro ?_ ?_ | (intro _h; first | contradiction | (try simp only [dd] at _h)) | (refine dt_go ?_) | exact rfl | exact True.intro | exact dkk | exact dks | ((first | refine .inl ⟨_, hp _ (by omega), ?_⟩ | refine ⟨_, hp _ (by omega), ?_⟩); (try rintro _ rfl)) | (refine wrap_succ ?_; omega))))
  · exact leaf_i (idx_some (by omega) (by assumption) (by assumption))
  · exact leaf_i (idx_none fun j hj => by have := ‹∀ j, j < _ → p (l.getD j default) = false›; exact this j (by omega))
theorem containsFuncString_ok (l : List ByteArray) (g : Nat) {fv} (hg : env.F.get g = some fv) (p : ByteArray → Bool) (hl : l.length ≤ 1048576) (hp : ∀ k, k < l.length → Ret env.P g (.s (l.getD k default) :: []) (fun r => r = .b (p (l.getD k default)))) :
    Ret env.P 61 [slL 1 strC l, .fn g []] (fun r => r = .b (l.any p)) := by
  refine ret_of (nt := 9) (rvs := [.tmp 4]) Tryz.func61 rfl rfl rfl rfl (fun X => ?_)
  repeat' (first | exact aa | ((conv => whnf) <;> (first | refine And.intro ?_ ?_ | (intro _h; first | contradiction | (try simp only [dd] at _h)) | (refine dt_go ?_) | exact rfl | exact True.intro | exact dkk | exact dks | ((first | refine .inl ⟨_, indexFuncString_ok l g hg p hl hp, ?_⟩ | refine ⟨_, indexFuncString_ok l g hg p hl hp, ?_⟩); (try rintro _ rfl)) | (refine wrap_succ ?_; omega))))
  all_goals exact leaf_b (idx_any _ _)
theorem coreOk1_ok (i : Ins) : Ret env.P 58 [.agg i.cs] (fun r => r = .b (!i.good)) := by
  refine ret_of (nt := 6) (rvs := [.tmp 2]) Tryz.func58 rfl rfl rfl rfl (fun X => ?_)
  repeat' (first | exact aa | ((conv => whnf) <;> (first | refine And.intro ?_ ?_ | (intro _h; first | contradiction | (try simp only [dd] at _h)) | (refine dt_go ?_) | exact rfl | exact True.intro | exact dkk | exact dks | ((first | refine .inl ⟨_, insOk_impl i, ?_⟩ | refine ⟨_, insOk_impl i, ?_⟩); (try rintro _ rfl)) | (refine wrap_succ ?_; omega))))
  all_goals exact rfl
theorem any_bad {l : List Ins} : (l.any fun i => !i.good) = true ↔ ¬ CodeTo l l.length := by
  rw [List.any_eq_true]
  constructor
  · rintro ⟨x, hx, hb⟩ q
    obtain ⟨j, hj, rfl⟩ := mem_getD hx
    rw [q.h j hj] at hb
    cases hb
  · intro h
    refine Classical.byContradiction fun q => h ⟨fun j hj => ?_⟩
    cases hg : (l.getD j default).good with
    | true => rfl
    | false => exact absurd ⟨l.getD j default, (by rw [List.getD_eq_getElem?_getD, List.getElem?_eq_getElem hj]; exact List.getElem_mem hj), by rw [hg]; rfl⟩ q
theorem any_good {l : List Ins} : (l.any fun i => !i.good) = false ↔ CodeTo l l.length := by
  rw [← Bool.not_eq_true, any_bad, Classical.not_not]
theorem coreOk_ok (c : Core) (h : c.ok) : Ret env.P 32 [.agg c.cs] (fun r => r = .b (pb c.fine)) := by
  have hl := Core.okc h
  refine ret_of (nt := 23) (rvs := [.tmp 2]) Tryz.func32 rfl rfl rfl rfl (fun X => ?_)
  repeat' (first | exact aa | ((conv => whnf) <;> (first | refine And.intro ?_ ?_ | (intro _h; first | contradiction | (try simp only [dd] at _h)) | (refine dt_go ?_) | exact rfl | exact True.intro | exact dkk | exact dks | ((first | refine .inl ⟨_, within_ok _ _ _, ?_⟩ | refine ⟨_, within_ok _ _ _, ?_⟩); (try rintro _ rfl)) | ((first | refine .inl ⟨_, containsFuncIns_ok c.code 58 rfl (fun i => !i.good) hl (fun k hk => coreOk1_ok _), ?_⟩ | refine ⟨_, containsFuncIns_ok c.code 58 rfl (fun i => !i.good) hl (fun k hk => coreOk1_ok _), ?_⟩); (try rintro _ rfl)) | (refine wrap_succ ?_; omega))))
  all_goals (conv => whnf)
  · exact leaf_p (by
      rw [Bool.not_eq_true', any_good]
      exact ⟨fun q => ⟨‹_›, ‹_›, by omega, q⟩, fun q => q.hi⟩)
  all_goals exact leaf_f (fun q => by have := q.hp; have := q.hl; have := q.hc; omega)
def NmOk (l : List ByteArray) : Prop := l.Nodup ∧ ∀ k, k < l.length → wdB (l.getD k default)
theorem any_words {l : List ByteArray} : (l.any fun s => !pb (wdB s)) = false ↔ ∀ k, k < l.length → wdB (l.getD k default) := by
  rw [← Bool.not_eq_true, List.any_eq_true]
  constructor
  · intro h k hk
    refine Classical.byContradiction fun q => h ⟨l.getD k default, (by rw [List.getD_eq_getElem?_getD, List.getElem?_eq_getElem hk]; exact List.getElem_mem hk), ?_⟩
    rw [pb_f.mpr q]; rfl
  · rintro h ⟨x, hx, hb⟩
    obtain ⟨j, hj, rfl⟩ := mem_getD hx
    rw [pb_t.mpr (h j hj)] at hb
    cases hb
theorem wordsOk1_ok (s : ByteArray) (hs : s.size ≤ 1048576) : Ret env.P 62 [.s s] (fun r => r = .b (!pb (wdB s))) := by
  refine ret_of (nt := 6) (rvs := [.tmp 2]) Tryz.func62 rfl rfl rfl rfl (fun X => ?_)
  repeat' (first | exact aa | ((conv => whnf) <;> (first | refine And.intro ?_ ?_ | (intro _h; first | contradiction | (try simp only [dd] at _h)) | (refine dt_go ?_) | exact rfl | exact True.intro | exact dkk | exact dks | ((first | refine .inl ⟨_, wordOk_ok s hs, ?_⟩ | refine ⟨_, wordOk_ok s hs, ?_⟩); (try rintro _ rfl)) | (refine wrap_succ ?_; omega))))
  all_goals exact rfl
theorem wordsOk_ok (l : List ByteArray) (hl : l.length ≤ 1048576) (hs : ∀ k, k < l.length → (l.getD k default).size ≤ 1048576) : Ret env.P 33 [slL 1 strC l] (fun r => r = .b (pb (NmOk l))) := by
  refine ret_of (nt := 10) (rvs := [.tmp 2]) Tryz.func33 rfl rfl rfl rfl (fun X => ?_)
  repeat' (first | exact aa | ((conv => whnf) <;> (first | refine And.intro ?_ ?_ | (intro _h; first | contradiction | (try simp only [dd] at _h)) | (refine dt_go ?_) | exact rfl | exact True.intro | exact dkk | exact dks | ((first | refine .inl ⟨_, distinct_impl l hl, ?_⟩ | refine ⟨_, distinct_impl l hl, ?_⟩); (try rintro _ rfl)) | ((first | refine .inl ⟨_, containsFuncString_ok l 62 rfl (fun s => !pb (wdB s)) hl (fun k hk => wordsOk1_ok _ (hs k hk)), ?_⟩ | refine ⟨_, containsFuncString_ok l 62 rfl (fun s => !pb (wdB s)) hl (fun k hk => wordsOk1_ok _ (hs k hk)), ?_⟩); (try rintro _ rfl)) | (refine wrap_succ ?_; omega))))
  all_goals (conv => whnf)
  · exact leaf_p (by
      rw [Bool.not_eq_true', any_words]
      exact ⟨fun q => ⟨‹_›, q⟩, fun q => q.2⟩)
  · exact leaf_f (fun q => absurd q.1 ‹_›)
end
section
open Go Go.Shelf
def lays169_ren : Go.Shelf.Ren := ⟨fun | 169 => 39 | n => n, fun | 70 => 70 | 9 => 9 | 0 => 0 | 72 => 72 | 37 => 52 | 127 => 99 | 3 => 3 | 5 => 5 | n => n, fun | n => n⟩
theorem lays169 : Lays.n169 Tryz.prog lays169_ren := {
  mixed := by kernel_rfl,
  f169 := Tryz.func39.trans (congrArg some (by kernel_rfl)),
  t0 := Tryz.underlying0,
  a0 := Tryz.isAgg0,
  z0 := Tryz.sizeOf0,
  v0 := Tryz.zeroValue0,
  t3 := Tryz.underlying3,
  a3 := Tryz.isAgg3,
  z3 := Tryz.sizeOf3,
  v3 := Tryz.zeroValue3,
  t9 := Tryz.underlying9,
  a9 := Tryz.isAgg9,
  z9 := Tryz.sizeOf9,
  v9 := Tryz.zeroValue9,
  t37 := Tryz.underlying52,
  a37 := Tryz.isAgg52,
  z37 := Tryz.sizeOf52,
  v37 := Tryz.zeroValue52,
  t70 := Tryz.underlying70,
  a70 := Tryz.isAgg70,
  z70 := Tryz.sizeOf70,
  v70 := Tryz.zeroValue70,
  t72 := Tryz.underlying72,
  a72 := Tryz.isAgg72,
  z72 := Tryz.sizeOf72,
  v72 := Tryz.zeroValue72,
  t127 := Tryz.underlying99,
  a127 := Tryz.isAgg99,
  z127 := Tryz.sizeOf99,
  v127 := Tryz.zeroValue99 }
def lays170_ren : Go.Shelf.Ren := ⟨fun | 170 => 38 | n => n, fun | 70 => 70 | 3 => 3 | 0 => 0 | 72 => 72 | 37 => 52 | 5 => 5 | n => n, fun | n => n⟩
theorem lays170 : Lays.n170 Tryz.prog lays170_ren := {
  mixed := by kernel_rfl,
  f170 := Tryz.func38.trans (congrArg some (by kernel_rfl)),
  t0 := Tryz.underlying0,
  a0 := Tryz.isAgg0,
  z0 := Tryz.sizeOf0,
  v0 := Tryz.zeroValue0,
  t3 := Tryz.underlying3,
  a3 := Tryz.isAgg3,
  z3 := Tryz.sizeOf3,
  v3 := Tryz.zeroValue3,
  t37 := Tryz.underlying52,
  a37 := Tryz.isAgg52,
  z37 := Tryz.sizeOf52,
  v37 := Tryz.zeroValue52,
  t70 := Tryz.underlying70,
  a70 := Tryz.isAgg70,
  z70 := Tryz.sizeOf70,
  v70 := Tryz.zeroValue70,
  t72 := Tryz.underlying72,
  a72 := Tryz.isAgg72,
  z72 := Tryz.sizeOf72,
  v72 := Tryz.zeroValue72 }
end
section
open Go Go.RowKit Go.Shelf
theorem bd_size : (Tryz.prog.info? 72).map (·.size) = some 2 := by kernel_rfl
theorem bd_lies : liesAt Tryz.prog Tryz.prog.depth 72 (2 / Tryz.prog.cellsOf 72) 0 72 1 = true := by kernel_rfl
theorem bd_byte : (Tryz.prog.info? 5).map (fun i => (i.zero, i.size, i.bytes)) = some (some (.int .u8 0), 1, 1) := by kernel_rfl
abbrev IsBd (B b : Nat) (bs : List Value) (w : World) : Prop := Lib.IsBuilder 72 5 B b bs w
abbrev BdAt (B b : Nat) (bs : List Value) (w : World) : Prop := Lib.BuilderAt 72 5 B b (.pointer (some ⟨b, 0, none⟩)) bs w
set_option maxHeartbeats 1000000 in
set_option maxRecDepth 100000 in
theorem bd_check_used (b : Nat) (w : World) (h0 : w.cell? ⟨b, 0, none⟩ = some (.pointer (some ⟨b, 0, none⟩))) :
    Calls Tryz.prog 64 #[.pointer (some ⟨b, 0, none⟩)] w fun e w' => e = .returned (.tuple #[]) ∧ w' = w := by
  obtain ⟨j, hj, _⟩ := Option.map_eq_some_iff.1 bd_size
  go_enter Tryz.func64, Tryz.ntmps64
  go_wp2
  rw [Lib.run_neq_ptr_same w _ Tryz.underlying70 hj]
  go_wp2
  go_end0
  exact ⟨rfl, rfl⟩
set_option maxHeartbeats 1000000 in
set_option maxRecDepth 100000 in
theorem bd_check_fresh (b : Nat) (w : World) (h0 : w.cell? ⟨b, 0, none⟩ = some (.pointer none)) (hsh : w.shape? b = some (72, 2)) (hfz : w.frozen? ⟨b, 0, none⟩ = false) :
    Calls Tryz.prog 64 #[.pointer (some ⟨b, 0, none⟩)] w fun e w' => e = .returned (.tuple #[]) ∧ w' = w.setCell ⟨b, 0, none⟩ (.pointer (some ⟨b, 0, none⟩)) := by
  obtain ⟨j, hj, hjs⟩ := Option.map_eq_some_iff.1 bd_size
  go_enter Tryz.func64, Tryz.ntmps64
  go_wp2
  rw [Lib.run_to_unsafe w ⟨b, 0, none⟩ Tryz.underlying70 Tryz.underlying115 hj (by rw [hjs]; decide) hsh (Nat.zero_lt_succ 1)]
  simp only [Result.andThen]
  rw [Oper.upon_value]
  go_wp2
  rw [run_callFunc_extern Tryz.func84 (by kernel_rfl) (by kernel_rfl) (by kernel_rfl) (e := Extern.AbiNoEscape.same) (by kernel_rfl)]
  rw [Lib.run_noEscape]
  simp only [Result.andThen]
  rw [Oper.upon_value]
  go_wp2
  rw [Lib.run_from_unsafe w ⟨b, 0, none⟩ Tryz.underlying115 Tryz.underlying70 hj hsh bd_lies]
  simp only [Result.andThen]
  rw [Oper.upon_value]
  go_wp2
  go_end0
  exact ⟨rfl, rfl⟩
theorem bd_check (B b : Nat) (bs : List Value) (w : World) (h : IsBd B b bs w) :
    Calls Tryz.prog 64 #[.pointer (some ⟨b, 0, none⟩)] w fun e w' => e = .returned (.tuple #[]) ∧ BdAt B b bs w' ∧ Below B w w' := by
  rcases h with h | h
  · refine (bd_check_fresh b w h.cell0 h.shape h.frozen0).mono ?_
    rintro e w' ⟨rfl, rfl⟩
    exact ⟨rfl, h.used _, (Below.refl B w).setCell (p := ⟨b, 0, none⟩) h.1 _⟩
  · refine (bd_check_used b w h.cell0).mono ?_
    rintro e w' ⟨rfl, rfl⟩
    exact ⟨rfl, h, Below.refl B _⟩
set_option maxHeartbeats 2000000 in
set_option maxRecDepth 100000 in
theorem bd_write (B b : Nat) (bs : List Value) (s : ByteArray) (w : World) (h : IsBd B b bs w) (hlen : bs.length + s.size ≤ 140737488355328) (hBw : B ≤ w.heap.size) :
    Calls Tryz.prog 34 #[.pointer (some ⟨b, 0, none⟩), .string s] w fun e w' => e = .returned (.tuple #[.int .i64 s.size, .nilIface]) ∧ BdAt B b (bs ++ Lib.strCells s) w' ∧ Below B w w' := by
  obtain ⟨i0, hi, hz0, hz1, hz2⟩ := info_parts bd_byte
  go_enter Tryz.func34, Tryz.ntmps34
  go_wp2_with (go_at_call 64; refine (bd_check B b bs _ h).mono ?_)
  rintro e w1 ⟨rfl, h1, hb1⟩
  obtain ⟨hB, v, hbk, hown, hne⟩ := h1
  have c0 : w1.cell? ⟨b, 0, none⟩ = some (.pointer (some ⟨b, 0, none⟩)) := by rw [Lib.cell_of_heap hbk]; rfl
  have c1 : w1.cell? ⟨b, 1, none⟩ = some v := by rw [Lib.cell_of_heap hbk]; rfl
  go_wp2_with (at_builtin; refine Lib.wpList_append_own_string _ rfl _ _ 52 9 rfl B 5 i0 Tryz.underlying52 Tryz.underlying9 hi hz0 hz1 hz2 _ _ _ rfl hown s rfl ?c3 ?c4 ?c5 ?_)
  case c3 => unfold maxLen; omega
  case c4 => omega
  case c5 => have := hb1.size; omega
  intro v' w2 hown' hgrow _
  have hlt : b < w1.heap.size := by
    rcases Nat.lt_or_ge b w1.heap.size with h' | h'
    · exact h'
    · simp [Array.getElem?_eq_none h'] at hbk
  have hb2 : w2.heap[b]? = some (.cells #[.pointer (some ⟨b, 0, none⟩), v] 72 (0, 0)) := by
    rw [hgrow.block b hlt (fun e => hne e.symm)]
    exact hbk
  have d0 : w2.cell? ⟨b, 0, none⟩ = some (.pointer (some ⟨b, 0, none⟩)) := by rw [Lib.cell_of_heap hb2]; rfl
  have d1 : w2.cell? ⟨b, 1, none⟩ = some v := by rw [Lib.cell_of_heap hb2]; rfl
  have f1 : w2.frozen? ⟨b, 1, none⟩ = false := Lib.frozen_of_heap hb2 1
  obtain ⟨ao, n', cap, rfl⟩ : ∃ ao n' cap, v' = .slice ao n' cap := by
    rcases hown'.2 with ⟨hv, _⟩ | ⟨g, cap, cur, hv, _⟩
    · exact ⟨_, _, _, hv⟩
    · exact ⟨_, _, _, hv⟩
  go_wp2
  go_ret2
  refine ⟨rfl, ?_, ?_⟩
  · exact Lib.BuilderAt.put (T := 72) (e := 5) hB hb2 (bs' := bs ++ Lib.strCells s) (by simpa [Lib.strCells_length] using hown') (by decide)
  · exact (hb1.grown hgrow (by have := hb1.size; omega) (fun k hk => (hown.lt k hk).1)).setCell (p := ⟨b, 1, none⟩) hB _
set_option maxRecDepth 100000 in
theorem bdX : Builder.Extra Tryz.prog lays169_ren := { sizeBuilder := bd_size, liesBuilder := bd_lies, t5 := Tryz.underlying5, a5 := Tryz.isAgg5, z5 := Tryz.sizeOf5, v5 := Tryz.zeroValue5, infoByte := bd_byte, cellsByte := by kernel_rfl, sizeByte := by kernel_rfl, neB5 := by decide }
set_option maxRecDepth 100000 in
theorem bd_len (B b : Nat) (bs : List Value) (w : World) (h : IsBd B b bs w) :
    Calls Tryz.prog 38 #[.pointer (some ⟨b, 0, none⟩)] w fun e w' => e = .returned (.int .i64 bs.length) ∧ w' = w := Any.Builder_Len lays170 B b bs w h
set_option maxRecDepth 100000 in
theorem bd_string (B b : Nat) (l : List UInt8) (w : World) (h : IsBd B b (Lib.byteCells l) w) (hBw : B ≤ w.heap.size) :
    Calls Tryz.prog 39 #[.pointer (some ⟨b, 0, none⟩)] w fun e w' => e = .returned (.string ⟨l.toArray⟩) ∧ Below B w w' := (Any.Builder_String_any_k lays169 bdX B b l w (Lib.IsBuilderF.of h) hBw).mono fun e w' h => ⟨h.1, h.2.2.1⟩
theorem bld_old {T e : TypeId} {B b : Nat} {p : Value} {bs : List Value} {w w' : World} (h : Lib.BuilderAt T e B b p bs w) (hb : Below w.heap.size w w') : Lib.BuilderAt T e B b p bs w' := by
  have hl := h.lt
  obtain ⟨hB, v, hk, hown, hne⟩ := h
  refine ⟨hB, v, (hb.block b hl).trans hk, ?_, hne⟩
  rcases hown with ⟨h1, ⟨rfl, h2⟩ | ⟨g, cap, cur, rfl, hbase, hgb, r⟩⟩
  · exact ⟨h1, .inl ⟨rfl, h2⟩⟩
  · exact ⟨h1, .inr ⟨g, cap, cur, rfl, hbase, (hb.block g (Array.getElem?_eq_some_iff.1 hgb).1).trans hgb, r⟩⟩
theorem isBld_old {T e : TypeId} {B b : Nat} {bs : List Value} {w w' : World} (h : Lib.IsBuilder T e B b bs w) (hb : Below w.heap.size w w') : Lib.IsBuilder T e B b bs w' := h.imp (bld_old · hb) (bld_old · hb)
theorem bd_fresh (w : World) : IsBd w.heap.size w.heap.size [] (w.alloc (.cells #[.pointer none, .slice none 0 0] 72)) := Lib.fresh_isBuilder _ _ w
theorem bd_cells (a b : List UInt8) : Lib.byteCells a ++ Lib.strCells ⟨b.toArray⟩ = Lib.byteCells (a ++ b) := (Lib.byteCells_append a b).symm
end
section
open Go Go.RowKit Go.Shelf
theorem conc_at {w W : World} {S : Nat → Prop} {av : List AV} {us : List Value} (hS : ∀ b, S b → b < w.heap.size) (hB : Below w.heap.size w W) (hc : ConcL w S (fun _ => ⟨0, 0⟩) [] av us) : ConcL W S (fun _ => ⟨0, 0⟩) [] av us :=
  ⟨hc.1, fun j c u hj hu => (hc.2 j c u hj hu).mono (fun b hb => ⟨hb, hB.block b (hS b hb)⟩) (HExt.refl _ _)⟩
theorem Ret.atS {g : FuncId} {av : List AV} {s : ByteArray} (h : Ret env.P g av (fun r => r = .s s)) {w : World} {S : Nat → Prop} {us : List Value} (hS : ∀ b, S b → b < w.heap.size) (hc : ConcL w S (fun _ => ⟨0, 0⟩) [] av us) (W : World) (hB : Below w.heap.size w W) :
    Calls Tryz.prog g us.toArray W fun e W' => e = .returned (.string s) ∧ Below W.heap.size W W' :=
  (h.h W S us (fun b hb => Nat.lt_of_lt_of_le (hS b hb) hB.size) (conc_at hS hB hc)).mono fun e W' ⟨r, u, he, hr, hu, hb⟩ => by
    subst hr
    cases hu
    exact ⟨he, hb⟩
theorem Ret.atB {g : FuncId} {av : List AV} {z : Bool} (h : Ret env.P g av (fun r => r = .b z)) {w : World} {S : Nat → Prop} {us : List Value} (hS : ∀ b, S b → b < w.heap.size) (hc : ConcL w S (fun _ => ⟨0, 0⟩) [] av us) (W : World) (hB : Below w.heap.size w W) :
    Calls Tryz.prog g us.toArray W fun e W' => e = .returned (.bool z) ∧ Below W.heap.size W W' :=
  (h.h W S us (fun b hb => Nat.lt_of_lt_of_le (hS b hb) hB.size) (conc_at hS hB hc)).mono fun e W' ⟨r, u, he, hr, hu, hb⟩ => by
    subst hr
    cases hu
    exact ⟨he, hb⟩
theorem Ret.atI {g : FuncId} {av : List AV} {k : IntKind} {z : Int} (h : Ret env.P g av (fun r => r = .i k z)) {w : World} {S : Nat → Prop} {us : List Value} (hS : ∀ b, S b → b < w.heap.size) (hc : ConcL w S (fun _ => ⟨0, 0⟩) [] av us) (W : World) (hB : Below w.heap.size w W) :
    Calls Tryz.prog g us.toArray W fun e W' => e = .returned (.int k z) ∧ Below W.heap.size W W' :=
  (h.h W S us (fun b hb => Nat.lt_of_lt_of_le (hS b hb) hB.size) (conc_at hS hB hc)).mono fun e W' ⟨r, u, he, hr, hu, hb⟩ => by
    subst hr
    cases hu
    exact ⟨he, hb⟩
theorem concL_nil {w : World} {S : Nat → Prop} : ConcL w S (fun _ => ⟨0, 0⟩) [] [] [] := ⟨rfl, fun j c u hj _ => by simp at hj⟩
theorem ConcL.cons1 {w : World} {S : Nat → Prop} {x : AV} {u : Value} {av : List AV} {us : List Value} (h : Conc w S (fun _ => ⟨0, 0⟩) [] x u) (hr : ConcL w S (fun _ => ⟨0, 0⟩) [] av us) : ConcL w S (fun _ => ⟨0, 0⟩) [] (x :: av) (u :: us) := ⟨by rw [List.length_cons, List.length_cons, hr.1], fun j c v hj hv => by
  cases j with
  | zero => cases hj; cases hv; exact h
  | succ j => exact hr.2 j c v hj hv⟩
theorem conc_fn {w : World} {S : Nat → Prop} (g : FuncId) : Conc w S (fun _ => ⟨0, 0⟩) [] (.fn g []) (.func (.func g) #[] #[]) := .fn g [] [] rfl fun j c u hj _ => by simp at hj
theorem sizeIns_ok (l : List Ins) : Ret env.P 68 [slL 2 Ins.cs l] (fun r => r = .i .i64 (l.length : Int)) := by
  refine ret_of (nt := 5) (rvs := [.tmp 2]) Tryz.func68 rfl rfl rfl rfl (fun X => ?_)
  repeat' (first | exact aa | ((conv => whnf) <;> (first | refine And.intro ?_ ?_ | (intro _h; first | contradiction | (try simp only [dd] at _h)) | (refine dt_go ?_) | exact rfl | exact True.intro | exact dkk | exact dks | (refine wrap_succ ?_; omega))))
theorem bodyBytes1_ok (i : Ins) : Ret env.P 67 [.agg i.cs] (fun r => r = .b (!i.good)) := by
  refine ret_of (nt := 6) (rvs := [.tmp 2]) Tryz.func67 rfl rfl rfl rfl (fun X => ?_)
  repeat' (first | exact aa | ((conv => whnf) <;> (first | refine And.intro ?_ ?_ | (intro _h; first | contradiction | (try simp only [dd] at _h)) | (refine dt_go ?_) | exact rfl | exact True.intro | exact dkk | exact dks | ((first | refine .inl ⟨_, insOk_impl i, ?_⟩ | refine ⟨_, insOk_impl i, ?_⟩); (try rintro _ rfl)) | (refine wrap_succ ?_; omega))))
  all_goals exact rfl
theorem fm_lenU {α : Type} {f : α → List UInt8} {k : Nat} : ∀ {l : List α}, (∀ x ∈ l, (f x).length ≤ k) → (l.flatMap f).length ≤ l.length * k
  | [], _ => by simp
  | a :: l, h => by
    have h1 := h a (List.mem_cons_self ..)
    have h2 := fm_lenU (l := l) fun x hx => h x (List.mem_cons_of_mem _ hx)
    rw [List.flatMap_cons, List.length_append, List.length_cons, Nat.add_mul]
    omega
set_option maxRecDepth 100000 in
set_option maxHeartbeats 1000000 in
theorem bb_walk (n : Nat) (hn : n ≤ 120) (a : Option Addr) (cap : Nat) (s0 : List UInt8) (f : Nat → List UInt8) (y0 y1 : Nat → Int) (w : World) (hs0 : s0.length ≤ 1000) (hf : ∀ k, (f k).length ≤ 1000)
    (ha : 0 < n → ∃ b o, a = some ⟨b, o, none⟩ ∧ b < w.heap.size ∧ ∀ k, k < n → w.cell? ⟨b, o + k * 2, none⟩ = some (.int .i64 (y0 k)) ∧ w.cell? ⟨b, o + k * 2 + 1, none⟩ = some (.int .i64 (y1 k)))
    (cC : ∀ W, Below w.heap.size w W → Calls Tryz.prog 57 #[.slice a n cap, .func (.func 67) #[] #[]] W fun e W' => e = .returned (.bool false) ∧ Below W.heap.size W W')
    (cS : ∀ W, Below w.heap.size w W → Calls Tryz.prog 68 #[.slice a n cap] W fun e W' => e = .returned (.int .i64 n) ∧ Below W.heap.size W W')
    (cP : ∀ W, Below w.heap.size w W → Calls Tryz.prog 40 #[.int .i64 n] W fun e W' => e = .returned (.string ⟨s0.toArray⟩) ∧ Below W.heap.size W W')
    (cI : ∀ k W, k < n → Below w.heap.size w W → Calls Tryz.prog 69 #[.agg #[.int .i64 (y0 k), .int .i64 (y1 k)]] W fun e W' => e = .returned (.string ⟨(f k).toArray⟩) ∧ Below W.heap.size W W') :
    Calls Tryz.prog 44 #[.slice a n cap] w fun e w' => e = .returned (.string ⟨(s0 ++ (List.range n).flatMap f).toArray⟩) ∧ Below w.heap.size w w' := by
  have z1 : ¬ (120 : Int) < (n : Int) := by omega
  go_enter Tryz.func44, Tryz.ntmps44
  go_wp2_with (go_at_call 57; refine (cC _ (Below.refl _ _)).mono ?_; rintro e w1 ⟨rfl, hb1⟩)
  have hB1 : Below w.heap.size w (w1.alloc (.cells #[.pointer none, .slice none 0 0] 72)) := hb1.alloc hb1.size _
  have hI1 := bd_fresh w1
  generalize hW1 : w1.alloc (.cells #[.pointer none, .slice none 0 0] 72) = W1 at hB1 hI1
  go_wp2_with (go_at_call 68; (try rw [hW1]); refine (cS _ hB1).mono ?_; rintro e w2 ⟨rfl, hb2⟩)
  have hB2 := hB1.trans (hb2.mono hB1.size)
  have hI2 := isBld_old hI1 hb2
  go_wp2_with (go_at_call 40; refine (cP _ hB2).mono ?_; rintro e w3 ⟨rfl, hb3⟩)
  have hB3 := hB2.trans (hb3.mono hB2.size)
  have hI3 := isBld_old hI2 hb3
  have hs1 : w1.heap.size ≤ w3.heap.size := by
    have e1 := hb2.size
    have e2 := hb3.size
    have e3 : w1.heap.size ≤ W1.heap.size := by rw [← hW1]; simp
    omega
  go_wp2_with (go_at_call 34; refine (bd_write _ _ _ ⟨s0.toArray⟩ _ hI3 (by show 0 + s0.length ≤ _; omega) hs1).mono ?_; rintro e w4 ⟨rfl, hA4, hb4⟩)
  have hB4 := hB3.trans (hb4.mono hb1.size)
  rw [show ([] : List Value) = Lib.byteCells [] from rfl, bd_cells, List.nil_append] at hA4
  go_wp2
  go_loopw [19] (fun i wr => ∃ k : Nat, k ≤ n ∧ i = .int .i64 k ∧ BdAt w1.heap.size w1.heap.size (Lib.byteCells (s0 ++ (List.range k).flatMap f)) wr ∧ Below w.heap.size w wr) (fun i _ => n - (intOf i).toNat)
  case atStart => exact ⟨0, Nat.zero_le _, rfl, by simpa using hA4, hB4⟩
  case round =>
    obtain ⟨k, hk, rfl, hA, hB⟩ := hrel
    by_cases hlt : k < n
    · obtain ⟨b, o, rfl, hbw, hcell⟩ := ha (by omega)
      have c0 : wr.cell? ⟨b, o + k * 2, none⟩ = some (.int .i64 (y0 k)) := (hB.cell (p := ⟨b, o + k * 2, none⟩) hbw).trans (hcell k hlt).1
      have c1 : wr.cell? ⟨b, o + k * 2 + 1, none⟩ = some (.int .i64 (y1 k)) := (hB.cell (p := ⟨b, o + k * 2 + 1, none⟩) hbw).trans (hcell k hlt).2
      clear hcell
      have hB5 : Below w.heap.size w (wr.alloc (.cells #[.int .i64 (y0 k), .int .i64 (y1 k)] 93)) := hB.alloc hB.size _
      have hbr : Below wr.heap.size wr (wr.alloc (.cells #[.int .i64 (y0 k), .int .i64 (y1 k)] 93)) := (Below.refl _ wr).alloc (Nat.le_refl _) _
      have hA5 := bld_old hA hbr
      have hw1r : w1.heap.size < wr.heap.size := hA.lt
      go_wp2_with (go_at_call 69; refine (cI k _ hlt hB5).mono ?_; rintro e w5 ⟨rfl, hb5⟩)
      have hA6 := bld_old hA5 hb5
      have hB6 := hB5.trans (hb5.mono hB5.size)
      have hsz : (f k).length ≤ 1000 := hf k
      have hac : (s0 ++ (List.range k).flatMap f).length ≤ 1000 + k * 1000 := by
        have h1 := fm_lenU (f := f) (k := 1000) (l := List.range k) fun x _ => hf x
        rw [List.length_range] at h1
        rw [List.length_append]
        omega
      go_wp2_with (go_at_call 34; refine (bd_write _ _ _ ⟨(f k).toArray⟩ _ (.inr hA6) (by rw [Lib.byteCells_length]; show _ + (f k).length ≤ _; omega) (by have e1 := hb5.size; have e2 := hbr.size; omega)).mono ?_; rintro e w6 ⟨rfl, hA7, hb6⟩)
      rw [bd_cells] at hA7
      go_wp2
      go_roundw
      case rel => exact ⟨k + 1, by omega, by simp, by rw [List.range_succ, List.flatMap_append]; simpa using hA7, hB6.trans (hb6.mono hb1.size)⟩
      case measure => simp [intOf]; omega
    · obtain rfl : k = n := by omega
      go_wp2_with (go_at_call 39; refine (bd_string _ _ _ _ (.inr hA) (by have := hA.lt; omega)).mono ?_; rintro e w5 ⟨rfl, hb5⟩)
      go_ret
      exact ⟨rfl, hB.trans (hb5.mono hb1.size)⟩
theorem range_fm {α β : Type} [Inhabited α] {g : α → List β} : ∀ (l : List α), (List.range l.length).flatMap (fun k => g (l.getD k default)) = l.flatMap g
  | [] => rfl
  | a :: l => by
    rw [List.length_cons, List.range_succ_eq_map, List.flatMap_cons, List.flatMap_cons, List.flatMap_map]
    congr 1
    exact range_fm l
theorem bodyBytes_impl (l : List Ins) (hl : l.length ≤ 120) (hg : CodeTo l l.length) : Ret env.P 44 [slL 2 Ins.cs l] (fun r => r = .s (baN (bodyN l))) := .mk fun w S us hS hc => by
  obtain ⟨u, rfl, h0⟩ := concL_1 hc
  obtain ⟨a, cap, rfl, _, _⟩ := sl_form h0
  have hln : (l.any fun i => !i.good) = false := any_good.2 hg
  have hC := containsFuncIns_ok l 67 rfl (fun i => !i.good) (by omega) (fun k hk => bodyBytes1_ok _)
  rw [hln] at hC
  have cC := hC.atB hS (.cons1 h0 (.cons1 (conc_fn 67) concL_nil))
  have cS := (sizeIns_ok l).atI hS hc
  have hP : Ret env.P 40 [.i .i64 (l.length : Int)] (fun r => r = .s (baN (lebL l.length))) := (putLeb_impl l.length (by omega)).toRet
  have cP := hP.atS hS (.cons1 (u := .int .i64 (l.length : Int)) (conc_i (by omega) (by omega)) concL_nil)
  have hbs : ∀ k, (baN (l.getD k default).by).data.toList.length ≤ 1000 := fun k => by
    show (baN (l.getD k default).by).size ≤ 1000
    rw [baN_size]
    have := (l.getD k default).by_len
    omega
  have hcell : ∀ k, k < l.length → ∀ (W : World), ConcL W (fun _ => False) (fun _ => ⟨0, 0⟩) [] [.agg (l.getD k default).cs] [.agg #[.int .i64 (l.getD k default).op, .int .i64 (l.getD k default).a]] := fun k hk W => by
    obtain ⟨b, o, cap', U, he, hb, _, _, hcc, hu, _⟩ := inv_sl h0 (by omega)
    have h1 := hu k 0 hk (by decide)
    have h2 := hu k 1 hk (by decide)
    refine .cons1 (.agg _ [_, _] rfl fun j c u hj hv => ?_) concL_nil
    match j with
    | 0 => cases hj; cases hv; exact .i (inv_i h1).2
    | 1 => cases hj; cases hv; exact .i (inv_i h2).2
    | j + 2 => cases hj
  have hw := bb_walk l.length hl a cap (baN (lebL l.length)).data.toList (fun k => (baN (l.getD k default).by).data.toList) (fun k => (l.getD k default).op) (fun k => (l.getD k default).a) w (by show (baN (lebL l.length)).size ≤ 1000; rw [baN_size]; have := lb_small (n := l.length) (by omega); omega) hbs
    (fun hn => by
      obtain ⟨b, o, cap', U, he, hb, _, _, hcc, hu, _⟩ := inv_sl h0 hn
      cases he
      refine ⟨b, o, rfl, hS b hb, fun k hk => ⟨?_, ?_⟩⟩
      · have := hcc k 0 hk (by decide)
        rw [Nat.add_zero] at this
        rw [this, (inv_i (hu k 0 hk (by decide))).1]
      · rw [hcc k 1 hk (by decide), (inv_i (hu k 1 hk (by decide))).1])
    cC cS cP (fun k W hk hB => (insBytesG_impl (l.getD k default) (hg.h k hk)).atS (fun b hb => hb.elim) (S := fun _ => False) (w := W) (hcell k hk W) W (Below.refl _ _))
  refine hw.mono fun e w' ⟨he, hb⟩ => ⟨_, _, he, rfl, ?_, hb⟩
  have e1 : (⟨((baN (lebL l.length)).data.toList ++ (List.range l.length).flatMap fun k => (baN (l.getD k default).by).data.toList).toArray⟩ : ByteArray) = baN (bodyN l) := by
    apply ByteArray.ext
    show List.toArray _ = List.toArray _
    congr 1
    show (lebL l.length).map UInt8.ofNat ++ (List.range l.length).flatMap (fun k => ((l.getD k default).by).map UInt8.ofNat) = (bodyN l).map UInt8.ofNat
    unfold bodyN
    rw [List.map_append, List.map_flatMap, range_fm (g := fun i => (Ins.by i).map UInt8.ofNat)]
  rw [e1]
  refine .s ?_
  rw [baN_size]
  have := bodyN_len hl
  exact Nat.le_trans this (by decide)
end
end Go.Proofs.YtoccjfeaaaaegaaGreat
