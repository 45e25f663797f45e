/- Texts for VModuleBytesP. -/
import Derived.Shelf.Small.Strs
import Derived.Shelf.Strings.FuncGrows
import Derived.Test.YtoccjfeaaaaegaaGreatProg
import Derived.Shelf.Small.Wraps
import Derived.Test.YtoccjfeaaaaegaaGreatVp20
namespace Go.Proofs.YtoccjfeaaaaegaaGreat
open Go Go.RowKit
set_option linter.unusedVariables false
set_option linter.unusedSimpArgs false
set_option maxRecDepth 8000
def wdC (c : Nat) : Prop := 45 ≤ c ∧ c ≤ 57 ∨ 97 ≤ c ∧ c ≤ 122
structure WdTo (b : ByteArray) (k : Nat) : Prop where
  h : ∀ j, j < k → wdC (b.data.getD j 0).toNat
theorem WdTo.zero (b : ByteArray) : WdTo b 0 := ⟨fun j hj => absurd hj (Nat.not_lt_zero _)⟩
theorem WdTo.succ {b : ByteArray} {k : Nat} (h : WdTo b k) (hc : wdC (b.data.getD k 0).toNat) : WdTo b (k + 1) := ⟨fun j hj => by
  rcases Nat.lt_or_ge j k with q | q
  · exact h.h j q
  · obtain rfl : j = k := by omega
    exact hc⟩
structure wdB (b : ByteArray) : Prop where
  h : WdTo b b.size
  lo : 1 ≤ b.size
  hi : b.size ≤ 40
def Import.good (x : Import) : Prop := wdB x.name ∧ 0 ≤ x.params ∧ x.params ≤ 8
structure CodeTo (l : List Ins) (k : Nat) : Prop where
  h : ∀ j, j < k → (l.getD j default).good = true
theorem CodeTo.zero (l : List Ins) : CodeTo l 0 := ⟨fun j hj => absurd hj (Nat.not_lt_zero _)⟩
theorem CodeTo.succ {l : List Ins} {k : Nat} (h : CodeTo l k) (hc : (l.getD k default).good = true) : CodeTo l (k + 1) := ⟨fun j hj => by
  rcases Nat.lt_or_ge j k with q | q
  · exact h.h j q
  · obtain rfl : j = k := by omega
    exact hc⟩
structure Core.fine (c : Core) : Prop where
  hp : 0 ≤ c.params ∧ c.params ≤ 8
  hl : 0 ≤ c.locals ∧ c.locals ≤ 8
  hc : c.code.length ≤ 120
  hi : CodeTo c.code c.code.length
def Core.good (c : Core) : Prop := wdB c.name ∧ c.fine
structure ImTo (l : List Import) (k : Nat) : Prop where
  h : ∀ j, j < k → (l.getD j default).good ∧ (l.getD j default).name ∉ (l.take j).map (·.name)
structure CoTo (l : List Core) (k : Nat) : Prop where
  h : ∀ j, j < k → (l.getD j default).good ∧ (l.getD j default).name ∉ (l.take j).map (·.name)
theorem ImTo.zero (l : List Import) : ImTo l 0 := ⟨fun j hj => absurd hj (Nat.not_lt_zero _)⟩
theorem CoTo.zero (l : List Core) : CoTo l 0 := ⟨fun j hj => absurd hj (Nat.not_lt_zero _)⟩
theorem ImTo.succ {l : List Import} {k : Nat} (h : ImTo l k) (h1 : (l.getD k default).good) (h2 : (l.getD k default).name ∉ (l.take k).map (·.name)) : ImTo l (k + 1) := ⟨fun j hj => by
  rcases Nat.lt_or_ge j k with q | q
  · exact h.h j q
  · obtain rfl : j = k := by omega
    exact ⟨h1, h2⟩⟩
theorem CoTo.succ {l : List Core} {k : Nat} (h : CoTo l k) (h1 : (l.getD k default).good) (h2 : (l.getD k default).name ∉ (l.take k).map (·.name)) : CoTo l (k + 1) := ⟨fun j hj => by
  rcases Nat.lt_or_ge j k with q | q
  · exact h.h j q
  · obtain rfl : j = k := by omega
    exact ⟨h1, h2⟩⟩
structure Module.good (m : Module) : Prop where
  pages : 1 ≤ m.pages ∧ m.pages ≤ 16
  li : m.imports.length ≤ 12
  lc : m.cores.length ≤ 8
  im : ImTo m.imports m.imports.length
  co : CoTo m.cores m.cores.length
theorem nodup_take {α : Type} [Inhabited α] {f : α → ByteArray} (l : List α) : (l.map f).Nodup ↔ ∀ j, j < l.length → f (l.getD j default) ∉ (l.take j).map f := by
  constructor
  · intro h j hj hm
    rw [List.mem_map] at hm
    obtain ⟨a, ha, he⟩ := hm
    obtain ⟨i, hi, rfl⟩ := List.getElem_of_mem ha
    rw [List.length_take] at hi
    rw [List.getElem_take] at he
    have hp := List.pairwise_iff_getElem.1 h i j (by rw [List.length_map]; omega) (by rw [List.length_map]; omega) (by omega)
    rw [List.getElem_map, List.getElem_map] at hp
    rw [List.getD_eq_getElem?_getD, List.getElem?_eq_getElem hj] at he
    exact hp he
  · intro h
    refine List.pairwise_iff_getElem.2 fun i j hi hj hij e => ?_
    rw [List.length_map] at hi hj
    rw [List.getElem_map, List.getElem_map] at e
    refine h j hj (List.mem_map.2 ⟨l[i], ?_, ?_⟩)
    · refine List.mem_iff_getElem.2 ⟨i, by rw [List.length_take]; omega, List.getElem_take⟩
    · rw [List.getD_eq_getElem?_getD, List.getElem?_eq_getElem hj]
      exact e
def bitN (b : Bool) : Nat := cond b 1 0
def putB (s : ByteArray) : List Nat := lebL s.size ++ bsN s
def putN (l : List Nat) : List Nat := lebL l.length ++ l
def Import.by (x : Import) : List Nat := putB x.name ++ lebL x.params.toNat ++ [bitN x.result]
def Core.by (c : Core) : List Nat := putB c.name ++ lebL c.params.toNat ++ lebL c.locals.toNat ++ [bitN c.result]
def bodyN (l : List Ins) : List Nat := lebL l.length ++ l.flatMap Ins.by
def Core.cby (c : Core) : List Nat := putN (bodyN c.code)
def secN (id : Nat) (l : List Nat) : List Nat := id :: putN l
def headN : List Nat := [0, 99, 111, 114, 1]
def Module.s1 (m : Module) : List Nat := lebL m.pages.toNat
def Module.s2 (m : Module) : List Nat := lebL m.imports.length ++ m.imports.flatMap Import.by
def Module.s3 (m : Module) : List Nat := lebL m.cores.length ++ m.cores.flatMap Core.by
def Module.s4 (m : Module) : List Nat := lebL m.cores.length ++ m.cores.flatMap Core.cby
def Module.by (m : Module) : List Nat := headN ++ secN 1 m.s1 ++ secN 2 m.s2 ++ secN 3 m.s3 ++ secN 4 m.s4
theorem lb_small {n : Nat} (h : n ≤ 16383) : (lebL n).length ≤ 2 := lebL_len 1 n (by omega)
theorem lb_tiny {n : Nat} (h : n ≤ 127) : (lebL n).length ≤ 1 := by rw [lebL_small h]; exact Nat.le_refl _
theorem fm_len {α : Type} {f : α → List Nat} {k : Nat} : ∀ {l : List α}, (∀ x ∈ l, (f x).length ≤ k) → (l.flatMap f).length ≤ l.length * k
  | [], _ => by simp
  | a :: l, h => by
    have h1 := h a (List.mem_cons_self ..)
    have h2 := fm_len (l := l) fun x hx => h x (List.mem_cons_of_mem _ hx)
    rw [List.flatMap_cons, List.length_append, List.length_cons, Nat.add_mul]
    omega
theorem Ins.by_len (i : Ins) : i.by.length ≤ 11 := by
  unfold Ins.by
  split
  · rename_i hg
    rw [List.length_cons]
    split
    · rename_i h1
      have := sl10 (i.good_1 hg h1)
      omega
    · split
      · rename_i h1 h2
        have := i.good_n hg h1 h2
        have := lb9 (n := i.a.toNat) (by omega)
        omega
      · simp
  · simp
theorem bodyN_len {l : List Ins} (h : l.length ≤ 120) : (bodyN l).length ≤ 1322 := by
  have h1 := fm_len (f := Ins.by) (k := 11) (l := l) fun x _ => x.by_len
  have h2 := lb_small (n := l.length) (by omega)
  unfold bodyN
  rw [List.length_append]
  omega
theorem putN_len {l : List Nat} (h : l.length ≤ 16383) : (putN l).length ≤ l.length + 2 := by
  have := lb_small h
  unfold putN
  rw [List.length_append]
  omega
theorem putB_len {s : ByteArray} (h : s.size ≤ 127) : (putB s).length ≤ s.size + 1 := by
  have := lb_tiny h
  unfold putB
  rw [List.length_append, bsN_len]
  omega
theorem Import.by_len {x : Import} (h : x.good) : x.by.length ≤ 43 := by
  have := putB_len (s := x.name) (by have := h.1.hi; omega)
  have := h.1.hi
  have := lb_tiny (n := x.params.toNat) (by have := h.2; omega)
  unfold Import.by
  simp only [List.length_append, List.length_singleton]
  omega
theorem Core.by_len {x : Core} (h : x.good) : x.by.length ≤ 44 := by
  have := putB_len (s := x.name) (by have := h.1.hi; omega)
  have := h.1.hi
  have := lb_tiny (n := x.params.toNat) (by have := h.2.hp; omega)
  have := lb_tiny (n := x.locals.toNat) (by have := h.2.hl; omega)
  unfold Core.by
  simp only [List.length_append, List.length_singleton]
  omega
theorem Core.cby_len {x : Core} (h : x.fine) : x.cby.length ≤ 1324 := by
  have h1 := bodyN_len h.hc
  have := putN_len (l := bodyN x.code) (by omega)
  unfold Core.cby
  omega
theorem mem_getD {α : Type} [Inhabited α] {l : List α} {x : α} (h : x ∈ l) : ∃ j, j < l.length ∧ l.getD j default = x := by
  obtain ⟨j, hj, rfl⟩ := List.getElem_of_mem h
  exact ⟨j, hj, by rw [List.getD_eq_getElem?_getD, List.getElem?_eq_getElem hj]; rfl⟩
theorem Module.im_good {m : Module} (h : m.good) : ∀ x ∈ m.imports, x.good := fun x hx => by
  obtain ⟨j, hj, rfl⟩ := mem_getD hx
  exact (h.im.h j hj).1
theorem Module.co_good {m : Module} (h : m.good) : ∀ x ∈ m.cores, x.good := fun x hx => by
  obtain ⟨j, hj, rfl⟩ := mem_getD hx
  exact (h.co.h j hj).1
theorem secN_len {k : Nat} {l : List Nat} (h : l.length ≤ 16383) : (secN k l).length ≤ l.length + 3 := by
  have := putN_len h
  unfold secN
  rw [List.length_cons]
  omega
theorem Module.s1_len {m : Module} (h : m.good) : m.s1.length ≤ 1 := lb_tiny (by have := h.pages; omega)
theorem Module.s2_len {m : Module} (h : m.good) : m.s2.length ≤ 517 := by
  have h1 := fm_len (f := Import.by) (k := 43) (l := m.imports) fun x hx => Import.by_len (m.im_good h x hx)
  have := h.li
  have := lb_tiny (n := m.imports.length) (by omega)
  unfold Module.s2
  rw [List.length_append]
  omega
theorem Module.s3_len {m : Module} (h : m.good) : m.s3.length ≤ 353 := by
  have h1 := fm_len (f := Core.by) (k := 44) (l := m.cores) fun x hx => Core.by_len (m.co_good h x hx)
  have := h.lc
  have := lb_tiny (n := m.cores.length) (by omega)
  unfold Module.s3
  rw [List.length_append]
  omega
theorem Module.s4_len {m : Module} (h : m.good) : m.s4.length ≤ 10593 := by
  have h1 := fm_len (f := Core.cby) (k := 1324) (l := m.cores) fun x hx => Core.cby_len (m.co_good h x hx).2
  have := h.lc
  have := lb_tiny (n := m.cores.length) (by omega)
  unfold Module.s4
  rw [List.length_append]
  omega
theorem Module.by_len {m : Module} (h : m.good) : m.by.length ≤ 30000 := by
  have h1 := m.s1_len h
  have h2 := m.s2_len h
  have h3 := m.s3_len h
  have h4 := m.s4_len h
  have := secN_len (k := 1) (l := m.s1) (by omega)
  have := secN_len (k := 2) (l := m.s2) (by omega)
  have := secN_len (k := 3) (l := m.s3) (by omega)
  have := secN_len (k := 4) (l := m.s4) (by omega)
  unfold Module.by
  simp only [List.length_append]
  have : headN.length = 5 := rfl
  omega
section
open Go Go.Shelf
def lays137_ren : Go.Shelf.Ren := ⟨fun | 137 => 83 | 217 => 93 | 266 => 98 | n => n, fun | 9 => 9 | 5 => 5 | 3 => 3 | n => n, fun | n => n⟩
theorem lays137 : Lays.n137 Tryz.prog lays137_ren := {
  mixed := by kernel_rfl,
  f137 := Tryz.func83.trans (congrArg some (by kernel_rfl)),
  f217 := Tryz.func93.trans (congrArg some (by kernel_rfl)),
  f266 := Tryz.func98.trans (congrArg some (by kernel_rfl)),
  t3 := Tryz.underlying3,
  a3 := Tryz.isAgg3,
  z3 := Tryz.sizeOf3,
  v3 := Tryz.zeroValue3,
  t5 := Tryz.underlying5,
  a5 := Tryz.isAgg5,
  z5 := Tryz.sizeOf5,
  v5 := Tryz.zeroValue5,
  t9 := Tryz.underlying9,
  a9 := Tryz.isAgg9,
  z9 := Tryz.sizeOf9,
  v9 := Tryz.zeroValue9 }
end
section
open Go Go.RowKit Go.Shelf
theorem concL_1 {w : World} {S : Nat → Prop} {blk : Nat → BC} {H : Hp} {x : AV} {us : List Value} (h : ConcL w S blk H [x] us) : ∃ u, us = [u] ∧ Conc w S blk H x u := by
  obtain ⟨hl, h⟩ := h
  match us, hl with
  | [u], _ => exact ⟨u, rfl, h 0 x u rfl rfl⟩
theorem concL_2 {w : World} {S : Nat → Prop} {blk : Nat → BC} {H : Hp} {x y : AV} {us : List Value} (h : ConcL w S blk H [x, y] us) : ∃ u v, us = [u, v] ∧ Conc w S blk H x u ∧ Conc w S blk H y v := by
  obtain ⟨hl, h⟩ := h
  match us, hl with
  | [u, v], _ => exact ⟨u, v, rfl, h 0 x u rfl rfl, h 1 y v rfl rfl⟩
theorem conc_i {w : World} {S : Nat → Prop} {blk : Nat → BC} {H : Hp} {z : Int} (h1 : -9223372036854775808 ≤ z) (h2 : z < 9223372036854775808) : Conc w S blk H (.i .i64 z) (.int .i64 z) := .i (by
  simp only [Lit.wf, IntKind.min, IntKind.max, IntKind.signed, IntKind.bits, Bool.and_eq_true, decide_eq_true_eq, if_true, Bool.false_eq_true, if_false]
  omega)
theorem indexByte_lt : ∀ (l : List UInt8) (c : UInt8), Lib.indexByte l c < l.length
  | [], c => by simp [Lib.indexByte]
  | b :: l, c => by
    have := indexByte_lt l c
    unfold Lib.indexByte
    rw [List.length_cons]
    split
    · omega
    · split <;> omega
theorem indexByte_iff : ∀ (l : List UInt8) (c : UInt8), 0 ≤ Lib.indexByte l c ↔ c ∈ l
  | [], c => by simp [Lib.indexByte]
  | b :: l, c => by
    have ih := indexByte_iff l c
    have hg := Lib.indexByte_ge l c
    unfold Lib.indexByte
    rw [List.mem_cons, ← ih]
    by_cases h : b = c
    · subst h
      simp
    · have h1 : (b == c) = false := by simpa using h
      have h2 : ¬ c = b := fun e => h e.symm
      rw [h1]
      simp only [Bool.false_eq_true, if_false, h2, false_or]
      split
      · rename_i q
        have : Lib.indexByte l c = -1 := by simpa using q
        omega
      · rename_i q
        have : ¬ Lib.indexByte l c = -1 := by simpa using q
        omega
theorem indexByte_ok (s : ByteArray) (c : Nat) : Ret env.P 83 [.s s, .i .u8 (c : Int)] (fun r => r = .i .i64 (Lib.indexByte s.data.toList c.toUInt8)) := .mk fun w S us hS hc => by
  obtain ⟨u, v, rfl, h1, h2⟩ := concL_2 hc
  obtain ⟨rfl, hs⟩ := inv_s h1
  obtain ⟨rfl, _⟩ := inv_i h2
  have hlt := indexByte_lt s.data.toList c.toUInt8
  have hge := Lib.indexByte_ge s.data.toList c.toUInt8
  have hlen : s.data.toList.length = s.size := rfl
  have hm : maxLen ≤ 9223372036854775807 := by decide
  refine (Any.strings_IndexByte lays137 s c w).mono fun e w' ⟨he, hw⟩ => ⟨_, _, he, rfl, conc_i (by omega) (by omega), hw ▸ Below.refl _ _⟩
end
section
attribute [local irreducible] IntKind.wrap
abbrev WdTo.nat {b : ByteArray} {k : Nat} (_ : WdTo b k) : Nat := k
theorem wdB_no {b : ByteArray} {k : Nat} (hw : WdTo b k) (hk : k < b.size) (h : ¬ wdC (b.data.getD k 0).toNat) : ¬ wdB b := fun q => h (q.h.h k hk)
theorem wd_end {b : ByteArray} {k : Nat} (hw : WdTo b k) (hk : k = b.size) (h1 : 1 ≤ b.size) : decide ((b.size : Int) ≤ 40) = true ↔ wdB b := by
  subst hk
  exact ⟨fun q => ⟨hw, h1, by simp at q; omega⟩, fun q => by have := q.hi; simp; omega⟩
set_option maxHeartbeats 1000000 in
theorem l15Word_ok (b : ByteArray) (hs : b.size ≤ 1048576) : Ret env.P 49 [.s b] (fun r => r = .b (pb (wdB b))) := by
  refine ret_of (nt := 49) (rvs := [.tmp 2]) Tryz.func49 rfl rfl rfl rfl (fun X => ?_)
  repeat' (first | exact aa | ((conv => whnf) <;> (first | refine loopN b.size (fun k => [(3, .i .i64 k)]) (fun k => []) (fun k => WdTo b k) ⟨.zero b, ?_⟩ | refine And.intro ?_ ?_ | (intro _h; first | contradiction | (try simp only [dd] at _h)) | (refine dt_go ?_) | exact rfl | exact True.intro | exact dkk | exact dks | (refine wrap_succ ?_; omega))))
  all_goals (try simp only [Int.toNat_natCast] at *)
  all_goals first
    | exact WdTo.succ ‹_› (by unfold wdC; omega)
    | (conv => whnf
       exact leaf_f (wdB_no ‹WdTo b _› (by omega) (by unfold wdC; omega)))
    | (conv => whnf
       exact leaf_p (wd_end ‹WdTo b _› (by omega) (by omega)))
    | (conv => whnf
       exact leaf_f (fun q => by have := q.lo; omega))
    | trace_state
theorem isLetter_ok (c : Nat) : Ret env.P 81 [.i .u8 (c : Int)] (fun r => r = .b (decide (97 ≤ c ∧ c ≤ 122))) := by
  refine ret_of (nt := 9) (rvs := [.tmp 2]) Tryz.func81 rfl rfl rfl rfl (fun X => ?_)
  repeat' (first | exact aa | ((conv => whnf) <;> (first | refine And.intro ?_ ?_ | (intro _h; first | contradiction | (try simp only [dd] at _h)) | (refine dt_go ?_) | exact rfl | exact True.intro | exact dkk | exact dks | (refine wrap_succ ?_; omega))))
  all_goals (conv => whnf)
  · exact leaf_b (by rw [decide_eq_decide]; omega)
  · exact leaf_b (by symm; rw [decide_eq_false_iff_not]; omega)
theorem isDigit_ok (c : Nat) : Ret env.P 82 [.i .u8 (c : Int)] (fun r => r = .b (decide (48 ≤ c ∧ c ≤ 57))) := by
  refine ret_of (nt := 9) (rvs := [.tmp 2]) Tryz.func82 rfl rfl rfl rfl (fun X => ?_)
  repeat' (first | exact aa | ((conv => whnf) <;> (first | refine And.intro ?_ ?_ | (intro _h; first | contradiction | (try simp only [dd] at _h)) | (refine dt_go ?_) | exact rfl | exact True.intro | exact dkk | exact dks | (refine wrap_succ ?_; omega))))
  all_goals (conv => whnf)
  · exact leaf_b (by rw [decide_eq_decide]; omega)
  · exact leaf_b (by symm; rw [decide_eq_false_iff_not]; omega)
def mk3 : ByteArray := ⟨#[45, 46, 47]⟩
theorem ib3 {c : Nat} (h : c < 256) : 0 ≤ Lib.indexByte mk3.data.toList c.toUInt8 ↔ 45 ≤ c ∧ c ≤ 47 := by
  rw [indexByte_iff]
  show c.toUInt8 ∈ [45, 46, 47] ↔ _
  simp only [List.mem_cons, List.not_mem_nil, or_false]
  have e : ∀ m : Nat, m < 256 → (c.toUInt8 = m.toUInt8 ↔ c = m) := fun m hm => by
    constructor
    · intro q
      have := congrArg UInt8.toNat q
      rw [UInt8.toNat_ofNat_of_lt' h, UInt8.toNat_ofNat_of_lt' hm] at this
      exact this
    · rintro rfl; rfl
  have e1 := e 45 (by omega)
  have e2 := e 46 (by omega)
  have e3 := e 47 (by omega)
  show c.toUInt8 = Nat.toUInt8 45 ∨ c.toUInt8 = Nat.toUInt8 46 ∨ c.toUInt8 = Nat.toUInt8 47 ↔ _
  rw [e1, e2, e3]
  omega
theorem ib_yes {c : Nat} (h : c < 2 ^ 8) (hi : ¬ Lib.indexByte mk3.data.toList c.toUInt8 < 0) : wdC c := by
  have := (ib3 (c := c) h).1 (by omega)
  unfold wdC
  omega
theorem ib_no {c : Nat} (h : c < 2 ^ 8) (hi : Lib.indexByte mk3.data.toList c.toUInt8 < 0) (h1 : ¬ (97 ≤ c ∧ c ≤ 122)) (h2 : ¬ (48 ≤ c ∧ c ≤ 57)) : ¬ wdC c := by
  have : ¬ (45 ≤ c ∧ c ≤ 47) := fun q => by
    have := (ib3 (c := c) h).2 q
    omega
  unfold wdC
  omega
theorem wd_no3 {b : ByteArray} {k : Nat} (hw : WdTo b k) (hk : k < b.size) (hi : Lib.indexByte mk3.data.toList (b.data.getD k 0).toNat.toUInt8 < 0) (h1 : ¬ (97 ≤ (b.data.getD k 0).toNat ∧ (b.data.getD k 0).toNat ≤ 122)) (h2 : ¬ (48 ≤ (b.data.getD k 0).toNat ∧ (b.data.getD k 0).toNat ≤ 57)) : ¬ wdB b :=
  wdB_no hw hk (ib_no (b.data.getD k 0).toNat_lt hi h1 h2)
theorem wd_endI {b : ByteArray} {k : Nat} (hw : WdTo b k) (hk : k = b.size) : decide (1 ≤ (b.size : Int) ∧ (b.size : Int) ≤ 40) = true ↔ wdB b := by
  subst hk
  rw [decide_eq_true_iff]
  exact ⟨fun q => ⟨hw, by omega, by omega⟩, fun q => by have := q.hi; have := q.lo; omega⟩
theorem lengthI_ok (b : ByteArray) : Ret env.P 66 [.s b] (fun r => r = .i .i64 b.size) := by
  refine ret_of (nt := 5) (rvs := [.tmp 2]) Tryz.func66 rfl rfl rfl rfl (fun X => ?_)
  repeat' (first | exact aa | ((conv => whnf) <;> (first | refine And.intro ?_ ?_ | (intro _h; first | contradiction | (try simp only [dd] at _h)) | (refine dt_go ?_) | exact rfl | exact True.intro | exact dkk | exact dks | (refine wrap_succ ?_; omega))))
set_option maxHeartbeats 1000000 in
theorem wordOk_ok (b : ByteArray) (hs : b.size ≤ 1048576) : Ret env.P 63 [.s b] (fun r => r = .b (pb (wdB b))) := by
  refine ret_of (nt := 32) (rvs := [.tmp 2]) Tryz.func63 rfl rfl rfl rfl (fun X => ?_)
  repeat' (first | exact aa | ((conv => whnf) <;> (first | refine loopN b.size (fun k => [(6, .i .i64 k)]) (fun k => []) (fun k => WdTo b k) ⟨.zero b, ?_⟩ | refine And.intro ?_ ?_ | (intro _h; first | contradiction | (try simp only [dd] at _h)) | (refine dt_go ?_) | exact rfl | exact True.intro | exact dkk | exact dks | ((first | refine .inl ⟨_, isLetter_ok _, ?_⟩ | refine ⟨_, isLetter_ok _, ?_⟩); (try rintro _ rfl)) | ((first | refine .inl ⟨_, isDigit_ok _, ?_⟩ | refine ⟨_, isDigit_ok _, ?_⟩); (try rintro _ rfl)) | ((first | refine .inl ⟨_, indexByte_ok mk3 _, ?_⟩ | refine ⟨_, indexByte_ok mk3 _, ?_⟩); (try rintro _ rfl)) | ((first | refine .inl ⟨_, lengthI_ok _, ?_⟩ | refine ⟨_, lengthI_ok _, ?_⟩); (try rintro _ rfl)) | ((first | refine .inl ⟨_, within_ok _ _ _, ?_⟩ | refine ⟨_, within_ok _ _ _, ?_⟩); (try rintro _ rfl)) | (refine wrap_succ ?_; omega))))
  all_goals (try simp only [Int.toNat_natCast] at *)
  all_goals (have hb := (b.data.getD ‹WdTo b _›.nat 0).toNat_lt)
  all_goals first
    | exact WdTo.succ ‹_› (by unfold wdC; omega)
    | exact WdTo.succ ‹WdTo b _› (ib_yes hb ‹¬ Lib.indexByte _ _ < 0›)
    | (conv => whnf
       exact leaf_f (wd_no3 ‹WdTo b _› (by omega) ‹_› ‹_› ‹_›))
    | (conv => whnf
       exact leaf_p (wd_endI ‹WdTo b _› (by omega)))
    | trace_state
end
section
attribute [local irreducible] IntKind.wrap
theorem Wk.takeB {α : Type} [Inhabited α] {sz k : Nat} {c : α → List AV} {l : List α} {g : Nat → Nat → AV} (hk : k ≤ l.length) (hg : ∀ i j, g i j = (c (l.getD i default)).getD j .any) : Wk (.sl sz k g) (slL sz c (l.take k)) := by
  refine Wk.sl' rfl (by simp; omega) fun i j hi hj => .of ?_
  rw [hg]
  congr 2
  rw [List.getD_eq_getElem?_getD, List.getD_eq_getElem?_getD, List.getElem?_take, if_pos hi]
def imP (nm : ByteArray) (x : Import) : Bool := decide (x.name = nm)
def coP (nm : ByteArray) (x : Core) : Bool := decide (x.name = nm)
theorem imP_iff {nm : ByteArray} {l : List Import} : 0 ≤ idxI (l.findIdx? (imP nm)) ↔ nm ∈ l.map (·.name) := by
  have := idx_any l (imP nm)
  rw [Bool.eq_iff_iff, decide_eq_true_iff, List.any_eq_true] at this
  rw [this, List.mem_map]
  exact ⟨fun ⟨x, hx, he⟩ => ⟨x, hx, of_decide_eq_true he⟩, fun ⟨x, hx, he⟩ => ⟨x, hx, decide_eq_true he⟩⟩
theorem coP_iff {nm : ByteArray} {l : List Core} : 0 ≤ idxI (l.findIdx? (coP nm)) ↔ nm ∈ l.map (·.name) := by
  have := idx_any l (coP nm)
  rw [Bool.eq_iff_iff, decide_eq_true_iff, List.any_eq_true] at this
  rw [this, List.mem_map]
  exact ⟨fun ⟨x, hx, he⟩ => ⟨x, hx, of_decide_eq_true he⟩, fun ⟨x, hx, he⟩ => ⟨x, hx, decide_eq_true he⟩⟩
structure ImNo (l : List Import) (nm : ByteArray) (k : Nat) : Prop where
  h : ∀ j, j < k → imP nm (l.getD j default) = false
structure CoNo (l : List Core) (nm : ByteArray) (k : Nat) : Prop where
  h : ∀ j, j < k → coP nm (l.getD j default) = false
theorem ImNo.zero (l : List Import) (nm : ByteArray) : ImNo l nm 0 := ⟨fun j hj => absurd hj (Nat.not_lt_zero _)⟩
theorem CoNo.zero (l : List Core) (nm : ByteArray) : CoNo l nm 0 := ⟨fun j hj => absurd hj (Nat.not_lt_zero _)⟩
theorem ImNo.succ {l : List Import} {nm : ByteArray} {k : Nat} (h : ImNo l nm k) (hn : ¬ (l.getD k default).name = nm) : ImNo l nm (k + 1) := ⟨fun j hj => by
  rcases Nat.lt_or_ge j k with q | q
  · exact h.h j q
  · obtain rfl : j = k := by omega
    exact decide_eq_false hn⟩
theorem CoNo.succ {l : List Core} {nm : ByteArray} {k : Nat} (h : CoNo l nm k) (hn : ¬ (l.getD k default).name = nm) : CoNo l nm (k + 1) := ⟨fun j hj => by
  rcases Nat.lt_or_ge j k with q | q
  · exact h.h j q
  · obtain rfl : j = k := by omega
    exact decide_eq_false hn⟩
theorem l15ImportAt_ok (l : List Import) (nm : ByteArray) (hl : l.length ≤ 1048576) : Ret env.P 50 [slL 3 Import.cs l, .s nm] (fun r => r = .i .i64 (idxI (l.findIdx? (imP nm)))) := by
  refine ret_of (nt := 20) (rvs := [.tmp 4]) Tryz.func50 rfl rfl rfl rfl (fun X => ?_)
  repeat' (first | exact aa | ((conv => whnf) <;> (first | refine loopN l.length (fun k => [(5, .i .i64 k)]) (fun k => []) (fun k => ImNo l nm k) ⟨.zero l nm, ?_⟩ | refine And.intro ?_ ?_ | (intro _h; first | contradiction | (try simp only [dd] at _h)) | (refine dt_go ?_) | exact rfl | exact True.intro | exact dkk | exact dks | (refine wrap_succ ?_; omega))))
  all_goals (try simp only [Int.toNat_natCast] at *)
  all_goals first
    | exact ImNo.succ ‹_› ‹_›
    | (conv => whnf
       exact leaf_i (idx_some (by omega) (decide_eq_true ‹_›) ‹ImNo l nm _›.h))
    | (conv => whnf
       exact leaf_i (idx_none fun j hj => ‹ImNo l nm _›.h j (by omega)))
    | trace_state
theorem l15CoreAt_ok (l : List Core) (nm : ByteArray) (hl : l.length ≤ 1048576) : Ret env.P 52 [slL 5 Core.cs l, .s nm] (fun r => r = .i .i64 (idxI (l.findIdx? (coP nm)))) := by
  refine ret_of (nt := 20) (rvs := [.tmp 4]) Tryz.func52 rfl rfl rfl rfl (fun X => ?_)
  repeat' (first | exact aa | ((conv => whnf) <;> (first | refine loopN l.length (fun k => [(5, .i .i64 k)]) (fun k => []) (fun k => CoNo l nm k) ⟨.zero l nm, ?_⟩ | refine And.intro ?_ ?_ | (intro _h; first | contradiction | (try simp only [dd] at _h)) | (refine dt_go ?_) | exact rfl | exact True.intro | exact dkk | exact dks | (refine wrap_succ ?_; omega))))
  all_goals (try simp only [Int.toNat_natCast] at *)
  all_goals first
    | exact CoNo.succ ‹_› ‹_›
    | (conv => whnf
       exact leaf_i (idx_some (by omega) (decide_eq_true ‹_›) ‹CoNo l nm _›.h))
    | (conv => whnf
       exact leaf_i (idx_none fun j hj => ‹CoNo l nm _›.h j (by omega)))
    | trace_state
theorem Core.okc {c : Core} (h : c.ok) : c.code.length ≤ 1048576 := h.2.1
theorem core_no {c : Core} {k : Nat} (hw : CodeTo c.code k) (hk : k < c.code.length) (h : ¬ (c.code.getD k default).good = true) : ¬ c.good := fun q => h (q.2.hi.h k hk)
theorem core_yes {c : Core} {k : Nat} (hw : CodeTo c.code k) (hk : k = c.code.length) (h0 : wdB c.name) (h1 : 0 ≤ c.params ∧ c.params ≤ 8) (h2 : 0 ≤ c.locals ∧ c.locals ≤ 8) (h3 : c.code.length ≤ 120) : c.good := by
  subst hk
  exact ⟨h0, h1, h2, h3, hw⟩
theorem l15Core_ok (c : Core) (h : c.ok) : Ret env.P 51 [.agg c.cs] (fun r => r = .b (pb c.good)) := by
  have hs : c.name.size ≤ 1048576 := h.1
  have hl := Core.okc h
  refine ret_of (nt := 40) (rvs := [.tmp 2]) Tryz.func51 rfl rfl rfl rfl (fun X => ?_)
  repeat' (first | exact aa | ((conv => whnf) <;> (first | refine loopN c.code.length (fun k => [(3, .i .i64 k)]) (fun k => []) (fun k => CodeTo c.code k) ⟨.zero _, ?_⟩ | refine And.intro ?_ ?_ | (intro _h; first | contradiction | (try simp only [dd] at _h)) | (refine dt_go ?_) | exact rfl | exact True.intro | exact dkk | exact dks | ((first | refine .inl ⟨_, l15Word_ok _ hs, ?_⟩ | refine ⟨_, l15Word_ok _ hs, ?_⟩); (try rintro _ rfl)) | ((first | refine .inl ⟨_, l00In_ok _ _ _, ?_⟩ | refine ⟨_, l00In_ok _ _ _, ?_⟩); (try rintro _ rfl)) | ((first | refine .inl ⟨_, l15Ins_ok _, ?_⟩ | refine ⟨_, l15Ins_ok _, ?_⟩); (try rintro _ rfl)) | (refine wrap_succ ?_; omega))))
  all_goals (try simp only [Int.toNat_natCast] at *)
  all_goals first
    | exact CodeTo.succ ‹_› (by simpa using ‹¬ _ = false›)
    | (conv => whnf
       exact leaf_f (core_no ‹CodeTo c.code _› (by omega) (by simpa using ‹_ = false›)))
    | (conv => whnf
       exact leaf_t (core_yes ‹CodeTo c.code _› (by omega) (Classical.not_not.1 ‹¬ ¬ wdB _›) ‹0 ≤ c.params ∧ _› ‹0 ≤ c.locals ∧ _› (by omega)))
    | (conv => whnf
       exact leaf_f (fun q => by first | exact absurd q.1 ‹¬ wdB _› | (have := q.2.hp; have := q.2.hl; have := q.2.hc; omega)))
    | trace_state
theorem first_of {p q : Prop} (h : p) (_ : q) : p := h
theorem im_no {m : Module} {k : Nat} (hw : ImTo m.imports k) (hk : k < m.imports.length) (h : (m.imports.getD k default).good → (m.imports.getD k default).name ∈ (m.imports.take k).map (·.name)) : ¬ m.good := fun q => by
  have := q.im.h k hk
  exact this.2 (h this.1)
theorem co_no {m : Module} {k : Nat} (hw : CoTo m.cores k) (hk : k < m.cores.length) (h : (m.cores.getD k default).good → (m.cores.getD k default).name ∈ (m.cores.take k).map (·.name)) : ¬ m.good := fun q => by
  have := q.co.h k hk
  exact this.2 (h this.1)
theorem mod_yes {m : Module} {k k' : Nat} (hw : ImTo m.imports k) (hk : k = m.imports.length) (hw' : CoTo m.cores k') (hk' : k' = m.cores.length) (hp : 1 ≤ m.pages ∧ m.pages ≤ 16) (h1 : m.imports.length ≤ 12) (h2 : m.cores.length ≤ 8) : m.good := by
  subst hk
  subst hk'
  exact ⟨hp, h1, h2, hw, hw'⟩
set_option maxHeartbeats 1000000 in
theorem l15Shape_ok (m : Module) (h : m.ok) : Ret env.P 23 [.agg m.cs] (fun r => r = .b (pb m.good)) := by
  have hi := h.1.1
  have hc := h.2.1
  have him : ∀ k, k < m.imports.length → (m.imports.getD k default).name.size ≤ 1048576 := fun k hk => h.1.2 k hk
  have hco : ∀ k, k < m.cores.length → (m.cores.getD k default).ok := fun k hk => h.2.2 k hk
  have ht : ∀ (k : Nat), ((m.imports.take k).length ≤ 1048576) := fun k => by rw [List.length_take]; omega
  have hu : ∀ (k : Nat), ((m.cores.take k).length ≤ 1048576) := fun k => by rw [List.length_take]; omega
  refine ret_of (nt := 82) (rvs := [.tmp 2]) Tryz.func23 rfl rfl rfl rfl (fun X => ?_)
  repeat' (first | exact aa | ((conv => whnf) <;> (first | ((first | refine .inl ⟨_, Ret.wk (.cons (Wk.takeB (l := m.imports) (by omega) (fun _ _ => by simp only [Int.toNat_zero, Nat.zero_add])) (.cons (.refl _) .nil)) (l15ImportAt_ok (m.imports.take _) _ (ht _)), ?_⟩ | refine ⟨_, Ret.wk (.cons (Wk.takeB (l := m.imports) (by omega) (fun _ _ => by simp only [Int.toNat_zero, Nat.zero_add])) (.cons (.refl _) .nil)) (l15ImportAt_ok (m.imports.take _) _ (ht _)), ?_⟩); (try rintro _ rfl)) | ((first | refine .inl ⟨_, Ret.wk (.cons (Wk.takeB (l := m.cores) (by omega) (fun _ _ => by simp only [Int.toNat_zero, Nat.zero_add])) (.cons (.refl _) .nil)) (l15CoreAt_ok (m.cores.take _) _ (hu _)), ?_⟩ | refine ⟨_, Ret.wk (.cons (Wk.takeB (l := m.cores) (by omega) (fun _ _ => by simp only [Int.toNat_zero, Nat.zero_add])) (.cons (.refl _) .nil)) (l15CoreAt_ok (m.cores.take _) _ (hu _)), ?_⟩); (try rintro _ rfl)) | refine loopAt 3 m.imports.length (fun k => [(3, .i .i64 k)]) (fun k => []) (fun k => ImTo m.imports k) rfl ⟨.zero _, ?_⟩ | refine loopAt 5 m.cores.length (fun k => [(5, .i .i64 k)]) (fun k => []) (fun k => CoTo m.cores k) rfl ⟨.zero _, ?_⟩ | refine And.intro ?_ ?_ | (intro _h; first | contradiction | (try simp only [dd] at _h)) | (refine dt_go ?_) | exact rfl | exact True.intro | exact dkk | exact dks | ((first | refine .inl ⟨_, l15Word_ok _ (him _ (by omega)), ?_⟩ | refine ⟨_, l15Word_ok _ (him _ (by omega)), ?_⟩); (try rintro _ rfl)) | ((first | refine .inl ⟨_, l00In_ok _ _ _, ?_⟩ | refine ⟨_, l00In_ok _ _ _, ?_⟩); (try rintro _ rfl)) | ((first | refine .inl ⟨_, l15Core_ok _ (hco _ (by omega)), ?_⟩ | refine ⟨_, l15Core_ok _ (hco _ (by omega)), ?_⟩); (try rintro _ rfl)) | (refine wrap_succ ?_; omega))))
  all_goals (try simp only [Int.toNat_natCast, Int.sub_zero, imP_iff, coP_iff, Classical.not_not] at *)
  all_goals first
    | exact ImTo.succ ‹_› ⟨‹wdB _›, ‹_ ∧ _›⟩ ‹_›
    | exact CoTo.succ ‹_› ‹_› ‹_›
    | (conv => whnf
       exact leaf_f (co_no ‹CoTo m.cores _› (by omega) (fun q => first_of ‹_› q)))
    | (conv => whnf
       exact leaf_f (co_no ‹CoTo m.cores _› (by omega) (fun q => absurd q ‹_›)))
    | (conv => whnf
       exact leaf_t (mod_yes ‹ImTo m.imports _› (by omega) ‹CoTo m.cores _› (by omega) ‹1 ≤ m.pages ∧ _› (by omega) (by omega)))
    | (conv => whnf
       exact leaf_f (im_no ‹ImTo m.imports _› (by omega) (fun q => first_of ‹_› q)))
    | (conv => whnf
       exact leaf_f (im_no ‹ImTo m.imports _› (by omega) (fun q => absurd q.1 ‹_›)))
    | (conv => whnf
       exact leaf_f (im_no ‹ImTo m.imports _› (by omega) (fun q => absurd q.2 ‹_›)))
    | (conv => whnf
       exact leaf_f (fun q => by first | exact absurd q.pages ‹_› | (have := q.li; have := q.lc; omega)))
    | trace_state
theorem shapeS_ok (m : Module) (h : m.ok) : Ret env.P 11 [.agg m.cs] (fun r => r = .b (pb m.good)) := by
  refine ret_of (nt := 5) (rvs := [.tmp 2]) Tryz.func11 rfl rfl rfl rfl (fun X => ?_)
  repeat' (first | exact aa | ((conv => whnf) <;> (first | refine And.intro ?_ ?_ | (intro _h; first | contradiction | (try simp only [dd] at _h)) | (refine dt_go ?_) | exact rfl | exact True.intro | exact dkk | exact dks | ((first | refine .inl ⟨_, l15Shape_ok m h, ?_⟩ | refine ⟨_, l15Shape_ok m h, ?_⟩); (try rintro _ rfl)) | (refine wrap_succ ?_; omega))))
end
structure Section where
  id : Int
  name : ByteArray
  bytes : ByteArray
  deriving DecidableEq, Inhabited
def Section.cs (a : Section) : List AV := [.i .i64 a.id, .s a.name, .s a.bytes]
theorem Section.low (a : Section) : a.cs.all (low1 0) = true := rfl
def Section.ok (a : Section) : Prop := okS a.name ∧ okS a.bytes
def Section.sz (a : Section) (left : Int) : Int :=
  if (szSt a.name left) < 0 then -1 else if (szSt a.bytes (szSt a.name left)) < 0 then -1 else (szSt a.bytes (szSt a.name left))
theorem Section.sz_le (a : Section) (left : Int) (h1 : left ≤ 1048576) : Section.sz a left ≤ 1048576 := by
  have b1 : (szSt a.name left) ≤ 1048576 := szN_le h1
  have b2 : (szSt a.bytes (szSt a.name left)) ≤ 1048576 := szN_le b1
  unfold Section.sz
  repeat' split
  all_goals omega
theorem Section.sz_ok (a : Section) (left : Int) (h0 : 0 ≤ left) (h1 : left ≤ 1048576) (hn : ¬ Section.sz a left < 0) : Section.ok a := by
  have b1 : (szSt a.name left) ≤ 1048576 := szN_le h1
  have b2 : (szSt a.bytes (szSt a.name left)) ≤ 1048576 := szN_le b1
  unfold Section.sz at hn
  by_cases c1 : (szSt a.name left) < 0
  · rw [if_pos c1] at hn; omega
  rw [if_neg c1] at hn
  by_cases c2 : (szSt a.bytes (szSt a.name left)) < 0
  · rw [if_pos c2] at hn; omega
  rw [if_neg c2] at hn
  exact ⟨szSt_ok h0 h1 c1, szSt_ok (by omega) b1 c2⟩
instance : HoldC Ins.cs := holdC_plain fun _ => rfl
instance : FreeC Ins.cs := freeC_plain fun _ => rfl
instance : Shr 0 Ins.cs Ins.cs := shr_plain fun _ => rfl
end Go.Proofs.YtoccjfeaaaaegaaGreat
