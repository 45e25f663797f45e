/- Texts for VModuleBytesP. -/
import Derived.Test.YtoccjfeaaaaegaaGreatVp23
import Derived.Test.YtoccjfeaaaaegaaGreatVp24
namespace Go.Proofs.YtoccjfeaaaaegaaGreat
open Go Go.RowKit
set_option linter.unusedVariables false
set_option linter.unusedSimpArgs false
section
open Go Go.RowKit Go.Shelf
def conB (z : Int) (pn b : ByteArray) : ByteArray := if z = 0 then pn ++ b else b
theorem ba_toL (b : ByteArray) : (⟨(byL b).toArray⟩ : ByteArray) = b := ByteArray.ext (by show b.data.toList.toArray = b.data; simp)
def sbAcc (fx pb : Nat → ByteArray) (k : Nat) : List UInt8 := [0, 99, 111, 114, 1] ++ (List.range k).flatMap fun k => byL (fx k ++ pb k)
theorem sbAcc_next (fx pb : Nat → ByteArray) (k : Nat) : sbAcc fx pb k ++ byL (fx k ++ pb k) = sbAcc fx pb (k + 1) := by
  unfold sbAcc
  rw [List.range_succ, List.flatMap_append, List.append_assoc]
  simp
theorem sbAcc_len (fx pb : Nat → ByteArray) (h : ∀ k, (fx k).size + (pb k).size ≤ 1000000000) (k : Nat) : (sbAcc fx pb k).length ≤ 5 + k * 1000000000 := by
  have h1 := fm_lenU (f := fun k => byL (fx k ++ pb k)) (k := 1000000000) (l := List.range k) fun x _ => by
    show (fx x ++ pb x).size ≤ _
    rw [size_app]
    exact h x
  rw [List.length_range] at h1
  unfold sbAcc
  rw [List.length_append]
  show 5 + _ ≤ _
  omega
set_option maxRecDepth 100000 in
set_option maxHeartbeats 400000 in
theorem sb_walk (n : Nat) (hn : n ≤ 20) (a : Option Addr) (cap : Nat) (id : Nat → Int) (nm bs : Nat → ByteArray) (pn fx pb : Nat → ByteArray) (out : ByteArray) (w : World)
    (hnm : ∀ k, (pn k).size + (bs k).size ≤ 1000000000) (hfx : ∀ k, (fx k).size + (pb k).size ≤ 1000000000)
    (ho1 : (sbAcc fx pb n).length ≤ 30000 → out = ⟨(sbAcc fx pb n).toArray⟩) (ho2 : 30000 < (sbAcc fx pb n).length → out = ByteArray.mk #[])
    (ha : 0 < n → ∃ b o, a = some ⟨b, o, none⟩ ∧ b < w.heap.size ∧ ∀ k, k < n → w.cell? ⟨b, o + k * 3, none⟩ = some (.int .i64 (id k)) ∧ w.cell? ⟨b, o + k * 3 + 1, none⟩ = some (.string (nm k)) ∧ w.cell? ⟨b, o + k * 3 + 2, none⟩ = some (.string (bs k)))
    (cO : ∀ k W, k < n → Below w.heap.size w W → Calls Tryz.prog 35 #[.agg #[.int .i64 (id k), .string (nm k), .string (bs k)]] W fun e W' => e = .returned (.bool true) ∧ Below W.heap.size W W')
    (cN : ∀ k W, k < n → Below w.heap.size w W → Calls Tryz.prog 36 #[.string (nm k)] W fun e W' => e = .returned (.string (pn k)) ∧ Below W.heap.size W W')
    (cF : ∀ k W, k < n → Below w.heap.size w W → Calls Tryz.prog 37 #[.int .i64 (id k), .int .i64 1] W fun e W' => e = .returned (.string (fx k)) ∧ Below W.heap.size W W')
    (cP : ∀ k W, k < n → Below w.heap.size w W → Calls Tryz.prog 36 #[.string (conB (id k) (pn k) (bs k))] W fun e W' => e = .returned (.string (pb k)) ∧ Below W.heap.size W W') :
    Calls Tryz.prog 17 #[.slice a n cap] w fun e w' => e = .returned (.string out) ∧ Below w.heap.size w w' := by
  have z1 : ¬ (20 : Int) < (n : Int) := by omega
  have hm : (1000000000 : Nat) ≤ maxLen := by decide
  go_enter Tryz.func17, Tryz.ntmps17
  have hB1 : Below w.heap.size w (w.alloc (.cells #[.pointer none, .slice none 0 0] 72)) := (Below.refl _ w).alloc (Nat.le_refl _) _
  have hI1 := bd_fresh w
  go_wp2_with (go_at_call 34; refine (bd_write _ _ _ _ _ hI1 (by decide) (by simp)).mono ?_; rintro e w4 ⟨rfl, hA4, hb4⟩)
  have hB4 := hB1.trans (hb4.mono (Nat.le_refl _))
  replace hA4 : BdAt w.heap.size w.heap.size (Lib.byteCells (sbAcc fx pb 0)) w4 := hA4
  go_wp2
  go_loopw [13] (fun i wr => ∃ k : Nat, k ≤ n ∧ i = .int .i64 k ∧ BdAt w.heap.size w.heap.size (Lib.byteCells (sbAcc fx pb k)) wr ∧ Below w.heap.size w wr) (fun i _ => n - (intOf i).toNat)
  case atStart => exact ⟨0, Nat.zero_le _, rfl, hA4, hB4⟩
  case round =>
    obtain ⟨k, hk, rfl, hA, hB⟩ := hrel
    have hac := sbAcc_len fx pb hfx k
    by_cases hlt : k < n
    · obtain ⟨b, o, rfl, hbw, hcell⟩ := ha (by omega)
      have c0 : wr.cell? ⟨b, o + k * 3, none⟩ = some (.int .i64 (id k)) := (hB.cell (p := ⟨b, o + k * 3, none⟩) hbw).trans (hcell k hlt).1
      have c1 : wr.cell? ⟨b, o + k * 3 + 1, none⟩ = some (.string (nm k)) := (hB.cell (p := ⟨b, o + k * 3 + 1, none⟩) hbw).trans (hcell k hlt).2.1
      have c2 : wr.cell? ⟨b, o + k * 3 + 2, none⟩ = some (.string (bs k)) := (hB.cell (p := ⟨b, o + k * 3 + 2, none⟩) hbw).trans (hcell k hlt).2.2
      clear hcell ha
      have hB5 : Below w.heap.size w (wr.alloc (.cells #[.int .i64 (id k), .string (nm k), .string (bs k)] 55)) := hB.alloc hB.size _
      have hbr : Below wr.heap.size wr (wr.alloc (.cells #[.int .i64 (id k), .string (nm k), .string (bs k)] 55)) := (Below.refl _ wr).alloc (Nat.le_refl _) _
      have hA5 := bld_old hA hbr
      have hw1r : w.heap.size < wr.heap.size := hA.lt
      have e0 : (wr.alloc (.cells #[.int .i64 (id k), .string (nm k), .string (bs k)] 55)).cell? ⟨wr.heap.size, 0, none⟩ = some (.int .i64 (id k)) := by simp
      have e1 : (wr.alloc (.cells #[.int .i64 (id k), .string (nm k), .string (bs k)] 55)).cell? ⟨wr.heap.size, 1, none⟩ = some (.string (nm k)) := by simp
      have e2 : (wr.alloc (.cells #[.int .i64 (id k), .string (nm k), .string (bs k)] 55)).cell? ⟨wr.heap.size, 2, none⟩ = some (.string (bs k)) := by simp
      have es : wr.heap.size < (wr.alloc (.cells #[.int .i64 (id k), .string (nm k), .string (bs k)] 55)).heap.size := by simp
      have hnk := hnm k
      have hfk := hfx k
      have hP := cP k
      have hF := cF k
      go_wp2_with (go_at_call 35; refine (cO k _ hlt hB5).mono ?_; rintro e w5 ⟨rfl, hb5⟩; have d0 := (hb5.cell (p := ⟨wr.heap.size, 0, none⟩) es).trans e0; have d1 := (hb5.cell (p := ⟨wr.heap.size, 1, none⟩) es).trans e1; have d2 := (hb5.cell (p := ⟨wr.heap.size, 2, none⟩) es).trans e2; clear e0 e1 e2; by_cases hz : id k = 0)
      · have hA6 := bld_old hA5 hb5
        have hB6 := hB5.trans (hb5.mono hB5.size)
        have es6 : wr.heap.size < w5.heap.size := Nat.lt_of_lt_of_le es hb5.size
        unfold conB at hP
        rw [if_pos hz] at hP
        rw [hz] at hF d0
        go_wp2_with (go_at_call 36; refine (cN k _ hlt hB6).mono ?_; rintro e w6 ⟨rfl, hb6⟩; have d0 := (hb6.cell (p := ⟨wr.heap.size, 0, none⟩) es6).trans d0)
        have hA7 := bld_old hA6 hb6
        have hB7 := hB6.trans (hb6.mono hB6.size)
        go_wp2_with (go_at_call 37; refine (hF _ hlt hB7).mono ?_; rintro e w7 ⟨rfl, hb7⟩)
        have hA8 := bld_old hA7 hb7
        have hB8 := hB7.trans (hb7.mono hB7.size)
        go_wp2_with (go_at_call 36; refine (hP _ hlt hB8).mono ?_; rintro e w10 ⟨rfl, hb10⟩)
        have hA10 := bld_old hA8 hb10
        have hB10 := hB8.trans (hb10.mono hB8.size)
        have hac2 : (Lib.byteCells (sbAcc fx pb k)).length + (fx k ++ pb k).size ≤ 140737488355328 := by rw [Lib.byteCells_length, size_app]; omega
        go_wp2_with (go_at_call 34; refine (bd_write _ _ _ _ _ (.inr hA10) hac2 (by have e1 := hB10.size; have e2 := hA.lt; omega)).mono ?_; rintro e w8 ⟨rfl, hA9, hb8⟩)
        have hB9 := hB10.trans (hb8.mono (Nat.le_refl _))
        rw [← ba_toL (fx k ++ pb k), bd_cells, sbAcc_next] at hA9
        go_wp2
        go_roundw
        case rel => exact ⟨k + 1, by omega, by simp, hA9, hB9⟩
        case measure => simp [intOf]; omega
      · have hA6 := bld_old hA5 hb5
        have hB6 := hB5.trans (hb5.mono hB5.size)
        unfold conB at hP
        rw [if_neg hz] at hP
        go_wp2_with (go_at_call 37; refine (hF _ hlt hB6).mono ?_; rintro e w6 ⟨rfl, hb6⟩)
        have hA7 := bld_old hA6 hb6
        have hB7 := hB6.trans (hb6.mono hB6.size)
        go_wp2_with (go_at_call 36; refine (hP _ hlt hB7).mono ?_; rintro e w7 ⟨rfl, hb7⟩)
        have hA8 := bld_old hA7 hb7
        have hB8 := hB7.trans (hb7.mono hB7.size)
        have hac2 : (Lib.byteCells (sbAcc fx pb k)).length + (fx k ++ pb k).size ≤ 140737488355328 := by rw [Lib.byteCells_length, size_app]; omega
        go_wp2_with (go_at_call 34; refine (bd_write _ _ _ _ _ (.inr hA8) hac2 (by have e1 := hB8.size; have e2 := hA.lt; omega)).mono ?_; rintro e w8 ⟨rfl, hA9, hb8⟩)
        have hB9 := hB8.trans (hb8.mono (Nat.le_refl _))
        rw [← ba_toL (fx k ++ pb k), bd_cells, sbAcc_next] at hA9
        go_wp2
        go_roundw
        case rel => exact ⟨k + 1, by omega, by simp, hA9, hB9⟩
        case measure => simp [intOf]; omega
    · obtain rfl : k = n := by omega
      have hl2 : (Lib.byteCells (sbAcc fx pb k)).length = (sbAcc fx pb k).length := Lib.byteCells_length _
      by_cases hs : (sbAcc fx pb k).length ≤ 30000
      · have hout := ho1 hs
        have z3 : ¬ (30000 : Int) < ((sbAcc fx pb k).length : Int) := by omega
        generalize hL : sbAcc fx pb k = L at *
        generalize hN : L.length = N at *
        go_wp2_with (go_at_call 38; refine (bd_len _ _ _ _ (.inr hA)).mono ?_; rintro e w5 ⟨rfl, rfl⟩; rw [hl2])
        go_wp2_with (go_at_call 39; refine (bd_string _ _ _ _ (.inr hA) (by have := hA.lt; omega)).mono ?_; rintro e w5 ⟨rfl, hb5⟩)
        go_ret
        exact ⟨by rw [hout]; rfl, hB.trans (hb5.mono (Nat.le_refl _))⟩
      · have hout := ho2 (by omega)
        have z3 : (30000 : Int) < ((sbAcc fx pb k).length : Int) := by omega
        go_wp2_with (go_at_call 38; refine (bd_len _ _ _ _ (.inr hA)).mono ?_; rintro e w5 ⟨rfl, rfl⟩; rw [hl2])
        go_ret
        exact ⟨by rw [hout]; rfl, hB⟩
end
section
attribute [local irreducible] IntKind.wrap
instance : Shr 0 Section.cs Section.cs := shr_plain fun _ => rfl
def allN (l : List Section) (k : Nat) : List Nat := headN ++ (l.take k).flatMap Section.by
structure AlI (l : List Section) (y : StS) : Prop where
  hk : y.k ≤ l.length
  hb : y.b = baN (allN l y.k)
structure Fit (l : List Section) : Prop where
  len : l.length ≤ 100
  h : ∀ k, k < l.length → (l.getD k default).fit
theorem Section.by_len {x : Section} (h : x.fit) : x.by.length ≤ 100000000 := by
  have := h.nm
  have := h.by_
  have h1 := lb9 (n := x.name.size) (by omega)
  have h2 := lb9 (n := x.bytes.size) (by omega)
  unfold Section.by
  split
  · have h3 : (putB x.name ++ bsN x.bytes).length ≤ 10000009 + 10000000 := by
      unfold putB
      rw [List.length_append, List.length_append, bsN_len, bsN_len]
      omega
    have h4 := lb9 (n := (putB x.name ++ bsN x.bytes).length) (by omega)
    unfold putN
    rw [List.length_cons, List.length_append]
    omega
  · unfold putB
    rw [List.length_cons, List.length_append, bsN_len]
    omega
theorem Fit.mem {l : List Section} (h : Fit l) : ∀ x ∈ l, x.fit := fun x hx => by
  obtain ⟨j, hj, rfl⟩ := mem_getD hx
  exact h.h j hj
theorem AlI.zero (l : List Section) : AlI l ⟨0, baN headN⟩ := ⟨Nat.zero_le _, by simp [allN]⟩
theorem AlI.next {l : List Section} {y : StS} (h : AlI l y) (hk : y.k < l.length) : AlI l ⟨y.k + 1, y.b ++ baN (l.getD y.k default).by⟩ := ⟨hk, by
  dsimp only
  rw [h.hb, baN_app]
  unfold allN
  rw [fm_take hk, List.append_assoc]⟩
theorem AlI.size {l : List Section} {y : StS} (h : AlI l y) (hf : Fit l) : y.b.size ≤ 10000000100 := by
  have h1 := fm_len (f := Section.by) (k := 100000000) (l := l.take y.k) fun x hx => Section.by_len (hf.mem x (List.mem_of_mem_take hx))
  have := hf.len
  rw [List.length_take] at h1
  rw [h.hb, baN_size]
  unfold allN
  rw [List.length_append]
  show 5 + _ ≤ _
  omega
theorem AlI.last {l : List Section} {y : StS} (h : AlI l y) (hk : ¬ (y.k : Int) < (l.length : Int)) : y.b = baN (allN l l.length) := by
  have := h.hk
  rw [h.hb, show y.k = l.length by omega]
theorem al_cap {a b : Nat} (h : a ≤ 10000000100) (h' : b ≤ 100000000) : (a + b) * 1 ≤ 140737488355328 := by omega
theorem al_len {a b : Nat} (h : a ≤ 10000000100) (h' : b ≤ 100000000) : a + b ≤ 9223372036854775807 := by omega
theorem secby_size {l : List Section} (hf : Fit l) {k : Nat} (hk : k < l.length) : (baN (l.getD k default).by).size ≤ 100000000 := by
  rw [baN_size]
  exact Section.by_len (hf.h k hk)
set_option maxRecDepth 8000 in
set_option maxHeartbeats 4000000 in
theorem allM_spec (l : List Section) (hf : Fit l) : RetM env.P 12 [] [slL 3 Section.cs l] (fun r H => r = .s (baN (allN l l.length)) ∧ H = []) := by
  have hl := hf.len
  have hO : ∀ k, k < l.length → Ret env.P 24 [.agg (l.getD k default).cs] (fun r => r = .s (baN (l.getD k default).by)) := fun k hk => l17One_ok _ (hf.h k hk)
  refine ret_ofPM (nt := 22) (rvs := [.tmp 2]) Tryz.func12 rfl rfl rfl rfl (fun X hX => ?_)
  refine pw_cut 2 (fun _ : Unit => True) (fun _ => [(0, slL 3 Section.cs l), (3, .row 1 (baN headN).size)]) (fun _ => [none, some ⟨1, (baN headN).size, strE (baN headN), .arr⟩]) ?_ (fun _ _ => ?_)
  · repeat' (first | exact aa | ((conv => whnf) <;> (first | refine And.intro ?_ ?_ | (intro _h; first | contradiction | (try simp only [dd] at _h)) | (refine dt_go ?_) | exact rfl | exact True.intro | exact dkk | exact dks | (refine wrap_succ ?_; omega))))
    conv => whnf
    refine cut_turn (turn_eq (id := 1) (x := ⟨1, (baN headN).size, strE (baN headN), .arr⟩) rfl rfl rfl rfl rfl (fun i j hi hj => ?_)) ?_
    · have hi5 : i < 5 := hi
      obtain rfl : j = 0 := Nat.lt_one_iff.1 hj
      rcases (show i = 0 ∨ i = 1 ∨ i = 2 ∨ i = 3 ∨ i = 4 by omega) with rfl | rfl | rfl | rfl | rfl <;> exact .refl _
    exact cut_go () trivial (by repeat' (first | exact trivial | refine And.intro rfl ?_)) (by repeat' (first | exact trivial | refine And.intro (.inl rfl) ?_ | refine And.intro (.inr rfl) ?_ | refine And.intro rfl ?_))
  refine wpc_ok _ _ _ _ ?_
  (try dsimp only)
  conv => whnf
  refine loopFT (fun y : StS => [(4, .i .i64 (y.k : Int)), (3, .row 1 y.b.size)]) (fun y => [none, some (.arr ⟨1, y.b.size, strE y.b, .arr⟩)]) (fun y => AlI l y) (fun y => l.length - y.k) ⟨0, baN headN⟩ ⟨.zero l, ?_⟩
  repeat' (first | exact aa | ((conv => whnf) <;> (first | exact arr_str rfl | exact al_cap (‹AlI l _›.size hf) (secby_size hf (by omega)) | exact al_len (‹AlI l _›.size hf) (secby_size hf (by omega)) | exact bytes_strE _ | refine And.intro ?_ ?_ | (intro _h; first | contradiction | (try simp only [dd] at _h)) | (refine dt_go ?_) | exact rfl | exact True.intro | exact dkk | exact dks | ((first | refine .inl ⟨_, hO _ (by omega), ?_⟩ | refine ⟨_, hO _ (by omega), ?_⟩); (try rintro _ rfl)) | (refine wrap_succ ?_; omega))))
  · rename_i y hy
    conv => whnf
    refine roundET_turn (turn_eq (id := 2) (x := ⟨1, (y.b ++ baN (l.getD y.k default).by).size, strE (y.b ++ baN (l.getD y.k default).by), .arr⟩) rfl rfl (size_app _ _) rfl rfl (strE_appO _ _)) ?_
    refine roundET_end ?_
    refine ⟨⟨y.k + 1, y.b ++ baN (l.getD y.k default).by⟩, [0, 2], hy.next (by omega), ?_, ?_⟩
    · dsimp only; omega
    repeat' (first | exact aa | ((conv => whnf) <;> (first | exact arr_str rfl | exact (size_app _ _).symm | (have := ‹AlI l _›.hk; exact wrap_in (by omega) (by omega)) | exact lbz_rho hX ‹_› | refine And.intro ?_ ?_ | (intro _h; first | contradiction | (try simp only [dd] at _h)) | (refine dt_go ?_) | exact rfl | exact True.intro | exact dkk | exact dks | (refine wrap_succ ?_; omega))))
  · rename_i y hy
    conv => whnf
    exact endM_pick [] [] (.s _) (view_of rfl .nil) rfl rfl (fun k hk => by rw [hX] at hk; exact absurd hk (Nat.not_lt_zero _)) ⟨congrArg AV.s ((bytesOf_strE _).trans (hy.last _h)), rfl⟩
theorem Module.secs_fit {m : Module} (h : m.good) : Fit m.secs := by
  have h1 := m.s1_len h
  have h2 := m.s2_len h
  have h3 := m.s3_len h
  have h4 := m.s4_len h
  have e0 : ByteArray.empty.size = 0 := rfl
  refine ⟨by show 4 ≤ 100; omega, fun k hk => ?_⟩
  have hk4 : k < 4 := hk
  rcases (show k = 0 ∨ k = 1 ∨ k = 2 ∨ k = 3 by omega) with rfl | rfl | rfl | rfl
  · exact ⟨⟨by show (0 : Int) ≤ 1; decide, by show (1 : Int) ≤ 255; decide⟩, by show 0 ≤ _; omega, by show (baN m.s1).size ≤ _; rw [baN_size]; omega⟩
  · exact ⟨⟨by show (0 : Int) ≤ 2; decide, by show (2 : Int) ≤ 255; decide⟩, by show 0 ≤ _; omega, by show (baN m.s2).size ≤ _; rw [baN_size]; omega⟩
  · exact ⟨⟨by show (0 : Int) ≤ 3; decide, by show (3 : Int) ≤ 255; decide⟩, by show 0 ≤ _; omega, by show (baN m.s3).size ≤ _; rw [baN_size]; omega⟩
  · exact ⟨⟨by show (0 : Int) ≤ 4; decide, by show (4 : Int) ≤ 255; decide⟩, by show 0 ≤ _; omega, by show (baN m.s4).size ≤ _; rw [baN_size]; omega⟩
theorem s_all {l : List Nat} {α : Type} {k : List α} {f : α → List Nat} (h : l = lebL k.length ++ k.flatMap f) (hf : ∀ a, ∀ x ∈ f a, x < 256) : ∀ x ∈ l, x < 256 := by
  subst h
  intro x hx
  rcases List.mem_append.1 hx with h | h
  · exact lebL_lt _ x h
  · obtain ⟨a, _, ha⟩ := List.mem_flatMap.1 h
    exact hf a x ha
theorem bit_all (b : Bool) : ∀ x ∈ [bitN b], x < 256 := by
  intro x hx
  cases b <;> simp [bitN] at hx <;> omega
theorem Import.by_all (a : Import) : ∀ x ∈ a.by, x < 256 := by
  intro x hx
  unfold Import.by at hx
  rcases List.mem_append.1 hx with h | h
  · rcases List.mem_append.1 h with h | h
    · exact putB_all _ x h
    · exact lebL_lt _ x h
  · exact bit_all _ x h
theorem Core.by_all (a : Core) : ∀ x ∈ a.by, x < 256 := by
  intro x hx
  unfold Core.by at hx
  rcases List.mem_append.1 hx with h | h
  · rcases List.mem_append.1 h with h | h
    · rcases List.mem_append.1 h with h | h
      · exact putB_all _ x h
      · exact lebL_lt _ x h
    · exact lebL_lt _ x h
  · exact bit_all _ x h
theorem Core.cby_all (a : Core) : ∀ x ∈ a.cby, x < 256 := by
  intro x hx
  unfold Core.cby putN at hx
  rcases List.mem_append.1 hx with h | h
  · exact lebL_lt _ x h
  · exact bodyN_all _ x h
theorem sec_one {k : Int} {l : List Nat} (hk : ¬ k = 0) (h : ∀ x ∈ l, x < 256) : Section.by ⟨k, ByteArray.empty, baN l⟩ = secN k.toNat l := by
  unfold Section.by secN
  rw [if_neg hk, putB_N h]
theorem Module.by_secs (m : Module) : allN m.secs 4 = m.by := by
  unfold allN Module.secs Module.by
  simp only [List.take_succ_cons, List.take_zero, List.flatMap_cons, List.flatMap_nil, List.append_nil]
  rw [sec_one (l := m.s1) (by decide) (fun x hx => lebL_lt _ x hx), sec_one (by decide) (s_all (l := m.s2) rfl Import.by_all), sec_one (by decide) (s_all (l := m.s3) rfl Core.by_all), sec_one (by decide) (s_all (l := m.s4) rfl Core.cby_all)]
  simp only [List.append_assoc]
  rfl
noncomputable def Module.out (m : Module) : ByteArray := bif pb m.good then baN m.by else ByteArray.empty
set_option maxRecDepth 8000 in
set_option maxHeartbeats 4000000 in
theorem moduleM_spec (m : Module) (h : m.ok) (hg : m.good) : RetM env.P 5 [] [.agg m.cs] (fun r H => r = .s (baN m.by) ∧ H = []) := by
  have hS := shapeS_ok m h
  rw [pb_t.mpr hg] at hS
  have hA := allM_spec m.secs (m.secs_fit hg)
  rw [show m.secs.length = 4 from rfl, m.by_secs] at hA
  refine ret_ofM (nt := 9) (rvs := [.tmp 2]) Tryz.func5 rfl rfl rfl rfl (fun X hX => ?_)
  repeat' (first | exact aa | ((conv => whnf) <;> (first | refine And.intro ?_ ?_ | (intro _h; first | contradiction | (try simp only [dd] at _h)) | (refine dt_go ?_) | exact rfl | exact True.intro | exact dkk | exact dks | ((first | refine .inl ⟨_, hS, ?_⟩ | refine ⟨_, hS, ?_⟩); (try rintro _ rfl)) | (refine .inr (.inl (.inl ⟨[], _, _, _, sectionsM_spec m hg, viewA, ⟨rfl, rfl⟩, ?_⟩)); rintro _ _ ⟨rfl, rfl⟩; refine ⟨rfl, _, lokA, ?_⟩) | (refine .inr (.inl (.inr (.inl ⟨_, RetM.wka (hA), ?_⟩))); rintro _ _ ⟨rfl, rfl⟩; refine ⟨⟨rfl, nssA⟩, _, lokA, ?_⟩) | (refine wrap_succ ?_; omega))))
  conv => whnf
  exact endM_pick [] [] (.s (baN m.by)) (view_of rfl .nil) rfl rfl (fun k hk => by rw [hX] at hk; exact absurd hk (Nat.not_lt_zero _)) ⟨rfl, rfl⟩
theorem modBytes_spec (m : Module) (h : m.ok) : Ret env.P 5 [.agg m.cs] (fun r => r = .s m.out) := by
  by_cases hg : m.good
  · have := (moduleM_spec m h hg).toRet
    unfold Module.out
    rw [pb_t.mpr hg]
    exact this
  · have hS := shapeS_ok m h
    rw [pb_f.mpr hg] at hS
    unfold Module.out
    rw [pb_f.mpr hg]
    refine ret_of (nt := 9) (rvs := [.tmp 2]) Tryz.func5 rfl rfl rfl rfl (fun X => ?_)
    repeat' (first | exact aa | ((conv => whnf) <;> (first | refine And.intro ?_ ?_ | (intro _h; first | contradiction | (try simp only [dd] at _h)) | (refine dt_go ?_) | exact rfl | exact True.intro | exact dkk | exact dks | ((first | refine .inl ⟨_, hS, ?_⟩ | refine ⟨_, hS, ?_⟩); (try rintro _ rfl)) | (refine wrap_succ ?_; omega))))
end
end Go.Proofs.YtoccjfeaaaaegaaGreat
