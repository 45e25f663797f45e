/- Texts for VModuleBytesP. -/
import Derived.Test.YtoccjfeaaaaegaaGreatVp23
namespace Go.Proofs.YtoccjfeaaaaegaaGreat
open Go Go.RowKit
set_option linter.unusedVariables false
set_option linter.unusedSimpArgs false
section
attribute [local irreducible] IntKind.wrap
def Module.ni (m : Module) (k : Nat) : List ByteArray := (m.imports.take k).map (·.name)
def Module.nc (m : Module) (k : Nat) : List ByteArray := (m.cores.take k).map (·.name)
theorem Module.ni_len {m : Module} {k : Nat} (h : k ≤ m.imports.length) : (m.ni k).length = k := by
  unfold Module.ni
  rw [List.length_map, List.length_take]
  omega
theorem Module.nc_len {m : Module} {k : Nat} (h : k ≤ m.cores.length) : (m.nc k).length = k := by
  unfold Module.nc
  rw [List.length_map, List.length_take]
  omega
theorem take_name {α : Type} [Inhabited α] {f : α → ByteArray} {l : List α} {k : Nat} (h : k < l.length) : (l.take (k + 1)).map f = (l.take k).map f ++ [f (l.getD k default)] := by
  rw [List.take_add_one, List.getElem?_eq_getElem h, List.map_append, List.getD_eq_getElem?_getD, List.getElem?_eq_getElem h]
  rfl
structure ImP (m : Module) (k : Nat) : Prop where
  hk : k ≤ m.imports.length
  h : ∀ j, j < k → 0 ≤ (m.imports.getD j default).params ∧ (m.imports.getD j default).params ≤ 8
structure CoP (m : Module) (k : Nat) : Prop where
  hk : k ≤ m.cores.length
  h : ∀ j, j < k → (m.cores.getD j default).fine
theorem ImP.zero (m : Module) : ImP m 0 := ⟨Nat.zero_le _, fun j hj => absurd hj (Nat.not_lt_zero _)⟩
theorem CoP.zero (m : Module) : CoP m 0 := ⟨Nat.zero_le _, fun j hj => absurd hj (Nat.not_lt_zero _)⟩
theorem ImP.succ {m : Module} {k : Nat} (h : ImP m k) (hk : k < m.imports.length) (hp : 0 ≤ (m.imports.getD k default).params ∧ (m.imports.getD k default).params ≤ 8) : ImP m (k + 1) := ⟨hk, fun j hj => by
  rcases Nat.lt_or_ge j k with q | q
  · exact h.h j q
  · obtain rfl : j = k := by omega
    exact hp⟩
theorem CoP.succ {m : Module} {k : Nat} (h : CoP m k) (hk : k < m.cores.length) (hp : (m.cores.getD k default).fine) : CoP m (k + 1) := ⟨hk, fun j hj => by
  rcases Nat.lt_or_ge j k with q | q
  · exact h.h j q
  · obtain rfl : j = k := by omega
    exact hp⟩
theorem getD_name {α : Type} [Inhabited α] {f : α → ByteArray} {l : List α} {k : Nat} (h : k < l.length) : (l.map f).getD k default = f (l.getD k default) := by
  rw [List.getD_eq_getElem?_getD, List.getD_eq_getElem?_getD, List.getElem?_map, List.getElem?_eq_getElem h]
  rfl
theorem shape_iff {m : Module} (hp : 1 ≤ m.pages ∧ m.pages ≤ 16) (h1 : m.imports.length ≤ 12) (h2 : m.cores.length ≤ 8) (hi : ImP m m.imports.length) (hc : CoP m m.cores.length) : m.good ↔ NmOk (m.imports.map (·.name)) ∧ NmOk (m.cores.map (·.name)) := by
  constructor
  · intro g
    refine ⟨⟨(nodup_take _).2 fun j hj => (g.im.h j hj).2, fun k hk => ?_⟩, (nodup_take _).2 fun j hj => (g.co.h j hj).2, fun k hk => ?_⟩
    · rw [List.length_map] at hk
      rw [getD_name hk]
      exact (g.im.h k hk).1.1
    · rw [List.length_map] at hk
      rw [getD_name hk]
      exact (g.co.h k hk).1.1
  · rintro ⟨⟨n1, w1⟩, n2, w2⟩
    refine ⟨hp, h1, h2, ⟨fun j hj => ⟨⟨?_, hi.h j hj⟩, (nodup_take _).1 n1 j hj⟩⟩, ⟨fun j hj => ⟨⟨?_, hc.h j hj⟩, (nodup_take _).1 n2 j hj⟩⟩⟩
    · have := w1 j (by rw [List.length_map]; exact hj)
      rwa [getD_name hj] at this
    · have := w2 j (by rw [List.length_map]; exact hj)
      rwa [getD_name hj] at this
theorem shape_im {m : Module} {k : Nat} (hk : k < m.imports.length) (hp : ¬ (0 ≤ (m.imports.getD k default).params ∧ (m.imports.getD k default).params ≤ 8)) : ¬ m.good := fun g => hp (g.im.h k hk).1.2
theorem shape_co {m : Module} {k : Nat} (hk : k < m.cores.length) (hp : ¬ (m.cores.getD k default).fine) : ¬ m.good := fun g => hp (g.co.h k hk).1.2
theorem Ret.toMB {P : Program} {g : FuncId} {av : List AV} {post : AV → Prop} (h : Ret P g av post) : RetM P g [] av (fun r H => post r ∧ H = []) := .mk fun w S blk FP us hR hc => by
  refine (h.h w S us (fun b hb => (hR.free b hb).1) ⟨hc.1, fun j c u hj hu => (hc.2 j c u hj hu).nil⟩).mono fun e w' ⟨r, u, he, hq, hcu, hb⟩ => ⟨r, u, [], blk, FP, he, ⟨hq, rfl⟩, ⟨fun id r hr => by simp at hr, fun i j r r' hr => by simp at hr, fun b hb => ⟨hb.2.1, fun id r hr => by simp at hr⟩⟩, ?_, HExt.refl _ _, ?_, ⟨hb.os, hb.tape, hb.output, hb.size, fun k hk _ => hb.block k hk⟩⟩
  · have hcu' : Conc w' (fun b => S b ∨ (w.heap.size ≤ b ∧ b < w'.heap.size)) blk [] r u := hcu.nil
    refine hcu'.mono (fun b hb' => ⟨⟨?_, ?_, fun id r hr => by simp at hr⟩, rfl⟩) (HExt.refl _ _)
    · rcases hb' with h | h
      · exact .inl h
      · exact .inr h.1
    · rcases hb' with h | h
      · have := (hR.free b h).1
        have := hb.size
        omega
      · exact h.2
  · rintro b ⟨id, r, hr, _⟩
    simp at hr
theorem leaf_kf {p : Prop} (h : ¬ p) : AV.kb false = AV.kb (pb p) := by rw [pb_f.mpr h]
theorem lbz_capC {n b : Nat} (h : n ≤ 1000) (hb : b ≤ 1000) : (n + 1) * b ≤ 140737488355328 := Nat.le_trans (Nat.mul_le_mul (Nat.succ_le_succ h) hb) (by decide)
instance : Shr 0 strC strC := shr_plain fun _ => rfl
structure NmS where
  k : Nat
  l : List ByteArray
structure ImQ (m : Module) (y : NmS) : Prop where
  p : ImP m y.k
  hl : y.l = m.ni y.k
structure CoQ (m : Module) (y : NmS) : Prop where
  p : CoP m y.k
  hl : y.l = m.nc y.k
theorem ImQ.zero (m : Module) : ImQ m ⟨0, []⟩ := ⟨.zero m, rfl⟩
theorem CoQ.zero (m : Module) : CoQ m ⟨0, []⟩ := ⟨.zero m, rfl⟩
theorem ImQ.succ {m : Module} {y : NmS} (h : ImQ m y) (hk : y.k < m.imports.length) (hp : 0 ≤ (m.imports.getD y.k default).params ∧ (m.imports.getD y.k default).params ≤ 8) : ImQ m ⟨y.k + 1, y.l ++ [(m.imports.getD y.k default).name]⟩ :=
  ⟨h.p.succ hk hp, by dsimp only; rw [h.hl]; exact (take_name hk).symm⟩
theorem CoQ.succ {m : Module} {y : NmS} (h : CoQ m y) (hk : y.k < m.cores.length) (hp : (m.cores.getD y.k default).fine) : CoQ m ⟨y.k + 1, y.l ++ [(m.cores.getD y.k default).name]⟩ :=
  ⟨h.p.succ hk hp, by dsimp only; rw [h.hl]; exact (take_name hk).symm⟩
theorem ImQ.len {m : Module} {y : NmS} (h : ImQ m y) (h1 : ¬ (12 : Int) < (m.imports.length : Int)) : y.l.length ≤ 1000 := by
  have := h.p.hk
  rw [h.hl, Module.ni_len h.p.hk]
  omega
theorem CoQ.len {m : Module} {y : NmS} (h : CoQ m y) (h1 : ¬ (8 : Int) < (m.cores.length : Int)) : y.l.length ≤ 1000 := by
  have := h.p.hk
  rw [h.hl, Module.nc_len h.p.hk]
  omega
theorem ImQ.all {m : Module} {y : NmS} (h : ImQ m y) (hk : ¬ (y.k : Int) < (m.imports.length : Int)) : y.l = m.imports.map (·.name) := by
  have := h.p.hk
  rw [h.hl, show y.k = m.imports.length by omega]
  unfold Module.ni
  rw [List.take_length]
theorem CoQ.all {m : Module} {y : NmS} (h : CoQ m y) (hk : ¬ (y.k : Int) < (m.cores.length : Int)) : y.l = m.cores.map (·.name) := by
  have := h.p.hk
  rw [h.hl, show y.k = m.cores.length by omega]
  unfold Module.nc
  rw [List.take_length]
theorem shape_iff' {m : Module} {y z : NmS} (hp : 1 ≤ m.pages ∧ m.pages ≤ 16) (h1 : ¬ (12 : Int) < (m.imports.length : Int)) (h2 : ¬ (8 : Int) < (m.cores.length : Int)) (hy : ImQ m y) (hk : ¬ (y.k : Int) < (m.imports.length : Int)) (hz : CoQ m z) (hk' : ¬ (z.k : Int) < (m.cores.length : Int)) :
    m.good ↔ NmOk (m.imports.map (·.name)) ∧ NmOk (m.cores.map (·.name)) := by
  have e : y.k = m.imports.length := by have := hy.p.hk; omega
  have e' : z.k = m.cores.length := by have := hz.p.hk; omega
  exact shape_iff hp (by omega) (by omega) (e ▸ hy.p) (e' ▸ hz.p)
set_option maxRecDepth 8000 in
set_option maxHeartbeats 4000000 in
theorem shapeM_ok (m : Module) (h : m.ok) : RetM env.P 16 [] [.agg m.cs] (fun r H => (r = .b (pb m.good) ∨ r = .kb (pb m.good)) ∧ H = []) := by
  have hi := h.1.1
  have hc := h.2.1
  have hco : ∀ k, k < m.cores.length → (m.cores.getD k default).ok := fun k hk => h.2.2 k hk
  have hwI : ∀ l : List ByteArray, l = m.imports.map (·.name) → Ret env.P 33 [slL 1 strC l] (fun r => r = .b (pb (NmOk (m.imports.map (·.name))))) := fun l e => by
    subst e
    refine wordsOk_ok _ (by rw [List.length_map]; exact hi) fun k hk => ?_
    rw [List.length_map] at hk
    rw [getD_name hk]
    exact h.1.2 k hk
  have hwC : ∀ l : List ByteArray, l = m.cores.map (·.name) → Ret env.P 33 [slL 1 strC l] (fun r => r = .b (pb (NmOk (m.cores.map (·.name))))) := fun l e => by
    subst e
    refine wordsOk_ok _ (by rw [List.length_map]; exact hc) fun k hk => ?_
    rw [List.length_map] at hk
    rw [getD_name hk]
    exact (h.2.2 k hk).1
  refine ret_ofPM (nt := 66) (rvs := [.tmp 2]) Tryz.func16 rfl rfl rfl rfl (fun X hX => ?_)
  refine pw_cut 3 (fun _ : Unit => (1 ≤ m.pages ∧ m.pages ≤ 16) ∧ ¬ (12 : Int) < (m.imports.length : Int) ∧ ¬ (8 : Int) < (m.cores.length : Int)) (fun _ => [(1, .ptr 0 0 0), (3, .row 1 0), (4, .row 2 0)]) (fun _ => [some (boxRow m.cs), some (rowL 1 strC []), some (rowL 1 strC [])]) ?_ (fun _ hcut => ?_)
  · repeat' (first | exact aa | ((conv => whnf) <;> (first | refine And.intro ?_ ?_ | (intro _h; first | contradiction | (try simp only [dd] at _h)) | (refine dt_go ?_) | exact rfl | exact True.intro | exact dkk | exact dks | ((first | refine .inl ⟨_, within_ok _ _ _, ?_⟩ | refine ⟨_, within_ok _ _ _, ?_⟩); (try rintro _ rfl)) | (refine wrap_succ ?_; omega))))
    · conv => whnf
      exact endM_pick [] [] (.kb false) (view_of rfl .nil) rfl rfl (fun k hk => by rw [hX] at hk; exact absurd hk (Nat.not_lt_zero _)) ⟨.inr (leaf_kf (fun q => by have := q.lc; omega)), rfl⟩
    · conv => whnf
      refine cut_turn (turn_eq (id := 1) (x := rowL 1 strC []) rfl rfl rfl rfl rfl (fun i j hi _ => absurd hi (Nat.not_lt_zero _))) ?_
      refine cut_turn (turn_eq (id := 2) (x := rowL 1 strC []) rfl rfl rfl rfl rfl (fun i j hi _ => absurd hi (Nat.not_lt_zero _))) ?_
      exact cut_go () ⟨‹_›, ‹_›, ‹_›⟩ (by repeat' (first | exact trivial | refine And.intro rfl ?_)) (by repeat' (first | exact trivial | refine And.intro (.inl rfl) ?_ | refine And.intro (.inr rfl) ?_ | refine And.intro rfl ?_))
    · conv => whnf
      exact endM_pick [] [] (.kb false) (view_of rfl .nil) rfl rfl (fun k hk => by rw [hX] at hk; exact absurd hk (Nat.not_lt_zero _)) ⟨.inr (leaf_kf (fun q => by have := q.li; omega)), rfl⟩
    · conv => whnf
      exact endM_pick [] [] (.kb false) (view_of rfl .nil) rfl rfl (fun k hk => by rw [hX] at hk; exact absurd hk (Nat.not_lt_zero _)) ⟨.inr (leaf_kf (fun q => absurd q.pages ‹_›)), rfl⟩
  obtain ⟨hp, h12, h8⟩ := hcut
  refine wpc_ok _ _ _ _ ?_
  (try dsimp only)
  repeat' (first | exact aa | ((conv => whnf) <;> (first | (have _hq := ‹ImQ m _›; refine loopFT (fun y : NmS => [(47, .i .i64 (y.k : Int)), (4, .row 2 y.l.length)]) (fun y => [none, none, some (.arr ⟨1, y.l.length, elE strC y.l, .arr⟩)]) (fun y => CoQ m y) (fun y => m.cores.length - y.k) ⟨0, []⟩ ⟨.zero m, ?_⟩) | refine loopFT (fun y : NmS => [(30, .i .i64 (y.k : Int)), (3, .row 1 y.l.length)]) (fun y => [none, some (.arr ⟨1, y.l.length, elE strC y.l, .arr⟩)]) (fun y => ImQ m y) (fun y => m.imports.length - y.k) ⟨0, []⟩ ⟨.zero m, ?_⟩ | exact lbz_zero rfl rfl | exact low_cells rfl | exact lbz_capC (‹CoQ m _›.len ‹_›) (show 16 ≤ 1000 by decide) | exact lbz_capC (‹ImQ m _›.len ‹_›) (show 16 ≤ 1000 by decide) | exact Nat.le_trans (Nat.succ_le_succ (‹CoQ m _›.len ‹_›)) (by decide) | exact Nat.le_trans (Nat.succ_le_succ (‹ImQ m _›.len ‹_›)) (by decide) | refine And.intro ?_ ?_ | (intro _h; first | contradiction | (try simp only [dd] at _h)) | (refine dt_go ?_) | exact rfl | exact True.intro | exact dkk | exact dks | ((first | refine .inl ⟨_, within_ok _ _ _, ?_⟩ | refine ⟨_, within_ok _ _ _, ?_⟩); (try rintro _ rfl)) | ((first | refine .inl ⟨_, coreOk_ok _ (hco _ (by omega)), ?_⟩ | refine ⟨_, coreOk_ok _ (hco _ (by omega)), ?_⟩); (try rintro _ rfl)) | (refine .inr (.inl (.inr (.inl ⟨_, RetM.wka ((hwI _ (‹ImQ m _›.all ‹_›)).toMB), ?_⟩))); rintro _ _ ⟨rfl, rfl⟩; refine ⟨⟨rfl, nssA⟩, _, lokA, ?_⟩) | (refine .inr (.inl (.inr (.inl ⟨_, RetM.wka ((hwC _ (‹CoQ m _›.all ‹_›)).toMB), ?_⟩))); rintro _ _ ⟨rfl, rfl⟩; refine ⟨⟨rfl, nssA⟩, _, lokA, ?_⟩) | (refine wrap_succ ?_; omega))))
  · conv => whnf
    rename_i y _ _
    simp only [Int.toNat_natCast] at _h
    exact endM_pick [] [] (.kb false) (view_of rfl .nil) rfl rfl (fun k hk => by rw [hX] at hk; exact absurd hk (Nat.not_lt_zero _)) ⟨.inr (leaf_kf (shape_im (k := y.k) (by omega) _h)), rfl⟩
  · rename_i y hy _
    conv => whnf
    refine roundET_turn (turn_eq (id := 5) (x := rowL 1 strC (y.l ++ [(m.imports.getD y.k default).name])) rfl rfl lbz_len.symm rfl rfl (snoc_eq (l := y.l) (sz := 1) (a := (m.imports.getD y.k default).name) (c := strC) rfl (fun j hj => ?_))) ?_
    · obtain rfl : j = 0 := by omega
      exact .refl _
    refine roundET_end ?_
    refine ⟨⟨y.k + 1, y.l ++ [(m.imports.getD y.k default).name]⟩, [0, 5, 2], hy.succ (by omega) _h, ?_, ?_⟩
    · dsimp only; omega
    repeat' (first | exact aa | ((conv => whnf) <;> (first | exact arr_same rfl rfl (fun a j => low_cells rfl) | exact low_cells rfl | exact lbz_len | (have := ‹ImQ m _›.p.hk; exact wrap_in (by omega) (by omega)) | exact lbz_rho hX ‹_› | refine And.intro ?_ ?_ | (intro _h; first | contradiction | (try simp only [dd] at _h)) | (refine dt_go ?_) | exact rfl | exact True.intro | exact dkk | exact dks | (refine wrap_succ ?_; omega))))
  · conv => whnf
    rename_i y _ _
    simp only [Int.toNat_natCast] at _h
    exact endM_pick [] [] (.kb false) (view_of rfl .nil) rfl rfl (fun k hk => by rw [hX] at hk; exact absurd hk (Nat.not_lt_zero _)) ⟨.inr (leaf_kf (shape_co (k := y.k) (by omega) _h)), rfl⟩
  · rename_i y hy _
    conv => whnf
    refine roundET_turn (turn_eq (id := 5) (x := rowL 1 strC (y.l ++ [(m.cores.getD y.k default).name])) rfl rfl lbz_len.symm rfl rfl (snoc_eq (l := y.l) (sz := 1) (a := (m.cores.getD y.k default).name) (c := strC) rfl (fun j hj => ?_))) ?_
    · obtain rfl : j = 0 := by omega
      exact .refl _
    refine roundET_end ?_
    refine ⟨⟨y.k + 1, y.l ++ [(m.cores.getD y.k default).name]⟩, [0, 1, 5], hy.succ (by omega) (Classical.not_not.1 _h), ?_, ?_⟩
    · dsimp only; omega
    repeat' (first | exact aa | ((conv => whnf) <;> (first | exact arr_same rfl rfl (fun a j => low_cells rfl) | exact low_cells rfl | exact lbz_len | (have := ‹CoQ m _›.p.hk; exact wrap_in (by omega) (by omega)) | exact lbz_rho hX ‹_› | refine And.intro ?_ ?_ | (intro _h; first | contradiction | (try simp only [dd] at _h)) | (refine dt_go ?_) | exact rfl | exact True.intro | exact dkk | exact dks | (refine wrap_succ ?_; omega))))
  · conv => whnf
    have hm := shape_iff' hp h12 h8 ‹ImQ m _› ‹_› ‹CoQ m _› ‹_›
    exact endM_pick [] [] (.b (pb (NmOk (m.cores.map (·.name))))) (view_of rfl .nil) rfl rfl (fun k hk => by rw [hX] at hk; exact absurd hk (Nat.not_lt_zero _)) ⟨.inl (by rw [pb_congr hm]; exact congrArg AV.b (pb_congr (by simp only [_h, true_and]))), rfl⟩
  · conv => whnf
    have hm := shape_iff' hp h12 h8 ‹ImQ m _› ‹_› ‹CoQ m _› ‹_›
    exact endM_pick [] [] (.kb false) (view_of rfl .nil) rfl rfl (fun k hk => by rw [hX] at hk; exact absurd hk (Nat.not_lt_zero _)) ⟨.inr (leaf_kf (fun q => absurd (hm.1 q).1 _h)), rfl⟩
theorem RetM.toRetP {P : Program} {g : FuncId} {av : List AV} {x : Bool} (h : RetM P g [] av (fun r H => (r = .b x ∨ r = .kb x) ∧ H = [])) : Ret P g av (fun r => r = .b x) := .mk fun w S us hS hc => by
  refine (h.h w S (fun _ => ⟨0, 0⟩) (fun _ => []) us ⟨fun id r q => by simp at q, fun i j r r' q => by simp at q, fun b hb => ⟨hS b hb, fun id r q => by simp at q⟩⟩ hc).mono ?_
  rintro e w' ⟨r, u, H', blk', FP', he, ⟨hq, rfl⟩, _, hcu, _, _, hk⟩
  refine ⟨.b x, u, he, rfl, ?_, ⟨hk.os, hk.tape, hk.output, hk.size, fun k hlt => hk.block k hlt (by rintro ⟨id, r, q, _⟩; simp at q)⟩⟩
  have hcu' : Conc w' _ (fun _ => ⟨0, 0⟩) [] r u := hcu.nil
  rcases hq with rfl | rfl
  · exact hcu'.mono (fun b hb => ⟨hb.1.imp_right fun q => ⟨q, hb.2.1⟩, rfl⟩) (HExt.refl _ _)
  · cases hcu'
    exact .b x
theorem shapeI_ok (m : Module) (h : m.ok) : Ret env.P 16 [.agg m.cs] (fun r => r = .b (pb m.good)) := (shapeM_ok m h).toRetP
end
end Go.Proofs.YtoccjfeaaaaegaaGreat
