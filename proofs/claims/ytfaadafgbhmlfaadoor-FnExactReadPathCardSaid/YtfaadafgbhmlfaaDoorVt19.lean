/- Texts for VReadPathP. -/
import Derived.Test.YtfaadafgbhmlfaaDoorVt18
namespace Go.Proofs.YtfaadafgbhmlfaaDoor
open Go Go.RowKit
set_option linter.unusedVariables false
set_option linter.unusedSimpArgs false
set_option maxRecDepth 8000
def ow1 : AV → Bool
  | .ow .. => true
  | _ => false
theorem own_nil {w : World} {S : Nat → Prop} {blk : Nat → BC} {H : Hp} {x : AV} {u : Value} {fp : List Nat} (h : Own w S blk H x u fp) (hx : ow1 x = false) : fp = [] := by
  cases h with
  | plain => rfl
  | ow0 => cases hx
  | ow => cases hx
def PlainH (H : Hp) : Prop := ∀ (k : Nat) (x : Option Row), H[k]? = some x → ∃ r : Row, x = some r ∧ 0 < r.cap ∧ ∀ i j, i < r.cap → j < r.sz → ow1 (r.es i j) = false
theorem plainH_nil : PlainH [] := fun k x h => by simp at h
def FrzP (π : List Nat) (post : AV → Hp → Prop) (r : AV) (H : Hp) : Prop := ∃ (H1 : Hp) (r1 : AV), ViewOk π H H1 ∧ WkC (shr (outM π 0 H) r) r1 ∧ post r1 H1
theorem RetM.frz {P : Program} {g : FuncId} {H0 : Hp} {avs : List AV} {post : AV → Hp → Prop} (π : List Nat) (hπe : List.range H0.length = π) (hp : PlainH H0) (h : RetM P g H0 avs (FrzP π post)) : RetM P g H0 avs post := .mk fun w S blk FP us hR hG hc => by
  have hbk : ∀ (k : Nat) (r : Row), H0[k]? = some (some r) → RowOk w S blk H0 [(blk k).b] (blk k) r ∧ (blk k).b ∈ FP k := fun k r hr => by
    obtain ⟨r', e, hcap, hpl⟩ := hp k _ hr
    cases e
    obtain ⟨h1, h2⟩ := hR.rows k r hr
    rcases h1 with ⟨h0, _⟩ | ⟨c0, c1, c2, c3, ty, cur, F, d1, d2, d3, d4, d5, d6⟩
    · omega
    · refine ⟨.inr ⟨c0, c1, c2, List.mem_singleton.2 rfl, ty, cur, fun _ _ => [], d1, d2, d3, fun i j hi hj => ?_, fun i j _ _ x hx => by simp at hx, fun i j i' j' _ _ _ _ _ x hx => by simp at hx⟩, c3⟩
      obtain ⟨u, e1, e2, e3⟩ := d4 i j hi hj
      have := own_nil e3 (hpl i j hi hj)
      rw [this] at e3
      exact ⟨u, e1, e2, e3⟩
  have hR' : RowsIn w S blk (fun k => [(blk k).b]) H0 := ⟨fun id r hr => ⟨(hbk id r hr).1, fun b hb => by
      rw [List.mem_singleton.1 hb]
      exact (hR.rows id r hr).2 _ (hbk id r hr).2⟩, fun i j r r' hi hj hij b hb hb' => by
      rw [List.mem_singleton.1 hb] at hb'
      have e := List.mem_singleton.1 hb'
      exact hR.apart i j r r' hi hj hij _ (hbk i r hi).2 (e ▸ (hbk j r' hj).2), fun b hb => ⟨(hR.free b hb).1, fun id r hr hm => by
      have e := List.mem_singleton.1 hm
      subst e
      exact (hR.free _ hb).2 id r hr (hbk id r hr).2⟩⟩
  refine (h.h w S blk (fun k => [(blk k).b]) us hR' hG hc).mono ?_
  rintro e w' ⟨r, u, H', blk', FP', he, ⟨H1, r1, hv, hw, hq⟩, hR2, hc2, hext, hfr, hk⟩
  have hmem : ∀ i, i ∈ π ↔ i < H0.length := fun i => by rw [← hπe]; exact List.mem_range
  have hat0 : ∀ k, k < H0.length → π[k]? = some k := fun k hk => by rw [← hπe]; simp [hk]
  have hπ : ∀ i ∈ π, i < H'.length := fun i hi => by
    obtain ⟨k, hk⟩ := List.getElem?_of_mem hi
    obtain ⟨_, y, _, hy, _⟩ := hv.row k i hk
    exact (List.getElem?_eq_some_iff.1 hy).1
  have hsm : ∀ k, k < π.length → sig π H'.length k ∈ π := fun k hk => by
    unfold sig
    rw [List.getElem?_eq_getElem hk]
    exact List.getElem_mem hk
  have hat : ∀ {k : Nat} {x : Row}, H1[k]? = some (some x) → k < π.length ∧ ∃ y, H'[sig π H'.length k]? = some (some y) ∧ RowBack (sig π H'.length) π.length x y := by
    intro k x hx
    have hk : k < π.length := by rw [← hv.len]; exact (List.getElem?_eq_some_iff.1 hx).1
    have hk' : π[k]? = some π[k] := List.getElem?_eq_getElem hk
    obtain ⟨x', y, h1, h2, h3⟩ := hv.row k _ hk'
    rw [hx] at h1
    cases h1
    exact ⟨hk, y, by unfold sig; rw [hk']; exact h2, h3⟩
  have hB : Back (sig π H'.length) π.length H' blk' H1 (fun k => blk' (sig π H'.length k)) := by
    intro k hk
    have hk' : π[k]? = some π[k] := List.getElem?_eq_getElem hk
    obtain ⟨x', y, h1, h2, h3⟩ := hv.row k _ hk'
    exact ⟨x', y, h1, by unfold sig; rw [hk']; exact h2, h3.sz, h3.cap, rfl⟩
  have hS : ∀ b, aftS S w.heap.size w'.heap.size FP' H' b → aftS S w.heap.size w'.heap.size (fun k => FP' (sig π H'.length k)) H1 b := fun b hb => ⟨hb.1, hb.2.1, fun k x hx => by
    obtain ⟨_, y, hy, _⟩ := hat hx
    exact hb.2.2 _ y hy⟩
  have hfz : ∀ (id : Nat) (y : Row), (outM π 0 H')[id]? = some (some y) → ∀ b ∈ FP' id, aftS S w.heap.size w'.heap.size (fun k => FP' (sig π H'.length k)) H1 b := fun id y hy b hb => by
    obtain ⟨hy, hn⟩ := outM_row hy
    refine ⟨?_, (hR2.rows id y hy).2 b hb, fun k x hx hbk' => ?_⟩
    · rcases hfr b ⟨id, y, hy, hb⟩ with h1 | ⟨k, r0, hr0, hb0⟩
      · exact .inr h1
      · exfalso
        have hk0 : k < H0.length := (List.getElem?_eq_some_iff.1 hr0).1
        obtain ⟨x', y', _, h2, _⟩ := hv.row k k (hat0 k hk0)
        rcases hext k _ hr0 with h4 | ⟨ra, rb, ea, h5, h6, h7, h8⟩
        · rw [h2] at h4; cases h4
        · cases ea
          obtain ⟨_, e0, hcap, _⟩ := hp k _ hr0
          cases e0
          have hb1 : (blk' k).b ∈ FP' k := by
            rcases (hR2.rows k rb h5).1 with ⟨h0, _⟩ | ⟨_, _, _, c3, _⟩
            · omega
            · exact c3
          rw [List.mem_singleton.1 hb0, ← h8] at hb
          exact hR2.apart k id rb y h5 hy (fun e => hn (e ▸ (hmem k).2 hk0)) _ hb1 hb
    · obtain ⟨hk', y', hy', _⟩ := hat hx
      exact hR2.apart id _ y y' hy hy' (fun e => hn (e ▸ hsm k hk')) b hb hbk'
  refine ⟨r1, u, H1, fun k => blk' (sig π H'.length k), fun k => FP' (sig π H'.length k), he, hq, ⟨fun k x hx => ?_, fun i j x x' hi hj hij => ?_, fun b hb => ⟨hb.2.1, hb.2.2⟩⟩, ?_, fun k x hx => ?_, fun b hb => ?_, ?_⟩
  · obtain ⟨_, y, hy, hrb⟩ := hat hx
    obtain ⟨h1, h2⟩ := hR2.rows _ y hy
    exact ⟨h1.back hrb (fun b hb => ⟨hS b hb, rfl⟩) hB fun _ _ => rfl, h2⟩
  · obtain ⟨_, y, hy, _⟩ := hat hi
    obtain ⟨_, y', hy', _⟩ := hat hj
    exact hR2.apart _ _ y y' hy hy' fun e => hij (sig_inj hv.nodup hπ e)
  · have c3 : Conc w' _ blk' (outM π 0 H') r u := hc2.mono (fun b hb => ⟨hb, rfl⟩) outM_ext
    have c4 : Conc w' (aftS S w.heap.size w'.heap.size (fun k => FP' (sig π H'.length k)) H1) (fun _ => ⟨0, 0⟩) [] (shr (outM π 0 H') r) u :=
      shr_conc (FP := FP') hS (fun id y hy => ⟨(hR2.rows id y (outM_row hy).1).1.mono (fun b hb => ⟨hb, rfl⟩) outM_ext fun _ _ => rfl, hfz id y hy⟩) c3
    exact (hw _ _ _ c4).mono (fun b hb => ⟨hb, rfl⟩) fun id x hx => by simp at hx
  · have hk0 : k < H0.length := (List.getElem?_eq_some_iff.1 hx).1
    obtain ⟨x', y, h1, h2, h3⟩ := hv.row k k (hat0 k hk0)
    rcases hext k x hx with h4 | ⟨r, r', rfl, h5, h6, h7, h8⟩
    · rw [h2] at h4; cases h4
    · rw [h2] at h5
      cases h5
      refine .inr ⟨r, x', rfl, h1, h3.sz.trans h6, h3.cap.trans h7, ?_⟩
      show blk' (sig π H'.length k) = blk k
      unfold sig
      rw [hat0 k hk0]
      exact h8
  · obtain ⟨k, x, hx, hb⟩ := hb
    obtain ⟨_, y, hy, _⟩ := hat hx
    rcases hfr b ⟨_, y, hy, hb⟩ with h1 | ⟨k', r0, hr0, hb0⟩
    · exact .inl h1
    · exact .inr ⟨k', r0, hr0, by rw [List.mem_singleton.1 hb0]; exact (hbk k' r0 hr0).2⟩
  · exact ⟨hk.os, hk.tape, hk.output, hk.size, fun k hlt hm => hk.block k hlt fun ⟨k', r0, hr0, hb0⟩ => hm ⟨k', r0, hr0, by rw [List.mem_singleton.1 hb0]; exact (hbk k' r0 hr0).2⟩⟩
theorem frz_tup {H : Hp} {cs ds : List AV} (h : WkL (cs.map fun c => match c with | .agg ds => .agg (ds.map (shrC 5 H)) | c => shrC 5 H c) ds) : WkC (shr H (.tup cs)) (.tup ds) := fun w S u hu => by
  obtain ⟨us, rfl, hl, hc⟩ := inv_tup hu
  refine .tup _ us (hl.trans h.1) fun j c u hj hju => ?_
  have hlt : j < (cs.map fun c => match c with | .agg ds => AV.agg (ds.map (shrC 5 H)) | c => shrC 5 H c).length := by rw [h.1]; exact (List.getElem?_eq_some_iff.1 hj).1
  exact (h.2 j _ c (List.getElem?_eq_getElem hlt) hj).c w S u (hc j _ u (List.getElem?_eq_getElem hlt) hju)
theorem RetM.toRetG {P : Program} {g : FuncId} {av : List AV} {post : AV → Prop} (h : RetM P g [] av (fun r H => post r ∧ H = [])) : Ret P g av post := .mk fun w S us hS hc => by
  refine (h.h w S (fun _ => ⟨0, 0⟩) (fun _ => []) us ⟨fun id r q => by simp at q, fun i j r r' q => by simp at q, fun b hb => ⟨hS b hb, fun id r q => by simp at q⟩⟩ hS.gl hc).mono ?_
  rintro e w' ⟨r, u, H', blk', FP', he, ⟨hq, rfl⟩, _, hcu, _, _, hk⟩
  refine ⟨r, u, he, hq, ?_, ⟨hk.os, hk.tape, hk.output, hk.size, fun k hlt => hk.block k hlt (by rintro ⟨id, r, q, _⟩; simp at q)⟩⟩
  have hcu' : Conc w' _ (fun _ => ⟨0, 0⟩) [] r u := hcu.nil
  exact hcu'.mono (fun b hb => ⟨hb.1.imp_right fun q => ⟨q, hb.2.1⟩, rfl⟩) (HExt.refl _ _)
theorem Ret.ofFrz {P : Program} {g : FuncId} {av : List AV} {post : AV → Prop} (h : RetM P g [] av (FrzP [] fun r H => post r ∧ H = [])) : Ret P g av post := (RetM.frz [] rfl plainH_nil h).toRetG
theorem view_none {H : Hp} : ViewOk [] H [] := view_of rfl .nil
theorem frz0 {H : Hp} {r r1 : AV} {post : AV → Prop} (hw : WkC (shr (outM [] 0 H) r) r1) (hp : post r1) : FrzP [] (fun r H => post r ∧ H = []) r H := ⟨[], r1, view_none, hw, hp, rfl⟩
section
attribute [local irreducible] IntKind.wrap
structure EndI (P : Nat → Prop) (n k j : Nat) : Prop where
  lt : k ≤ j
  le : j ≤ n
  eq : endF P (n - j) j = endF P (n - k) k
theorem EndI.self {P : Nat → Prop} {n k : Nat} (hk : k ≤ n) : EndI P n k k := ⟨Nat.le_refl _, hk, rfl⟩
theorem EndI.zero {P : Nat → Prop} {n k : Nat} (hk : k < n) (h : P k) : EndI P n k (k + 1) := ⟨Nat.le_succ k, hk, (endF_step hk h).symm⟩
theorem EndI.next {P : Nat → Prop} {n k j : Nat} (h : EndI P n k j) (hj : j < n) (hp : P j) : EndI P n k (j + 1) := ⟨Nat.le_succ_of_le h.lt, hj, (endF_step hj hp).symm.trans h.eq⟩
theorem EndI.done {P : Nat → Prop} {n k j : Nat} (h : EndI P n k j) (hs : j < n → ¬ P j) : endF P (n - k) k = j := h.eq.symm.trans (endF_stop hs)
theorem isLetter_ok (c : Int) : Ret env.P 40 [.i .u8 c] (fun r => r = .b (decide (97 ≤ c ∧ c ≤ 122))) := by
  refine ret_of (nt := 9) (rvs := [.tmp 2]) Tryd.func40 rfl rfl rfl rfl (fun X => ?_)
  repeat' (first | omega | (with_reducible show (_ : Int) < _; dsimp only; omega) | (with_reducible show (_ : Nat) ≤ _; dsimp only; omega) | ((with_reducible show SrcOk _ _ _) <;> (first | exact srcOk_1 rfl | exact srcOk_L (fun _ => ⟨rfl, rfl⟩) | exact srcOk_E (fun _ => ⟨rfl, rfl⟩))) | ((conv => whnf) <;> (first | refine And.intro ?_ ?_ | (intro _h; first | contradiction | (try simp only [dd] at _h)) | (refine dt_go ?_) | exact rfl | exact True.intro | exact dkk | exact dks | (refine wrap_succ ?_; omega))))
  all_goals (conv => whnf)
  all_goals first
    | exact leaf_b (by rw [decide_eq_decide]; omega)
    | exact leaf_b (by symm; rw [decide_eq_false_iff_not]; omega)
    | trace_state
theorem isDigit_ok (c : Int) : Ret env.P 42 [.i .u8 c] (fun r => r = .b (decide (48 ≤ c ∧ c ≤ 57))) := by
  refine ret_of (nt := 9) (rvs := [.tmp 2]) Tryd.func42 rfl rfl rfl rfl (fun X => ?_)
  repeat' (first | omega | (with_reducible show (_ : Int) < _; dsimp only; omega) | (with_reducible show (_ : Nat) ≤ _; dsimp only; omega) | ((with_reducible show SrcOk _ _ _) <;> (first | exact srcOk_1 rfl | exact srcOk_L (fun _ => ⟨rfl, rfl⟩) | exact srcOk_E (fun _ => ⟨rfl, rfl⟩))) | ((conv => whnf) <;> (first | refine And.intro ?_ ?_ | (intro _h; first | contradiction | (try simp only [dd] at _h)) | (refine dt_go ?_) | exact rfl | exact True.intro | exact dkk | exact dks | (refine wrap_succ ?_; omega))))
  all_goals (conv => whnf)
  all_goals first
    | exact leaf_b (by rw [decide_eq_decide]; omega)
    | exact leaf_b (by symm; rw [decide_eq_false_iff_not]; omega)
    | trace_state
def lxC (s : ByteArray) (k line : Int) : List AV := [.s s, .i .i64 k, .i .i64 line]
theorem byteAt_ok (s : ByteArray) (k line j : Int) (hs : s.size ≤ 30000) (h0 : 0 ≤ j) : Ret env.P 48 [rfL (lxC s k line), .i .i64 j] (fun r => r = .i .u8 (byI s j.toNat)) := by
  refine ret_of (nt := 18) (rvs := [.tmp 4]) Tryd.func48 rfl rfl rfl rfl (fun X => ?_)
  repeat' (first | omega | (with_reducible show (_ : Int) < _; dsimp only; omega) | (with_reducible show (_ : Nat) ≤ _; dsimp only; omega) | ((with_reducible show SrcOk _ _ _) <;> (first | exact srcOk_1 rfl | exact srcOk_L (fun _ => ⟨rfl, rfl⟩) | exact srcOk_E (fun _ => ⟨rfl, rfl⟩))) | ((conv => whnf) <;> (first | refine And.intro ?_ ?_ | (intro _h; first | contradiction | (try simp only [dd] at _h)) | (refine dt_go ?_) | exact rfl | exact True.intro | exact dkk | exact dks | (refine wrap_succ ?_; omega))))
  all_goals (conv => whnf)
  all_goals first
    | exact rfl
    | exact congrArg (AV.i .u8) (byI_out (by omega)).symm
    | trace_state
theorem hasPrefixL_ok (a b : ByteArray) (ha : a.size ≤ 1000000) (hb : b.size ≤ 1000000) : Ret env.P 47 [.s a, .s b] (fun r => r = .b (pb (b.size ≤ a.size ∧ a.extract 0 b.size = b))) := by
  refine ret_of (nt := 18) (rvs := [.tmp 4]) Tryd.func47 rfl rfl rfl rfl (fun X => ?_)
  repeat' (first | omega | (with_reducible show (_ : Int) < _; dsimp only; omega) | (with_reducible show (_ : Nat) ≤ _; dsimp only; omega) | ((with_reducible show SrcOk _ _ _) <;> (first | exact srcOk_1 rfl | exact srcOk_L (fun _ => ⟨rfl, rfl⟩) | exact srcOk_E (fun _ => ⟨rfl, rfl⟩))) | ((conv => whnf) <;> (first | refine And.intro ?_ ?_ | (intro _h; first | contradiction | (try simp only [dd] at _h)) | (refine dt_go ?_) | exact rfl | exact True.intro | exact dkk | exact dks | (refine wrap_succ ?_; omega))))
  all_goals (conv => whnf)
  all_goals (try simp only [Int.toNat_natCast] at *)
  all_goals first
    | exact leaf_f fun q => by omega
    | exact leaf_p (by simp_all; done)
    | trace_state
theorem hasPrefix_ok (a b : ByteArray) (ha : a.size ≤ 1000000) (hb : b.size ≤ 1000000) : Ret env.P 39 [.s a, .s b] (fun r => r = .b (pb (b.size ≤ a.size ∧ a.extract 0 b.size = b))) := by
  refine ret_of (nt := 8) (rvs := [.tmp 4]) Tryd.func39 rfl rfl rfl rfl (fun X => ?_)
  repeat' (first | omega | (with_reducible show (_ : Int) < _; dsimp only; omega) | (with_reducible show (_ : Nat) ≤ _; dsimp only; omega) | ((with_reducible show SrcOk _ _ _) <;> (first | exact srcOk_1 rfl | exact srcOk_L (fun _ => ⟨rfl, rfl⟩) | exact srcOk_E (fun _ => ⟨rfl, rfl⟩))) | ((conv => whnf) <;> (first | refine And.intro ?_ ?_ | (intro _h; first | contradiction | (try simp only [dd] at _h)) | (refine dt_go ?_) | exact rfl | exact True.intro | exact dkk | exact dks | ((first | refine .inl ⟨_, hasPrefixL_ok a b ha hb, ?_⟩ | refine ⟨_, hasPrefixL_ok a b ha hb, ?_⟩); (try rintro _ rfl)) | (refine wrap_succ ?_; omega))))
  all_goals exact rfl
theorem pre2 {s : ByteArray} {k : Nat} {x y : UInt8} (hy : ¬ y = 0) : ((⟨#[x, y]⟩ : ByteArray).size ≤ (s.extract k s.size).size ∧ (s.extract k s.size).extract 0 (⟨#[x, y]⟩ : ByteArray).size = ⟨#[x, y]⟩) ↔ (byI s k = x.toNat ∧ byI s (k + 1) = y.toNat) := by
  have e2 : (⟨#[x, y]⟩ : ByteArray).size = 2 := rfl
  rw [e2]
  constructor
  · rintro ⟨h1, h2⟩
    rw [ByteArray.size_extract] at h1
    have hk : k + 2 ≤ s.size := by omega
    have g : ∀ i, i < 2 → (s.data.getD (k + i) 0) = ((⟨#[x, y]⟩ : ByteArray).data.getD i 0) := fun i hi => by
      rw [← h2]
      have hs : k + i < s.data.size := by
        have : s.data.size = s.size := rfl
        omega
      rw [Array.getD_eq_getD_getElem?, Array.getD_eq_getD_getElem?, Array.getElem?_eq_getElem hs]
      have hj : i < ((s.extract k s.size).extract 0 2).data.size := by
        have : ((s.extract k s.size).extract 0 2).data.size = ((s.extract k s.size).extract 0 2).size := rfl
        rw [this, ByteArray.size_extract, ByteArray.size_extract]
        omega
      rw [Array.getElem?_eq_getElem hj]
      simp [ByteArray.data_extract, Array.getElem_extract]
    have g0 := g 0 (by decide)
    have g1 := g 1 (by decide)
    unfold byI
    rw [Nat.add_zero] at g0
    rw [g0, g1]
    exact ⟨rfl, rfl⟩
  · rintro ⟨h1, h2⟩
    have hk : k + 2 ≤ s.size := by
      apply Nat.le_of_not_lt
      intro hc
      have h3 := byI_out (s := s) (k := k + 1) (by omega)
      rw [h3] at h2
      have : y.toNat = 0 := by omega
      exact hy (UInt8.toNat_inj.1 this)
    refine ⟨by rw [ByteArray.size_extract]; omega, ?_⟩
    apply ByteArray.ext
    rw [ByteArray.data_extract, ByteArray.data_extract]
    apply Array.ext
    · simp
      have : s.data.size = s.size := rfl
      omega
    · intro i hi1 hi2
      have hi : i < 2 := hi2
      have hs : k + i < s.data.size := by
        have : s.data.size = s.size := rfl
        omega
      have e : byI s (k + i) = (s.data[k + i]'hs).toNat := by
        unfold byI
        rw [Array.getD_eq_getD_getElem?, Array.getElem?_eq_getElem hs]
        rfl
      rw [Array.getElem_extract, Array.getElem_extract]
      apply UInt8.toNat_inj.1
      rcases (show i = 0 ∨ i = 1 by omega) with rfl | rfl
      · have e3 : byI s (k + 0) = x.toNat := h1
        rw [e3] at e
        have e4 : (x.toNat : Int) = ((s.data[k + (0 + 0)]'hs).toNat : Int) := e
        show (s.data[k + (0 + 0)]'hs).toNat = x.toNat
        omega
      · rw [h2] at e
        have e4 : (y.toNat : Int) = ((s.data[k + (0 + 1)]'hs).toNat : Int) := e
        show (s.data[k + (0 + 1)]'hs).toNat = y.toNat
        omega
theorem wd_at {s : ByteArray} {k i : Nat} (h : ¬ ((97 ≤ byI s (k + 1 + i) ∧ byI s (k + 1 + i) ≤ 122) ∨ (48 ≤ byI s (k + 1 + i) ∧ byI s (k + 1 + i) ≤ 57) ∨ (byI s (k + 1 + i) = 45 ∧ ((97 ≤ byI s (k + 1 + i + 1) ∧ byI s (k + 1 + i + 1) ≤ 122) ∨ (48 ≤ byI s (k + 1 + i + 1) ∧ byI s (k + 1 + i + 1) ≤ 57))))) : ¬ wdP s (k + 1 + i) := h
theorem nb_at {s : ByteArray} {k i : Nat} (h : ¬ ((48 ≤ byI s (k + 1 + i) ∧ byI s (k + 1 + i) ≤ 57) ∨ (byI s (k + 1 + i) = 46 ∧ (48 ≤ byI s (k + 1 + i + 1) ∧ byI s (k + 1 + i + 1) ≤ 57)))) : ¬ nbP s (k + 1 + i) := h
theorem wd_in {s : ByteArray} {j : Nat} (h : (97 ≤ byI s j ∧ byI s j ≤ 122) ∨ (48 ≤ byI s j ∧ byI s j ≤ 57) ∨ (byI s j = 45 ∧ ((97 ≤ byI s (j + 1) ∧ byI s (j + 1) ≤ 122) ∨ (48 ≤ byI s (j + 1) ∧ byI s (j + 1) ≤ 57)))) : wdP s j := h
theorem nb_in {s : ByteArray} {j : Nat} (h : (48 ≤ byI s j ∧ byI s j ≤ 57) ∨ (byI s j = 46 ∧ (48 ≤ byI s (j + 1) ∧ byI s (j + 1) ≤ 57))) : nbP s j := h
theorem tn1 {j : Nat} (h : j ≤ 1000000) : (IntKind.i64.wrap ((j : Int) + 1)).toNat = j + 1 := by
  rw [wrap_in (by omega) (by omega)]
  omega
set_option maxHeartbeats 1000000 in
theorem wordEnd_w (s : ByteArray) (k : Nat) (line at' : Int) (hs : s.size ≤ 30000) (hk : k < s.size) (h : 97 ≤ byI s k ∧ byI s k ≤ 122) : Ret env.P 41 [rfL (lxC s at' line), .i .i64 k] (fun r => r = .i .i64 (endF (wdP s) (s.size - k) k : Nat)) := by
  refine ret_of (nt := 79) (rvs := [.tmp 4]) Tryd.func41 rfl rfl rfl rfl (fun X => ?_)
  repeat' (first | omega | (with_reducible show (_ : Int) < _; dsimp only; omega) | (with_reducible show (_ : Nat) ≤ _; dsimp only; omega) | ((with_reducible show SrcOk _ _ _) <;> (first | exact srcOk_1 rfl | exact srcOk_L (fun _ => ⟨rfl, rfl⟩) | exact srcOk_E (fun _ => ⟨rfl, rfl⟩))) | ((conv => whnf) <;> (first | refine loopN s.size (fun i : Nat => [(1, .i .i64 ((k + 1 + i : Nat) : Int))]) (fun _ => []) (fun i => EndI (wdP s) s.size k (k + 1 + i)) ⟨EndI.zero hk (.inl h), ?_⟩ | refine And.intro ?_ ?_ | (intro _h; first | contradiction | (try simp only [dd] at _h)) | (refine dt_go ?_) | exact rfl | exact True.intro | exact dkk | exact dks | ((first | refine .inl ⟨_, isLetter_ok _, ?_⟩ | refine ⟨_, isLetter_ok _, ?_⟩); (try rintro _ rfl)) | ((first | refine .inl ⟨_, isDigit_ok _, ?_⟩ | refine ⟨_, isDigit_ok _, ?_⟩); (try rintro _ rfl)) | ((first | refine .inl ⟨_, byteAt_ok s _ _ _ hs (by rw [wrap_in (by omega) (by omega)]; omega), ?_⟩ | refine ⟨_, byteAt_ok s _ _ _ hs (by rw [wrap_in (by omega) (by omega)]; omega), ?_⟩); (try rintro _ rfl)) | (refine wrap_succ ?_; omega))))
  all_goals (try simp only [Int.toNat_natCast] at *)
  all_goals (first | (conv => whnf) | skip)
  all_goals first
    | (exfalso; omega)
    | (exact absurd h ‹_›)
    | (rw [wrap_in (by omega) (by omega)]; omega)
    | (rename_i i hI _; have := hI.le; omega)
    | (have hI := ‹EndI _ _ _ _›
       have hle := hI.le
       simp (disch := omega) only [tn1] at *
       first
         | exact congrArg (AV.i .i64) (congrArg _ (hI.done (fun _ => wd_at (by (try simp only [byI] at *); omega))).symm)
         | exact hI.next (by omega) (wd_in (by (try simp only [byI] at *); omega)))
    | (have hI := ‹EndI _ _ _ _›
       have hle := hI.le
       first
         | exact congrArg (AV.i .i64) (congrArg _ (hI.done (fun _ => wd_at (by (try simp only [byI] at *); omega))).symm)
         | exact hI.next (by omega) (wd_in (by (try simp only [byI] at *); omega)))
    | trace_state
theorem nl_97 {c : Int} (h : 48 ≤ c ∧ c ≤ 57) : ¬ (97 ≤ c ∧ c ≤ 122) := by omega
set_option maxHeartbeats 1000000 in
theorem wordEnd_n (s : ByteArray) (k : Nat) (line at' : Int) (hs : s.size ≤ 30000) (hk : k < s.size) (h : 48 ≤ byI s k ∧ byI s k ≤ 57) : Ret env.P 41 [rfL (lxC s at' line), .i .i64 k] (fun r => r = .i .i64 (endF (nbP s) (s.size - k) k : Nat)) := by
  have h0 := nl_97 h
  refine ret_of (nt := 79) (rvs := [.tmp 4]) Tryd.func41 rfl rfl rfl rfl (fun X => ?_)
  repeat' (first | omega | (with_reducible show (_ : Int) < _; dsimp only; omega) | (with_reducible show (_ : Nat) ≤ _; dsimp only; omega) | ((with_reducible show SrcOk _ _ _) <;> (first | exact srcOk_1 rfl | exact srcOk_L (fun _ => ⟨rfl, rfl⟩) | exact srcOk_E (fun _ => ⟨rfl, rfl⟩))) | ((conv => whnf) <;> (first | refine loopN s.size (fun i : Nat => [(1, .i .i64 ((k + 1 + i : Nat) : Int))]) (fun _ => []) (fun i => EndI (nbP s) s.size k (k + 1 + i)) ⟨EndI.zero hk (.inl h), ?_⟩ | refine And.intro ?_ ?_ | (intro _h; first | contradiction | (try simp only [dd] at _h)) | (refine dt_go ?_) | exact rfl | exact True.intro | exact dkk | exact dks | ((first | refine .inl ⟨_, isLetter_ok _, ?_⟩ | refine ⟨_, isLetter_ok _, ?_⟩); (try rintro _ rfl)) | ((first | refine .inl ⟨_, isDigit_ok _, ?_⟩ | refine ⟨_, isDigit_ok _, ?_⟩); (try rintro _ rfl)) | ((first | refine .inl ⟨_, byteAt_ok s _ _ _ hs (by rw [wrap_in (by omega) (by omega)]; omega), ?_⟩ | refine ⟨_, byteAt_ok s _ _ _ hs (by rw [wrap_in (by omega) (by omega)]; omega), ?_⟩); (try rintro _ rfl)) | (refine wrap_succ ?_; omega))))
  all_goals (try simp only [Int.toNat_natCast] at *)
  all_goals (first | (conv => whnf) | skip)
  all_goals first
    | (exfalso; omega)
    | (exfalso; (try simp only [byI] at *); omega)
    | (exact absurd ‹_› h0)
    | (rw [wrap_in (by omega) (by omega)]; omega)
    | (rename_i i hI _; have := hI.le; omega)
    | (have hI := ‹EndI _ _ _ _›
       have hle := hI.le
       simp (disch := omega) only [tn1] at *
       first
         | exact congrArg (AV.i .i64) (congrArg _ (hI.done (fun _ => nb_at (by (try simp only [byI] at *); omega))).symm)
         | exact hI.next (by omega) (nb_in (by (try simp only [byI] at *); omega)))
    | (have hI := ‹EndI _ _ _ _›
       have hle := hI.le
       first
         | exact congrArg (AV.i .i64) (congrArg _ (hI.done (fun _ => nb_at (by (try simp only [byI] at *); omega))).symm)
         | exact hI.next (by omega) (nb_in (by (try simp only [byI] at *); omega)))
    | trace_state
end
section
attribute [local irreducible] IntKind.wrap
theorem pre47 (s : ByteArray) (k : Nat) (hs : s.size ≤ 30000) : Ret env.P 39 [.s (s.extract k s.size), .s ⟨#[47, 47]⟩] (fun r => r = .b (decide (byI s k = 47 ∧ byI s (k + 1) = 47))) := (hasPrefix_ok (s.extract k s.size) ⟨#[47, 47]⟩ (by rw [ByteArray.size_extract]; omega) (by decide)).mono fun r e => by
  rw [e, pb_congr (pre2 (s := s) (k := k) (x := 47) (y := 47) (by decide))]
  unfold pb
  exact congrArg AV.b (decide_eq_decide.2 Iff.rfl)
theorem pre4562 (s : ByteArray) (k : Nat) (hs : s.size ≤ 30000) : Ret env.P 39 [.s (s.extract k s.size), .s ⟨#[45, 62]⟩] (fun r => r = .b (decide (byI s k = 45 ∧ byI s (k + 1) = 62))) := (hasPrefix_ok (s.extract k s.size) ⟨#[45, 62]⟩ (by rw [ByteArray.size_extract]; omega) (by decide)).mono fun r e => by
  rw [e, pb_congr (pre2 (s := s) (k := k) (x := 45) (y := 62) (by decide))]
  unfold pb
  exact congrArg AV.b (decide_eq_decide.2 Iff.rfl)
structure SkI (s : ByteArray) (k0 : Nat) (l0 : Int) (y : Nat × Int) : Prop where
  eq : skW s y.1 y.2 = skW s k0 l0
  ge : k0 ≤ y.1
  le : y.1 ≤ s.size
  lo : l0 ≤ y.2
  hi : y.2 + k0 ≤ l0 + y.1
theorem SkI.zero {s : ByteArray} {k0 : Nat} {l0 : Int} (h : k0 ≤ s.size) : SkI s k0 l0 (k0, l0) := ⟨rfl, Nat.le_refl _, h, Int.le_refl _, by show l0 + k0 ≤ l0 + (k0 : Int); omega⟩
theorem SkI.nl {s : ByteArray} {k0 : Nat} {l0 : Int} {y : Nat × Int} (h : SkI s k0 l0 y) (hk : y.1 < s.size) (hb : byI s y.1 = 10) : SkI s k0 l0 (y.1 + 1, y.2 + 1) := by
  obtain ⟨a, b, c, d, e⟩ := h
  refine ⟨(skW_nl hk hb).symm.trans a, ?_, hk, ?_, ?_⟩
  · show k0 ≤ y.1 + 1; omega
  · show l0 ≤ y.2 + 1; omega
  · show y.2 + 1 + k0 ≤ l0 + ((y.1 + 1 : Nat) : Int); omega
theorem SkI.sp {s : ByteArray} {k0 : Nat} {l0 : Int} {y : Nat × Int} (h : SkI s k0 l0 y) (hk : y.1 < s.size) (hb : byI s y.1 = 32) : SkI s k0 l0 (y.1 + 1, y.2) := by
  obtain ⟨a, b, c, d, e⟩ := h
  refine ⟨(skW_sp hk hb).symm.trans a, ?_, hk, d, ?_⟩
  · show k0 ≤ y.1 + 1; omega
  · show y.2 + k0 ≤ l0 + ((y.1 + 1 : Nat) : Int); omega
theorem SkI.co {s : ByteArray} {k0 : Nat} {l0 : Int} {y : Nat × Int} (h : SkI s k0 l0 y) (hk : y.1 < s.size) (hb : byI s y.1 = 47 ∧ byI s (y.1 + 1) = 47) {j : Nat} (hj : endF (fun i => ¬ byI s i = 10) (s.size - y.1) y.1 = j) : SkI s k0 l0 (j, y.2) := by
  obtain ⟨a, b, c, d, e⟩ := h
  have g := endF_gt (P := fun i => ¬ byI s i = 10) hk (by rw [hb.1]; decide)
  have g2 := endF_len (P := fun i => ¬ byI s i = 10) c
  rw [hj] at g g2
  refine ⟨?_, ?_, g2, d, ?_⟩
  · rw [← a, skW_co hk hb.1 hb.2, hj]
  · show k0 ≤ j; omega
  · show y.2 + k0 ≤ l0 + (j : Int); omega
theorem SkI.done {s : ByteArray} {k0 : Nat} {l0 : Int} {y : Nat × Int} (h : SkI s k0 l0 y) (hn : y.1 < s.size → ¬ byI s y.1 = 10 ∧ ¬ byI s y.1 = 32 ∧ ¬ (byI s y.1 = 47 ∧ byI s (y.1 + 1) = 47)) : skW s k0 l0 = y := by
  rw [← h.eq, skW_no hn]
def lxB (s : ByteArray) (k line : Int) (l : List Tok) : List AV := [.s s, .i .i64 k, .i .i64 line, owL 3 tokC l]
instance tokC_hold : HoldC tokC := holdC_plain fun _ => rfl
instance tokC_free : FreeC tokC := freeC_plain fun _ => rfl
instance tokC_shr : Shr 0 tokC tokC := shr_plain fun _ => rfl
set_option maxHeartbeats 2000000 in
theorem skip_ok (s : ByteArray) (k : Nat) (line : Int) (l : List Tok) (hs : s.size ≤ 30000) (hk : k ≤ s.size) (h0 : 0 ≤ line) (h1 : line ≤ 1000000) : RetM env.P 31 [some (boxRow (lxB s k line l))] [.ptr 0 0 0] (fun r H => r = .tup [] ∧ H = [some (boxRow (lxB s (skW s k line).1 (skW s k line).2 l))]) := by
  refine ret_ofM (nt := 89) (rvs := []) Tryd.func31 rfl rfl rfl rfl (fun X hX => ?_)
  repeat' (first | omega | (with_reducible show (_ : Int) < _; dsimp only; omega) | (with_reducible show (_ : Nat) ≤ _; dsimp only; omega) | ((with_reducible show SrcOk _ _ _) <;> (first | exact srcOk_1 rfl | exact srcOk_L (fun _ => ⟨rfl, rfl⟩) | exact srcOk_E (fun _ => ⟨rfl, rfl⟩))) | ((conv => whnf) <;> (first | (have _g := ‹byI s _ = 47 ∧ byI s _ = 47›; rename_i y _ _ _ _; refine loopFT (fun j : Nat => []) (fun j => [some (.box [.s s, .i .i64 j, .i .i64 y.2, owL 3 tokC l])]) (fun j => EndI (fun i => ¬ byI s i = 10) s.size y.1 j) (fun j => s.size - j) y.1 ⟨EndI.self (by omega), ?_⟩) | refine loopFT (fun y : Nat × Int => []) (fun y => [some (.box [.s s, .i .i64 y.1, .i .i64 y.2, owL 3 tokC l])]) (fun y => SkI s k line y) (fun y => s.size - y.1) (k, line) ⟨SkI.zero hk, ?_⟩ | refine And.intro ?_ ?_ | (intro _h; first | contradiction | (try simp only [dd] at _h)) | (refine dt_go ?_) | exact rfl | exact True.intro | exact dkk | exact dks | ((first | refine .inl ⟨_, pre47 s _ hs, ?_⟩ | refine ⟨_, pre47 s _ hs, ?_⟩); (try rintro _ rfl)) | (refine wrap_succ ?_; omega))))
  all_goals (conv => whnf)
  · rename_i y hy _
    have hk : y.1 < s.size := by omega
    have hh := hy.hi
    have hl := hy.lo
    simp (disch := omega) only [wrap_in]
    refine roundET_turn (turn_box (id := 0) (ds := [.s s, .i .i64 ((y.1 + 1 : Nat) : Int), .i .i64 (y.2 + 1), owL 3 tokC l]) rfl rfl rfl (.cons (.refl _) (.cons (.refl _) (.cons (.refl _) (.cons (.refl _) .nil))))) ?_
    refine roundET_end ?_
    refine ⟨(y.1 + 1, y.2 + 1), [], hy.nl hk ‹_›, (show s.size - (y.1 + 1) < s.size - y.1 by omega), ?_⟩
    repeat' (first | omega | (with_reducible show (_ : Int) < _; dsimp only; omega) | (with_reducible show (_ : Nat) ≤ _; dsimp only; omega) | ((with_reducible show SrcOk _ _ _) <;> (first | exact srcOk_1 rfl | exact srcOk_L (fun _ => ⟨rfl, rfl⟩) | exact srcOk_E (fun _ => ⟨rfl, rfl⟩))) | ((conv => whnf) <;> (first | refine And.intro ?_ ?_ | (intro _h; first | contradiction | (try simp only [dd] at _h)) | (refine dt_go ?_) | exact rfl | exact True.intro | exact dkk | exact dks | (refine wrap_succ ?_; omega))))
  · rename_i y hy _ _
    have hk : y.1 < s.size := by omega
    simp (disch := omega) only [wrap_in]
    refine roundET_turn (turn_box (id := 0) (ds := [.s s, .i .i64 ((y.1 + 1 : Nat) : Int), .i .i64 y.2, owL 3 tokC l]) rfl rfl rfl (.cons (.refl _) (.cons (.refl _) (.cons (.refl _) (.cons (.refl _) .nil))))) ?_
    refine roundET_end ?_
    refine ⟨(y.1 + 1, y.2), [], hy.sp hk ‹_›, (show s.size - (y.1 + 1) < s.size - y.1 by omega), ?_⟩
    repeat' (first | omega | (with_reducible show (_ : Int) < _; dsimp only; omega) | (with_reducible show (_ : Nat) ≤ _; dsimp only; omega) | ((with_reducible show SrcOk _ _ _) <;> (first | exact srcOk_1 rfl | exact srcOk_L (fun _ => ⟨rfl, rfl⟩) | exact srcOk_E (fun _ => ⟨rfl, rfl⟩))) | ((conv => whnf) <;> (first | refine And.intro ?_ ?_ | (intro _h; first | contradiction | (try simp only [dd] at _h)) | (refine dt_go ?_) | exact rfl | exact True.intro | exact dkk | exact dks | (refine wrap_succ ?_; omega))))
  · rename_i j hj _
    have hk : j < s.size := by omega
    simp (disch := omega) only [wrap_in]
    refine roundET_turn (turn_box (id := 0) (ds := [.s s, .i .i64 ((j + 1 : Nat) : Int), .i .i64 y.2, owL 3 tokC l]) rfl rfl rfl (.cons (.refl _) (.cons (.refl _) (.cons (.refl _) (.cons (.refl _) .nil))))) ?_
    refine roundET_end ?_
    refine ⟨j + 1, [], hj.next hk ‹_›, (show s.size - (j + 1) < s.size - j by omega), ?_⟩
    repeat' (first | omega | (with_reducible show (_ : Int) < _; dsimp only; omega) | (with_reducible show (_ : Nat) ≤ _; dsimp only; omega) | ((with_reducible show SrcOk _ _ _) <;> (first | exact srcOk_1 rfl | exact srcOk_L (fun _ => ⟨rfl, rfl⟩) | exact srcOk_E (fun _ => ⟨rfl, rfl⟩))) | ((conv => whnf) <;> (first | refine And.intro ?_ ?_ | (intro _h; first | contradiction | (try simp only [dd] at _h)) | (refine dt_go ?_) | exact rfl | exact True.intro | exact dkk | exact dks | (refine wrap_succ ?_; omega))))
  all_goals (try simp only [Int.toNat_natCast] at *)
  all_goals first
    | (have hy := ‹SkI s k line y›
       have hj := ‹EndI _ _ _ _›
       have hk : y.1 < s.size := by omega
       have hd := hj.done (fun q => by first | (exact absurd q (by omega)) | exact fun r => r ‹_›)
       have hg := endF_gt (P := fun i => ¬ byI s i = 10) hk (by rw [_g.1]; decide)
       rw [hd] at hg
       refine roundET_end ?_
       refine ⟨(_, y.2), [], hy.co hk _g hd, (show s.size - _ < s.size - y.1 by omega), ?_⟩
       repeat' (first | omega | (with_reducible show (_ : Int) < _; dsimp only; omega) | (with_reducible show (_ : Nat) ≤ _; dsimp only; omega) | ((with_reducible show SrcOk _ _ _) <;> (first | exact srcOk_1 rfl | exact srcOk_L (fun _ => ⟨rfl, rfl⟩) | exact srcOk_E (fun _ => ⟨rfl, rfl⟩))) | ((conv => whnf) <;> (first | refine And.intro ?_ ?_ | (intro _h; first | contradiction | (try simp only [dd] at _h)) | (refine dt_go ?_) | exact rfl | exact True.intro | exact dkk | exact dks | (refine wrap_succ ?_; omega)))))
    | (rename_i y hy _ _ _
       have hd := hy.done (fun q => ⟨by assumption, by assumption, by assumption⟩)
       exact endM_self ⟨rfl, by rw [hd]; rfl⟩)
    | (rename_i y hy
       have hd := hy.done (fun q => absurd q (by omega))
       exact endM_self ⟨rfl, by rw [hd]; rfl⟩)
    | trace_state
end
section
variable {E : Env} {P : Program} {nt : Nat} {X : Ctx} {f : Fr} {H H' : Hp} {a : Act} {w : World} {blk : Nat → BC} {FP : Nat → List Nat}
theorem StB.thin (hk : ∀ k : Nat, H'[k]? = H[k]? ∨ H'[k]? = some none) (s : StB nt X f H blk FP a w) : StB nt X f H' blk FP a w := by
  have hget : ∀ (k : Nat) (r : Row), H'[k]? = some (some r) → H[k]? = some (some r) := fun k r h => by
    rcases hk k with q | q
    · rw [← q]; exact h
    · rw [q] at h; cases h
  have hkeep : ∀ b, X.S FP H w.heap.size b → X.S FP H' w.heap.size b ∧ w.heap[b]? = w.heap[b]? := fun b hb => ⟨⟨hb.1, hb.2.1, fun k r h => hb.2.2 k r (hget k r h)⟩, rfl⟩
  have hext : HExt H blk H' blk := fun k x hx => by
    rcases hk k with q | q
    · cases x with
      | none => exact .inl (q.trans hx)
      | some r => exact .inr ⟨r, r, rfl, q.trans hx, rfl, rfl, rfl⟩
    · exact .inl q
  exact ⟨s.defers, s.size, s.keeps, fun k r h => ⟨(s.rows k r (hget k r h)).1.mono hkeep hext fun _ _ => rfl, (s.rows k r (hget k r h)).2⟩, fun i j r r' hi hj => s.apart i j r r' (hget i r hi) (hget j r' hj), fun t => (s.fr t).mono hkeep hext, s.ext.trans hext⟩
def frP (f : Fr) : Fr → Prop
  | [] => True
  | (t, v) :: g => lk f t = v ∧ frP f g
theorem frP_lk : ∀ {g : Fr}, frP f g → ∀ t, lk g t = .any ∨ lk g t = lk f t
  | [], _, t => .inl rfl
  | (d, v) :: g, h, t => by
    rw [lk_cons]
    split
    · rename_i e; subst e; exact .inr h.1.symm
    · exact frP_lk h.2 t
def hpK : Hp → Hp → Prop
  | [], [] => True
  | x :: H, y :: H' => (y = x ∨ y = none) ∧ hpK H H'
  | [], y :: H' => y = none ∧ hpK [] H'
  | _ :: _, [] => False
theorem hpK_at : ∀ {H H' : Hp}, hpK H H' → ∀ k : Nat, H'[k]? = H[k]? ∨ H'[k]? = some none
  | [], [], _, k => .inl rfl
  | x :: H, y :: H', h, 0 => by
    rcases h.1 with rfl | rfl
    · exact .inl rfl
    · exact .inr rfl
  | x :: H, y :: H', h, k + 1 => by simpa using hpK_at h.2 k
  | [], y :: H', h, 0 => by obtain ⟨rfl, _⟩ := h; exact .inr rfl
  | [], y :: H', h, k + 1 => by simpa using hpK_at h.2 k
  | _ :: _, [], h, _ => h.elim
structure Cut (nt : Nat) (X : Ctx) {α : Type} (I : α → Prop) (g : α → Fr) (hp : α → Hp) (f : Fr) (H : Hp) : Prop where
  h : ∃ y, I y ∧ ∀ a w, St nt X f H a w → St nt X (g y) (hp y) a w
theorem cut_go {α : Type} {I : α → Prop} {g : α → Fr} {hp : α → Hp} (y : α) (hI : I y) (hg : frP f (g y)) (hH : hpK H (hp y)) : Cut nt X I g hp f H :=
  ⟨y, hI, fun a w ⟨blk, FP, s⟩ => ⟨blk, FP, (s.refr (g := g y) fun t hc => by
    rcases frP_lk hg t with q | q
    · rw [q]; exact .any _
    · rw [q]; exact hc).thin (hpK_at hH)⟩⟩
theorem cut_turn {α : Type} {I : α → Prop} {g : α → Fr} {hp : α → Hp} (t : Turn X H H') (h : Cut nt X I g hp f H') : Cut nt X I g hp f H := by
  obtain ⟨y, hI, hs⟩ := h
  exact ⟨y, hI, fun a w s => hs a w (s.turn t)⟩
def wpcN (E : Env) (nt : Nat) (X : Ctx) : Nat → Code → Fr → Hp → (Fr → Hp → Prop) → (Exit → Fr → Hp → Prop) → Prop
  | 0, _, f, H, J, _ => J f H
  | k + 1, .seq a b, f, H, J, Q => wpc E nt X a f H (thn (fun f H => wpcN E nt X k b f H J Q) Q)
  | _ + 1, _, _, _, _, _ => False
def restC : Nat → Code → Code
  | 0, c => c
  | k + 1, .seq _ b => restC k b
  | _ + 1, c => c
theorem wpcN_ok {J : Fr → Hp → Prop} {Q : Exit → Fr → Hp → Prop} : ∀ (k : Nat) (c : Code) (f : Fr) (H : Hp), wpcN E nt X k c f H J Q → (∀ f H, J f H → PW E.P nt X (restC k c) f H Q) → PW E.P nt X c f H Q
  | 0, c, f, H, h, hJ => hJ f H h
  | k + 1, c, f, H, h, hJ => by
    cases c with
    | seq a b =>
      refine pw_seq fun x w s => wp_mono (wpc_ok a f H _ h x w s) fun e x w ⟨f, H, q, s⟩ => ?_
      refine ⟨f, H, ?_, s⟩
      cases e with
      | normal => exact wpcN_ok k b f H q hJ
      | _ => exact q
    | _ => exact h.elim
theorem pw_cut {c : Code} {Q : Exit → Fr → Hp → Prop} {α : Type} (k : Nat) (I : α → Prop) (gf : α → Fr) (hp : α → Hp)
    (h : wpcN E nt X k c f H (Cut nt X I gf hp) Q) (h2 : ∀ y, I y → PW E.P nt X (restC k c) (gf y) (hp y) Q) : PW E.P nt X c f H Q :=
  wpcN_ok k c _ _ h fun f H ⟨⟨y, hI, hs⟩⟩ a w s => h2 y hI a w (hs a w s)
theorem ret_ofPM {g : FuncId} {fn : Func} {c : Code} {H0 : Hp} {al : List AV} {post : AV → Hp → Prop} {rvs : List ResultVar} (hf : E.P.funcs[g]? = some fn) (hb : fn.body = some c) (hnt : fn.ntmps = nt) (hrv : fn.results.toList = rvs) (hle : Nat.ble al.length nt = true)
    (h : ∀ X : Ctx, X.H0 = H0 → PW E.P nt X c (frm 0 al) H0 (FinM E X rvs post)) : RetM E.P g H0 al post :=
  ret_ofPT hf hb hnt hrv hle (fun _ => Turn.refl) h
end
end Go.Proofs.YtfaadafgbhmlfaaDoor
