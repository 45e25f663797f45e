/-
  Results that are frozen: rows that a function has made and hands back as what stays (FrzP, RetM.frz).
-/
import Derived.Test.YtgjihfinbaopcaaVX
import Derived.Test.YtgjihfinbaopcaaVTOwn
namespace Go.Proofs.Ytgjihfinbaopcaa
open Go Go.RowKit
set_option linter.unusedVariables false
set_option linter.unusedSimpArgs false

def ow1 : AV → Bool
  | .ow .. => true
  | _ => false
theorem own_nil {w : World} {S : Nat → Prop} {blk : Nat → BC} {H : Hp} {x : AV} {u : Value} {fp : List Nat} (h : Own w S blk H x u fp) (hx : ow1 x = false) : fp = [] := by
  cases h with
  | plain => rfl
  | ow0 => cases hx
  | ow => cases hx
/-- Rows of cells that own nothing. -/
def PlainH (H : Hp) : Prop := ∀ (k : Nat) (x : Option Row), H[k]? = some x → ∃ r : Row, x = some r ∧ 0 < r.cap ∧ ∀ i j, i < r.cap → j < r.sz → ow1 (r.es i j) = false
theorem plainH_nil : PlainH [] := fun k x h => by simp at h
theorem plainH_box {cs : List AV} (h : cs.all (fun x => !ow1 x) = true) : PlainH [some (boxRow cs)] := fun k x hk => by
  cases k with
  | zero =>
    cases hk
    refine ⟨_, rfl, Nat.one_pos, fun i j hi hj => ?_⟩
    have hj' : j < cs.length := hj
    show ow1 (cs.getD j .any) = false
    rw [List.getD_eq_getElem?_getD, List.getElem?_eq_getElem hj']
    have := List.all_eq_true.1 h _ (List.getElem_mem hj')
    simpa using this
  | succ k => simp at hk
/-- Behind the first n rows all are frozen. -/
def FrzP (π : List Nat) (post : AV → Hp → Prop) (r : AV) (H : Hp) : Prop := ∃ (H1 : Hp) (r1 : AV), ViewOk π H H1 ∧ WkC (shr (outM π 0 H) r) r1 ∧ post r1 H1

theorem RetM.frz {P : Program} {g : FuncId} {H0 : Hp} {avs : List AV} {post : AV → Hp → Prop} (π : List Nat) (hπe : List.range H0.length = π) (hp : PlainH H0) (h : RetM P g H0 avs (FrzP π post)) : RetM P g H0 avs post := .mk fun w S blk FP us hR hG hc => by
  have hbk : ∀ (k : Nat) (r : Row), H0[k]? = some (some r) → RowOk w S blk H0 [(blk k).b] (blk k) r ∧ (blk k).b ∈ FP k := fun k r hr => by
    obtain ⟨r', e, hcap, hpl⟩ := hp k _ hr
    cases e
    obtain ⟨h1, h2⟩ := hR.rows k r hr
    rcases h1 with ⟨h0, _⟩ | ⟨c0, c1, c2, c3, ty, cur, F, d1, d2, d3, d4, d5, d6⟩
    · omega
    · refine ⟨.inr ⟨c0, c1, c2, List.mem_singleton.2 rfl, ty, cur, fun _ _ => [], d1, d2, d3, fun i j hi hj => ?_, fun i j _ _ x hx => by simp at hx, fun i j i' j' _ _ _ _ _ x hx => by simp at hx⟩, c3⟩
      obtain ⟨u, e1, e2, e3⟩ := d4 i j hi hj
      have := own_nil e3 (hpl i j hi hj)
      rw [this] at e3
      exact ⟨u, e1, e2, e3⟩
  have hR' : RowsIn w S blk (fun k => [(blk k).b]) H0 := ⟨fun id r hr => ⟨(hbk id r hr).1, fun b hb => by
      rw [List.mem_singleton.1 hb]
      exact (hR.rows id r hr).2 _ (hbk id r hr).2⟩, fun i j r r' hi hj hij b hb hb' => by
      rw [List.mem_singleton.1 hb] at hb'
      have e := List.mem_singleton.1 hb'
      exact hR.apart i j r r' hi hj hij _ (hbk i r hi).2 (e ▸ (hbk j r' hj).2), fun b hb => ⟨(hR.free b hb).1, fun id r hr hm => by
      have e := List.mem_singleton.1 hm
      subst e
      exact (hR.free _ hb).2 id r hr (hbk id r hr).2⟩⟩
  refine (h.h w S blk (fun k => [(blk k).b]) us hR' hG hc).mono ?_
  rintro e w' ⟨r, u, H', blk', FP', he, ⟨H1, r1, hv, hw, hq⟩, hR2, hc2, hext, hfr, hk⟩
  have hmem : ∀ i, i ∈ π ↔ i < H0.length := fun i => by rw [← hπe]; exact List.mem_range
  have hat0 : ∀ k, k < H0.length → π[k]? = some k := fun k hk => by rw [← hπe]; simp [hk]
  have hπ : ∀ i ∈ π, i < H'.length := fun i hi => by
    obtain ⟨k, hk⟩ := List.getElem?_of_mem hi
    obtain ⟨_, y, _, hy, _⟩ := hv.row k i hk
    exact (List.getElem?_eq_some_iff.1 hy).1
  have hsm : ∀ k, k < π.length → sig π H'.length k ∈ π := fun k hk => by
    unfold sig
    rw [List.getElem?_eq_getElem hk]
    exact List.getElem_mem hk
  have hat : ∀ {k : Nat} {x : Row}, H1[k]? = some (some x) → k < π.length ∧ ∃ y, H'[sig π H'.length k]? = some (some y) ∧ RowBack (sig π H'.length) π.length x y := by
    intro k x hx
    have hk : k < π.length := by rw [← hv.len]; exact (List.getElem?_eq_some_iff.1 hx).1
    have hk' : π[k]? = some π[k] := List.getElem?_eq_getElem hk
    obtain ⟨x', y, h1, h2, h3⟩ := hv.row k _ hk'
    rw [hx] at h1
    cases h1
    exact ⟨hk, y, by unfold sig; rw [hk']; exact h2, h3⟩
  have hB : Back (sig π H'.length) π.length H' blk' H1 (fun k => blk' (sig π H'.length k)) := by
    intro k hk
    have hk' : π[k]? = some π[k] := List.getElem?_eq_getElem hk
    obtain ⟨x', y, h1, h2, h3⟩ := hv.row k _ hk'
    exact ⟨x', y, h1, by unfold sig; rw [hk']; exact h2, h3.sz, h3.cap, rfl⟩
  have hS : ∀ b, aftS S w.heap.size w'.heap.size FP' H' b → aftS S w.heap.size w'.heap.size (fun k => FP' (sig π H'.length k)) H1 b := fun b hb => ⟨hb.1, hb.2.1, fun k x hx => by
    obtain ⟨_, y, hy, _⟩ := hat hx
    exact hb.2.2 _ y hy⟩
  have hfz : ∀ (id : Nat) (y : Row), (outM π 0 H')[id]? = some (some y) → ∀ b ∈ FP' id, aftS S w.heap.size w'.heap.size (fun k => FP' (sig π H'.length k)) H1 b := fun id y hy b hb => by
    obtain ⟨hy, hn⟩ := outM_row hy
    refine ⟨?_, (hR2.rows id y hy).2 b hb, fun k x hx hbk' => ?_⟩
    · rcases hfr b ⟨id, y, hy, hb⟩ with h1 | ⟨k, r0, hr0, hb0⟩
      · exact .inr h1
      · exfalso
        have hk0 : k < H0.length := (List.getElem?_eq_some_iff.1 hr0).1
        obtain ⟨x', y', _, h2, _⟩ := hv.row k k (hat0 k hk0)
        rcases hext k _ hr0 with h4 | ⟨ra, rb, ea, h5, h6, h7, h8⟩
        · rw [h2] at h4; cases h4
        · cases ea
          obtain ⟨_, e0, hcap, _⟩ := hp k _ hr0
          cases e0
          have hb1 : (blk' k).b ∈ FP' k := by
            rcases (hR2.rows k rb h5).1 with ⟨h0, _⟩ | ⟨_, _, _, c3, _⟩
            · omega
            · exact c3
          rw [List.mem_singleton.1 hb0, ← h8] at hb
          exact hR2.apart k id rb y h5 hy (fun e => hn (e ▸ (hmem k).2 hk0)) _ hb1 hb
    · obtain ⟨hk', y', hy', _⟩ := hat hx
      exact hR2.apart id _ y y' hy hy' (fun e => hn (e ▸ hsm k hk')) b hb hbk'
  refine ⟨r1, u, H1, fun k => blk' (sig π H'.length k), fun k => FP' (sig π H'.length k), he, hq, ⟨fun k x hx => ?_, fun i j x x' hi hj hij => ?_, fun b hb => ⟨hb.2.1, hb.2.2⟩⟩, ?_, fun k x hx => ?_, fun b hb => ?_, ?_⟩
  · obtain ⟨_, y, hy, hrb⟩ := hat hx
    obtain ⟨h1, h2⟩ := hR2.rows _ y hy
    exact ⟨h1.back hrb (fun b hb => ⟨hS b hb, rfl⟩) hB fun _ _ => rfl, h2⟩
  · obtain ⟨_, y, hy, _⟩ := hat hi
    obtain ⟨_, y', hy', _⟩ := hat hj
    exact hR2.apart _ _ y y' hy hy' fun e => hij (sig_inj hv.nodup hπ e)
  · have c3 : Conc w' _ blk' (outM π 0 H') r u := hc2.mono (fun b hb => ⟨hb, rfl⟩) outM_ext
    have c4 : Conc w' (aftS S w.heap.size w'.heap.size (fun k => FP' (sig π H'.length k)) H1) (fun _ => ⟨0, 0⟩) [] (shr (outM π 0 H') r) u :=
      shr_conc (FP := FP') hS (fun id y hy => ⟨(hR2.rows id y (outM_row hy).1).1.mono (fun b hb => ⟨hb, rfl⟩) outM_ext fun _ _ => rfl, hfz id y hy⟩) c3
    exact (hw _ _ _ c4).mono (fun b hb => ⟨hb, rfl⟩) fun id x hx => by simp at hx
  · have hk0 : k < H0.length := (List.getElem?_eq_some_iff.1 hx).1
    obtain ⟨x', y, h1, h2, h3⟩ := hv.row k k (hat0 k hk0)
    rcases hext k x hx with h4 | ⟨r, r', rfl, h5, h6, h7, h8⟩
    · rw [h2] at h4; cases h4
    · rw [h2] at h5
      cases h5
      refine .inr ⟨r, x', rfl, h1, h3.sz.trans h6, h3.cap.trans h7, ?_⟩
      show blk' (sig π H'.length k) = blk k
      unfold sig
      rw [hat0 k hk0]
      exact h8
  · obtain ⟨k, x, hx, hb⟩ := hb
    obtain ⟨_, y, hy, _⟩ := hat hx
    rcases hfr b ⟨_, y, hy, hb⟩ with h1 | ⟨k', r0, hr0, hb0⟩
    · exact .inl h1
    · exact .inr ⟨k', r0, hr0, by rw [List.mem_singleton.1 hb0]; exact (hbk k' r0 hr0).2⟩
  · exact ⟨hk.os, hk.tape, hk.output, hk.size, fun k hlt hm => hk.block k hlt fun ⟨k', r0, hr0, hb0⟩ => hm ⟨k', r0, hr0, by rw [List.mem_singleton.1 hb0]; exact (hbk k' r0 hr0).2⟩⟩
theorem frz_agg {H : Hp} {cs ds : List AV} (h : WkL (cs.map (shrC 5 H)) ds) : WkC (shr H (.agg cs)) (.agg ds) := fun w S u hu => (Wk.agg h).c w S u hu
theorem frz_tup {H : Hp} {cs ds : List AV} (h : WkL (cs.map fun c => match c with | .agg ds => .agg (ds.map (shrC 5 H)) | c => shrC 5 H c) ds) : WkC (shr H (.tup cs)) (.tup ds) := fun w S u hu => by
  obtain ⟨us, rfl, hl, hc⟩ := inv_tup hu
  refine .tup _ us (hl.trans h.1) fun j c u hj hju => ?_
  have hlt : j < (cs.map fun c => match c with | .agg ds => AV.agg (ds.map (shrC 5 H)) | c => shrC 5 H c).length := by rw [h.1]; exact (List.getElem?_eq_some_iff.1 hj).1
  exact (h.2 j _ c (List.getElem?_eq_getElem hlt) hj).c w S u (hc j _ u (List.getElem?_eq_getElem hlt) hju)
theorem frz_cell {H : Hp} {x y : AV} (hs : shr H x = shrC 5 H x) (h : Wk (shrC 5 H x) y) : WkC (shr H x) y := fun w S u hu => h.c w S u (hs ▸ hu)
/-- A row of literals, frozen. -/
theorem shr_litL {α : Type} [Inhabited α] {d sz k n : Nat} {H : Hp} {cO c : α → List AV} {l : List α} {css : List (List AV)} [h : Shr d cO c] (hn : n = l.length) (hc : css = l.map cO) : Wk (.sl sz n fun i j => shrC (k + d) H (litE css i j)) (slL sz c l) := by
  have e := shr_L (sz := sz) (k := k) (H := H) (cO := cO) (c := c) hn
  subst hn
  subst hc
  refine Wk.sl fun i j hi hj => ?_
  have e2 : litE (l.map cO) i j = elE cO l i j := by
    unfold litE elE
    congr 1
    rw [List.getD_eq_getElem?_getD (l := l.map cO), List.getElem?_map, List.getElem?_eq_getElem hi, List.getD_eq_getElem?_getD (l := l), List.getElem?_eq_getElem hi]
    rfl
  rw [e2]
  have := (h.h H k (l.getD i default)).getD j
  have e3 : ((cO (l.getD i default)).map (shrC (k + d) H)).getD j .any = shrC (k + d) H (elE cO l i j) := by
    unfold elE
    generalize cO (l.getD i default) = cs
    rw [List.getD_eq_getElem?_getD, List.getD_eq_getElem?_getD, List.getElem?_map]
    cases cs[j]? with
    | none => exact shr_any.symm
    | some x => rfl
  rw [e3] at this
  exact this
theorem Ret.toMB {P : Program} {g : FuncId} {av : List AV} {post : AV → Prop} (h : Ret P g av post) : RetM P g [] av (fun r H => post r ∧ H = []) := .mk fun w S blk FP us hR hG hc => by
  refine (h.h w S us ⟨fun b hb => (hR.free b hb).1, hG⟩ ⟨hc.1, fun j c u hj hu => (hc.2 j c u hj hu).nil⟩).mono fun e w' ⟨r, u, he, hq, hcu, hb⟩ => ⟨r, u, [], blk, FP, he, ⟨hq, rfl⟩, ⟨fun id r hr => by simp at hr, fun i j r r' hr => by simp at hr, fun b hb => ⟨hb.2.1, fun id r hr => by simp at hr⟩⟩, ?_, HExt.refl _ _, ?_, ⟨hb.os, hb.tape, hb.output, hb.size, fun k hk _ => hb.block k hk⟩⟩
  · have hcu' : Conc w' (fun b => S b ∨ (w.heap.size ≤ b ∧ b < w'.heap.size)) blk [] r u := hcu.nil
    refine hcu'.mono (fun b hb' => ⟨⟨?_, ?_, fun id r hr => by simp at hr⟩, rfl⟩) (HExt.refl _ _)
    · rcases hb' with h | h
      · exact .inl h
      · exact .inr h.1
    · rcases hb' with h | h
      · have := (hR.free b h).1
        have := hb.size
        omega
      · exact h.2
  · rintro b ⟨id, r, hr, _⟩
    simp at hr

theorem RetM.toRetP {P : Program} {g : FuncId} {av : List AV} {x : Bool} (h : RetM P g [] av (fun r H => (r = .b x ∨ r = .kb x) ∧ H = [])) : Ret P g av (fun r => r = .b x) := .mk fun w S us hS hc => by
  refine (h.h w S (fun _ => ⟨0, 0⟩) (fun _ => []) us ⟨fun id r q => by simp at q, fun i j r r' q => by simp at q, fun b hb => ⟨hS b hb, fun id r q => by simp at q⟩⟩ hS.gl hc).mono ?_
  rintro e w' ⟨r, u, H', blk', FP', he, ⟨hq, rfl⟩, _, hcu, _, _, hk⟩
  refine ⟨.b x, u, he, rfl, ?_, ⟨hk.os, hk.tape, hk.output, hk.size, fun k hlt => hk.block k hlt (by rintro ⟨id, r, q, _⟩; simp at q)⟩⟩
  have hcu' : Conc w' _ (fun _ => ⟨0, 0⟩) [] r u := hcu.nil
  rcases hq with rfl | rfl
  · exact hcu'.mono (fun b hb => ⟨hb.1.imp_right fun q => ⟨q, hb.2.1⟩, rfl⟩) (HExt.refl _ _)
  · cases hcu'
    exact .b x
/-- A contract without rows is one of a function that reads. -/
theorem RetM.toRetG {P : Program} {g : FuncId} {av : List AV} {post : AV → Prop} (h : RetM P g [] av (fun r H => post r ∧ H = [])) : Ret P g av post := .mk fun w S us hS hc => by
  refine (h.h w S (fun _ => ⟨0, 0⟩) (fun _ => []) us ⟨fun id r q => by simp at q, fun i j r r' q => by simp at q, fun b hb => ⟨hS b hb, fun id r q => by simp at q⟩⟩ hS.gl hc).mono ?_
  rintro e w' ⟨r, u, H', blk', FP', he, ⟨hq, rfl⟩, _, hcu, _, _, hk⟩
  refine ⟨r, u, he, hq, ?_, ⟨hk.os, hk.tape, hk.output, hk.size, fun k hlt => hk.block k hlt (by rintro ⟨id, r, q, _⟩; simp at q)⟩⟩
  have hcu' : Conc w' _ (fun _ => ⟨0, 0⟩) [] r u := hcu.nil
  exact hcu'.mono (fun b hb => ⟨hb.1.imp_right fun q => ⟨q, hb.2.1⟩, rfl⟩) (HExt.refl _ _)
/-- A function that makes what it returns, and of which nothing is written later. -/
theorem Ret.ofFrz {P : Program} {g : FuncId} {av : List AV} {post : AV → Prop} (h : RetM P g [] av (FrzP [] fun r H => post r ∧ H = [])) : Ret P g av post := (RetM.frz [] rfl plainH_nil h).toRetG
theorem view_none {H : Hp} : ViewOk [] H [] := view_of rfl .nil
theorem frz0 {H : Hp} {r r1 : AV} {post : AV → Prop} (hw : WkC (shr (outM [] 0 H) r) r1) (hp : post r1) : FrzP [] (fun r H => post r ∧ H = []) r H := ⟨[], r1, view_none, hw, hp, rfl⟩
end Go.Proofs.Ytgjihfinbaopcaa
