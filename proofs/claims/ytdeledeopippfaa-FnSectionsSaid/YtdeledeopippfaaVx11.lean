/- Texts for VSectionsP. -/
import Derived.Test.YtdeledeopippfaaVx10
namespace Go.Proofs.Ytdeledeopippfaa
open Go Go.RowKit
set_option linter.unusedVariables false
set_option linter.unusedSimpArgs false
section
inductive RKle : RK → RK → Prop
  | refl (k : RK) : RKle k k
  | mp (ak : Bool) (f : List Int → Int) (sts : List (Int × List Int)) : RKle (.mp ak f sts) (.mp ak f [])
theorem RKle.isMp {k k' : RK} (h : RKle k k') : k'.isMp = k.isMp := by cases h <;> rfl
structure RowsIn (w : World) (S : Nat → Prop) (blk : Nat → BC) (FP : Nat → List Nat) (H : Hp) : Prop where
  rows : ∀ (id : Nat) (r : Row), H[id]? = some (some r) → RowOk w S blk H (FP id) (blk id) r ∧ ∀ b ∈ FP id, b < w.heap.size
  apart : ∀ (i j : Nat) (r r' : Row), H[i]? = some (some r) → H[j]? = some (some r') → i ≠ j → ∀ b ∈ FP i, b ∉ FP j
  free : ∀ b, S b → b < w.heap.size ∧ ∀ (id : Nat) (r : Row), H[id]? = some (some r) → b ∉ FP id
def inFP (FP : Nat → List Nat) (H : Hp) (b : Nat) : Prop := ∃ (id : Nat) (r : Row), H[id]? = some (some r) ∧ b ∈ FP id
def aftS (S : Nat → Prop) (N N' : Nat) (FP : Nat → List Nat) (H : Hp) : Nat → Prop := fun b => (S b ∨ N ≤ b) ∧ b < N' ∧ ∀ (id : Nat) (r : Row), H[id]? = some (some r) → b ∉ FP id
structure RetM (P : Program) (g : FuncId) (H0 : Hp) (avs : List AV) (post : AV → Hp → Prop) : Prop where
  h : ∀ (w : World) (S : Nat → Prop) (blk : Nat → BC) (FP : Nat → List Nat) (us : List Value), RowsIn w S blk FP H0 → Gl w S → ConcL w S blk H0 avs us →
    Calls P g us.toArray w fun e w' => ∃ r u H' blk' FP', e = .returned u ∧ post r H' ∧ RowsIn w' (aftS S w.heap.size w'.heap.size FP' H') blk' FP' H' ∧ Conc w' (aftS S w.heap.size w'.heap.size FP' H') blk' H' r u ∧
      HExt H0 blk H' blk' ∧ (∀ b, inFP FP' H' b → w.heap.size ≤ b ∨ inFP FP H0 b) ∧ Keeps (inFP FP H0) w w'
section
variable {E : Env} {P : Program} {nt : Nat} {X : Ctx} {f : Fr} {H : Hp} {ty : TypeId} {a : Act} {w : World} {blk : Nat → BC} {FP : Nat → List Nat}
theorem RetM.mono {g : FuncId} {H0 : Hp} {avs : List AV} {post post' : AV → Hp → Prop} (h : RetM P g H0 avs post) (hp : ∀ r H', post r H' → post' r H') : RetM P g H0 avs post' :=
  .mk fun w S blk FP us hr hg hc => (h.h w S blk FP us hr hg hc).mono fun e w' ⟨r, u, H', blk', FP', he, hq, hrest⟩ => ⟨r, u, H', blk', FP', he, hp _ _ hq, hrest⟩
def ren0 (σ : Nat → Nat) : AV → AV
  | .ptr id j off => .ptr (σ id) j off
  | .row id n => .row (σ id) n
  | .rs id o n => .rs (σ id) o n
  | .mp id => .mp (σ id)
  | x => x
def ren1 (σ : Nat → Nat) : AV → AV
  | .ptr id j off => .ptr (σ id) j off
  | .row id n => .row (σ id) n
  | .rs id o n => .rs (σ id) o n
  | .mp id => .mp (σ id)
  | .fn g cs => .fn g (cs.map (ren0 σ))
  | x => x
def renC (σ : Nat → Nat) : AV → AV
  | .fn g cs => .fn g (cs.map (ren1 σ))
  | .agg cs => .agg (cs.map (ren1 σ))
  | x => ren1 σ x
def renA (σ : Nat → Nat) : AV → AV
  | .tup cs => .tup (cs.map (renC σ))
  | x => renC σ x
def flat0 : AV → Bool
  | .agg _ | .tup _ => false
  | .fn _ cs => cs.isEmpty
  | _ => true
def flat1 : AV → Bool
  | .agg _ | .tup _ => false
  | .fn _ cs => cs.all flat0
  | _ => true
def flatC : AV → Bool
  | .fn _ cs => cs.all flat1
  | .agg cs => cs.all flat1
  | x => flat1 x
def flatA : AV → Bool
  | .tup cs => cs.all flatC
  | x => flatC x
def Ren (σ : Nat → Nat) (H : Hp) (blk : Nat → BC) (H2 : Hp) (blk2 : Nat → BC) : Prop :=
  ∀ (id : Nat) (x : Option Row), H[id]? = some x → H2[σ id]? = some none ∨ ∃ r r' : Row, x = some r ∧ H2[σ id]? = some (some r') ∧ r'.sz = r.sz ∧ r'.cap = r.cap ∧ blk2 (σ id) = blk id
theorem Conc.ren0 {w2 : World} {S S2 : Nat → Prop} {blk2 : Nat → BC} {H2 : Hp} {σ : Nat → Nat} {x : AV} {u : Value} (h : Conc w S blk H x u) (hx : flat0 x = true)
    (hS : ∀ b, S b → S2 b ∧ w2.heap[b]? = w.heap[b]?) (hR : Ren σ H blk H2 blk2) : Conc w2 S2 blk2 H2 (Go.Proofs.Ytdeledeopippfaa.ren0 σ x) u := by
  have plain : x.idf → Conc w2 S2 blk2 H2 x u := fun hi => (h.free hi).mono hS (HExt.refl _ _)
  cases x with
  | ptr id j off =>
    cases h with
    | ptr r h hj ho =>
      rcases hR id _ h with h1 | ⟨r1, r', e, h', h2, h3, h4⟩
      · exact .ptrD h1 _
      · cases e
        have := Conc.ptr (w := w2) (S := S2) (blk := blk2) (j := j) (off := off) r' h' (by omega) (by omega)
        rwa [h2, h4] at this
    | ptrD h =>
      rcases hR _ _ h with h1 | ⟨r1, r', e, _⟩
      · exact .ptrD h1 _
      · cases e
  | row id n =>
    cases h with
    | row r h hn hc h0 hm =>
      rcases hR id _ h with h1 | ⟨r1, r', e, h', h2, h3, h4⟩
      · exact .rowD h1 _
      · cases e
        have := Conc.row (w := w2) (S := S2) (blk := blk2) (n := n) r' h' (by omega) (by rw [h4]; omega) (by rw [h4]; omega) (by rw [h4]; omega)
        rwa [h4] at this
    | row0 r h hr h0 a =>
      rcases hR id _ h with h1 | ⟨r1, r', e, h', h2, h3, h4⟩
      · exact .rowD h1 _
      · cases e
        exact .row0 r' h' (by omega) (by rw [h4]; exact h0) a
    | rowD h =>
      rcases hR _ _ h with h1 | ⟨r1, r', e, _⟩
      · exact .rowD h1 _
      · cases e
  | rs id o n =>
    cases h with
    | rs r h hn hc hm a ha =>
      rcases hR id _ h with h1 | ⟨r1, r', e, h', h2, h3, h4⟩
      · exact .rsD h1 _
      · cases e
        have := Conc.rs (w := w2) (S := S2) (blk := blk2) (o := o) (n := n) r' h' (by omega) (by rw [h4]; omega) (by rw [h4]; omega) a (by rw [h4, h2]; exact ha)
        rwa [h4] at this
    | rsD h =>
      rcases hR _ _ h with h1 | ⟨r1, r', e, _⟩
      · exact .rsD h1 _
      · cases e
  | mp id =>
    cases h with
    | mp r h =>
      rcases hR id _ h with h1 | ⟨r1, r', e, h', h2, h3, h4⟩
      · exact .mpD h1 _
      · cases e
        have := Conc.mp (w := w2) (S := S2) (blk := blk2) r' h'
        rwa [h4] at this
    | mpD h =>
      rcases hR _ _ h with h1 | ⟨r1, r', e, _⟩
      · exact .mpD h1 _
      · cases e
  | agg => cases hx
  | tup => cases hx
  | ow => cases h
  | fn g cs =>
    cases cs with
    | nil => exact plain rfl
    | cons => cases hx
  | sl => exact plain h.idf_sl
  | rf => exact plain h.idf_rf
  | _ => exact plain trivial
theorem Conc.ren1 {w2 : World} {S S2 : Nat → Prop} {blk2 : Nat → BC} {H2 : Hp} {σ : Nat → Nat} {x : AV} {u : Value} (h : Conc w S blk H x u) (hx : flat1 x = true)
    (hS : ∀ b, S b → S2 b ∧ w2.heap[b]? = w.heap[b]?) (hR : Ren σ H blk H2 blk2) : Conc w2 S2 blk2 H2 (Go.Proofs.Ytdeledeopippfaa.ren1 σ x) u := by
  cases x with
  | fn g cs =>
    obtain ⟨us, rfl, hl, hu⟩ := inv_fn h
    refine .fn g _ us (by simpa using hl) fun j c u hj hju => ?_
    rw [List.getElem?_map] at hj
    obtain ⟨c', hc', rfl⟩ := Option.map_eq_some_iff.1 hj
    exact (hu j c' u hc' hju).ren0 (List.all_eq_true.1 hx c' (List.mem_of_getElem? hc')) hS hR
  | _ => exact Conc.ren0 h hx hS hR
theorem Conc.renC {w2 : World} {S S2 : Nat → Prop} {blk2 : Nat → BC} {H2 : Hp} {σ : Nat → Nat} {x : AV} {u : Value} (h : Conc w S blk H x u) (hx : flatC x = true)
    (hS : ∀ b, S b → S2 b ∧ w2.heap[b]? = w.heap[b]?) (hR : Ren σ H blk H2 blk2) : Conc w2 S2 blk2 H2 (Go.Proofs.Ytdeledeopippfaa.renC σ x) u := by
  cases x with
  | agg cs =>
    obtain ⟨us, rfl, hl, hu⟩ := inv_agg h
    refine .agg _ us (by simpa using hl) fun j c u hj hju => ?_
    rw [List.getElem?_map] at hj
    obtain ⟨c', hc', rfl⟩ := Option.map_eq_some_iff.1 hj
    exact (hu j c' u hc' hju).ren1 (List.all_eq_true.1 hx c' (List.mem_of_getElem? hc')) hS hR
  | fn g cs =>
    obtain ⟨us, rfl, hl, hu⟩ := inv_fn h
    refine .fn g _ us (by simpa using hl) fun j c u hj hju => ?_
    rw [List.getElem?_map] at hj
    obtain ⟨c', hc', rfl⟩ := Option.map_eq_some_iff.1 hj
    exact (hu j c' u hc' hju).ren1 (List.all_eq_true.1 hx c' (List.mem_of_getElem? hc')) hS hR
  | _ => exact h.ren1 hx hS hR
theorem Conc.renA {w2 : World} {S S2 : Nat → Prop} {blk2 : Nat → BC} {H2 : Hp} {σ : Nat → Nat} {x : AV} {u : Value} (h : Conc w S blk H x u) (hx : flatA x = true)
    (hS : ∀ b, S b → S2 b ∧ w2.heap[b]? = w.heap[b]?) (hR : Ren σ H blk H2 blk2) : Conc w2 S2 blk2 H2 (Go.Proofs.Ytdeledeopippfaa.renA σ x) u := by
  cases x with
  | tup cs =>
    obtain ⟨us, rfl, hl, hu⟩ := inv_tup h
    refine .tup _ us (by simpa using hl) fun j c u hj hju => ?_
    rw [List.getElem?_map] at hj
    obtain ⟨c', hc', rfl⟩ := Option.map_eq_some_iff.1 hj
    exact (hu j c' u hc' hju).renC (List.all_eq_true.1 hx c' (List.mem_of_getElem? hc')) hS hR
  | _ => exact h.renC hx hS hR
structure RowRen (σ : Nat → Nat) (y x : Row) : Prop where
  sz : x.sz = y.sz
  cap : x.cap = y.cap
  k : RKle y.k x.k
  es : ∀ i j, i < y.cap → j < y.sz → x.es i j = ren1 σ (y.es i j) ∧ (flat1 (y.es i j) = true)
theorem Own.ren1 {w2 : World} {S S2 : Nat → Prop} {blk2 : Nat → BC} {H2 : Hp} {σ : Nat → Nat} {x : AV} {u : Value} {fp : List Nat} (h : Own w S blk H x u fp) (hx : flat1 x = true)
    (hS : ∀ b, S b → S2 b ∧ w2.heap[b]? = w.heap[b]?) (hR : Ren σ H blk H2 blk2) (hf : ∀ b ∈ fp, w2.heap[b]? = w.heap[b]?) : Own w2 S2 blk2 H2 (Go.Proofs.Ytdeledeopippfaa.ren1 σ x) u fp := by
  cases h with
  | plain h => exact .plain (h.ren1 hx hS hR)
  | ow0 a => exact .ow0 a
  | ow b cap ty cur U F hb hcur hn hm h0 h1 hc hff hu hF =>
    have key : ∀ (x : AV) (u : Value) (fp : List Nat), Own w S blk H x u fp → x.idfO → (∀ b ∈ fp, w2.heap[b]? = w.heap[b]?) → Own w2 S2 blk2 H2 x u fp := by
      intro x u fp h
      induction h with
      | @plain x u h =>
        intro hi _
        have hi' : x.idf := by
          cases x with
          | ow => cases h
          | _ => exact hi
        exact .plain ((h.free hi').mono hS (HExt.refl _ _))
      | ow0 a => intro _ _; exact .ow0 a
      | ow b cap ty cur U F hb hcur hn hm h0 h1 hc hff hu hF ih =>
        intro hi hf
        exact .ow b cap ty cur U F (hb.mono (hf b (by simp))) hcur hn hm h0 h1 hc hff (fun i j hi' hj' => ih i j hi' hj' (hff i j hi' hj') fun x hx => hf x (List.mem_cons_of_mem _ (mem_cat hi' hj' hx))) hF
    exact key _ _ _ (.ow b cap ty cur U F hb hcur hn hm h0 h1 hc hff hu hF) hff hf
theorem RowOk.ren {w2 : World} {S S2 : Nat → Prop} {blk2 : Nat → BC} {H2 : Hp} {σ : Nat → Nat} {fp : List Nat} {bc : BC} {y x : Row} (h : RowOk w S blk H fp bc y) (hx : RowRen σ y x)
    (hS : ∀ b, S b → S2 b ∧ w2.heap[b]? = w.heap[b]?) (hR : Ren σ H blk H2 blk2) (hf : ∀ b ∈ fp, w2.heap[b]? = w.heap[b]?) : RowOk w2 S2 blk2 H2 fp bc x := by
  obtain ⟨h1, h2, hk, h3⟩ := hx
  rcases h with ⟨q1, q2, q3⟩ | ⟨h0, hle, hmp, hb, ty, cur, F, e1, e2, hall, e3, e4, e5⟩
  · refine .inl ⟨by omega, q2, ?_⟩
    generalize y.k = yk at q3 hk
    generalize x.k = xk at hk ⊢
    cases hk with
    | refl =>
      rcases q3 with q | q | ⟨ak, fm, sts, e, rfl, hm⟩
      · exact .inl q
      · exact .inr (.inl q)
      · exact .inr (.inr ⟨ak, fm, sts, e, rfl, hm.mono (hf _ (by simp))⟩)
    | mp ak fm sts =>
      rcases q3 with ⟨q, _⟩ | q | ⟨_, _, _, e, rfl, hm⟩
      · cases q
      · cases q
      · cases e
        exact .inr (.inr ⟨ak, fm, [], rfl, rfl, (hm.mono (hf _ (by simp))).less⟩)
  · rw [← h1] at e2
    refine .inr ⟨h0, by omega, by rw [hk.isMp]; exact hmp, hb, ty, cur, F, e1.mono (hf _ hb), e2, hall, fun i j hi hj => ?_, fun i j hi hj => e4 i j (by omega) (by omega), fun i j i' j' a1 a2 a3 a4 => e5 i j i' j' (by omega) (by omega) (by omega) (by omega)⟩
    obtain ⟨u, hu, ho, hc⟩ := e3 i j (by omega) (by omega)
    rw [← h1] at hu
    obtain ⟨g1, g2⟩ := h3 i j (by omega) (by omega)
    exact ⟨u, hu, ho, by rw [g1]; exact hc.ren1 g2 hS hR fun b hb' => hf b (e4 i j (by omega) (by omega) b hb').1⟩
def sig (π : List Nat) (n : Nat) (k : Nat) : Nat := match π[k]? with | some i => i | none => n + (k - π.length)
def placeL : List Nat → List (Option Row) → Hp → Hp
  | i :: π, x :: L, H => placeL π L (H.set i x)
  | _, L, H => H ++ L
theorem placeL_length : ∀ (π : List Nat) (L : List (Option Row)) (H : Hp), π.length ≤ L.length → (placeL π L H).length = H.length + (L.length - π.length)
  | [], L, H, _ => by simp [placeL]
  | i :: π, [], H, h => by simp at h
  | i :: π, x :: L, H, h => by
    show (placeL π L (H.set i x)).length = _
    rw [placeL_length π L _ (by simpa using h)]
    simp
theorem placeL_other : ∀ (π : List Nat) (L : List (Option Row)) (H : Hp) (i : Nat), π.length ≤ L.length → i < H.length → i ∉ π → (placeL π L H)[i]? = H[i]?
  | [], L, H, i, _, hi, _ => by show (H ++ L)[i]? = _; rw [List.getElem?_append_left hi]
  | j :: π, [], H, i, h, _, _ => by simp at h
  | j :: π, x :: L, H, i, h, hi, hn => by
    show (placeL π L (H.set j x))[i]? = _
    rw [placeL_other π L _ i (by simpa using h) (by simpa using hi) (fun q => hn (List.mem_cons_of_mem _ q)), List.getElem?_set_ne (fun e => hn (by rw [e]; simp))]
theorem placeL_sig : ∀ (π : List Nat) (L : List (Option Row)) (H : Hp) (k : Nat) (x : Option Row), π.length ≤ L.length → π.Nodup → (∀ i ∈ π, i < H.length) → L[k]? = some x → (placeL π L H)[sig π H.length k]? = some x
  | [], L, H, k, x, _, _, _, hx => by
    show (H ++ L)[H.length + (k - 0)]? = _
    rw [List.getElem?_append_right (by omega), show H.length + (k - 0) - H.length = k by omega]
    exact hx
  | j :: π, [], H, k, x, h, _, _, _ => by simp at h
  | j :: π, y :: L, H, k, x, h, hn, hl, hx => by
    show (placeL π L (H.set j y))[sig (j :: π) H.length k]? = _
    have hn' := List.nodup_cons.1 hn
    cases k with
    | zero =>
      cases hx
      show (placeL π L (H.set j y))[j]? = _
      rw [placeL_other π L _ j (by simpa using h) (by simpa using hl j (by simp)) hn'.1, List.getElem?_set_self (hl j (by simp))]
    | succ k =>
      have := placeL_sig π L (H.set j y) k x (by simpa using h) hn'.2 (fun i hi => by simpa using hl i (List.mem_cons_of_mem _ hi)) (by simpa using hx)
      have e : sig (j :: π) H.length (k + 1) = sig π (H.set j y).length k := by
        unfold sig
        simp
      rw [e]
      exact this
theorem sig_lt {π : List Nat} {n k : Nat} (h : k < π.length) : sig π n k ∈ π := by
  unfold sig
  rw [List.getElem?_eq_getElem h]
  exact List.getElem_mem h
theorem sig_ge {π : List Nat} {n k : Nat} (h : π.length ≤ k) : sig π n k = n + (k - π.length) := by
  unfold sig
  rw [List.getElem?_eq_none h]
theorem sig_inj {π : List Nat} {n i j : Nat} (hn : π.Nodup) (hl : ∀ x ∈ π, x < n) (h : sig π n i = sig π n j) : i = j := by
  rcases Nat.lt_or_ge i π.length with hi | hi <;> rcases Nat.lt_or_ge j π.length with hj | hj
  · unfold sig at h
    rw [List.getElem?_eq_getElem hi, List.getElem?_eq_getElem hj] at h
    have hp := List.pairwise_iff_getElem.1 hn
    rcases Nat.lt_trichotomy i j with q | q | q
    · exact absurd h (hp i j hi hj q)
    · exact q
    · exact absurd h.symm (hp j i hj hi q)
  · have := hl _ (sig_lt (n := n) hi)
    rw [sig_ge hj] at h
    omega
  · have := hl _ (sig_lt (n := n) hj)
    rw [sig_ge hi] at h
    omega
  · rw [sig_ge hi, sig_ge hj] at h
    omega
def Back (σ : Nat → Nat) (m : Nat) (H : Hp) (blk : Nat → BC) (H0 : Hp) (blk0 : Nat → BC) : Prop :=
  ∀ k, k < m → (∃ x y : Row, H0[k]? = some (some x) ∧ H[σ k]? = some (some y) ∧ x.sz = y.sz ∧ x.cap = y.cap ∧ blk0 k = blk (σ k))
def low20 (m : Nat) : AV → Bool
  | .ptr k _ _ => Nat.blt k m
  | .row k _ => Nat.blt k m
  | .rs k _ _ => Nat.blt k m
  | .mp k => Nat.blt k m
  | .agg _ | .tup _ => false
  | .fn _ cs => cs.isEmpty
  | _ => true
def low2 (m : Nat) : AV → Bool
  | .ptr k _ _ => Nat.blt k m
  | .row k _ => Nat.blt k m
  | .rs k _ _ => Nat.blt k m
  | .mp k => Nat.blt k m
  | .agg _ | .tup _ => false
  | .fn _ cs => cs.all (low20 m)
  | _ => true
def low2C (m : Nat) : AV → Bool
  | .agg cs => cs.all (low2 m)
  | .fn _ cs => cs.all (low2 m)
  | x => low2 m x
theorem Conc.back0 {w2 : World} {S S2 : Nat → Prop} {blk0 : Nat → BC} {H0 : Hp} {σ : Nat → Nat} {m : Nat} {x : AV} {u : Value} (h : Conc w S blk H (Go.Proofs.Ytdeledeopippfaa.ren0 σ x) u) (hx : low20 m x = true)
    (hS : ∀ b, S b → S2 b ∧ w2.heap[b]? = w.heap[b]?) (hR : Back σ m H blk H0 blk0) : Conc w2 S2 blk0 H0 x u := by
  have plain : Conc w S blk H x u → x.idf → Conc w2 S2 blk0 H0 x u := fun h hi => (h.free hi).mono hS (HExt.refl _ _)
  cases x with
  | ptr k j off =>
    obtain ⟨x, y, h1, h2, h3, h4, h5⟩ := hR k (Nat.le_of_ble_eq_true hx)
    obtain ⟨rfl, hj, ho⟩ := inv_ptr h2 h
    have := Conc.ptr (w := w2) (S := S2) (blk := blk0) (j := j) (off := off) x h1 (by omega) (by omega)
    rwa [h3, h5] at this
  | row k n =>
    obtain ⟨x, y, h1, h2, h3, h4, h5⟩ := hR k (Nat.le_of_ble_eq_true hx)
    rcases inv_row h2 h with ⟨rfl, q1, q2, q3, q4⟩ | ⟨ad, rfl, rfl, q1, q2⟩
    · have := Conc.row (w := w2) (S := S2) (blk := blk0) (n := n) x h1 (by omega) (by rw [h5]; omega) (by rw [h5]; omega) (by rw [h5]; omega)
      rwa [h5] at this
    · exact .row0 x h1 (by omega) (by rw [h5]; exact q2) ad
  | rs k o n =>
    obtain ⟨x, y, h1, h2, h3, h4, h5⟩ := hR k (Nat.le_of_ble_eq_true hx)
    obtain ⟨ad, rfl, q1, q2, q3, q4⟩ := inv_rs h2 h
    have := Conc.rs (w := w2) (S := S2) (blk := blk0) (o := o) (n := n) x h1 (by omega) (by rw [h5]; omega) (by rw [h5]; omega) ad (by rw [h5, h3]; exact q4)
    rwa [h5] at this
  | mp k =>
    obtain ⟨x, y, h1, h2, h3, h4, h5⟩ := hR k (Nat.le_of_ble_eq_true hx)
    obtain rfl := inv_mp h2 h
    have := Conc.mp (w := w2) (S := S2) (blk := blk0) x h1
    rwa [h5] at this
  | agg => cases hx
  | tup => cases hx
  | ow => cases h
  | fn g cs =>
    cases cs with
    | nil => exact plain h rfl
    | cons => cases hx
  | sl => exact plain h (Conc.idf_sl h)
  | rf => exact plain h (Conc.idf_rf h)
  | _ => exact plain h trivial
theorem Conc.back1 {w2 : World} {S S2 : Nat → Prop} {blk0 : Nat → BC} {H0 : Hp} {σ : Nat → Nat} {m : Nat} {x : AV} {u : Value} (h : Conc w S blk H (Go.Proofs.Ytdeledeopippfaa.ren1 σ x) u) (hx : low2 m x = true)
    (hS : ∀ b, S b → S2 b ∧ w2.heap[b]? = w.heap[b]?) (hR : Back σ m H blk H0 blk0) : Conc w2 S2 blk0 H0 x u := by
  cases x with
  | fn g cs =>
    obtain ⟨us, rfl, hl, hu⟩ := inv_fn (cs := cs.map (Go.Proofs.Ytdeledeopippfaa.ren0 σ)) h
    refine .fn g _ us (by simpa using hl) fun j c u hj hju => ?_
    exact (hu j (Go.Proofs.Ytdeledeopippfaa.ren0 σ c) u (by rw [List.getElem?_map, hj]; rfl) hju).back0 (List.all_eq_true.1 hx c (List.mem_of_getElem? hj)) hS hR
  | _ => exact Conc.back0 (by exact h) hx hS hR
theorem Conc.back {w2 : World} {S S2 : Nat → Prop} {blk0 : Nat → BC} {H0 : Hp} {σ : Nat → Nat} {m : Nat} {x : AV} {u : Value} (h : Conc w S blk H (Go.Proofs.Ytdeledeopippfaa.renA σ x) u) (hx : low2C m x = true)
    (hS : ∀ b, S b → S2 b ∧ w2.heap[b]? = w.heap[b]?) (hR : Back σ m H blk H0 blk0) : Conc w2 S2 blk0 H0 x u := by
  cases x with
  | agg cs =>
    obtain ⟨us, rfl, hl, hu⟩ := inv_agg (cs := cs.map (Go.Proofs.Ytdeledeopippfaa.ren1 σ)) h
    refine .agg _ us (by simpa using hl) fun j c u hj hju => ?_
    exact (hu j (Go.Proofs.Ytdeledeopippfaa.ren1 σ c) u (by rw [List.getElem?_map, hj]; rfl) hju).back1 (List.all_eq_true.1 hx c (List.mem_of_getElem? hj)) hS hR
  | fn g cs =>
    obtain ⟨us, rfl, hl, hu⟩ := inv_fn (cs := cs.map (Go.Proofs.Ytdeledeopippfaa.ren1 σ)) h
    refine .fn g _ us (by simpa using hl) fun j c u hj hju => ?_
    exact (hu j (Go.Proofs.Ytdeledeopippfaa.ren1 σ c) u (by rw [List.getElem?_map, hj]; rfl) hju).back1 (List.all_eq_true.1 hx c (List.mem_of_getElem? hj)) hS hR
  | tup => cases hx
  | _ => exact h.back1 hx hS hR
theorem Own.back1 {w2 : World} {S S2 : Nat → Prop} {blk0 : Nat → BC} {H0 : Hp} {σ : Nat → Nat} {m : Nat} {x : AV} {u : Value} {fp : List Nat} (h : Own w S blk H (Go.Proofs.Ytdeledeopippfaa.ren1 σ x) u fp) (hx : low2 m x = true)
    (hS : ∀ b, S b → S2 b ∧ w2.heap[b]? = w.heap[b]?) (hR : Back σ m H blk H0 blk0) (hf : ∀ b ∈ fp, w2.heap[b]? = w.heap[b]?) : Own w2 S2 blk0 H0 x u fp := by
  by_cases hox : x.isOw = true
  · cases x with
    | ow sz n g =>
      have hid : ∀ {u : Value} {fp : List Nat}, Own w S blk H (.ow sz n g) u fp → (AV.ow sz n g).idfO := by
        intro u fp h
        cases h with
        | plain h => cases h
        | ow0 a => intro i j hi; omega
        | ow b cap ty cur U F hb hcur hn hm h0 h1 hc hff hu hF => exact hff
      have hi := hid h
      have key : ∀ (x : AV) (u : Value) (fp : List Nat), Own w S blk H x u fp → x.idfO → (∀ b ∈ fp, w2.heap[b]? = w.heap[b]?) → Own w2 S2 blk0 H0 x u fp := by
        intro x u fp h
        induction h with
        | @plain x u h =>
          intro hi _
          have hi' : x.idf := by
            cases x with
            | ow => cases h
            | _ => exact hi
          exact .plain ((h.free hi').mono hS (HExt.refl _ _))
        | ow0 a => intro _ _; exact .ow0 a
        | ow b cap ty cur U F hb hcur hn hm h0 h1 hc hff hu hF ih =>
          intro hi hf
          exact .ow b cap ty cur U F (hb.mono (hf b (by simp))) hcur hn hm h0 h1 hc hff (fun i j hi' hj' => ih i j hi' hj' (hff i j hi' hj') fun x hx => hf x (List.mem_cons_of_mem _ (mem_cat hi' hj' hx))) hF
      exact key _ _ _ h hi hf
    | _ => cases hox
  · have hr : (Go.Proofs.Ytdeledeopippfaa.ren1 σ x).isOw = false := by cases x <;> first | rfl | exact absurd rfl hox
    have hfp : fp = [] := by
      generalize Go.Proofs.Ytdeledeopippfaa.ren1 σ x = q at h hr
      cases h with
      | plain h => rfl
      | ow0 => rfl
      | ow => cases hr
    subst hfp
    exact .plain ((h.conc hr).back1 hx hS hR)
structure RowBack (σ : Nat → Nat) (m : Nat) (x y : Row) : Prop where
  sz : x.sz = y.sz
  cap : x.cap = y.cap
  k : RKle y.k x.k
  es : ∀ i j, i < x.cap → j < x.sz → y.es i j = ren1 σ (x.es i j) ∧ low2 m (x.es i j) = true
theorem RowOk.back {w2 : World} {S S2 : Nat → Prop} {blk0 : Nat → BC} {H0 : Hp} {σ : Nat → Nat} {m : Nat} {fp : List Nat} {bc : BC} {x y : Row} (h : RowOk w S blk H fp bc y) (hx : RowBack σ m x y)
    (hS : ∀ b, S b → S2 b ∧ w2.heap[b]? = w.heap[b]?) (hR : Back σ m H blk H0 blk0) (hf : ∀ b ∈ fp, w2.heap[b]? = w.heap[b]?) : RowOk w2 S2 blk0 H0 fp bc x := by
  obtain ⟨h1, h2, hk, h3⟩ := hx
  rcases h with ⟨q1, q2, q3⟩ | ⟨h0, hle, hmp, hb, ty, cur, F, e1, e2, hall, e3, e4, e5⟩
  · refine .inl ⟨by omega, q2, ?_⟩
    generalize y.k = yk at q3 hk
    generalize x.k = xk at hk ⊢
    cases hk with
    | refl =>
      rcases q3 with q | q | ⟨ak, fm, sts, e, rfl, hm⟩
      · exact .inl q
      · exact .inr (.inl q)
      · exact .inr (.inr ⟨ak, fm, sts, e, rfl, hm.mono (hf _ (by simp))⟩)
    | mp ak fm sts =>
      rcases q3 with ⟨q, _⟩ | q | ⟨_, _, _, e, rfl, hm⟩
      · cases q
      · cases q
      · cases e
        exact .inr (.inr ⟨ak, fm, [], rfl, rfl, (hm.mono (hf _ (by simp))).less⟩)
  · rw [← h1] at e2
    refine .inr ⟨h0, by omega, by rw [hk.isMp]; exact hmp, hb, ty, cur, F, e1.mono (hf _ hb), e2, hall, fun i j hi hj => ?_, fun i j hi hj => e4 i j (by omega) (by omega), fun i j i' j' a1 a2 a3 a4 => e5 i j i' j' (by omega) (by omega) (by omega) (by omega)⟩
    obtain ⟨u, hu, ho, hc⟩ := e3 i j (by omega) (by omega)
    rw [← h1] at hu
    obtain ⟨g1, g2⟩ := h3 i j hi hj
    rw [g1] at hc
    exact ⟨u, hu, ho, hc.back1 g2 hS hR fun b hb' => hf b (e4 i j (by omega) (by omega) b hb').1⟩
structure ViewOk (π : List Nat) (H H0 : Hp) : Prop where
  nodup : π.Nodup
  len : H0.length = π.length
  row : ∀ (k i : Nat), π[k]? = some i → ∃ x y : Row, H0[k]? = some (some x) ∧ H[i]? = some (some y) ∧ RowBack (sig π H.length) π.length x y
structure LOk (σ : Nat → Nat) (H' L : Hp) : Prop where
  len : L.length = H'.length
  row : ∀ k, k < H'.length → L[k]? = some none ∨ ∃ x y : Row, L[k]? = some (some x) ∧ H'[k]? = some (some y) ∧ RowRen σ y x
theorem placeL_cases {π : List Nat} {L H : Hp} (hl : π.length ≤ L.length) (hn : π.Nodup) (hlt : ∀ i ∈ π, i < H.length) {id : Nat} {x : Option Row} (h : (placeL π L H)[id]? = some x) :
    (id < H.length ∧ id ∉ π ∧ H[id]? = some x) ∨ ∃ k, k < L.length ∧ id = sig π H.length k ∧ L[k]? = some x := by
  have hlen := placeL_length π L H hl
  have hid : id < (placeL π L H).length := (List.getElem?_eq_some_iff.1 h).1
  by_cases hm : id ∈ π
  · obtain ⟨k, hk⟩ := List.getElem?_of_mem hm
    have hkl : k < π.length := (List.getElem?_eq_some_iff.1 hk).1
    have hs : sig π H.length k = id := by unfold sig; rw [hk]
    have hx : L[k]? = some L[k] := List.getElem?_eq_getElem (by omega)
    have := placeL_sig π L H k _ hl hn hlt hx
    rw [hs, h] at this
    cases this
    exact .inr ⟨k, by omega, hs.symm, hx⟩
  · rcases Nat.lt_or_ge id H.length with hlt' | hge
    · rw [placeL_other π L H id hl hlt' hm] at h
      exact .inl ⟨hlt', hm, h⟩
    · right
      have hk : id - H.length + π.length < L.length := by omega
      have hs : sig π H.length (id - H.length + π.length) = id := by rw [sig_ge (by omega)]; omega
      have hx : L[id - H.length + π.length]? = some L[id - H.length + π.length] := List.getElem?_eq_getElem hk
      have := placeL_sig π L H _ _ hl hn hlt hx
      rw [hs, h] at this
      cases this
      exact ⟨_, hk, hs.symm, hx⟩
theorem StB.calledM {w' : World} {π : List Nat} {H0 H' L : Hp} {blk' : Nat → BC} {FP' : Nat → List Nat} (s : StB nt X f H blk FP a w) (hv : ViewOk π H H0)
    (hR : RowsIn w' (aftS (X.S FP H w.heap.size) w.heap.size w'.heap.size FP' H') blk' FP' H') (hE : HExt H0 (fun k => blk (sig π H.length k)) H' blk')
    (hfp : ∀ b, inFP FP' H' b → w.heap.size ≤ b ∨ inFP (fun k => FP (sig π H.length k)) H0 b) (hK : Keeps (inFP (fun k => FP (sig π H.length k)) H0) w w') (hL : LOk (sig π H.length) H' L) :
    ∃ blk2 FP2, StB nt X f (placeL π L H) blk2 FP2 a w' ∧ (∀ b, aftS (X.S FP H w.heap.size) w.heap.size w'.heap.size FP' H' b → X.S FP2 (placeL π L H) w'.heap.size b) ∧ Ren (sig π H.length) H' blk' (placeL π L H) blk2 := by
  have hπ : ∀ i ∈ π, i < H.length := fun i hi => by
    obtain ⟨k, hk⟩ := List.getElem?_of_mem hi
    obtain ⟨_, y, _, hy, _⟩ := hv.row k i hk
    exact (List.getElem?_eq_some_iff.1 hy).1
  have hH0 : H0.length ≤ H'.length := by
    rcases Nat.eq_zero_or_pos H0.length with h | h
    · omega
    · have hlt : H0.length - 1 < H0.length := by omega
      rcases hE (H0.length - 1) _ (List.getElem?_eq_getElem hlt) with h1 | ⟨_, _, _, h1, _⟩
      · have := (List.getElem?_eq_some_iff.1 h1).1; omega
      · have := (List.getElem?_eq_some_iff.1 h1).1; omega
  have hll : π.length ≤ L.length := by rw [hL.len, ← hv.len]; exact hH0
  have dec : ∀ id, Decidable (∃ k, k < H'.length ∧ sig π H.length k = id) := fun _ => Classical.propDecidable _
  let blk2 : Nat → BC := fun id => if h : ∃ k, k < H'.length ∧ sig π H.length k = id then blk' (Classical.choose h) else blk id
  let FP2 : Nat → List Nat := fun id => if h : ∃ k, k < H'.length ∧ sig π H.length k = id then FP' (Classical.choose h) else FP id
  have b_sig : ∀ k, k < H'.length → blk2 (sig π H.length k) = blk' k ∧ FP2 (sig π H.length k) = FP' k := by
    intro k hk
    have h : ∃ q, q < H'.length ∧ sig π H.length q = sig π H.length k := ⟨k, hk, rfl⟩
    have e : Classical.choose h = k := sig_inj hv.nodup hπ (Classical.choose_spec h).2
    refine ⟨?_, ?_⟩
    · show (if h : _ then _ else _) = _
      rw [dif_pos h, e]
    · show (if h : _ then _ else _) = _
      rw [dif_pos h, e]
  have b_old : ∀ id, id < H.length → id ∉ π → blk2 id = blk id ∧ FP2 id = FP id := by
    intro id hid hm
    have h : ¬ ∃ q, q < H'.length ∧ sig π H.length q = id := by
      rintro ⟨q, hq, rfl⟩
      rcases Nat.lt_or_ge q π.length with h | h
      · exact hm (sig_lt h)
      · rw [sig_ge h] at hid; omega
    exact ⟨dif_neg h, dif_neg h⟩
  have inOld : ∀ b, inFP (fun k => FP (sig π H.length k)) H0 b → ∃ id r, id ∈ π ∧ H[id]? = some (some r) ∧ b ∈ FP id := by
    rintro b ⟨k, x, hx, hb⟩
    have hk : k < π.length := by rw [← hv.len]; exact (List.getElem?_eq_some_iff.1 hx).1
    have hk' : π[k]? = some π[k] := List.getElem?_eq_getElem hk
    have hs : sig π H.length k = π[k] := by unfold sig; rw [hk']
    obtain ⟨_, y, _, hy, _⟩ := hv.row k _ hk'
    exact ⟨π[k], y, List.getElem_mem hk, hy, by simpa [hs] using hb⟩
  have notS : ∀ b, X.S FP H w.heap.size b → ¬ inFP (fun k => FP (sig π H.length k)) H0 b := by
    intro b hb h
    obtain ⟨id, r, _, hr, hbf⟩ := inOld b h
    exact hb.2.2 id r hr hbf
  have sub : ∀ b, aftS (X.S FP H w.heap.size) w.heap.size w'.heap.size FP' H' b → X.S FP2 (placeL π L H) w'.heap.size b := by
    rintro b ⟨h1, h2, h3⟩
    refine ⟨?_, h2, fun id r hr => ?_⟩
    · rcases h1 with h | h
      · exact h.1
      · exact .inr (by have := s.keeps.size; omega)
    · rcases placeL_cases hll hv.nodup hπ hr with ⟨hid, hm, hr'⟩ | ⟨k, hk, rfl, hk'⟩
      · rw [(b_old id hid hm).2]
        rcases h1 with h | h
        · exact h.2.2 id r hr'
        · intro hb
          have := ((s.rows id r hr').2 b hb).2
          omega
      · rw [hL.len] at hk
        rw [(b_sig k hk).2]
        rcases hL.row k hk with e | ⟨x, y, e1, e2, _⟩
        · rw [hk'] at e; cases e
        · exact h3 k y e2
  have hS : ∀ b, X.S FP H w.heap.size b → X.S FP2 (placeL π L H) w'.heap.size b ∧ w'.heap[b]? = w.heap[b]? := by
    intro b hb
    refine ⟨sub b ⟨.inl hb, by have := hb.2.1; have := hK.size; omega, fun id r hr hbf => ?_⟩, hK.block b hb.2.1 (notS b hb)⟩
    rcases hfp b ⟨id, r, hr, hbf⟩ with h | h
    · have := hb.2.1; omega
    · exact notS b hb h
  have hRen : Ren (sig π H.length) H' blk' (placeL π L H) blk2 := by
    intro k x hx
    have hk : k < H'.length := (List.getElem?_eq_some_iff.1 hx).1
    rcases hL.row k hk with e | ⟨x1, y1, e1, e2, e3⟩
    · exact .inl (placeL_sig π L H k _ hll hv.nodup hπ e)
    · rw [e2] at hx
      cases hx
      exact .inr ⟨y1, x1, rfl, placeL_sig π L H k _ hll hv.nodup hπ e1, e3.sz, e3.cap, (b_sig k hk).1⟩
  have hext : HExt H blk (placeL π L H) blk2 := by
    intro id x hx
    have hid : id < H.length := (List.getElem?_eq_some_iff.1 hx).1
    by_cases hm : id ∈ π
    · obtain ⟨k, hk⟩ := List.getElem?_of_mem hm
      have hkl : k < π.length := (List.getElem?_eq_some_iff.1 hk).1
      have hs : sig π H.length k = id := by unfold sig; rw [hk]
      obtain ⟨x0, y, hx0, hy, hrb⟩ := hv.row k id hk
      rw [hy] at hx
      cases hx
      have hkl' : k < H'.length := by rw [← hv.len] at hkl; omega
      rcases hE k _ hx0 with h1 | ⟨r1, r', e, h', g1, g2, g3⟩
      · rcases hL.row k hkl' with e | ⟨x1, y1, e1, e2, e3⟩
        · left
          have := placeL_sig π L H k _ hll hv.nodup hπ e
          rwa [hs] at this
        · rw [h1] at e2; cases e2
      · cases e
        rcases hL.row k hkl' with e | ⟨x1, y1, e1, e2, e3⟩
        · left
          have := placeL_sig π L H k _ hll hv.nodup hπ e
          rwa [hs] at this
        · rw [h'] at e2
          cases e2
          right
          have hp := placeL_sig π L H k _ hll hv.nodup hπ e1
          rw [hs] at hp
          have q1 := hrb.sz
          have q2 := hrb.cap
          have q3 := e3.sz
          have q4 := e3.cap
          refine ⟨y, x1, rfl, hp, by omega, by omega, ?_⟩
          have := (b_sig k hkl').1
          rw [hs] at this
          rw [this, g3]
          show blk (sig π H.length k) = blk id
          rw [hs]
    · cases x with
      | none => exact .inl (by rw [placeL_other π L H id hll hid hm]; exact hx)
      | some r => exact .inr ⟨r, r, rfl, by rw [placeL_other π L H id hll hid hm]; exact hx, rfl, rfl, (b_old id hid hm).1⟩
  refine ⟨blk2, FP2, ⟨s.defers, s.size, ?_, fun id r hr => ?_, fun i j r1 r2 hi hj hij b hb hb' => ?_, fun t => (s.fr t).mono hS hext, s.ext.trans hext⟩, sub, hRen⟩
  · have k := s.keeps
    refine ⟨hK.os.trans k.os, hK.tape.trans k.tape, hK.output.trans k.output, Nat.le_trans k.size hK.size, fun b hb hm => ?_⟩
    refine (hK.block b (by have := k.size; omega) fun h => ?_).trans (k.block b hb hm)
    obtain ⟨id, r, _, hr, hbf⟩ := inOld b h
    rcases ((s.rows id r hr).2 b hbf).1 with h | h
    · omega
    · exact hm h
  · rcases placeL_cases hll hv.nodup hπ hr with ⟨hid, hm, hr'⟩ | ⟨k, hk, rfl, hk'⟩
    · obtain ⟨h1, h2⟩ := s.rows id r hr'
      rw [(b_old id hid hm).1, (b_old id hid hm).2]
      refine ⟨h1.mono hS hext fun b hb => hK.block b (h2 b hb).2 fun h => ?_, fun b hb => ⟨(h2 b hb).1, by have := (h2 b hb).2; have := hK.size; omega⟩⟩
      obtain ⟨id', r', hm', hr'', hbf⟩ := inOld b h
      exact s.apart id id' r r' hr' hr'' (fun e => hm (e ▸ hm')) b hb hbf
    · rw [hL.len] at hk
      rw [(b_sig k hk).1, (b_sig k hk).2]
      rcases hL.row k hk with e | ⟨x, y, e1, e2, e3⟩
      · rw [hk'] at e; cases e
      · rw [hk'] at e1
        cases e1
        obtain ⟨h1, h2⟩ := hR.rows k y e2
        refine ⟨h1.ren e3 (fun b hb => ⟨sub b hb, rfl⟩) hRen fun _ _ => rfl, fun b hb => ⟨?_, h2 b hb⟩⟩
        rcases hfp b ⟨k, y, e2, hb⟩ with h | h
        · exact .inl (by have := s.keeps.size; omega)
        · obtain ⟨id, r, _, hr, hbf⟩ := inOld b h
          exact ((s.rows id r hr).2 b hbf).1
  · rcases placeL_cases hll hv.nodup hπ hi with ⟨hid, hm, hr'⟩ | ⟨k, hk, rfl, hk'⟩ <;> rcases placeL_cases hll hv.nodup hπ hj with ⟨hid2, hm2, hr2'⟩ | ⟨k2, hk2, rfl, hk2'⟩
    · rw [(b_old i hid hm).2] at hb
      rw [(b_old j hid2 hm2).2] at hb'
      exact s.apart i j r1 r2 hr' hr2' hij b hb hb'
    · rw [hL.len] at hk2
      rw [(b_old i hid hm).2] at hb
      rw [(b_sig k2 hk2).2] at hb'
      rcases hL.row k2 hk2 with e | ⟨x, y, e1, e2, e3⟩
      · rw [hk2'] at e; cases e
      · rcases hfp b ⟨k2, y, e2, hb'⟩ with h | h
        · have := ((s.rows i r1 hr').2 b hb).2; omega
        · obtain ⟨id', r', hm', hr'', hbf⟩ := inOld b h
          exact s.apart i id' r1 r' hr' hr'' (fun e => hm (e ▸ hm')) b hb hbf
    · rw [hL.len] at hk
      rw [(b_sig k hk).2] at hb
      rw [(b_old j hid2 hm2).2] at hb'
      rcases hL.row k hk with e | ⟨x, y, e1, e2, e3⟩
      · rw [hk'] at e; cases e
      · rcases hfp b ⟨k, y, e2, hb⟩ with h | h
        · have := ((s.rows j r2 hr2').2 b hb').2; omega
        · obtain ⟨id', r', hm', hr'', hbf⟩ := inOld b h
          exact s.apart j id' r2 r' hr2' hr'' (fun e => hm2 (e ▸ hm')) b hb' hbf
    · rw [hL.len] at hk hk2
      rw [(b_sig k hk).2] at hb
      rw [(b_sig k2 hk2).2] at hb'
      rcases hL.row k hk with e | ⟨x, y, e1, e2, e3⟩
      · rw [hk'] at e; cases e
      · rcases hL.row k2 hk2 with e | ⟨x', y', e1', e2', e3'⟩
        · rw [hk2'] at e; cases e
        · exact hR.apart k k2 y y' e2 e2' (fun e => hij (by rw [e])) b hb hb'
theorem StB.view {π : List Nat} {H0 : Hp} (s : StB nt X f H blk FP a w) (hv : ViewOk π H H0) : RowsIn w (X.S FP H w.heap.size) (fun k => blk (sig π H.length k)) (fun k => FP (sig π H.length k)) H0 ∧ Back (sig π H.length) π.length H blk H0 (fun k => blk (sig π H.length k)) := by
  have hπ : ∀ i ∈ π, i < H.length := fun i hi => by
    obtain ⟨k, hk⟩ := List.getElem?_of_mem hi
    obtain ⟨_, y, _, hy, _⟩ := hv.row k i hk
    exact (List.getElem?_eq_some_iff.1 hy).1
  have hat : ∀ {k : Nat} {x : Row}, H0[k]? = some (some x) → ∃ y, H[sig π H.length k]? = some (some y) ∧ RowBack (sig π H.length) π.length x y := by
    intro k x hx
    have hk : k < π.length := by rw [← hv.len]; exact (List.getElem?_eq_some_iff.1 hx).1
    have hk' : π[k]? = some π[k] := List.getElem?_eq_getElem hk
    obtain ⟨x', y, h1, h2, h3⟩ := hv.row k _ hk'
    rw [hx] at h1
    cases h1
    exact ⟨y, by unfold sig; rw [hk']; exact h2, h3⟩
  have hB : Back (sig π H.length) π.length H blk H0 (fun k => blk (sig π H.length k)) := by
    intro k hk
    have hk' : π[k]? = some π[k] := List.getElem?_eq_getElem hk
    obtain ⟨x', y, h1, h2, h3⟩ := hv.row k _ hk'
    exact ⟨x', y, h1, by unfold sig; rw [hk']; exact h2, h3.sz, h3.cap, rfl⟩
  refine ⟨⟨fun k x hx => ?_, fun i j x x' hi hj hij => ?_, fun b hb => ⟨hb.2.1, fun k x hx => ?_⟩⟩, hB⟩
  · obtain ⟨y, hy, hrb⟩ := hat hx
    obtain ⟨h1, h2⟩ := s.rows _ y hy
    exact ⟨h1.back hrb (fun b hb => ⟨hb, rfl⟩) hB fun _ _ => rfl, fun b hb => (h2 b hb).2⟩
  · obtain ⟨y, hy, _⟩ := hat hi
    obtain ⟨y', hy', _⟩ := hat hj
    exact s.apart _ _ y y' hy hy' fun e => hij (sig_inj hv.nodup hπ e)
  · obtain ⟨y, hy, _⟩ := hat hx
    exact hb.2.2 _ y hy
def MutC (E : Env) (H : Hp) (ok : Nat → Bool) (g : FuncId) (avs : List AV) (K : AV → Hp → Prop) : Prop :=
  ∃ (π : List Nat) (H0 : Hp) (as0 : List AV) (post : AV → Hp → Prop), RetM E.P g H0 as0 post ∧ ViewOk π H H0 ∧ (avs = as0.map (renA (sig π H.length)) ∧ (as0.all (low2C π.length) && π.all ok) = true) ∧
    ∀ r H', post r H' → flatA r = true ∧ ∃ L, LOk (sig π H.length) H' L ∧ frcH (placeL π L H) fun H2 => frc (renA (sig π H.length) r) fun v => K v H2
end
end
end Go.Proofs.Ytdeledeopippfaa
