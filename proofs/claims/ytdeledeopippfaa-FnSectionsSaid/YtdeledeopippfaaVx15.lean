/- Texts for VSectionsP. -/
import Derived.Test.YtdeledeopippfaaVx14
namespace Go.Proofs.Ytdeledeopippfaa
open Go Go.RowKit
set_option linter.unusedVariables false
set_option linter.unusedSimpArgs false
section
def pl1 : AV → Bool
  | .ptr .. | .row .. | .rs .. | .mp _ | .agg _ | .tup _ => false
  | .fn _ cs => cs.isEmpty
  | _ => true
theorem pl1_ren {σ : Nat → Nat} {x : AV} (h : pl1 x = true) : ren1 σ x = x ∧ flat1 x = true := by
  cases x with
  | fn g cs => cases cs with
    | nil => exact ⟨rfl, rfl⟩
    | cons => cases h
  | _ => first | exact ⟨rfl, rfl⟩ | exact ⟨rfl, h⟩ | cases h
theorem pl1_low2 {m : Nat} {x : AV} (h : pl1 x = true) : low2 m x = true := by
  cases x with
  | fn g cs => cases cs with
    | nil => rfl
    | cons => cases h
  | _ => first | rfl | exact h | cases h
structure RowPl (x : Row) : Prop where
  h : ∀ i j, i < x.cap → j < x.sz → pl1 (x.es i j) = true
theorem rowPl_box {cs : List AV} (h : cs.all pl1 = true) : RowPl (boxRow cs) := ⟨fun i j hi hj => by
  have hj' : j < cs.length := hj
  show pl1 (cs.getD j .any) = true
  rw [List.getD_eq_getElem?_getD, List.getElem?_eq_getElem hj']
  exact List.all_eq_true.1 h _ (List.getElem_mem hj')⟩
section
variable {E : Env} {P : Program} {nt : Nat} {X : Ctx} {f : Fr} {H H' : Hp} {a : Act} {w : World} {blk : Nat → BC} {FP : Nat → List Nat}
theorem lok_self {σ : Nat → Nat} {L : Hp} (h : ∀ (k : Nat) (x : Row), L[k]? = some (some x) → RowPl x) : LOk σ L L := ⟨rfl, fun k hk => by
  cases hx : L[k]? with
  | none => rw [List.getElem?_eq_none_iff] at hx; omega
  | some x =>
    cases x with
    | none => exact .inl rfl
    | some x => exact .inr ⟨x, x, rfl, rfl, rfl, rfl, .refl _, fun i j hi hj => ⟨(pl1_ren ((h k x hx).h i j hi hj)).1.symm, (pl1_ren (σ := σ) ((h k x hx).h i j hi hj)).2⟩⟩⟩
theorem endM_self {r : AV} {post : AV → Hp → Prop} (h : post r H) : EndM X H r post :=
  ⟨fun w blk FP u hr hc he => ⟨r, H, blk, FP, h, hr, hc, he, fun b hb => hb⟩⟩
theorem endM_turn {r : AV} {post : AV → Hp → Prop} (h : Turn X H H') (k : EndM X H' r post) : EndM X H r post :=
  ⟨fun w blk FP u hr hc he => by
    obtain ⟨b1, F1, r1, e1, i1, s1⟩ := h w blk FP hr he
    obtain ⟨r', H2, b2, F2, q1, q2, q3, q4, q5⟩ := k.h w b1 F1 u r1 (hc.mono (fun b hb => ⟨s1 b hb, rfl⟩) e1) (he.trans e1)
    exact ⟨r', H2, b2, F2, q1, q2, q3, q4, fun b hb => i1 b (q5 b hb)⟩⟩
structure RowO (n : Nat) (x : Row) : Prop where
  le : n ≤ x.cap
  h : ∀ i j, i < n → j < x.sz → (x.es i j).idfO
theorem turn_close {id i j id' n : Nat} {r r' : Row} (hr : H[id]? = some (some r)) (hi : i < r.cap) (hj : j < r.sz) (hc : r.es i j = .row id' n) (hr' : H[id']? = some (some r')) (hne : id ≠ id') (hkr : r'.k.isMp = false) (ho : RowO n r') :
    Turn X H ((H.set id (some ⟨r.sz, r.cap, upd r.es i j [.ow r'.sz n r'.es], r.k⟩)).set id' none) := fun w blk FP hR he => by
  have hid : id < H.length := (List.getElem?_eq_some_iff.1 hr).1
  have hid' : id' < H.length := (List.getElem?_eq_some_iff.1 hr').1
  let x1 : Row := ⟨r.sz, r.cap, upd r.es i j [.ow r'.sz n r'.es], r.k⟩
  have hcase : ∀ {k : Nat} {z : Row}, ((H.set id (some x1)).set id' none)[k]? = some (some z) → (k = id ∧ z = x1) ∨ (k ≠ id ∧ k ≠ id' ∧ H[k]? = some (some z)) := by
    intro k z h
    by_cases e : id' = k
    · subst e
      rw [List.getElem?_set_self (by simpa using hid')] at h
      cases h
    · rw [List.getElem?_set_ne e] at h
      by_cases e2 : id = k
      · subst e2
        rw [List.getElem?_set_self hid] at h
        cases h
        exact .inl ⟨rfl, rfl⟩
      · rw [List.getElem?_set_ne e2] at h
        exact .inr ⟨fun q => e2 q.symm, fun q => e q.symm, h⟩
  have hnew : ((H.set id (some x1)).set id' none)[id]? = some (some x1) := by
    rw [List.getElem?_set_ne (fun e => hne e.symm), List.getElem?_set_self hid]
  let FP2 : Nat → List Nat := fun k => if k = id then FP id ++ FP id' else FP k
  have hS : ∀ b, X.S FP H w.heap.size b → X.S FP2 ((H.set id (some x1)).set id' none) w.heap.size b := by
    intro b hb
    refine ⟨hb.1, hb.2.1, fun k z hz => ?_⟩
    rcases hcase hz with ⟨rfl, rfl⟩ | ⟨h1, h2, h3⟩
    · simp only [FP2, if_pos, List.mem_append]
      rintro (h | h)
      · exact hb.2.2 k r hr h
      · exact hb.2.2 id' r' hr' h
    · simp only [FP2, if_neg h1]
      exact hb.2.2 k z h3
  have hext : HExt H blk ((H.set id (some x1)).set id' none) blk := by
    intro k x hx
    by_cases e : id' = k
    · subst e
      exact .inl (by rw [List.getElem?_set_self (by simpa using hid')])
    · by_cases e2 : id = k
      · subst e2
        rw [hr] at hx
        cases hx
        exact .inr ⟨r, x1, rfl, hnew, rfl, rfl, rfl⟩
      · rw [List.getElem?_set_ne e, List.getElem?_set_ne e2]
        cases x with
        | none => exact .inl hx
        | some y => exact .inr ⟨y, y, rfl, hx, rfl, rfl, rfl⟩
  have keep : ∀ b, X.S FP H w.heap.size b → X.S FP2 ((H.set id (some x1)).set id' none) w.heap.size b ∧ w.heap[b]? = w.heap[b]? := fun b hb => ⟨hS b hb, rfl⟩
  refine ⟨blk, FP2, ⟨fun k z hz => ?_, fun p q r1 r2 hp hq hpq b hb hb' => ?_, fun b hb => ⟨hb.2.1, hb.2.2⟩⟩, hext, ?_, hS⟩
  · rcases hcase hz with ⟨rfl, rfl⟩ | ⟨h1, h2, h3⟩
    · obtain ⟨g1, g2⟩ := hR.rows k r hr
      obtain ⟨g1', g2'⟩ := hR.rows id' r' hr'
      refine ⟨?_, fun b hb => ?_⟩
      · rcases g1 with g1 | ⟨h0, hle, hmp, hb, ty, cur, F, e1, e2, hall, e3, e4, e5⟩
        · omega
        obtain ⟨u, hu, ho1, hcu⟩ := e3 i j hi hj
        rw [hc] at hcu
        have hcu := hcu.conc rfl
        have hown : ∃ fp, Own w (X.S FP2 ((H.set k (some x1)).set id' none) w.heap.size) blk ((H.set k (some x1)).set id' none) (.ow r'.sz n r'.es) u fp ∧ ∀ b ∈ fp, b ∈ FP id' := by
          rcases inv_row hr' hcu with ⟨rfl, hn, hle', hc0, hm⟩ | ⟨ad, rfl, rfl, hc0, hc1⟩
          · rcases g1' with g1' | ⟨h0', _, hmp', hb', ty', cur', F', f1, f2, fall, f3, f4, f5⟩
            · omega
            have hcell : ∀ p q, p < n → q < r'.sz → ∃ v, cur'[p * r'.sz + q]? = some v ∧ Own w (X.S FP2 ((H.set k (some x1)).set id' none) w.heap.size) blk ((H.set k (some x1)).set id' none) (r'.es p q) v (F' p q) := by
              intro p q hp hq
              obtain ⟨v, hv, _, ho2⟩ := f3 p q (by omega) hq
              exact ⟨v, hv, ho2.mono keep hext fun _ _ => rfl⟩
            refine ⟨(blk id').b :: cat F' n r'.sz, .ow (blk id').b (blk id').c ty' cur' (fun p q => cur'.getD (p * r'.sz + q) undef) F' f1 f2 (by omega) hm hc0 (fun v hv => fall v hv) (fun p q hp hq => ?_) ho.h (fun p q hp hq => ?_) ?_, fun b hb => ?_⟩
            · obtain ⟨v, hv, _⟩ := hcell p q hp hq
              simp [hv]
            · obtain ⟨v, hv, ho2⟩ := hcell p q hp hq
              simpa [hv] using ho2
            · refine List.nodup_cons.2 ⟨fun hmem => ?_, cat_nodup (fun p q hp hq => ?_) (fun p q p' q' a1 a2 a3 a4 => f5 p q p' q' (by omega) a2 (by omega) a4)⟩
              · obtain ⟨p, q, hp, hq, hx⟩ := of_mem_cat hmem
                exact (f4 p q (by omega) hq _ hx).2 rfl
              · obtain ⟨v, hv, ho2⟩ := hcell p q hp hq
                exact ho2.nodup
            · rcases List.mem_cons.1 hb with rfl | hb
              · exact hb'
              · obtain ⟨p, q, hp, hq, hx⟩ := of_mem_cat hb
                exact (f4 p q (by omega) hq _ hx).1
          · exact ⟨[], .ow0 ad, by simp⟩
        obtain ⟨fp, hown, hfp⟩ := hown
        refine .inr ⟨h0, hle, hmp, by simp [FP2, hb], ty, cur, fun p q => if p = i ∧ q = j then fp else F p q, e1, e2, hall, fun p q hp hq => ?_, fun p q hp hq x hx => ?_, fun p q p' q' hp hq hp' hq' hpq x hx hx' => ?_⟩
        · by_cases e : p = i ∧ q = j
          · obtain ⟨rfl, rfl⟩ := e
            refine ⟨u, hu, ho1, ?_⟩
            dsimp only
            rw [if_pos ⟨rfl, rfl⟩]
            have := upd_in (es := r.es) (j := p) (off := q) (cs := [.ow r'.sz n r'.es]) (k := 0) (by simp)
            simp only [Nat.add_zero] at this
            show Own _ _ _ _ (upd r.es p q [.ow r'.sz n r'.es] p q) u fp
            rw [this]
            exact hown
          · obtain ⟨v, hv, ho2, hcv⟩ := e3 p q hp hq
            refine ⟨v, hv, ho2, ?_⟩
            dsimp only
            rw [if_neg e]
            show Own _ _ _ _ (upd r.es i j [.ow r'.sz n r'.es] p q) v _
            rw [upd_out (by rintro ⟨h1, h2, h3⟩; exact e ⟨h1, by simp at h3; omega⟩)]
            exact hcv.mono keep hext fun _ _ => rfl
        · simp only [FP2, if_pos, List.mem_append]
          dsimp only at hx
          split at hx
          · refine ⟨.inr (hfp x hx), fun e => ?_⟩
            exact hR.apart k id' r r' hr hr' hne _ hb (e ▸ hfp x hx)
          · exact ⟨.inl (e4 p q hp hq x hx).1, (e4 p q hp hq x hx).2⟩
        · dsimp only at hx hx'
          split at hx
          · rename_i h1
            split at hx'
            · rename_i h2
              rcases hpq with h | h
              · exact h (h1.1.trans h2.1.symm)
              · exact h (h1.2.trans h2.2.symm)
            · exact hR.apart k id' r r' hr hr' hne x (e4 p' q' hp' hq' x hx').1 (hfp x hx)
          · split at hx'
            · exact hR.apart k id' r r' hr hr' hne x (e4 p q hp hq x hx).1 (hfp x hx')
            · exact e5 p q p' q' hp hq hp' hq' hpq x hx hx'
      · simp only [FP2, if_pos, List.mem_append] at hb
        rcases hb with h | h
        · exact g2 b h
        · exact g2' b h
    · obtain ⟨g1, g2⟩ := hR.rows k z h3
      simp only [FP2, if_neg h1]
      exact ⟨g1.mono keep hext fun _ _ => rfl, g2⟩
  · rcases hcase hp with ⟨rfl, rfl⟩ | ⟨h1, h2, h3⟩ <;> rcases hcase hq with ⟨rfl, rfl⟩ | ⟨h1', h2', h3'⟩
    · omega
    · simp only [FP2, if_pos, List.mem_append] at hb
      simp only [FP2, if_neg h1'] at hb'
      rcases hb with h | h
      · exact hR.apart p q r r2 hr h3' hpq b h hb'
      · exact hR.apart id' q r' r2 hr' h3' (fun e => h2' e.symm) b h hb'
    · simp only [FP2, if_neg h1] at hb
      simp only [FP2, if_pos, List.mem_append] at hb'
      rcases hb' with h | h
      · exact hR.apart p q r1 r h3 hr hpq b hb h
      · exact hR.apart p id' r1 r' h3 hr' h2 b hb h
    · simp only [FP2, if_neg h1] at hb
      simp only [FP2, if_neg h1'] at hb'
      exact hR.apart p q r1 r2 h3 h3' hpq b hb hb'
  · rintro b ⟨k, z, hz, hb⟩
    rcases hcase hz with ⟨rfl, rfl⟩ | ⟨h1, h2, h3⟩
    · simp only [FP2, if_pos, List.mem_append] at hb
      rcases hb with h | h
      · exact ⟨k, r, hr, h⟩
      · exact ⟨id', r', hr', h⟩
    · simp only [FP2, if_neg h1] at hb
      exact ⟨k, z, h3, hb⟩
inductive OwEq : AV → AV → Prop
  | refl (x : AV) : OwEq x x
  | nil (sz : Nat) (g : Nat → Nat → AV) : OwEq .nils (.ow sz 0 g)
  | ow {sz n : Nat} {g g' : Nat → Nat → AV} (hf : ∀ i j, i < n → j < sz → (g' i j).idfO) (h : ∀ i j, i < n → j < sz → OwEq (g i j) (g' i j)) : OwEq (.ow sz n g) (.ow sz n g')
theorem Own.eqv {S : Nat → Prop} {x y : AV} {u : Value} {fp : List Nat} (h : Own w S blk H x u fp) (e : OwEq x y) : Own w S blk H y u fp := by
  induction h generalizing y with
  | plain h =>
    cases e with
    | refl => exact .plain h
    | nil sz g => rw [inv_nils h]; exact .ow0 none
    | ow hf h' => cases h
  | ow0 a =>
    cases e with
    | refl => exact .ow0 a
    | ow hf h' => exact .ow0 a
  | ow b cap ty cur U F hb hcur hn hm h0 h1 hc hf hu hF ih =>
    cases e with
    | refl => exact .ow b cap ty cur U F hb hcur hn hm h0 h1 hc hf hu hF
    | ow hf' h' => exact .ow b cap ty cur U F hb hcur hn hm h0 h1 hc hf' (fun i j hi hj => ih i j hi hj (h' i j hi hj)) hF
theorem turn_eq {id : Nat} {r x : Row} (hr : H[id]? = some (some r)) (h1 : x.sz = r.sz) (h2 : x.cap = r.cap) (hk : x.k.isMp = r.k.isMp) (hkm : r.k.isMp = false) (hes : ∀ i j, i < r.cap → j < r.sz → OwEq (r.es i j) (x.es i j)) : Turn X H (H.set id (some x)) := fun w blk FP hR he => by
  obtain ⟨xsz, xcap, xes, xk⟩ := x
  dsimp only at h1 h2 hk hes
  subst h1 h2
  have hS : ∀ b, X.S FP H w.heap.size b → X.S FP (H.set id (some ⟨r.sz, r.cap, xes, xk⟩)) w.heap.size b := fun b hb => (S_set X FP hr b).2 hb
  have hext := HExt.set (H := H) (r1 := ⟨r.sz, r.cap, xes, xk⟩) blk hr rfl rfl
  refine ⟨blk, FP, ⟨fun k r' hk' => ?_, fun i j r1 r2 hi hj hij => ?_, fun b hb => ⟨hb.2.1, hb.2.2⟩⟩, hext, ?_, hS⟩
  · rcases set_cases hr hk' with ⟨rfl, rfl⟩ | ⟨hne, hk'⟩
    · refine ⟨?_, (hR.rows k r hr).2⟩
      rcases ((hR.rows k r hr).1.mono (fun b hb => ⟨hS b hb, rfl⟩) hext fun _ _ => rfl) with ⟨q1, q2, q3⟩ | ⟨h0, hle, hmp, hb, ty, cur, F, e1, e2, hall, e3, e4, e5⟩
      · refine .inl ⟨q1, q2, .inl ⟨hk.trans hkm, ?_⟩⟩
        rcases q3 with ⟨_, h⟩ | e | ⟨ak, fm, sts, e, _⟩
        · exact h
        · rw [e] at hkm; cases hkm
        · rw [e] at hkm; cases hkm
      · refine .inr ⟨h0, hle, hk.trans hmp, hb, ty, cur, F, e1, e2, hall, fun i j hi hj => ?_, e4, e5⟩
        obtain ⟨u, hu, ho, hc⟩ := e3 i j hi hj
        exact ⟨u, hu, ho, hc.eqv (hes i j hi hj)⟩
    · obtain ⟨h1, h2⟩ := hR.rows k r' hk'
      exact ⟨h1.mono (fun b hb => ⟨hS b hb, rfl⟩) hext fun _ _ => rfl, h2⟩
  · rcases set_cases hr hi with ⟨hi1, _⟩ | ⟨hne, hi'⟩ <;> rcases set_cases hr hj with ⟨hj1, _⟩ | ⟨hne', hj'⟩
    · omega
    · subst hi1; exact hR.apart i j r r2 hr hj' hij
    · subst hj1; exact hR.apart i j r1 r hi' hr hij
    · exact hR.apart i j r1 r2 hi' hj' hij
  · rintro b ⟨k, r', hk', hb⟩
    rcases set_cases hr hk' with ⟨rfl, rfl⟩ | ⟨hne, hk'⟩
    · exact ⟨k, r, hr, hb⟩
    · exact ⟨k, r', hk', hb⟩
inductive OwEqL : List AV → List AV → Prop
  | nil : OwEqL [] []
  | cons {x y : AV} {xs ys : List AV} (h : OwEq x y) (r : OwEqL xs ys) : OwEqL (x :: xs) (y :: ys)
theorem OwEqL.len {xs ys : List AV} (h : OwEqL xs ys) : xs.length = ys.length := by
  induction h with
  | nil => rfl
  | cons h r ih => simp [ih]
theorem OwEqL.getD {xs ys : List AV} (h : OwEqL xs ys) : ∀ j, OwEq (xs.getD j .any) (ys.getD j .any) := by
  induction h with
  | nil => intro j; exact .refl _
  | cons h r ih =>
    intro j
    cases j with
    | zero => exact h
    | succ j => simpa using ih j
theorem turn_box {id : Nat} {r : Row} {ds : List AV} (hr : H[id]? = some (some r)) (hk : r.k = .box) (hc : r.cap = 1) (h : OwEqL (cellsAt (r.es 0) 0 r.sz) ds) : Turn X H (H.set id (some (boxRow ds))) :=
  turn_eq hr (by rw [← cellsAt_length (r.es 0) r.sz 0]; exact h.len.symm) hc.symm (by rw [hk]; rfl) (by rw [hk]; rfl) fun i j hi hj => by
    obtain rfl : i = 0 := by omega
    have := h.getD j
    have e : (cellsAt (r.es 0) 0 r.sz).getD j .any = r.es 0 j := by
      have hl : j < (cellsAt (r.es 0) 0 r.sz).length := by rw [cellsAt_length]; exact hj
      rw [List.getD_eq_getElem?_getD, List.getElem?_eq_getElem hl]
      have := (cellsAt_get (r.es 0) r.sz 0 j _ (List.getElem?_eq_getElem hl)).2
      rw [Nat.zero_add] at this
      exact this
    rw [e] at this
    exact this
def low2A (m : Nat) : AV → Bool
  | .tup cs => cs.all (low2C m)
  | x => low2C m x
theorem Conc.backA {w2 : World} {S S2 : Nat → Prop} {blk0 : Nat → BC} {H0 : Hp} {σ : Nat → Nat} {m : Nat} {x : AV} {u : Value} (h : Conc w S blk H (Go.Proofs.Ytdeledeopippfaa.renA σ x) u) (hx : Go.Proofs.Ytdeledeopippfaa.low2A m x = true) (hS : ∀ b, S b → S2 b ∧ w2.heap[b]? = w.heap[b]?) (hR : Back σ m H blk H0 blk0) : Conc w2 S2 blk0 H0 x u := by
  cases x with
  | tup cs =>
    obtain ⟨us, rfl, hl, hu⟩ := inv_tup h
    refine .tup cs us (by rw [hl, List.length_map]) fun j c u hj hju => ?_
    have h1 := hu j (Go.Proofs.Ytdeledeopippfaa.renC σ c) u (by rw [List.getElem?_map, hj]; rfl) hju
    have h2 : Go.Proofs.Ytdeledeopippfaa.low2C m c = true := List.all_eq_true.1 hx c (List.mem_of_getElem? hj)
    have h3 : Go.Proofs.Ytdeledeopippfaa.renA σ c = Go.Proofs.Ytdeledeopippfaa.renC σ c := by cases c <;> first | rfl | cases h2
    exact (h3 ▸ h1 : Conc _ _ _ _ (Go.Proofs.Ytdeledeopippfaa.renA σ c) u).back h2 hS hR
  | _ => exact h.back hx hS hR
theorem endM_pick {r : AV} {post : AV → Hp → Prop} (π : List Nat) (H1 : Hp) (r1 : AV) (hv : ViewOk π H H1) (hr : r = renA (sig π H.length) r1) (hl : low2A π.length r1 = true) (hk : ∀ k, k < X.H0.length → π[k]? = some k) (hp : post r1 H1) : EndM X H r post := ⟨fun w blk FP u hR hc he => by
  have hπ : ∀ i ∈ π, i < H.length := fun i hi => by
    obtain ⟨k, hk⟩ := List.getElem?_of_mem hi
    obtain ⟨_, y, _, hy, _⟩ := hv.row k i hk
    exact (List.getElem?_eq_some_iff.1 hy).1
  have hat : ∀ {k : Nat} {x : Row}, H1[k]? = some (some x) → ∃ y, H[sig π H.length k]? = some (some y) ∧ RowBack (sig π H.length) π.length x y := by
    intro k x hx
    have hk : k < π.length := by rw [← hv.len]; exact (List.getElem?_eq_some_iff.1 hx).1
    have hk' : π[k]? = some π[k] := List.getElem?_eq_getElem hk
    obtain ⟨x', y, h1, h2, h3⟩ := hv.row k _ hk'
    rw [hx] at h1
    cases h1
    exact ⟨y, by unfold sig; rw [hk']; exact h2, h3⟩
  have hB : Back (sig π H.length) π.length H blk H1 (fun k => blk (sig π H.length k)) := by
    intro k hk
    have hk' : π[k]? = some π[k] := List.getElem?_eq_getElem hk
    obtain ⟨x', y, h1, h2, h3⟩ := hv.row k _ hk'
    exact ⟨x', y, h1, by unfold sig; rw [hk']; exact h2, h3.sz, h3.cap, rfl⟩
  have hS : ∀ b, X.S FP H w.heap.size b → X.S (fun k => FP (sig π H.length k)) H1 w.heap.size b := fun b hb => ⟨hb.1, hb.2.1, fun k x hx => by
    obtain ⟨y, hy, _⟩ := hat hx
    exact hb.2.2 _ y hy⟩
  refine ⟨r1, H1, fun k => blk (sig π H.length k), fun k => FP (sig π H.length k), hp, ⟨fun k x hx => ?_, fun i j x x' hi hj hij => ?_, fun b hb => ⟨hb.2.1, hb.2.2⟩⟩, ?_, fun k x hx => ?_, fun b ⟨k, x, hx, hb⟩ => ?_⟩
  · obtain ⟨y, hy, hrb⟩ := hat hx
    obtain ⟨h1, h2⟩ := hR.rows _ y hy
    exact ⟨h1.back hrb (fun b hb => ⟨hS b hb, rfl⟩) hB fun _ _ => rfl, h2⟩
  · obtain ⟨y, hy, _⟩ := hat hi
    obtain ⟨y', hy', _⟩ := hat hj
    exact hR.apart _ _ y y' hy hy' fun e => hij (sig_inj hv.nodup hπ e)
  · subst hr
    exact hc.backA hl (fun b hb => ⟨hS b hb, rfl⟩) hB
  · have hk0 : k < X.H0.length := (List.getElem?_eq_some_iff.1 hx).1
    obtain ⟨x', y, h1, h2, h3⟩ := hv.row k k (hk k hk0)
    rcases he k x hx with h4 | ⟨r, r', rfl, h5, h6, h7, h8⟩
    · rw [h2] at h4; cases h4
    · rw [h2] at h5
      cases h5
      refine .inr ⟨r, x', rfl, h1, h3.sz.trans h6, h3.cap.trans h7, ?_⟩
      show blk (sig π H.length k) = X.blk0 k
      unfold sig
      rw [hk k hk0]
      exact h8
  · obtain ⟨y, hy, _⟩ := hat hx
    exact ⟨_, y, hy, hb⟩⟩
theorem RowBack.self {σ : Nat → Nat} {m : Nat} {x : Row} (h : RowPl x) : RowBack σ m x x := ⟨rfl, rfl, .refl _, fun i j hi hj => ⟨(pl1_ren (h.h i j hi hj)).1.symm, pl1_low2 (h.h i j hi hj)⟩⟩
inductive ViewL (H : Hp) (σ : Nat → Nat) (m : Nat) : List Nat → Hp → Prop
  | nil : ViewL H σ m [] []
  | cons {i : Nat} {π : List Nat} {x y : Row} {H0 : Hp} (hy : H[i]? = some (some y)) (hb : RowBack σ m x y) (h : ViewL H σ m π H0) : ViewL H σ m (i :: π) (some x :: H0)
theorem ViewL.len {σ : Nat → Nat} {m : Nat} {π : List Nat} {H0 : Hp} (h : ViewL H σ m π H0) : H0.length = π.length := by
  induction h with
  | nil => rfl
  | cons hy hb h ih => simp [ih]
theorem ViewL.at {σ : Nat → Nat} {m : Nat} {π : List Nat} {H0 : Hp} (h : ViewL H σ m π H0) : ∀ (k i : Nat), π[k]? = some i → ∃ x y : Row, H0[k]? = some (some x) ∧ H[i]? = some (some y) ∧ RowBack σ m x y := by
  induction h with
  | nil => intro k i h; simp at h
  | cons hy hb h ih =>
    intro k i hk
    cases k with
    | zero => cases hk; exact ⟨_, _, rfl, hy, hb⟩
    | succ k =>
      obtain ⟨x, y, h1, h2, h3⟩ := ih k i (by simpa using hk)
      exact ⟨x, y, by simpa using h1, h2, h3⟩
theorem view_of {π : List Nat} {H0 : Hp} (hn : nodupB π = true) (h : ViewL H (sig π H.length) π.length π H0) : ViewOk π H H0 := ⟨nodupB_ok hn, h.len, h.at⟩
end
theorem upd_self {es : Nat → Nat → AV} {w j : Nat} {c : AV} : upd es w j [c] w j = c := by
  have := upd_in (es := es) (j := w) (off := j) (cs := [c]) (k := 0) (by simp)
  simpa using this
end
end Go.Proofs.Ytdeledeopippfaa
