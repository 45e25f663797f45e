/- Texts for VSectionsP. -/
import Derived.Test.YtdeledeopippfaaVx11
namespace Go.Proofs.Ytdeledeopippfaa
open Go Go.RowKit
set_option linter.unusedVariables false
set_option linter.unusedSimpArgs false
section
variable {E : Env} {P : Program} {nt : Nat} {X : Ctx} {f : Fr} {H H' : Hp} {a : Act} {w : World} {blk : Nat → BC} {FP : Nat → List Nat}
def Turn (X : Ctx) (H H' : Hp) : Prop := ∀ w blk FP, RowsIn w (X.S FP H w.heap.size) blk FP H → HExt X.H0 X.blk0 H blk →
  ∃ blk' FP', RowsIn w (X.S FP' H' w.heap.size) blk' FP' H' ∧ HExt H blk H' blk' ∧ (∀ b, inFP FP' H' b → inFP FP H b) ∧ ∀ b, X.S FP H w.heap.size b → X.S FP' H' w.heap.size b
theorem Turn.refl : Turn X H H := fun w blk FP hr he => ⟨blk, FP, hr, HExt.refl _ _, fun b hb => hb, fun b hb => hb⟩
theorem Turn.trans {H1 H2 : Hp} (h : Turn X H H1) (k : Turn X H1 H2) : Turn X H H2 := fun w blk FP hr he => by
  obtain ⟨b1, F1, r1, e1, i1, s1⟩ := h w blk FP hr he
  obtain ⟨b2, F2, r2, e2, i2, s2⟩ := k w b1 F1 r1 (he.trans e1)
  exact ⟨b2, F2, r2, e1.trans e2, fun b hb => i1 b (i2 b hb), fun b hb => s2 b (s1 b hb)⟩
theorem St.turn (h : Turn X H H') (s : St nt X f H a w) : St nt X f H' a w := by
  obtain ⟨blk, FP, s⟩ := s
  obtain ⟨b1, F1, r1, e1, i1, s1⟩ := h w blk FP ⟨fun id r hr => ⟨(s.rows id r hr).1, fun b hb => ((s.rows id r hr).2 b hb).2⟩, s.apart, fun b hb => ⟨hb.2.1, hb.2.2⟩⟩ s.ext
  refine ⟨b1, F1, s.defers, s.size, s.keeps, fun id r hr => ⟨(r1.rows id r hr).1, fun b hb => ?_⟩, r1.apart, fun t => (s.fr t).mono (fun b hb => ⟨s1 b hb, rfl⟩) e1, s.ext.trans e1⟩
  obtain ⟨id', r', hr', hb'⟩ := i1 b ⟨id, r, hr, hb⟩
  exact ⟨((s.rows id' r' hr').2 b hb').1, (r1.rows id r hr).2 b hb⟩
theorem cat_nodup {F : Nat → Nat → List Nat} {n sz : Nat} (h1 : ∀ i j, i < n → j < sz → (F i j).Nodup) (h2 : ∀ i j i' j', i < n → j < sz → i' < n → j' < sz → (i ≠ i' ∨ j ≠ j') → ∀ x ∈ F i j, x ∉ F i' j') : (cat F n sz).Nodup := by
  unfold cat List.Nodup
  rw [List.pairwise_flatMap]
  refine ⟨fun i hi => ?_, ?_⟩
  · rw [List.pairwise_flatMap]
    have hi' := List.mem_range.1 hi
    refine ⟨fun j hj => h1 i j hi' (List.mem_range.1 hj), ?_⟩
    refine List.Pairwise.imp_of_mem ?_ (List.nodup_range (n := sz))
    intro j j' hj hj' hne x hx y hy e
    subst e
    exact h2 i j i j' hi' (List.mem_range.1 hj) hi' (List.mem_range.1 hj') (.inr hne) x hx hy
  · refine List.Pairwise.imp_of_mem ?_ (List.nodup_range (n := n))
    intro i i' hi hi' hne x hx y hy e
    subst e
    obtain ⟨j, hj, hx⟩ := List.mem_flatMap.1 hx
    obtain ⟨j', hj', hx'⟩ := List.mem_flatMap.1 hy
    exact h2 i j i' j' (List.mem_range.1 hi) (List.mem_range.1 hj) (List.mem_range.1 hi') (List.mem_range.1 hj') (.inl hne) x hx hx'
theorem Own.nodup {S : Nat → Prop} {x : AV} {u : Value} {fp : List Nat} (h : Own w S blk H x u fp) : fp.Nodup := by
  cases h with
  | plain => exact List.nodup_nil
  | ow0 => exact List.nodup_nil
  | ow b cap ty cur U F hb hcur hn hm h0 h1 hc hf hu hF => exact hF
theorem cat_apart {F : Nat → Nat → List Nat} {n sz : Nat} (h : (cat F n sz).Nodup) : ∀ i j i' j', i < n → j < sz → i' < n → j' < sz → (i ≠ i' ∨ j ≠ j') → ∀ x ∈ F i j, x ∉ F i' j' := by
  unfold cat List.Nodup at h
  rw [List.pairwise_flatMap] at h
  obtain ⟨h1, h2⟩ := h
  intro i j i' j' hi hj hi' hj' hne x hx hx'
  by_cases e : i = i'
  · subst e
    have h3 := h1 i (List.mem_range.2 hi)
    rw [List.pairwise_flatMap] at h3
    have h4 := List.pairwise_iff_getElem.1 h3.2
    have hne' : j ≠ j' := by rcases hne with h | h; exact absurd rfl h; exact h
    rcases Nat.lt_or_gt_of_ne hne' with q | q
    · exact h4 j j' (by simpa using hj) (by simpa using hj') q x (by simpa using hx) x (by simpa using hx') rfl
    · exact h4 j' j (by simpa using hj') (by simpa using hj) q x (by simpa using hx') x (by simpa using hx) rfl
  · have h4 := List.pairwise_iff_getElem.1 h2
    have m1 : x ∈ (List.range sz).flatMap fun j => F i j := List.mem_flatMap.2 ⟨j, List.mem_range.2 hj, hx⟩
    have m2 : x ∈ (List.range sz).flatMap fun j => F i' j := List.mem_flatMap.2 ⟨j', List.mem_range.2 hj', hx'⟩
    rcases Nat.lt_or_gt_of_ne e with q | q
    · exact h4 i i' (by simpa using hi) (by simpa using hi') q x (by simpa using m1) x (by simpa using m2) rfl
    · exact h4 i' i (by simpa using hi') (by simpa using hi) q x (by simpa using m2) x (by simpa using m1) rfl
theorem own_open {S : Nat → Prop} {sz n : Nat} {g : Nat → Nat → AV} {u : Value} {fp : List Nat} (h : Own w S blk H (.ow sz n g) u fp) :
    ∃ bc : BC, (∀ (S2 : Nat → Prop) (blk2 : Nat → BC) (H2 : Hp), (∀ b, S b → S2 b) → HExt H blk H2 blk2 → RowOk w S2 blk2 H2 fp bc ⟨sz, n, g, .arr⟩) ∧
      ∀ (S2 : Nat → Prop) (blk2 : Nat → BC) (H2 : Hp) (id : Nat), H2[id]? = some (some ⟨sz, n, g, .arr⟩) → blk2 id = bc → Conc w S2 blk2 H2 (.row id n) u := by
  cases h with
  | plain h => cases h
  | ow0 a => exact ⟨⟨0, 0⟩, fun S2 blk2 H2 _ _ => .inl ⟨rfl, rfl, .inl ⟨rfl, rfl⟩⟩, fun S2 blk2 H2 id h1 h2 => .row0 _ h1 rfl (by rw [h2]) a⟩
  | ow b cap ty cur U F hb hcur hn hm h0 h1 hc hf hu hF =>
    obtain ⟨hF1, hF2⟩ := List.nodup_cons.1 hF
    refine ⟨⟨b, cap⟩, fun S2 blk2 H2 hS hE => .inr ⟨h0, hn, rfl, by simp, ty, cur, F, hb, hcur, h1, fun i j hi hj => ⟨U i j, hc i j hi hj, h1 _ (Array.mem_of_getElem? (hc i j hi hj)), (hu i j hi hj).mono (fun b hb => ⟨hS b hb, rfl⟩) hE fun _ _ => rfl⟩, fun i j hi hj x hx => ?_, cat_apart hF2⟩, fun S2 blk2 H2 id e1 e2 => ?_⟩
    · have hm := mem_cat (n := n) (sz := sz) hi hj hx
      exact ⟨List.mem_cons_of_mem _ hm, fun e => hF1 ((show x = b from e) ▸ hm)⟩
    · have := Conc.row (w := w) (S := S2) (blk := blk2) (n := n) _ e1 (Nat.le_refl _) (by rw [e2]; exact hn) (by rw [e2]; exact h0) (by rw [e2]; exact hm)
      rw [e2] at this
      exact this
def openH (H : Hp) (id i j : Nat) (r : Row) (sz n : Nat) (g : Nat → Nat → AV) : Hp :=
  (H.set id (some ⟨r.sz, r.cap, upd r.es i j [.row H.length n], r.k⟩)) ++ [some ⟨sz, n, g, .arr⟩]
theorem turn_open {id i j sz n : Nat} {g : Nat → Nat → AV} {r : Row} (hr : H[id]? = some (some r)) (hi : i < r.cap) (hj : j < r.sz) (hc : r.es i j = .ow sz n g) :
    Turn X H (openH H id i j r sz n g) := fun w blk FP hR he => by
  have hid : id < H.length := (List.getElem?_eq_some_iff.1 hr).1
  let x1 : Row := ⟨r.sz, r.cap, upd r.es i j [.row H.length n], r.k⟩
  let y1 : Row := ⟨sz, n, g, .arr⟩
  have hH : openH H id i j r sz n g = (H.set id (some x1)) ++ [some y1] := rfl
  rw [hH]
  have hlen : (H.set id (some x1)).length = H.length := List.length_set ..
  have hcase : ∀ {k : Nat} {z : Row}, ((H.set id (some x1)) ++ [some y1])[k]? = some (some z) → (k = id ∧ z = x1) ∨ (k = H.length ∧ z = y1) ∨ (k ≠ id ∧ k < H.length ∧ H[k]? = some (some z)) := by
    intro k z h
    rcases Nat.lt_or_ge k H.length with hlt | hge
    · rw [List.getElem?_append_left (by rw [hlen]; exact hlt)] at h
      by_cases e2 : id = k
      · subst e2
        rw [List.getElem?_set_self hid] at h
        cases h
        exact .inl ⟨rfl, rfl⟩
      · rw [List.getElem?_set_ne e2] at h
        exact .inr (.inr ⟨fun q => e2 q.symm, hlt, h⟩)
    · rw [List.getElem?_append_right (by rw [hlen]; exact hge), hlen] at h
      rcases Nat.eq_zero_or_pos (k - H.length) with h0 | h0
      · rw [h0] at h
        cases h
        exact .inr (.inl ⟨by omega, rfl⟩)
      · rw [List.getElem?_eq_none (by simp; omega)] at h; cases h
  have hat1 : ((H.set id (some x1)) ++ [some y1])[id]? = some (some x1) := by
    rw [List.getElem?_append_left (by rw [hlen]; exact hid), List.getElem?_set_self hid]
  have hat2 : ((H.set id (some x1)) ++ [some y1])[H.length]? = some (some y1) := by
    rw [List.getElem?_append_right (by rw [hlen]; exact Nat.le_refl _), hlen, Nat.sub_self]; rfl
  obtain ⟨g1, g2⟩ := hR.rows id r hr
  rcases g1 with g1 | ⟨h0, hle, hmp, hb, ty, cur, F, e1, e2, hall, e3, e4, e5⟩
  · omega
  obtain ⟨u, hu, ho1, hcu⟩ := e3 i j hi hj
  rw [hc] at hcu
  obtain ⟨bc, ho, hro⟩ := own_open hcu
  let blk2 : Nat → BC := fun k => if k = H.length then bc else blk k
  let FP2 : Nat → List Nat := fun k => if k = H.length then F i j else if k = id then (FP id).filter (fun b => !(F i j).contains b) else FP k
  have hsub : ∀ b ∈ F i j, b ∈ FP id := fun b hb => (e4 i j hi hj b hb).1
  have hF2id : ∀ b, b ∈ FP2 id ↔ b ∈ FP id ∧ b ∉ F i j := by
    intro b
    simp only [FP2, if_neg (show ¬ id = H.length by omega), if_true, List.mem_filter]
    simp
  have hF2n : FP2 H.length = F i j := by simp only [FP2, if_true]
  have hF2o : ∀ k, k ≠ id → k < H.length → FP2 k = FP k := fun k h1 h2 => by simp only [FP2, if_neg (show ¬ k = H.length by omega), if_neg h1]
  have hS : ∀ b, X.S FP H w.heap.size b → X.S FP2 ((H.set id (some x1)) ++ [some y1]) w.heap.size b := by
    intro b hbb
    refine ⟨hbb.1, hbb.2.1, fun k z hz => ?_⟩
    rcases hcase hz with ⟨rfl, rfl⟩ | ⟨rfl, rfl⟩ | ⟨h1, h2, h3⟩
    · rw [hF2id]; exact fun q => hbb.2.2 k r hr q.1
    · rw [hF2n]; exact fun q => hbb.2.2 id r hr (hsub b q)
    · rw [hF2o k h1 h2]; exact hbb.2.2 k z h3
  have hext : HExt H blk ((H.set id (some x1)) ++ [some y1]) blk2 := by
    intro k x hx
    have hk : k < H.length := (List.getElem?_eq_some_iff.1 hx).1
    have hb2 : blk2 k = blk k := by simp only [blk2, if_neg (show ¬ k = H.length by omega)]
    by_cases e2 : id = k
    · subst e2
      rw [hr] at hx
      cases hx
      exact .inr ⟨r, x1, rfl, hat1, rfl, rfl, hb2⟩
    · have : ((H.set id (some x1)) ++ [some y1])[k]? = H[k]? := by
        rw [List.getElem?_append_left (by rw [hlen]; exact hk), List.getElem?_set_ne e2]
      rw [this]
      cases x with
      | none => exact .inl hx
      | some y => exact .inr ⟨y, y, rfl, hx, rfl, rfl, hb2⟩
  have keep : ∀ b, X.S FP H w.heap.size b → X.S FP2 ((H.set id (some x1)) ++ [some y1]) w.heap.size b ∧ w.heap[b]? = w.heap[b]? := fun b hb => ⟨hS b hb, rfl⟩
  refine ⟨blk2, FP2, ⟨fun k z hz => ?_, fun p q r1 r2 hp hq hpq b hb hb' => ?_, fun b hb => ⟨hb.2.1, hb.2.2⟩⟩, hext, ?_, hS⟩
  · rcases hcase hz with ⟨e0, rfl⟩ | ⟨rfl, rfl⟩ | ⟨h1, h2, h3⟩
    · subst e0
      have hb2 : blk2 k = blk k := by simp only [blk2, if_neg (show ¬ k = H.length by omega)]
      rw [hb2]
      refine ⟨.inr ⟨h0, hle, hmp, (hF2id _).2 ⟨hb, fun q => (e4 i j hi hj _ q).2 rfl⟩, ty, cur, fun p q => if p = i ∧ q = j then [] else F p q, e1, e2, hall, fun p q hp hq => ?_, fun p q hp hq x hx => ?_, fun p q p' q' hp hq hp' hq' hpq x hx hx' => ?_⟩, fun b hb => g2 b ((hF2id b).1 hb).1⟩
      · by_cases e : p = i ∧ q = j
        · obtain ⟨rfl, rfl⟩ := e
          refine ⟨u, hu, ho1, ?_⟩
          dsimp only
          rw [if_pos ⟨rfl, rfl⟩]
          have := upd_in (es := r.es) (j := p) (off := q) (cs := [.row H.length n]) (k := 0) (by simp)
          simp only [Nat.add_zero] at this
          show Own _ _ _ _ (upd r.es p q [.row H.length n] p q) u []
          rw [this]
          exact .plain (hro _ _ _ _ hat2 (by simp only [blk2, if_true]))
        · obtain ⟨v, hv, ho2, hcv⟩ := e3 p q hp hq
          refine ⟨v, hv, ho2, ?_⟩
          dsimp only
          rw [if_neg e]
          show Own _ _ _ _ (upd r.es i j [.row H.length n] p q) v _
          rw [upd_out (by rintro ⟨h1, h2, h3⟩; exact e ⟨h1, by simp at h3; omega⟩)]
          exact hcv.mono keep hext fun _ _ => rfl
      · dsimp only at hx
        split at hx
        · cases hx
        · rename_i hne
          refine ⟨(hF2id x).2 ⟨(e4 p q hp hq x hx).1, fun q' => ?_⟩, (e4 p q hp hq x hx).2⟩
          exact e5 p q i j hp hq hi hj (by by_cases h : p = i; exact .inr (fun h' => hne ⟨h, h'⟩); exact .inl h) x hx q'
      · dsimp only at hx hx'
        split at hx
        · cases hx
        · split at hx'
          · cases hx'
          · exact e5 p q p' q' hp hq hp' hq' hpq x hx hx'
    · rw [hF2n]
      exact ⟨by rw [show blk2 H.length = bc by simp only [blk2, if_true]]; exact ho _ _ _ hS hext, fun b hb => g2 b (hsub b hb)⟩
    · obtain ⟨q1, q2⟩ := hR.rows k z h3
      rw [hF2o k h1 h2, show blk2 k = blk k by simp only [blk2, if_neg (show ¬ k = H.length by omega)]]
      exact ⟨q1.mono keep hext fun _ _ => rfl, q2⟩
  · rcases hcase hp with ⟨rfl, rfl⟩ | ⟨rfl, rfl⟩ | ⟨h1, h2, h3⟩ <;> rcases hcase hq with ⟨rfl, rfl⟩ | ⟨rfl, rfl⟩ | ⟨h1', h2', h3'⟩
    · omega
    · rw [hF2n] at hb'
      exact ((hF2id b).1 hb).2 hb'
    · rw [hF2o q h1' h2'] at hb'
      exact hR.apart p q r r2 hr h3' hpq b ((hF2id b).1 hb).1 hb'
    · rw [hF2n] at hb
      exact ((hF2id b).1 hb').2 hb
    · omega
    · rw [hF2n] at hb
      rw [hF2o q h1' h2'] at hb'
      exact hR.apart id q r r2 hr h3' (fun e => h1' e.symm) b (hsub b hb) hb'
    · rw [hF2o p h1 h2] at hb
      exact hR.apart p q r1 r h3 hr h1 b hb ((hF2id b).1 hb').1
    · rw [hF2n] at hb'
      rw [hF2o p h1 h2] at hb
      exact hR.apart p id r1 r h3 hr h1 b hb (hsub b hb')
    · rw [hF2o p h1 h2] at hb
      rw [hF2o q h1' h2'] at hb'
      exact hR.apart p q r1 r2 h3 h3' hpq b hb hb'
  · rintro b ⟨k, z, hz, hb⟩
    rcases hcase hz with ⟨rfl, rfl⟩ | ⟨rfl, rfl⟩ | ⟨h1, h2, h3⟩
    · exact ⟨k, r, hr, ((hF2id b).1 hb).1⟩
    · rw [hF2n] at hb
      exact ⟨id, r, hr, hsub b hb⟩
    · rw [hF2o k h1 h2] at hb
      exact ⟨k, z, h3, hb⟩
def opnC (id j : Nat) : Nat → Nat → Hp → Hp
  | _, 0, H => H
  | off, n + 1, H => (match H[id]? with
    | some (some r) => (match r.es j off with
      | .ow sz m g => opnC id j (off + 1) n (openH H id j off r sz m g)
      | _ => opnC id j (off + 1) n H)
    | _ => H)
theorem openH_at {id i j sz n : Nat} {g : Nat → Nat → AV} {r : Row} (hr : H[id]? = some (some r)) : (openH H id i j r sz n g)[id]? = some (some ⟨r.sz, r.cap, upd r.es i j [.row H.length n], r.k⟩) := by
  have hid : id < H.length := (List.getElem?_eq_some_iff.1 hr).1
  unfold openH
  rw [List.getElem?_append_left (by rw [List.length_set]; exact hid), List.getElem?_set_self hid]
theorem openH_other {id i j sz n k : Nat} {g : Nat → Nat → AV} {r : Row} (hk : k < H.length) (hne : id ≠ k) : (openH H id i j r sz n g)[k]? = H[k]? := by
  unfold openH
  rw [List.getElem?_append_left (by rw [List.length_set]; exact hk), List.getElem?_set_ne hne]
theorem openH_len {id i j sz n : Nat} {g : Nat → Nat → AV} {r : Row} : (openH H id i j r sz n g).length = H.length + 1 := by
  unfold openH
  simp
theorem turn_opnC {id j : Nat} : ∀ (n off : Nat) (H : Hp) (r : Row), H[id]? = some (some r) → j < r.cap → off + n ≤ r.sz → Turn X H (opnC id j off n H)
  | 0, off, H, r, hr, hj, ho => Turn.refl
  | n + 1, off, H, r, hr, hj, ho => by
    unfold opnC
    rw [hr]
    dsimp only
    split
    · rename_i sz m g hc
      exact (turn_open hr hj (by omega) hc).trans (turn_opnC n (off + 1) _ _ (openH_at hr) hj (by dsimp only; omega))
    · exact turn_opnC n (off + 1) H r hr hj (by omega)
theorem opnC_at {id j : Nat} : ∀ (n off : Nat) (H : Hp) (r : Row), H[id]? = some (some r) → H.length ≤ (opnC id j off n H).length ∧ (∀ k, k < H.length → k ≠ id → (opnC id j off n H)[k]? = H[k]?) ∧ ∃ r', (opnC id j off n H)[id]? = some (some r') ∧ r'.sz = r.sz ∧ r'.cap = r.cap ∧ r'.k = r.k
  | 0, off, H, r, hr => ⟨Nat.le_refl _, fun _ _ _ => rfl, r, hr, rfl, rfl, rfl⟩
  | n + 1, off, H, r, hr => by
    unfold opnC
    rw [hr]
    dsimp only
    split
    · rename_i sz m g hc
      obtain ⟨h1, h2, r', h3, h4, h5, h6⟩ := opnC_at n (off + 1) _ _ (openH_at (i := j) (j := off) (sz := sz) (n := m) (g := g) hr)
      rw [openH_len] at h1 h2
      exact ⟨by omega, fun k hk hne => (h2 k (by omega) hne).trans (openH_other hk (fun e => hne e.symm)), r', h3, h4, h5, h6⟩
    · exact opnC_at n (off + 1) H r hr
def opnV : Nat → List AV → List AV
  | _, [] => []
  | n, .ow _ m _ :: cs => .row n m :: opnV (n + 1) cs
  | n, c :: cs => c :: opnV n cs
theorem opnV_ow : ∀ (n : Nat) (cs : List AV), (opnV n cs).any AV.isOw = false
  | _, [] => rfl
  | n, c :: cs => by
    unfold opnV
    split
    · rename_i h; cases h
    · rename_i h; cases h; rw [List.any_cons, opnV_ow]; rfl
    · rename_i hno h
      injection h with h1 h2
      subst h1 h2
      rw [List.any_cons, opnV_ow, Bool.or_false]
      cases c <;> first | rfl | exact (hno _ _ _ rfl).elim
theorem opnC_cells {id j : Nat} : ∀ (n off : Nat) (H : Hp) (r : Row), H[id]? = some (some r) → ∃ r1, (opnC id j off n H)[id]? = some (some r1) ∧ r1.sz = r.sz ∧ (∀ q, q < off → r1.es j q = r.es j q) ∧ cellsAt (r1.es j) off n = opnV H.length (cellsAt (r.es j) off n)
  | 0, off, H, r, hr => ⟨r, hr, rfl, fun _ _ => rfl, rfl⟩
  | n + 1, off, H, r, hr => by
    unfold opnC
    rw [hr]
    dsimp only
    split
    · rename_i sz m g hc
      obtain ⟨r1, h1, h2, h3, h4⟩ := opnC_cells n (off + 1) _ _ (openH_at (i := j) (j := off) (sz := sz) (n := m) (g := g) hr)
      dsimp only at h2 h3 h4
      have hup : ∀ q, q ≠ off → upd r.es j off [.row H.length m] j q = r.es j q := fun q hq => upd_out (by rintro ⟨_, a1, a2⟩; simp at a2; omega)
      refine ⟨r1, h1, h2, fun q hq => by rw [h3 q (by omega), hup q (by omega)], ?_⟩
      have e1 : r1.es j off = .row H.length m := by
        rw [h3 off (by omega)]
        have := upd_in (es := r.es) (j := j) (off := off) (cs := [.row H.length m]) (k := 0) (by simp)
        simpa using this
      have e2 : cellsAt (upd r.es j off [.row H.length m] j) (off + 1) n = cellsAt (r.es j) (off + 1) n := by
        have : ∀ (n o : Nat), off < o → cellsAt (upd r.es j off [.row H.length m] j) o n = cellsAt (r.es j) o n := by
          intro n
          induction n with
          | zero => intro o _; rfl
          | succ n ih => intro o ho; unfold cellsAt; rw [hup o (by omega), ih (o + 1) (by omega)]
        exact this n (off + 1) (by omega)
      rw [e2, openH_len] at h4
      show r1.es j off :: cellsAt (r1.es j) (off + 1) n = opnV H.length (r.es j off :: cellsAt (r.es j) (off + 1) n)
      rw [e1, h4, hc]
      rfl
    · rename_i hno
      obtain ⟨r1, h1, h2, h3, h4⟩ := opnC_cells n (off + 1) H r hr
      refine ⟨r1, h1, h2, fun q hq => h3 q (by omega), ?_⟩
      show r1.es j off :: cellsAt (r1.es j) (off + 1) n = opnV H.length (r.es j off :: cellsAt (r.es j) (off + 1) n)
      rw [h3 off (by omega), h4]
      generalize r.es j off = c at hno
      cases c <;> first | rfl | exact (hno _ _ _ rfl).elim
def ldow (E : Env) (f : Fr) (H : Hp) (t : TypeId) (x : Operand) : Option (Hp × AV) :=
  match ev f x with
  | .ptr id j off => (match H[id]? with
    | some (some r) => (match E.T.get t with
      | some ti => bif Nat.blt 0 ti.sz && (Nat.ble (off + ti.sz) r.sz && (cellsAt (r.es j) off ti.sz).any AV.isOw) then some (opnC id j off ti.sz H, bif ti.agg then .agg (opnV H.length (cellsAt (r.es j) off ti.sz)) else (opnV H.length (cellsAt (r.es j) off ti.sz)).headD .any) else none
      | none => none)
    | _ => none)
  | _ => none
theorem ldow_ok {t : TypeId} {x : Operand} {H1 : Hp} {v : AV} (h : ldow E f H t x = some (H1, v)) : ∃ id j off n r, ev f x = .ptr id j off ∧ H[id]? = some (some r) ∧ off + n ≤ r.sz ∧ H1 = opnC id j off n H ∧ ldK E f H1 t x (fun v' => v' = v) := by
  unfold ldow at h
  split at h
  · rename_i id j off hx
    split at h
    · rename_i r hr
      split at h
      · rename_i ti hti
        cases hb : (Nat.blt 0 ti.sz && (Nat.ble (off + ti.sz) r.sz && (cellsAt (r.es j) off ti.sz).any AV.isOw)) with
        | false => rw [hb] at h; cases h
        | true =>
          rw [hb, cond_true] at h
          rw [Bool.and_eq_true, Bool.and_eq_true] at hb
          have h := Option.some.inj h
          injection h with e1 e2
          subst e1
          refine ⟨id, j, off, ti.sz, r, hx, hr, Nat.le_of_ble_eq_true hb.2.1, rfl, ?_⟩
          obtain ⟨r1, g1, g2, _, g4⟩ := opnC_cells (j := j) ti.sz off H r hr
          unfold ldK
          rw [hti]
          dsimp only
          rw [hb.1, cond_true, hx]
          dsimp only
          rw [g1]
          dsimp only
          rw [g2, hb.2.1, cond_true, g4, opnV_ow, cond_false, ← e2]
          unfold ldV
          rw [g4]
          cases ti.agg with
          | true => rfl
          | false =>
            have h0 : 0 < ti.sz := Nat.le_of_ble_eq_true hb.1
            obtain ⟨m, hm⟩ : ∃ m, ti.sz = m + 1 := ⟨ti.sz - 1, by omega⟩
            rw [hm] at g4 ⊢
            rw [← g4]
            rfl
      · cases h
    · cases h
  · cases h
theorem ldow_turn {t : TypeId} {x : Operand} {H1 : Hp} {v : AV} (h : ldow E f H t x = some (H1, v)) (s : StB nt X f H blk FP a w) : Turn X H H1 := by
  obtain ⟨id, j, off, n, r, hx, hr, ho, rfl, _⟩ := ldow_ok h
  have := s.ev x
  rw [hx] at this
  exact turn_opnC n off H r hr (inv_ptr hr this).2.1 ho
def noS : AV → Prop
  | .sl _ n _ => n = 0
  | .rf _ _ => False
  | .fm _ _ => False
  | .ow sz n g => ∀ i j, i < n → j < sz → noS (g i j)
  | .agg _ => False
  | .tup _ => False
  | .fn _ cs => cs = []
  | _ => True
def noS1 : AV → Bool
  | .sl _ n _ => Nat.beq n 0
  | .rf .. | .fm .. | .ow .. | .agg _ | .tup _ => false
  | .fn _ cs => cs.isEmpty
  | _ => true
def noSC : AV → Bool
  | .agg cs => cs.all noS1
  | .fn _ cs => cs.all noS1
  | x => noS1 x
def noSA : AV → Bool
  | .tup cs => cs.all noSC
  | x => noSC x
theorem noS1_ok {x : AV} (h : noS1 x = true) : noS x := by
  cases x with
  | sl sz n g => exact Nat.eq_of_beq_eq_true h
  | fn g cs => cases cs with
    | nil => rfl
    | cons => cases h
  | rf => cases h
  | fm => cases h
  | ow => cases h
  | agg => cases h
  | tup => cases h
  | _ => trivial
theorem Conc.noS {S S2 : Nat → Prop} {x : AV} {u : Value} (h : Conc w S blk H x u) (hx : Go.Proofs.Ytdeledeopippfaa.noS x) : Conc w S2 blk H x u := by
  cases h with
  | any u => exact .any u
  | i h => exact .i h
  | b x => exact .b x
  | kb x => exact .kb x
  | s h => exact .s h
  | nils => exact .nils
  | nilp => exact .nilp
  | sl0 a cap hm => exact .sl0 a cap hm
  | sl b o cap U hb hn hm hc hf hu =>
    obtain rfl := hx
    exact .sl0 _ cap hm
  | rf => exact hx.elim
  | ptr r h hj ho => exact .ptr r h hj ho
  | ptrD h u => exact .ptrD h u
  | row r h hn hc h0 hm => exact .row r h hn hc h0 hm
  | row0 r h hr h0 a => exact .row0 r h hr h0 a
  | rowD h u => exact .rowD h u
  | rs r h hn hc hm a ha => exact .rs r h hn hc hm a ha
  | rsD h u => exact .rsD h u
  | mp r h => exact .mp r h
  | mpD h u => exact .mpD h u
  | st z => exact .st z
  | fm => exact hx.elim
  | agg => exact hx.elim
  | tup => exact hx.elim
  | fn f cs us hl hu =>
    obtain rfl : cs = [] := hx
    exact .fn f [] us hl (by simp)
theorem Conc.noSC {S S2 : Nat → Prop} {x : AV} {u : Value} (h : Conc w S blk H x u) (hx : Go.Proofs.Ytdeledeopippfaa.noSC x = true) : Conc w S2 blk H x u := by
  cases x with
  | agg cs => obtain ⟨us, rfl, hl, hu⟩ := inv_agg h; exact .agg cs us hl fun j c u hj hju => (hu j c u hj hju).noS (noS1_ok (List.all_eq_true.1 hx c (List.mem_of_getElem? hj)))
  | fn g cs => obtain ⟨us, rfl, hl, hu⟩ := inv_fn h; exact .fn g cs us hl fun j c u hj hju => (hu j c u hj hju).noS (noS1_ok (List.all_eq_true.1 hx c (List.mem_of_getElem? hj)))
  | _ => exact h.noS (noS1_ok hx)
theorem Conc.noSA {S S2 : Nat → Prop} {x : AV} {u : Value} (h : Conc w S blk H x u) (hx : Go.Proofs.Ytdeledeopippfaa.noSA x = true) : Conc w S2 blk H x u := by
  cases x with
  | tup cs => obtain ⟨us, rfl, hl, hu⟩ := inv_tup h; exact .tup cs us hl fun j c u hj hju => (hu j c u hj hju).noSC (List.all_eq_true.1 hx c (List.mem_of_getElem? hj))
  | _ => exact h.noSC hx
theorem Own.noS {S S2 : Nat → Prop} {x : AV} {u : Value} {fp : List Nat} (h : Own w S blk H x u fp) (hx : Go.Proofs.Ytdeledeopippfaa.noS x) : Own w S2 blk H x u fp := by
  induction h with
  | plain h => exact .plain (h.noS hx)
  | ow0 a => exact .ow0 a
  | ow b cap ty cur U F hb hcur hn hm h0 h1 hc hf hu hF ih => exact .ow b cap ty cur U F hb hcur hn hm h0 h1 hc hf (fun i j hi hj => ih i j hi hj (hx i j hi hj)) hF
structure RowNs (x : Row) : Prop where
  h : ∀ i j, i < x.cap → j < x.sz → noS (x.es i j)
theorem RowOk.noS {S S2 : Nat → Prop} {fp : List Nat} {bc : BC} {r : Row} (h : RowOk w S blk H fp bc r) (hr : RowNs r) : RowOk w S2 blk H fp bc r := by
  rcases h with h | ⟨h0, hle, hk, hb, ty, cur, F, h1, h2, hall, h3, h4, h5⟩
  · exact .inl h
  · refine .inr ⟨h0, hle, hk, hb, ty, cur, F, h1, h2, hall, fun i j hi hj => ?_, h4, h5⟩
    obtain ⟨u, hu, ho, hc⟩ := h3 i j hi hj
    exact ⟨u, hu, ho, hc.noS (hr.h i j hi hj)⟩
def RowsNs (H : Hp) : Prop := ∀ (id : Nat) (x : Row), H[id]? = some (some x) → RowNs x
theorem rowsNs_nil : RowsNs [] := fun id x h => by simp at h
theorem rowsNs_cons {x : Row} {H : Hp} (h : RowNs x) (r : RowsNs H) : RowsNs (some x :: H) := fun id y hy => by
  cases id with
  | zero => cases hy; exact h
  | succ id => exact r id y (by simpa using hy)
theorem rowsNs_none {H : Hp} (r : RowsNs H) : RowsNs (none :: H) := fun id y hy => by
  cases id with
  | zero => cases hy
  | succ id => exact r id y (by simpa using hy)
def FrzC (E : Env) (H : Hp) (g : FuncId) (avs : List AV) (K : AV → Hp → Prop) : Prop :=
  ∃ (post : AV → Hp → Prop), RetM E.P g [] (avs.map (shr H)) post ∧
    ∀ r H', post r H' → ((flatA r && noSA r) = true ∧ RowsNs H') ∧ ∃ L, LOk (sig [] H.length) H' L ∧ frcH (placeL [] L H) fun H2 => frc (renA (sig [] H.length) r) fun v => K v H2
theorem HExt.len {blk' : Nat → BC} (s : HExt H blk H' blk') : H.length ≤ H'.length := by
  rcases Nat.eq_zero_or_pos H.length with h | h
  · omega
  · have hlt : H.length - 1 < H.length := by omega
    rcases s (H.length - 1) _ (List.getElem?_eq_getElem hlt) with h1 | ⟨_, _, _, h1, _⟩
    · have := (List.getElem?_eq_some_iff.1 h1).1; omega
    · have := (List.getElem?_eq_some_iff.1 h1).1; omega
theorem StB.turn (h : Turn X H H') (s : StB nt X f H blk FP a w) : ∃ b1 F1, StB nt X f H' b1 F1 a w ∧ HExt H blk H' b1 ∧ ∀ b, X.S FP H w.heap.size b → X.S F1 H' w.heap.size b := by
  obtain ⟨b1, F1, r1, e1, i1, s1⟩ := h w blk FP ⟨fun id r hr => ⟨(s.rows id r hr).1, fun b hb => ((s.rows id r hr).2 b hb).2⟩, s.apart, fun b hb => ⟨hb.2.1, hb.2.2⟩⟩ s.ext
  refine ⟨b1, F1, ⟨s.defers, s.size, s.keeps, fun id r hr => ⟨(r1.rows id r hr).1, fun b hb => ?_⟩, r1.apart, fun t => (s.fr t).mono (fun b hb => ⟨s1 b hb, rfl⟩) e1, s.ext.trans e1⟩, e1, s1⟩
  obtain ⟨id', r', hr', hb'⟩ := i1 b ⟨id, r, hr, hb⟩
  exact ⟨((s.rows id' r' hr').2 b hb').1, (r1.rows id r hr).2 b hb⟩
def outM (π : List Nat) : Nat → Hp → Hp
  | _, [] => []
  | k, r :: H => (bif π.contains k then none else r) :: outM π (k + 1) H
theorem outM_at (π : List Nat) : ∀ (H : Hp) (k i : Nat), (outM π k H)[i]? = (H[i]?).map fun r => bif π.contains (k + i) then none else r
  | [], k, i => by simp [outM]
  | r :: H, k, 0 => by simp [outM]
  | r :: H, k, i + 1 => by
    show (outM π (k + 1) H)[i]? = _
    rw [outM_at π H (k + 1) i, List.getElem?_cons_succ, show k + 1 + i = k + (i + 1) by omega]
theorem outM_row {π : List Nat} {id : Nat} {r : Row} (h : (outM π 0 H)[id]? = some (some r)) : H[id]? = some (some r) ∧ id ∉ π := by
  rw [outM_at, Nat.zero_add] at h
  obtain ⟨x, hx, e⟩ := Option.map_eq_some_iff.1 h
  cases hc : π.contains id with
  | true => rw [hc] at e; cases e
  | false =>
    rw [hc, cond_false] at e
    subst e
    exact ⟨hx, fun hm => by rw [List.contains_iff_mem.2 hm] at hc; cases hc⟩
theorem outM_ext {π : List Nat} : HExt H blk (outM π 0 H) blk := fun id x h => by
  rw [outM_at, Nat.zero_add, h, Option.map_some]
  cases hc : π.contains id with
  | true => exact .inl rfl
  | false =>
    rw [cond_false]
    cases x with
    | none => exact .inl rfl
    | some r => exact .inr ⟨r, r, rfl, rfl, rfl, rfl, rfl⟩
def WkC (x y : AV) : Prop := ∀ (w : World) (S : Nat → Prop) (u : Value), Conc w S (fun _ => ⟨0, 0⟩) [] x u → Conc w S (fun _ => ⟨0, 0⟩) [] y u
inductive MixL (π : List Nat) (H : Hp) : List AV → List AV → Prop
  | nil : MixL π H [] []
  | loc {a c : AV} {avs cs : List AV} (e : c = renA (sig π H.length) a) (h : low2C π.length a = true) (r : MixL π H avs cs) : MixL π H (a :: avs) (c :: cs)
  | frz {a c : AV} {avs cs : List AV} (e : WkC (shr (outM π 0 H) c) a) (r : MixL π H avs cs) : MixL π H (a :: avs) (c :: cs)
theorem MixL.len {π : List Nat} {avs cs : List AV} (h : MixL π H avs cs) : avs.length = cs.length := by
  induction h with
  | nil => rfl
  | loc _ _ _ ih => simp [ih]
  | frz _ _ ih => simp [ih]
theorem MixL.get {π : List Nat} {avs cs : List AV} (h : MixL π H avs cs) : ∀ (j : Nat) (a : AV), avs[j]? = some a → ∃ c, cs[j]? = some c ∧ ((c = renA (sig π H.length) a ∧ low2C π.length a = true) ∨ WkC (shr (outM π 0 H) c) a) := by
  induction h with
  | nil => intro j a h; simp at h
  | loc e h _ ih =>
    intro j a hj
    cases j with
    | zero => cases hj; exact ⟨_, rfl, .inl ⟨e, h⟩⟩
    | succ j => exact ih j a (by simpa using hj)
  | frz e _ ih =>
    intro j a hj
    cases j with
    | zero => cases hj; exact ⟨_, rfl, .inr e⟩
    | succ j => exact ih j a (by simpa using hj)
def MixC (E : Env) (H : Hp) (ok : Nat → Bool) (g : FuncId) (avs : List AV) (K : AV → Hp → Prop) : Prop :=
  ∃ (π : List Nat) (H0 : Hp) (as0 : List AV) (post : AV → Hp → Prop), RetM E.P g H0 as0 post ∧ ViewOk π H H0 ∧ (MixL π H as0 avs ∧ π.all ok = true) ∧
    ∀ r H', post r H' → ((flatA r && noSA r) = true ∧ RowsNs H') ∧ ∃ L, LOk (sig π H.length) H' L ∧ frcH (placeL π L H) fun H2 => frc (renA (sig π H.length) r) fun v => K v H2
def ClM1 (E : Env) (H : Hp) (ok : Nat → Bool) (g : FuncId) (avs : List AV) (K : AV → Hp → Prop) : Prop := MutC E H ok g avs K ∨ (FrzC E H g avs K ∨ MixC E H ok g avs K)
def CallEnd (nt : Nat) (X : Ctx) (f : Fr) (H : Hp) (ok : Nat → Bool) (K : AV → Hp → Prop) (a : Act) : Ending → World → Prop := fun e w' =>
  ∃ r u H2 blk2 FP2, e = .returned u ∧ K r H2 ∧ (∀ i, i < H.length → ok i = false → H2[i]? = H[i]?) ∧ StB nt X f H2 blk2 FP2 a w' ∧ Conc w' (X.S FP2 H2 w'.heap.size) blk2 H2 r u
theorem clM1_run {ok : Nat → Bool} {g : FuncId} {avs : List AV} {K : AV → Hp → Prop} {us : List Value} (h : ClM1 E H ok g avs K) (s : StB nt X f H blk FP a w) (hcl : ConcL w (X.S FP H w.heap.size) blk H avs us) :
    Calls E.P g us.toArray w (CallEnd nt X f H ok K a) := by
  rcases h with h | h | h
  · obtain ⟨π, H0, as0, post, hret, hv, ⟨has, hlow⟩, hpost⟩ := h
    subst has
    rw [Bool.and_eq_true] at hlow
    obtain ⟨hRI, hB⟩ := s.view hv
    have hc0 : ConcL w (X.S FP H w.heap.size) (fun k => blk (sig π H.length k)) H0 as0 us := ⟨by rw [hcl.1, List.length_map], fun j c u hj hu =>
      (hcl.2 j (renA (sig π H.length) c) u (by rw [List.getElem?_map, hj]; rfl) hu).back (List.all_eq_true.1 hlow.1 c (List.mem_of_getElem? hj)) (fun b hb => ⟨hb, rfl⟩) hB⟩
    refine (hret.h w (X.S FP H w.heap.size) _ _ _ hRI s.gl hc0).mono fun e w' ⟨r, u, H', blk', FP', he, hq, hR', hcr, hE, hfp, hKp⟩ => ?_
    subst he
    obtain ⟨hfa, L, hL, hk⟩ := hpost r H' hq
    rw [frcH_eq, frc_eq] at hk
    obtain ⟨blk2, FP2, s2, hsub, hren⟩ := s.calledM hv hR' hE hfp hKp hL
    refine ⟨_, u, _, blk2, FP2, rfl, hk, fun i hi hoki => ?_, s2, hcr.renA hfa (fun b hb => ⟨hsub b hb, rfl⟩) hren⟩
    have him : i ∉ π := fun hm => by
      have := List.all_eq_true.1 hlow.2 i hm
      rw [hoki] at this
      cases this
    have hll : π.length ≤ L.length := by
      rw [hL.len, ← hv.len]
      rcases Nat.eq_zero_or_pos H0.length with h | h
      · omega
      · have hlt : H0.length - 1 < H0.length := by omega
        rcases hE (H0.length - 1) _ (List.getElem?_eq_getElem hlt) with h1 | ⟨_, _, _, h1, _⟩
        · have := (List.getElem?_eq_some_iff.1 h1).1; omega
        · have := (List.getElem?_eq_some_iff.1 h1).1; omega
    exact placeL_other π L H i hll hi him
  · obtain ⟨post, hret, hpost⟩ := h
    let S' : Nat → Prop := fun b => X.S FP H w.heap.size b ∨ ∃ (id : Nat) (r : Row), H[id]? = some (some r) ∧ b ∈ FP id
    have hS' : ∀ b, S' b → b < w.heap.size := fun b hb => by
      rcases hb with hb | ⟨id, r, hr, hb⟩
      · exact hb.2.1
      · exact ((s.rows id r hr).2 b hb).2
    have hc0 : ConcL w S' (fun _ => ⟨0, 0⟩) [] (avs.map (shr H)) us := ⟨by rw [hcl.1, List.length_map], fun j c u hj hu => by
      rw [List.getElem?_map] at hj
      obtain ⟨c', hc', rfl⟩ := Option.map_eq_some_iff.1 hj
      exact shr_conc (fun b hb => .inl hb) (fun id r hr => ⟨(s.rows id r hr).1, fun b hb => .inr ⟨id, r, hr, hb⟩⟩) (hcl.2 j c' u hc' hu)⟩
    have hRI : RowsIn w S' (fun _ => ⟨0, 0⟩) (fun _ => []) [] := ⟨fun id r h => by simp at h, fun i j r r' h => by simp at h, fun b hb => ⟨hS' b hb, fun id r h => by simp at h⟩⟩
    have hno : ∀ (F : Nat → List Nat) (b : Nat), ¬ inFP F [] b := fun F b ⟨id, r, h, _⟩ => by simp at h
    refine (hret.h w S' _ _ _ hRI (s.gl.mono fun b hb => ⟨.inl hb, rfl⟩) hc0).mono fun e w' ⟨r, u, H', blk', FP', he, hq, hR', hcr, hE, hfp, hKp⟩ => ?_
    subst he
    obtain ⟨⟨hfa, hns⟩, L, hL, hk⟩ := hpost r H' hq
    rw [Bool.and_eq_true] at hfa
    rw [frcH_eq, frc_eq] at hk
    have hsub0 : ∀ b, aftS (X.S FP H w.heap.size) w.heap.size w'.heap.size FP' H' b → aftS S' w.heap.size w'.heap.size FP' H' b := fun b hb => ⟨hb.1.imp_left .inl, hb.2⟩
    have hR2 : RowsIn w' (aftS (X.S FP H w.heap.size) w.heap.size w'.heap.size FP' H') blk' FP' H' :=
      ⟨fun id r hr => ⟨(hR'.rows id r hr).1.noS (hns id r hr), (hR'.rows id r hr).2⟩, hR'.apart, fun b hb => hR'.free b (hsub0 b hb)⟩
    obtain ⟨blk2, FP2, s2, hsub, hren⟩ := s.calledM (π := []) (H0 := []) ⟨List.nodup_nil, rfl, fun k i h => by simp at h⟩ hR2 (fun id x h => by simp at h) (fun b hb => .inl ((hfp b hb).resolve_right (hno _ b)))
      ⟨hKp.os, hKp.tape, hKp.output, hKp.size, fun b hb _ => hKp.block b hb (hno _ b)⟩ hL
    have hc2 : Conc w' (aftS (X.S FP H w.heap.size) w.heap.size w'.heap.size FP' H') blk' H' r u := hcr.noSA hfa.2
    refine ⟨_, u, _, blk2, FP2, rfl, hk, fun i hi _ => ?_, s2, hc2.renA hfa.1 (fun b hb => ⟨hsub b hb, rfl⟩) hren⟩
    show (placeL [] L H)[i]? = H[i]?
    have : placeL [] L H = H ++ L := by cases L <;> rfl
    rw [this, List.getElem?_append_left hi]
  · obtain ⟨π, H0, as0, post, hret, hv, ⟨hmix, hok⟩, hpost⟩ := h
    obtain ⟨hRI, hB⟩ := s.view hv
    have hπ : ∀ i ∈ π, i < H.length := fun i hi => by
      obtain ⟨k, hk⟩ := List.getElem?_of_mem hi
      obtain ⟨_, y, _, hy, _⟩ := hv.row k i hk
      exact (List.getElem?_eq_some_iff.1 hy).1
    let S' : Nat → Prop := fun b => X.S FP H w.heap.size b ∨ ∃ (id : Nat) (r : Row), (outM π 0 H)[id]? = some (some r) ∧ b ∈ FP id
    have hSS : ∀ b, X.S FP H w.heap.size b → S' b ∧ w.heap[b]? = w.heap[b]? := fun b hb => ⟨.inl hb, rfl⟩
    have hRI' : RowsIn w S' (fun k => blk (sig π H.length k)) (fun k => FP (sig π H.length k)) H0 := by
      refine ⟨fun k r hr => ⟨(hRI.rows k r hr).1.mono hSS (HExt.refl _ _) fun _ _ => rfl, (hRI.rows k r hr).2⟩, hRI.apart, fun b hb => ?_⟩
      rcases hb with hb | ⟨id, r, hr, hb⟩
      · exact hRI.free b hb
      · obtain ⟨hr1, hr2⟩ := outM_row hr
        refine ⟨((s.rows id r hr1).2 b hb).2, fun k x hx => ?_⟩
        have hk : k < π.length := by rw [← hv.len]; exact (List.getElem?_eq_some_iff.1 hx).1
        have hk' : π[k]? = some π[k] := List.getElem?_eq_getElem hk
        obtain ⟨x', y, h1, h2, h3⟩ := hv.row k _ hk'
        have hs : sig π H.length k = π[k] := by unfold sig; rw [hk']
        rw [hs]
        exact s.apart _ _ r y hr1 h2 (fun e => hr2 (e ▸ List.getElem_mem hk)) b hb
    have hc0 : ConcL w S' (fun k => blk (sig π H.length k)) H0 as0 us := ⟨by rw [hcl.1, hmix.len], fun j a u hj hu => by
      obtain ⟨c, hc, q | q⟩ := hmix.get j a hj
      · obtain ⟨e, hl⟩ := q
        subst e
        exact ((hcl.2 j _ u hc hu).back hl (fun b hb => ⟨hb, rfl⟩) hB).mono hSS (HExt.refl _ _)
      · have h1 := (hcl.2 j c u hc hu).mono (fun b hb => ⟨hb, rfl⟩) (outM_ext (π := π))
        have h2 : Conc w S' (fun _ => ⟨0, 0⟩) [] (shr (outM π 0 H) c) u := shr_conc (fun b hb => .inl hb) (fun id r hr => ⟨(s.rows id r (outM_row hr).1).1.mono (fun b hb => ⟨hb, rfl⟩) outM_ext fun _ _ => rfl, fun b hb => .inr ⟨id, r, hr, hb⟩⟩) h1
        exact (q w S' u h2).mono (fun b hb => ⟨hb, rfl⟩) fun id x h => by simp at h⟩
    refine (hret.h w S' _ _ _ hRI' (s.gl.mono hSS) hc0).mono fun e w' ⟨r, u, H', blk', FP', he, hq, hR', hcr, hE, hfp, hKp⟩ => ?_
    subst he
    obtain ⟨⟨hfa, hns⟩, L, hL, hk⟩ := hpost r H' hq
    rw [Bool.and_eq_true] at hfa
    rw [frcH_eq, frc_eq] at hk
    have hsub0 : ∀ b, aftS (X.S FP H w.heap.size) w.heap.size w'.heap.size FP' H' b → aftS S' w.heap.size w'.heap.size FP' H' b := fun b hb => ⟨hb.1.imp_left .inl, hb.2⟩
    have hR2 : RowsIn w' (aftS (X.S FP H w.heap.size) w.heap.size w'.heap.size FP' H') blk' FP' H' :=
      ⟨fun id r hr => ⟨(hR'.rows id r hr).1.noS (hns id r hr), (hR'.rows id r hr).2⟩, hR'.apart, fun b hb => hR'.free b (hsub0 b hb)⟩
    obtain ⟨blk2, FP2, s2, hsub, hren⟩ := s.calledM hv hR2 hE hfp hKp hL
    have hc2 : Conc w' (aftS (X.S FP H w.heap.size) w.heap.size w'.heap.size FP' H') blk' H' r u := hcr.noSA hfa.2
    refine ⟨_, u, _, blk2, FP2, rfl, hk, fun i hi hoki => ?_, s2, hc2.renA hfa.1 (fun b hb => ⟨hsub b hb, rfl⟩) hren⟩
    have him : i ∉ π := fun hm => by
      have := List.all_eq_true.1 hok i hm
      rw [hoki] at this
      cases this
    have hll : π.length ≤ L.length := by
      rw [hL.len, ← hv.len]
      exact hE.len
    exact placeL_other π L H i hll hi him
def Turns (H H1 : Hp) : Prop := ∀ X : Ctx, Turn X H H1
def ClQ (E : Env) (H : Hp) (ok : Nat → Bool) (g : FuncId) (avs : List AV) (K : AV → Hp → Prop) : Prop :=
  (bif avs.all clo then (∃ post, Ret E.P g avs post ∧ ∀ r, post r → frc r fun r => K r H)
    else (∃ post, Ret E.P g (avs.map (shr H)) post ∧ ∀ r, post r → scal r = true ∧ frc r fun r => K r H)) ∨
  (ClM1 E H ok g avs K ∨ ∃ H1, Turns H H1 ∧ (∀ i, i < H.length → ok i = false → H1[i]? = H[i]?) ∧ ClM1 E H1 ok g avs K)
def clM (E : Env) (f : Fr) (H : Hp) (ok : Nat → Bool) (fx : Operand) (args : List Operand) (K : AV → Hp → Prop) : Prop :=
  match ev f fx with
  | .fn g caps => (match E.F.get g with
    | some _ => frcL ((args.map (ev f) ++ caps).map nrm) fun avs => ClQ E H ok g avs K
    | none => False)
  | _ => False
theorem clM_run {ok : Nat → Bool} {fx : Operand} {args : List Operand} {K : AV → Hp → Prop} (h : clM E f H ok fx args K) (s : StB nt X f H blk FP a w) (o : Oper) (tys : Array TypeId) (ho : o.op = .call ⟨.value fx, args.toArray, tys⟩) (K' : Act → World → Prop) (Q' : Exit → Act → World → Prop)
    (hK : ∀ r u w' H2 blk2 FP2, K r H2 → (∀ i, i < H.length → ok i = false → H2[i]? = H[i]?) → StB nt X f H2 blk2 FP2 a w' → Conc w' (X.S FP2 H2 w'.heap.size) blk2 H2 r u → K' (a.put o.dst u) w') : o.wp E.P a w K' Q' := by
  obtain ⟨dst, op, ty, pos, after, gd⟩ := o
  cases ho
  unfold clM at h
  split at h
  · rename_i g caps hf
    split at h
    · rename_i x hF
      rw [frcL_eq] at h
      rcases h with h | h
      · refine clK_run (K := fun r => K r H) ?_ s ⟨dst, _, ty, pos, after, gd⟩ tys rfl K' Q' fun r u w' hk hb hc => ?_
        · unfold clK
          rw [hf]
          dsimp only
          rw [hF]
          dsimp only
          rw [frcL_eq]
          exact h
        · exact hK r u w' H blk FP hk (fun _ _ _ => rfl) (s.called hb).1 hc
      · have hent := E.fn hF
        obtain ⟨us, hfv, hfl, hfu⟩ := inv_fn (hf ▸ s.ev fx)
        have hcl0 := (eval_list s args).append (bs := caps) (vs := us) ⟨hfl, hfu⟩
        have hcl : ConcL w (X.S FP H w.heap.size) blk H ((args.map (ev f) ++ caps).map nrm) (args.map a.eval ++ us) := ⟨by rw [List.length_map]; exact hcl0.1, fun j c u hj hu => by
          rw [List.getElem?_map] at hj
          obtain ⟨c', hc', rfl⟩ := Option.map_eq_some_iff.1 hj
          exact (hcl0.2 j c' u hc' hu).nrm⟩
        generalize (args.map (ev f) ++ caps).map nrm = as1 at h hcl
        have hrun : (execOp a.eval ⟨dst, .call ⟨.value fx, args.toArray, tys⟩, ty, pos, after, gd⟩).run E.P w = .ok (.enter g (args.map a.eval ++ us).toArray) w := by
          have := hent (args.map a.eval ++ us).toArray w
          simp [execOp, resolve, hfv, Deferred.ofValue, invoke]
          simpa using this
        unfold Oper.wp
        rw [hrun]
        have main : Calls E.P g (args.map a.eval ++ us).toArray w (CallEnd nt X f H ok K a) := by
          rcases h with h | ⟨H1, ht, hok, h⟩
          · exact clM1_run h s hcl
          · obtain ⟨b1, F1, s1, e1, hs1⟩ := s.turn (ht X)
            have hcl1 : ConcL w (X.S F1 H1 w.heap.size) b1 H1 as1 (args.map a.eval ++ us) := ⟨hcl.1, fun j c u hj hu => (hcl.2 j c u hj hu).mono (fun b hb => ⟨hs1 b hb, rfl⟩) e1⟩
            refine (clM1_run h s1 hcl1).mono fun e w' ⟨r, u, H2, blk2, FP2, he, hk, hsame, s2, hc⟩ => ⟨r, u, H2, blk2, FP2, he, hk, fun i hi hoki => ?_, s2, hc⟩
            rw [hsame i (Nat.lt_of_lt_of_le hi e1.len) hoki]
            exact hok i hi hoki
        refine main.mono fun e w' ⟨r, u, H2, blk2, FP2, he, hk, hsame, s2, hc⟩ => ?_
        subst he
        exact hK _ u w' _ blk2 FP2 hk hsame s2 hc
    · cases h
  · cases h
end
end Go.Proofs.Ytdeledeopippfaa
