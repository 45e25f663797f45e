/- Texts for VSectionsP. -/
import Derived.Test.YtdeledeopippfaaVx3
namespace Go.Proofs.Ytdeledeopippfaa
open Go Go.RowKit
set_option linter.unusedVariables false
set_option linter.unusedSimpArgs false
section
def avc : AV → List AV
  | .agg cs => cs
  | x => [x]
section
variable {E : Env} {P : Program} {nt : Nat} {X : Ctx} {f : Fr} {H : Hp} {ty : TypeId} {a : Act} {w : World} {blk : Nat → BC} {FP : Nat → List Nat}
theorem avc_conc {S : Nat → Prop} {x : AV} {u : Value} (h : Conc w S blk H x u) (h1 : (avc x).all (one2 H) = true) :
    ∃ us : List Value, u.cells = us.toArray ∧ us.length = (avc x).length ∧ ∀ (j : Nat) (c : AV), (avc x)[j]? = some c → ∃ v, us[j]? = some v ∧ v.oneCell' = true ∧ Conc w S blk H c v := by
  by_cases hx : ∃ cs, x = .agg cs
  · obtain ⟨cs, rfl⟩ := hx
    obtain ⟨us, rfl, hl, hu⟩ := inv_agg h
    refine ⟨us, rfl, hl, fun j c hj => ?_⟩
    have hlt : j < us.length := by rw [hl]; exact (List.getElem?_eq_some_iff.1 hj).1
    have hc := hu j c us[j] hj (List.getElem?_eq_getElem hlt)
    exact ⟨_, List.getElem?_eq_getElem hlt, hc.one2 (List.all_eq_true.1 h1 c (List.mem_of_getElem? hj)), hc⟩
  · have e : avc x = [x] := by
      cases x <;> first | rfl | exact absurd ⟨_, rfl⟩ hx
    rw [e] at h1 ⊢
    have ho := h.one2 (by simpa using h1)
    refine ⟨[u], ?_, rfl, fun j c hj => ?_⟩
    · cases u <;> simp_all [Value.cells, Value.oneCell']
    · cases j with
      | zero => cases hj; exact ⟨u, rfl, ho, h⟩
      | succ j => cases hj
def boxRow (cs : List AV) : Row := ⟨cs.length, 1, fun _ j => cs.getD j .any, .box⟩
def snocK : Hp → Option Row → (Hp → Prop) → Prop
  | [], r, K => K [r]
  | x :: t, r, K => snocK t r fun t' => K (x :: t')
theorem snocK_eq : ∀ (H : Hp) (r : Option Row) (K : Hp → Prop), snocK H r K = K (H ++ [r])
  | [], r, K => rfl
  | x :: t, r, K => by unfold snocK; rw [snocK_eq t]; rfl
def setK : Hp → Nat → Option Row → (Hp → Prop) → Prop
  | [], _, _, K => K []
  | x :: t, 0, r, K => K (r :: t)
  | x :: t, n + 1, r, K => setK t n r fun t' => K (x :: t')
theorem setK_eq : ∀ (H : Hp) (n : Nat) (r : Option Row) (K : Hp → Prop), setK H n r K = K (H.set n r)
  | [], n, r, K => by cases n <;> rfl
  | x :: t, 0, r, K => rfl
  | x :: t, n + 1, r, K => by unfold setK; rw [setK_eq t]; rfl
theorem po_val {o : Oper} {K : Fr → Hp → Prop} {d : Nat} {v : AV} {H' : Hp} (hd : o.dst = some d) (hn : Nat.blt d nt = true)
    (hop : ∀ blk FP a w, StB nt X f H blk FP a w → ∃ u w' blk' FP', (execOp a.eval o).run P w = .ok (.value u) w' ∧ StB nt X f H' blk' FP' a w' ∧ Conc w' (X.S FP' H' w'.heap.size) blk' H' v u)
    (h : K ((d, v) :: f) H') : PO P nt X o f H K := by
  rintro a w ⟨blk, FP, s⟩ K' Q' hK
  obtain ⟨u, w', blk', FP', hr, s', hc⟩ := hop blk FP a w s
  unfold Oper.wp
  rw [hr]
  show K' (a.put o.dst u) w'
  rw [hd]
  exact hK _ _ _ _ h ⟨blk', FP', s'.put (Nat.le_of_ble_eq_true hn) hc⟩
theorem po_skip {o : Oper} {K : Fr → Hp → Prop} {H' : Hp} (hd : o.dst = none)
    (hop : ∀ blk FP a w, StB nt X f H blk FP a w → ∃ w' blk' FP', (execOp a.eval o).run P w = .ok .skip w' ∧ StB nt X f H' blk' FP' a w')
    (h : K f H') : PO P nt X o f H K := by
  rintro a w ⟨blk, FP, s⟩ K' Q' hK
  obtain ⟨w', blk', FP', hr, s'⟩ := hop blk FP a w s
  unfold Oper.wp
  rw [hr]
  show K' (a.put o.dst undef) w'
  rw [hd]
  exact hK _ _ _ _ h ⟨blk', FP', s'⟩
theorem po_rd {d : Nat} {op : Op} {pos : String} {after : Array Edge} {gd : Option (Nat × Bool)} {K : Fr → Hp → Prop} {v : AV} (hr : RD P nt X op ty f H v) (hn : Nat.blt d nt = true) (h : K ((d, v) :: f) H) : PO P nt X ⟨some d, op, ty, pos, after, gd⟩ f H K :=
  po_val rfl hn (fun blk FP a w s => by
    obtain ⟨u, hu, hc⟩ := hr blk FP a w s
    exact ⟨u, w, blk, FP, hu _ _ _ _, s, hc⟩) h
theorem new_ptr {S : Nat → Prop} (r : Row) (N c : Nat) (h : 0 < r.cap) : Conc w S (fun id => if id = H.length then ⟨N, c⟩ else blk id) (H ++ [some r]) (.ptr H.length 0 0) (.pointer (some ⟨N, 0, none⟩)) := by
  have hl : (H ++ [some r])[H.length]? = some (some r) := by simp
  have := Conc.ptr (w := w) (S := S) (blk := fun id => if id = H.length then ⟨N, c⟩ else blk id) (j := 0) (off := 0) r hl h (Nat.zero_le _)
  simpa using this
def bxK (nt : Nat) (f : Fr) (H : Hp) (d : Nat) (x : Operand) (K : AV → Hp → Prop) : Prop :=
  bif Nat.blt d nt then frc (ev f x) fun v => bif (avc v).all (one2 H) then snocK H (some (boxRow (avc v))) fun H' => K (.ptr H.length 0 0) H' else False else False
theorem bxK_ok {d : Nat} {t : TypeId} {x : Operand} {pos : String} {after : Array Edge} {gd : Option (Nat × Bool)} {K : Fr → Hp → Prop} (h : bxK nt f H d x fun v H => K ((d, v) :: f) H) : PO P nt X ⟨some d, .box t x, ty, pos, after, gd⟩ f H K := by
  unfold bxK at h
  cases hn : Nat.blt d nt with
  | false => rw [hn] at h; cases h
  | true =>
    rw [hn, cond_true, frc_eq] at h
    cases h1 : (avc (ev f x)).all (one2 H) with
    | false => rw [h1] at h; cases h
    | true =>
      rw [h1, cond_true, snocK_eq] at h
      refine po_val rfl hn (fun blk FP a w s => ?_) h
      obtain ⟨us, hu, hl, hc⟩ := avc_conc (s.ev x) h1
      refine ⟨.pointer (some ⟨w.heap.size, 0, none⟩), w.alloc (.cells us.toArray t (0, 0)), _, _, ?_, s.push t us.toArray (boxRow (avc (ev f x))) rfl (by simp [boxRow]) (by simp [boxRow, hl]) (fun i j hi hj => ?_), new_ptr _ _ _ (by simp [boxRow])⟩
      · simp [execOp, Instr.box, newVar, newRow, hu]
      · obtain rfl : i = 0 := by simp only [boxRow] at hi; omega
        simp only [boxRow] at hj
        obtain ⟨v, hv, ho, hcv⟩ := hc j _ (List.getElem?_eq_getElem hj)
        exact ⟨v, by simpa using hv, ho, by simpa [boxRow, hj] using hcv⟩
def alK (E : Env) (nt : Nat) (H : Hp) (d : Nat) (t : TypeId) (K : AV → Hp → Prop) : Prop :=
  match E.T.get t with
  | none => False
  | some ti => (match ti.zero with
    | none => False
    | some zs => bif Nat.blt d nt then frcL (zs.map cv) fun cs => bif zs.all Value.oneCell' then snocK H (some (boxRow cs)) fun H' => K (.ptr H.length 0 0) H' else False else False)
theorem alK_ok {d : Nat} {t : TypeId} {pos : String} {after : Array Edge} {gd : Option (Nat × Bool)} {K : Fr → Hp → Prop} (h : alK E nt H d t fun v H => K ((d, v) :: f) H) : PO E.P nt X ⟨some d, .alloc t, ty, pos, after, gd⟩ f H K := by
  unfold alK at h
  split at h
  · cases h
  rename_i ti hti
  split at h
  · cases h
  rename_i zs hzs
  cases hn : Nat.blt d nt with
  | false => rw [hn] at h; cases h
  | true =>
    rw [hn, cond_true, frcL_eq] at h
    cases h1 : zs.all Value.oneCell' with
    | false => rw [h1] at h; cases h
    | true =>
      rw [h1, cond_true, snocK_eq] at h
      refine po_val rfl hn (fun blk FP a w s => ?_) h
      obtain ⟨i, z, hi, hz, hzc⟩ := (E.ty hti).zero zs hzs
      have hrun : (zeroValue t).run E.P w = .ok z w := by simp [zeroValue, typeInfo, hi, hz]
      refine ⟨.pointer (some ⟨w.heap.size, 0, none⟩), w.alloc (.cells z.cells t (0, 0)), _, _, ?_, s.push t z.cells (boxRow (zs.map cv)) rfl (by simp [boxRow]) (by simp [boxRow, ← hzc]) (fun i j hi hj => ?_), new_ptr _ _ _ (by simp [boxRow])⟩
      · simp [execOp, Instr.alloc, hrun, newVar, newRow]
      · obtain rfl : i = 0 := by simp only [boxRow] at hi; omega
        simp only [boxRow, List.length_map] at hj
        have hzj : z.cells[j]? = some zs[j] := by
          have : z.cells.toList[j]? = some zs[j] := by rw [hzc]; exact List.getElem?_eq_getElem hj
          simpa using this
        have hcv : Conc w (X.S FP H w.heap.size) blk H (cv zs[j]) zs[j] := conc_cv _
        refine ⟨zs[j], by simpa using hzj, List.all_eq_true.1 h1 _ (List.getElem_mem hj), by simpa [boxRow, hj] using hcv⟩
def upd (es : Nat → Nat → AV) (j off : Nat) (cs : List AV) : Nat → Nat → AV :=
  fun i k => bif (Nat.ble off k && Nat.blt k (off + cs.length)) && Nat.beq i j then cs.getD (k - off) .any else es i k
theorem upd_in {es : Nat → Nat → AV} {j off : Nat} {cs : List AV} {k : Nat} (h : k < cs.length) : upd es j off cs j (off + k) = cs[k] := by
  unfold upd
  have h1 : Nat.ble off (off + k) = true := Nat.ble_eq_true_of_le (by omega)
  have h2 : Nat.blt (off + k) (off + cs.length) = true := Nat.ble_eq_true_of_le (by omega)
  rw [Nat.beq_refl, h1, h2]
  simp [h]
theorem upd_out {es : Nat → Nat → AV} {i j off : Nat} {cs : List AV} {k : Nat} (h : ¬ (i = j ∧ off ≤ k ∧ k < off + cs.length)) : upd es j off cs i k = es i k := by
  unfold upd
  have : ((Nat.ble off k && Nat.blt k (off + cs.length)) && Nat.beq i j) = false := by
    cases hb : ((Nat.ble off k && Nat.blt k (off + cs.length)) && Nat.beq i j) with
    | false => rfl
    | true =>
      rw [Bool.and_eq_true, Bool.and_eq_true] at hb
      exact absurd ⟨Nat.eq_of_beq_eq_true hb.2, Nat.le_of_ble_eq_true hb.1.1, Nat.le_of_ble_eq_true hb.1.2⟩ h
  rw [this]; rfl
theorem store_index {i i' j sz off n : Nat} (hj : j < sz) (hoff : off + n ≤ sz) (hne : i' ≠ i) : i' * sz + j < i * sz + off ∨ i * sz + off + n ≤ i' * sz + j := by
  rcases Nat.lt_or_gt_of_ne hne with h | h
  · left
    have := Nat.mul_le_mul_right sz (show i' + 1 ≤ i from h)
    rw [Nat.succ_mul] at this
    omega
  · right
    have := Nat.mul_le_mul_right sz (show i + 1 ≤ i' from h)
    rw [Nat.succ_mul] at this
    omega
def stK (E : Env) (f : Fr) (H : Hp) (t : TypeId) (x y : Operand) (K : Hp → Prop) : Prop :=
  match E.T.get t with
  | none => False
  | some ti => (match ev f x with
    | .ptr id j off => frc (ev f y) fun v => (match H[id]? with
      | some (some r) => bif Nat.beq (avc v).length ti.sz && (Nat.ble (off + ti.sz) r.sz && (avc v).all (one2 H)) then setK H id (some ⟨r.sz, r.cap, upd r.es j off (avc v), r.k⟩) K else False
      | _ => False)
    | _ => False)
theorem stK_ok {t : TypeId} {x y : Operand} {pos : String} {after : Array Edge} {gd : Option (Nat × Bool)} {K : Fr → Hp → Prop} (h : stK E f H t x y (K f)) : PO E.P nt X ⟨none, .store t x y, ty, pos, after, gd⟩ f H K := by
  unfold stK at h
  split at h
  · cases h
  rename_i ti hti
  have hT := E.ty hti
  split at h
  · rename_i id j off hx
    rw [frc_eq] at h
    split at h
    · rename_i r hr
      cases hb : (Nat.beq (avc (ev f y)).length ti.sz && (Nat.ble (off + ti.sz) r.sz && (avc (ev f y)).all (one2 H))) with
      | false => rw [hb] at h; cases h
      | true =>
        rw [hb, cond_true, setK_eq] at h
        rw [Bool.and_eq_true, Bool.and_eq_true] at hb
        obtain ⟨h1, h2, h3⟩ := hb
        have hlen := Nat.eq_of_beq_eq_true h1
        have hle := Nat.le_of_ble_eq_true h2
        refine po_skip rfl (fun blk FP a w s => ?_) h
        obtain ⟨hev, hj, _⟩ := inv_ptr hr (hx ▸ s.ev x)
        obtain ⟨us, hu, hl, hc⟩ := avc_conc (s.ev y) h3
        rcases (s.rows id r hr).1 with hrow | ⟨h0, hle0, _, _, ty', cur, F, hb, hcur, hall, hcells, hF1, hF2⟩
        · omega
        have hmul : j * r.sz + r.sz ≤ (blk id).c * r.sz := by
          rw [← Nat.succ_mul]; exact Nat.mul_le_mul_right _ (show j + 1 ≤ _ by omega)
        have h1u : ∀ v ∈ us, v.oneCell' = true := fun v hv => by
          obtain ⟨k, hk⟩ := List.getElem?_of_mem hv
          have hlt : k < (avc (ev f y)).length := by rw [← hl]; exact (List.getElem?_eq_some_iff.1 hk).1
          obtain ⟨v', hv', ho, _⟩ := hc k _ (List.getElem?_eq_getElem hlt)
          rw [hk] at hv'
          cases hv'
          exact ho
        have hrun := run_storeZ E.P (blk id).b (j * r.sz + off) ty' us 0 cur w hb (by omega) h1u
        simp only [Nat.add_zero] at hrun
        refine ⟨_, blk, FP, ?_, s.row hr (upd r.es j off (avc (ev f y))) (cur.toList.take (j * r.sz + off) ++ us ++ cur.toList.drop (j * r.sz + off + us.length)).toArray h0 (by simp [hcur]; omega) (fun u hu => ?_)
          (fun i k => if i = j ∧ off ≤ k ∧ k < off + (avc (ev f y)).length then [] else F i k) (fun i k hi hk => ?_) (fun i k hi hk x hx => ?_) (fun i k i' k' hi hk hi' hk' hne x hx hx' => ?_)⟩
        · simp [execOp, hev, Instr.storeAt, Instr.sureAddr, storeVar, run_size hT, hu, hl, hlen, hrun]
        · simp only [List.mem_toArray, List.mem_append] at hu
          rcases hu with (hu | hu) | hu
          · exact hall u (by simpa using List.mem_of_mem_take hu)
          · exact h1u u hu
          · exact hall u (by simpa using List.mem_of_mem_drop hu)
        · have hmin2 : (List.take (j * r.sz + off) cur.toList).length = j * r.sz + off := by simp; omega
          by_cases hin : i = j ∧ off ≤ k ∧ k < off + (avc (ev f y)).length
          · obtain ⟨rfl, hk1, hk2⟩ := hin
            obtain ⟨v, hv, ho, hcv⟩ := hc (k - off) _ (List.getElem?_eq_getElem (by omega))
            refine ⟨v, ?_, ho, ?_⟩
            · simp only [List.getElem?_toArray, List.append_assoc]
              rw [List.getElem?_append_right (by omega), hmin2, List.getElem?_append_left (by omega), show i * r.sz + k - (i * r.sz + off) = k - off by omega]
              exact hv
            · rw [if_pos ⟨rfl, hk1, hk2⟩]
              have := upd_in (es := r.es) (j := i) (off := off) (cs := avc (ev f y)) (k := k - off) (by omega)
              rw [show off + (k - off) = k by omega] at this
              rw [this]
              exact .plain hcv
          · rw [if_neg hin, upd_out hin]
            obtain ⟨u, hu', ho, hcu⟩ := hcells i k hi hk
            refine ⟨u, ?_, ho, hcu⟩
            simp only [List.getElem?_toArray, List.append_assoc]
            have hcase : i * r.sz + k < j * r.sz + off ∨ j * r.sz + off + us.length ≤ i * r.sz + k := by
              by_cases hij : i = j
              · subst hij; omega
              · exact store_index hk (by omega) hij
            rcases hcase with h | h
            · rw [List.getElem?_append_left (by omega), List.getElem?_take_of_lt h]
              simpa using hu'
            · rw [List.getElem?_append_right (by omega), hmin2, List.getElem?_append_right (by omega), List.getElem?_drop]
              rw [show j * r.sz + off + us.length + (i * r.sz + k - (j * r.sz + off) - us.length) = i * r.sz + k by omega]
              simpa using hu'
        · split at hx
          · simp at hx
          · exact hF1 i k hi hk x hx
        · split at hx
          · simp at hx
          · split at hx'
            · simp at hx'
            · exact hF2 i k i' k' hi hk hi' hk' hne x hx hx'
    · cases h
  · cases h
def overL (cells : List AV) (o : Nat) (cs : List AV) : List AV := cells.take o ++ cs ++ cells.drop (o + cs.length)
def fillA (H : Hp) (pl : List (Nat × Nat × Bool)) : List AV → List (Nat × AV) → Option (List AV)
  | cells, [] => some cells
  | cells, (i, x) :: rest =>
    match pl[i]? with
    | some (o, n, _) => bif Nat.beq (avc x).length n && (Nat.ble (o + n) cells.length && (avc x).all (one2 H)) then fillA H pl (overL cells o (avc x)) rest else none
    | none => none
theorem fold_set (off : Nat) : ∀ (l : List Value) (k : Nat) (cells : Array Value), off + k + l.length ≤ cells.size →
    ((l.zipIdx k).foldl (fun cs (p : Value × Nat) => cs.setIfInBounds (off + p.2) p.1) cells).size = cells.size ∧
    ∀ q, ((l.zipIdx k).foldl (fun cs (p : Value × Nat) => cs.setIfInBounds (off + p.2) p.1) cells)[q]? = if off + k ≤ q ∧ q < off + k + l.length then l[q - off - k]? else cells[q]?
  | [], k, cells, _ => ⟨rfl, fun q => by rw [if_neg (by simp only [List.length_nil]; omega)]; rfl⟩
  | v :: l, k, cells, h => by
    simp only [List.zipIdx_cons, List.foldl_cons]
    simp only [List.length_cons] at h
    obtain ⟨h1, h2⟩ := fold_set off l (k + 1) (cells.setIfInBounds (off + k) v) (by simp; omega)
    refine ⟨by rw [h1]; simp, fun q => ?_⟩
    rw [h2]
    by_cases hq : off + (k + 1) ≤ q ∧ q < off + (k + 1) + l.length
    · rw [if_pos hq, if_pos (by simp; omega), show q - off - k = (q - off - (k + 1)) + 1 by omega]
      rfl
    · rw [if_neg hq]
      by_cases hq2 : q = off + k
      · subst hq2
        rw [if_pos (by simp), Array.getElem?_setIfInBounds_self_of_lt (by omega), show off + k - off - k = 0 by omega]
        rfl
      · rw [if_neg (by simp; omega), Array.getElem?_setIfInBounds_ne (fun e => hq2 e.symm)]
theorem fillA_run {S : Nat → Prop} (pl : List (Nat × Nat × Bool)) : ∀ (parts : List (Nat × AV)) (us : List Value) (cells : List AV) (cur : Array Value) (cs : List AV), fillA H pl cells parts = some cs →
    us.length = parts.length → (∀ (j : Nat) (p : Nat × AV) (u : Value), parts[j]? = some p → us[j]? = some u → Conc w S blk H p.2 u) →
    cur.size = cells.length → (∀ (j : Nat) (c : AV) (u : Value), cells[j]? = some c → cur[j]? = some u → Conc w S blk H c u) →
    ∃ out : Array Value, Instr.fill ((pl.map fun x => (x.1, x.2.1)).toArray[·]?) cur ((parts.zip us).map fun p => (p.1.1, p.2)) = some out ∧ out.size = cs.length ∧ ∀ (j : Nat) (c : AV) (u : Value), cs[j]? = some c → out[j]? = some u → Conc w S blk H c u
  | [], us, cells, cur, cs, h, hl, hp, hsz, hc => by
    cases h
    exact ⟨cur, rfl, hsz, hc⟩
  | (i, x) :: rest, [], cells, cur, cs, h, hl, hp, hsz, hc => by cases hl
  | (i, x) :: rest, u :: us, cells, cur, cs, h, hl, hp, hsz, hc => by
    unfold fillA at h
    cases hpl : pl[i]? with
    | none => rw [hpl] at h; cases h
    | some on =>
      obtain ⟨o, n, ag⟩ := on
      rw [hpl] at h
      dsimp only at h
      cases hb : (Nat.beq (avc x).length n && (Nat.ble (o + n) cells.length && (avc x).all (one2 H))) with
      | false => rw [hb] at h; cases h
      | true =>
        rw [hb] at h
        rw [Bool.and_eq_true, Bool.and_eq_true] at hb
        obtain ⟨h1, h2, h3⟩ := hb
        have hn := Nat.eq_of_beq_eq_true h1
        have hle := Nat.le_of_ble_eq_true h2
        obtain ⟨vs, hv, hvl, hvc⟩ := avc_conc (hp 0 (i, x) u rfl rfl) h3
        obtain ⟨f1, f2⟩ := fold_set o vs 0 cur (by simp only [Nat.add_zero]; rw [hvl, hsz]; dsimp only; omega)
        have hvn : vs.length = n := by rw [hvl]; exact hn
        have hover : (overL cells o (avc x)).length = cells.length := by
          simp [overL]
          omega
        obtain ⟨out, e1, e2, e3⟩ := fillA_run pl rest us (overL cells o (avc x)) ((vs.zipIdx 0).foldl (fun cs (p : Value × Nat) => cs.setIfInBounds (o + p.2) p.1) cur) cs h (by simpa using hl)
          (fun j p v hj hv => hp (j + 1) p v (by simpa using hj) (by simpa using hv)) (by rw [f1, hover]; exact hsz) (fun j c v hj hv => by
            rw [f2] at hv
            unfold overL at hj
            rw [List.append_assoc] at hj
            by_cases hlo : j < o
            · rw [if_neg (by omega)] at hv
              rw [List.getElem?_append_left (by simp; omega), List.getElem?_take_of_lt hlo] at hj
              exact hc j c v hj hv
            · rw [List.getElem?_append_right (by simp; omega)] at hj
              have hto : (cells.take o).length = o := by simp; omega
              rw [hto] at hj
              by_cases hmid : j < o + n
              · rw [List.getElem?_append_left (by omega)] at hj
                rw [if_pos (by omega), Nat.sub_zero] at hv
                obtain ⟨v', hv', _, hcv⟩ := hvc (j - o) c hj
                rw [hv] at hv'
                cases hv'
                exact hcv
              · rw [List.getElem?_append_right (by omega), List.getElem?_drop, show o + (avc x).length + (j - o - (avc x).length) = j by omega] at hj
                rw [if_neg (by omega)] at hv
                exact hc j c v hj hv)
        refine ⟨out, ?_, e2, e3⟩
        simp only [List.zip_cons_cons, List.map_cons, Instr.fill, List.getElem?_toArray, List.getElem?_map, hpl, Option.map_some]
        rw [if_neg (by rw [hv, hsz]; simp; omega), hv]
        have : (vs.toArray.zipIdx.foldl (fun cs (p : Value × Nat) => cs.setIfInBounds (o + p.2) p.1) cur) = ((vs.zipIdx 0).foldl (fun cs (p : Value × Nat) => cs.setIfInBounds (o + p.2) p.1) cur) := by simp
        rw [← this] at e1
        simpa using e1
theorem places_of : ∀ {fs : List Field} {l : List (Nat × Nat × Bool)}, fdsOk P fs l = true → fs.mapM (fun f => (P.info? f.type).map fun i => (f.offset, i.size)) = some (l.map fun x => (x.1, x.2.1))
  | [], [], _ => rfl
  | [], _ :: _, h => by cases h
  | _ :: _, [], h => by cases h
  | f :: fs, (o, n, a) :: r, h => by
    unfold fdsOk at h
    rw [Bool.and_eq_true, Bool.and_eq_true, Bool.and_eq_true] at h
    obtain ⟨h1, h2, h3, h4⟩ := h
    have ih := places_of h4
    cases hi : P.info? f.type with
    | none => rw [hi] at h2; cases h2
    | some i =>
      rw [hi] at h2
      have e1 := Nat.eq_of_beq_eq_true h1
      have e2 := Nat.eq_of_beq_eq_true h2
      subst e1 e2
      simp [List.mapM_cons, hi, ih]
def bdK (E : Env) (f : Fr) (H : Hp) (t : TypeId) (kx : Array (Nat × Operand)) (K : AV → Prop) : Prop :=
  match E.T.get t with
  | none => False
  | some ti => (match ti.k, ti.zero with
    | .st, some zs => (match fillA H ti.flds (zs.map cv) (kx.toList.map fun p => (p.1, ev f p.2)) with
      | some cs => K (.agg cs)
      | none => False)
    | _, _ => False)
theorem bdK_ok {t : Nat} {kx : Array (Nat × Operand)} {K : AV → Prop} (h : bdK E f H t kx K) : ∃ v, RD E.P nt X (.build t kx) ty f H v ∧ K v := by
  unfold bdK at h
  split at h
  · cases h
  rename_i ti hti
  have hT := E.ty hti
  split at h
  · rename_i zs hk hzs
    split at h
    · rename_i cs hfill
      refine ⟨_, fun blk FP a w s => ?_, h⟩
      obtain ⟨i, z, hi, hz, hzc⟩ := hT.zero zs hzs
      have hkk := hT.k
      rw [hk] at hkk
      unfold tkOk at hkk
      dsimp only at hkk
      split at hkk
      · rename_i fs hu
        obtain ⟨out, h1, h2, h3⟩ := fillA_run (w := w) (S := X.S FP H w.heap.size) (blk := blk) (H := H) ti.flds _ (kx.toList.map fun p => a.eval p.2) _ z.cells cs hfill (by simp) (fun j p u hj hu => by
          rw [List.getElem?_map] at hj hu
          cases hk : kx.toList[j]? with
          | none => rw [hk] at hj; cases hj
          | some q =>
            rw [hk] at hj hu
            cases hj
            cases hu
            exact s.ev q.2) (by simp [← hzc]) (fun j c u hj hu => by
          rw [List.getElem?_map] at hj
          have : z.cells.toList[j]? = some u := by simpa using hu
          rw [hzc] at this
          rw [this] at hj
          cases hj
          exact conc_cv u)
        have hzip : (((kx.toList.map fun p => (p.1, ev f p.2)).zip (kx.toList.map fun p => a.eval p.2)).map fun p => (p.1.1, p.2)) = (kx.map fun p => (p.1, a.eval p.2)).toList := by
          rw [List.zip_map', List.map_map, Array.toList_map]
          rfl
        rw [hzip] at h1
        have hbuilt : E.P.built t (kx.map fun p => (p.1, a.eval p.2)).toList = some out := by
          unfold Program.built
          rw [hi, hu]
          dsimp only
          rw [hz, places_of hkk]
          exact h1
        refine ⟨.agg out, fun _ _ _ _ => ?_, ?_⟩
        · simp only [execOp]
          have := run_build w t _ out hbuilt
          simp [this]
        · have := Conc.agg (w := w) (S := X.S FP H w.heap.size) (blk := blk) (H := H) cs out.toList (by simpa using h2) (fun j c u hj hu => h3 j c u hj (by simpa using hu))
          simpa using this
      · cases hkk
    · cases h
  · cases h
def frzO : AV → AV
  | .ow sz n g => .sl sz n (fun i j => frzO (g i j))
  | .ptr .. | .row .. | .rs .. | .mp _ | .agg _ | .tup _ | .fn _ _ => .any
  | .kb b => .b b
  | x => x
def shrC : Nat → Hp → AV → AV
  | 0, H, x => frzO x
  | k + 1, H, x => (match x with
    | .ptr id j off => (match H[id]? with
      | some (some r) => .rf (r.sz - off) (fun i => shrC k H (r.es j (off + i)))
      | _ => .any)
    | .row id n => (match H[id]? with
      | some (some r) => .sl r.sz n (fun i j => shrC k H (r.es i j))
      | _ => .any)
    | .rs id o n => (match H[id]? with
      | some (some r) => .sl r.sz n (fun i j => shrC k H (r.es (o + i) j))
      | _ => .any)
    | .mp id => (match H[id]? with
      | some (some r) => (match r.k with | .mp ak f _ => .fm ak f | _ => .any)
      | _ => .any)
    | .ow sz n g => .sl sz n (fun i j => shrC k H (g i j))
    | .agg _ | .tup _ => .any
    | .fn f cs => (match cs with | [] => .fn f [] | _ => .any)
    | .kb b => .b b
    | x => x)
def shr (H : Hp) : AV → AV
  | .agg cs => .agg (cs.map (shrC 5 H))
  | .tup cs => .tup (cs.map fun c => match c with | .agg ds => .agg (ds.map (shrC 5 H)) | c => shrC 5 H c)
  | .fn f cs => .fn f (cs.map (shrC 5 H))
  | x => shrC 5 H x
def ConcL (w : World) (S : Nat → Prop) (blk : Nat → BC) (H : Hp) (avs : List AV) (us : List Value) : Prop :=
  us.length = avs.length ∧ ∀ (j : Nat) (c : AV) (u : Value), avs[j]? = some c → us[j]? = some u → Conc w S blk H c u
theorem frzO_own {S S' : Nat → Prop} {blk' : Nat → BC} (hS : ∀ b, S b → S' b) :
    ∀ (x : AV) (u : Value) (fp : List Nat), Own w S blk H x u fp → (∀ b ∈ fp, S' b) → (frzO x).idf ∧ Conc w S' blk' [] (frzO x) u := by
  have same : ∀ (x : AV) (u : Value), Conc w S blk H x u → x.idf → x.idf ∧ Conc w S' blk' [] x u := fun x u h hx =>
    ⟨hx, (h.free (blk' := blk') (H' := []) hx).mono (fun b hb => ⟨hS b hb, rfl⟩) (HExt.refl _ _)⟩
  have main : ∀ (x : AV), (∀ sz n g, x = .ow sz n g → ∀ i j (u : Value) (fp : List Nat), Own w S blk H (g i j) u fp → (∀ b ∈ fp, S' b) → (frzO (g i j)).idf ∧ Conc w S' blk' [] (frzO (g i j)) u) → ∀ (u : Value) (fp : List Nat), Own w S blk H x u fp → (∀ b ∈ fp, S' b) → (frzO x).idf ∧ Conc w S' blk' [] (frzO x) u := by
    intro x ih u fp h hfp
    cases x with
    | ptr => exact ⟨trivial, .any u⟩
    | row => exact ⟨trivial, .any u⟩
    | rs => exact ⟨trivial, .any u⟩
    | mp => exact ⟨trivial, .any u⟩
    | ow sz n g =>
      cases h with
      | plain h => cases h
      | ow0 a => exact ⟨fun i j hi' hj' => by omega, .sl0 _ 0 (Nat.zero_le _)⟩
      | ow b cap ty' cur U F hb hcur hn hm h0 h1 hc hf hu hF =>
        have hi : ∀ i j, i < n → j < sz → (frzO (g i j)).idf ∧ Conc w S' blk' [] (frzO (g i j)) (U i j) := fun i j hi hj =>
          ih sz n g rfl i j _ _ (hu i j hi hj) fun b hb => hfp b (List.mem_cons_of_mem _ (mem_cat hi hj hb))
        refine ⟨fun i j hi' hj' => (hi i j hi' hj').1, .sl b 0 cap U (hfp _ (by simp)) hn hm (fun i j hi' hj' => ?_) (fun i j hi' hj' => (hi i j hi' hj').1) (fun i j hi' hj' => (hi i j hi' hj').2)⟩
        rw [RowAt.cell hb, Nat.zero_add]
        exact hc i j hi' hj'
    | agg => exact ⟨trivial, .any u⟩
    | tup => exact ⟨trivial, .any u⟩
    | fn => exact ⟨trivial, .any u⟩
    | sl => have h := h.conc rfl; exact same _ _ h h.idf_sl
    | rf => have h := h.conc rfl; exact same _ _ h h.idf_rf
    | any => exact ⟨trivial, .any u⟩
    | kb b => rw [inv_kb (h.conc rfl)]; exact ⟨trivial, .b b⟩
    | _ => exact same _ _ (h.conc rfl) trivial
  let rec go : ∀ (x : AV) (u : Value) (fp : List Nat), Own w S blk H x u fp → (∀ b ∈ fp, S' b) → (frzO x).idf ∧ Conc w S' blk' [] (frzO x) u
    | .ow sz n g => main _ fun _ _ _ e i j => by cases e; exact go (g i j)
    | .any => main _ fun _ _ _ e => nomatch e
    | .i _ _ => main _ fun _ _ _ e => nomatch e
    | .b _ => main _ fun _ _ _ e => nomatch e
    | .kb _ => main _ fun _ _ _ e => nomatch e
    | .s _ => main _ fun _ _ _ e => nomatch e
    | .nils => main _ fun _ _ _ e => nomatch e
    | .nilp => main _ fun _ _ _ e => nomatch e
    | .sl .. => main _ fun _ _ _ e => nomatch e
    | .rf .. => main _ fun _ _ _ e => nomatch e
    | .ptr .. => main _ fun _ _ _ e => nomatch e
    | .row .. => main _ fun _ _ _ e => nomatch e
    | .rs .. => main _ fun _ _ _ e => nomatch e
    | .mp _ => main _ fun _ _ _ e => nomatch e
    | .fm .. => main _ fun _ _ _ e => nomatch e
    | .st _ => main _ fun _ _ _ e => nomatch e
    | .agg _ => main _ fun _ _ _ e => nomatch e
    | .tup _ => main _ fun _ _ _ e => nomatch e
    | .fn _ _ => main _ fun _ _ _ e => nomatch e
  exact go
theorem shrC_own {S S' : Nat → Prop} {blk' : Nat → BC} (hS : ∀ b, S b → S' b)
    (hrow : ∀ (id : Nat) (r : Row), H[id]? = some (some r) → RowOk w S blk H (FP id) (blk id) r ∧ ∀ b ∈ FP id, S' b) :
    ∀ (k : Nat) (x : AV) (u : Value) (fp : List Nat), Own w S blk H x u fp → (∀ b ∈ fp, S' b) → (shrC k H x).idf ∧ Conc w S' blk' [] (shrC k H x) u := by
  have same : ∀ (x : AV) (u : Value), Conc w S blk H x u → x.idf → x.idf ∧ Conc w S' blk' [] x u := fun x u h hx =>
    ⟨hx, (h.free (blk' := blk') (H' := []) hx).mono (fun b hb => ⟨hS b hb, rfl⟩) (HExt.refl _ _)⟩
  intro k
  induction k with
  | zero => exact fun x u fp h hfp => frzO_own hS x u fp h hfp
  | succ k ih =>
    intro x u fp h hfp
    cases x with
    | ptr id j off =>
      have h := h.conc rfl
      unfold shrC
      dsimp only
      cases hx : H[id]? with
      | none => exact ⟨trivial, .any u⟩
      | some x =>
        cases x with
        | none => exact ⟨trivial, .any u⟩
        | some r =>
          dsimp only
          obtain ⟨rfl, hj, ho⟩ := inv_ptr hx h
          obtain ⟨hr, hfb⟩ := hrow id r hx
          rcases hr with hr | ⟨h0, hle0, _, hbm, ty', cur, F, hb, hcur, _, hcells, hF1, hF2⟩
          · omega
          have hi : ∀ i, i < r.sz - off → ∃ u, cur[j * r.sz + (off + i)]? = some u ∧ (shrC k H (r.es j (off + i))).idf ∧ Conc w S' blk' [] (shrC k H (r.es j (off + i))) u := by
            intro i hi
            obtain ⟨u, hu, _, hcu⟩ := hcells j (off + i) hj (by omega)
            obtain ⟨q1, q2⟩ := ih _ _ _ hcu fun b hb => hfb b (hF1 j (off + i) hj (by omega) b hb).1
            exact ⟨u, hu, q1, q2⟩
          refine ⟨fun i hi' => (hi i hi').choose_spec.2.1, .rf (blk id).b (j * r.sz + off) (fun i => cur.getD (j * r.sz + (off + i)) undef) (hfb _ hbm) (fun i hi' => ?_) (fun i hi' => (hi i hi').choose_spec.2.1) (fun i hi' => ?_)⟩
          · obtain ⟨u, hu, _⟩ := hi i hi'
            rw [RowAt.cell hb, Nat.add_assoc, hu]
            simp [hu]
          · obtain ⟨u, hu, _, hcu⟩ := hi i hi'
            simpa [hu] using hcu
    | row id n =>
      have h := h.conc rfl
      unfold shrC
      dsimp only
      cases hx : H[id]? with
      | none => exact ⟨trivial, .any u⟩
      | some x =>
        cases x with
        | none => exact ⟨trivial, .any u⟩
        | some r =>
          dsimp only
          obtain ⟨hr, hfb⟩ := hrow id r hx
          rcases inv_row hx h with ⟨rfl, hn, hle0, hc0, hm⟩ | ⟨a', rfl, rfl, hc0⟩
          · rcases hr with hr | ⟨h0, _, _, hbm, ty', cur, F, hb, hcur, _, hcells, hF1, hF2⟩
            · omega
            have hi : ∀ i j, i < n → j < r.sz → ∃ u, cur[i * r.sz + j]? = some u ∧ (shrC k H (r.es i j)).idf ∧ Conc w S' blk' [] (shrC k H (r.es i j)) u := by
              intro i j hi hj
              obtain ⟨u, hu, _, hcu⟩ := hcells i j (by omega) hj
              obtain ⟨q1, q2⟩ := ih _ _ _ hcu fun b hb => hfb b (hF1 i j (by omega) hj b hb).1
              exact ⟨u, hu, q1, q2⟩
            refine ⟨fun i j hi' hj' => (hi i j hi' hj').choose_spec.2.1, .sl (blk id).b 0 (blk id).c (fun i j => cur.getD (i * r.sz + j) undef) (hfb _ hbm) (by omega) hm (fun i j hi' hj' => ?_) (fun i j hi' hj' => (hi i j hi' hj').choose_spec.2.1) (fun i j hi' hj' => ?_)⟩
            · obtain ⟨u, hu, _⟩ := hi i j hi' hj'
              rw [RowAt.cell hb, Nat.zero_add, hu]
              simp [hu]
            · obtain ⟨u, hu, _, hcu⟩ := hi i j hi' hj'
              simpa [hu] using hcu
          · exact ⟨fun i j hi' hj' => by omega, .sl0 _ 0 (Nat.zero_le _)⟩
    | rs id o n =>
      have h := h.conc rfl
      unfold shrC
      dsimp only
      cases hx : H[id]? with
      | none => exact ⟨trivial, .any u⟩
      | some x =>
        cases x with
        | none => exact ⟨trivial, .any u⟩
        | some r =>
          dsimp only
          obtain ⟨hr, hfb⟩ := hrow id r hx
          obtain ⟨a, rfl, hn, hle0, hm, ha⟩ := inv_rs hx h
          rcases Nat.eq_zero_or_pos n with rfl | hpos
          · exact ⟨fun i j hi' hj' => by omega, .sl0 _ _ (by omega)⟩
          obtain rfl := ha (by omega)
          rcases hr with hr | ⟨h0, _, _, hbm, ty', cur, F, hb, hcur, _, hcells, hF1, hF2⟩
          · omega
          have hi : ∀ i j, i < n → j < r.sz → ∃ u, cur[(o + i) * r.sz + j]? = some u ∧ (shrC k H (r.es (o + i) j)).idf ∧ Conc w S' blk' [] (shrC k H (r.es (o + i) j)) u := by
            intro i j hi hj
            obtain ⟨u, hu, _, hcu⟩ := hcells (o + i) j (by omega) hj
            obtain ⟨q1, q2⟩ := ih _ _ _ hcu fun b hb => hfb b (hF1 (o + i) j (by omega) hj b hb).1
            exact ⟨u, hu, q1, q2⟩
          refine ⟨fun i j hi' hj' => (hi i j hi' hj').choose_spec.2.1, .sl (blk id).b (o * r.sz) ((blk id).c - o) (fun i j => cur.getD ((o + i) * r.sz + j) undef) (hfb _ hbm) (by omega) (by omega) (fun i j hi' hj' => ?_) (fun i j hi' hj' => (hi i j hi' hj').choose_spec.2.1) (fun i j hi' hj' => ?_)⟩
          · obtain ⟨u, hu, _⟩ := hi i j hi' hj'
            rw [RowAt.cell hb, ← Nat.add_mul, hu]
            simp [hu]
          · obtain ⟨u, hu, _, hcu⟩ := hi i j hi' hj'
            simpa [hu] using hcu
    | mp id =>
      have h := h.conc rfl
      unfold shrC
      dsimp only
      cases hx : H[id]? with
      | none => exact ⟨trivial, .any u⟩
      | some x =>
        cases x with
        | none => exact ⟨trivial, .any u⟩
        | some r =>
          dsimp only
          obtain ⟨hr, hfb⟩ := hrow id r hx
          obtain rfl := inv_mp hx h
          cases hk : r.k with
          | mp ak f sts =>
            rcases hr with ⟨_, _, ⟨h1, _⟩ | h1 | ⟨ak', f', sts', e, hfp', hm⟩⟩ | ⟨_, _, h1, _⟩
            · rw [hk] at h1; cases h1
            · rw [hk] at h1; cases h1
            · rw [hk] at e
              cases e
              exact ⟨trivial, .fm (blk id).b (hfb _ (by rw [hfp']; simp)) hm.less⟩
            · rw [hk] at h1; cases h1
          | arr => exact ⟨trivial, .any _⟩
          | hid => exact ⟨trivial, .any _⟩
          | box => exact ⟨trivial, .any _⟩
    | ow sz n g =>
      unfold shrC
      dsimp only
      cases h with
      | plain h => cases h
      | ow0 a => exact ⟨fun i j hi' hj' => by omega, .sl0 _ 0 (Nat.zero_le _)⟩
      | ow b cap ty' cur U F hb hcur hn hm h0 h1 hc hf hu hF =>
        have hi : ∀ i j, i < n → j < sz → (shrC k H (g i j)).idf ∧ Conc w S' blk' [] (shrC k H (g i j)) (U i j) := fun i j hi hj =>
          ih _ _ _ (hu i j hi hj) fun b hb => hfp b (List.mem_cons_of_mem _ (mem_cat hi hj hb))
        refine ⟨fun i j hi' hj' => (hi i j hi' hj').1, .sl b 0 cap U (hfp _ (by simp)) hn hm (fun i j hi' hj' => ?_) (fun i j hi' hj' => (hi i j hi' hj').1) (fun i j hi' hj' => (hi i j hi' hj').2)⟩
        rw [RowAt.cell hb, Nat.zero_add]
        exact hc i j hi' hj'
    | agg => exact ⟨trivial, .any u⟩
    | tup => exact ⟨trivial, .any u⟩
    | fn g cs =>
      cases cs with
      | nil => exact same _ _ (h.conc rfl) rfl
      | cons => exact ⟨trivial, .any u⟩
    | sl => have h := h.conc rfl; exact same _ _ h h.idf_sl
    | rf => have h := h.conc rfl; exact same _ _ h h.idf_rf
    | any => exact ⟨trivial, .any u⟩
    | kb b => rw [inv_kb (h.conc rfl)]; exact ⟨trivial, .b b⟩
    | _ => exact same _ _ (h.conc rfl) trivial
theorem shr_conc {S S' : Nat → Prop} {blk' : Nat → BC} (hS : ∀ b, S b → S' b)
    (hrow : ∀ (id : Nat) (r : Row), H[id]? = some (some r) → RowOk w S blk H (FP id) (blk id) r ∧ ∀ b ∈ FP id, S' b) {x : AV} {u : Value} (h : Conc w S blk H x u) : Conc w S' blk' [] (shr H x) u := by
  have cell : ∀ (x : AV) (u : Value), Conc w S blk H x u → Conc w S' blk' [] (shrC 5 H x) u := fun x u h => (shrC_own (blk' := blk') hS hrow 5 x u [] (.plain h) (by simp)).2
  have lst : ∀ (cs : List AV) (us : List Value), us.length = cs.length → (∀ (j : Nat) (c : AV) (u : Value), cs[j]? = some c → us[j]? = some u → Conc w S blk H c u) →
      us.length = (cs.map (shrC 5 H)).length ∧ ∀ (j : Nat) (c : AV) (u : Value), (cs.map (shrC 5 H))[j]? = some c → us[j]? = some u → Conc w S' blk' [] c u := by
    intro cs us hl hu
    refine ⟨by simpa using hl, fun j c u hj hju => ?_⟩
    rw [List.getElem?_map] at hj
    obtain ⟨c', hc', rfl⟩ := Option.map_eq_some_iff.1 hj
    exact cell _ _ (hu j c' u hc' hju)
  cases x with
  | agg cs =>
    obtain ⟨us, rfl, hl, hu⟩ := inv_agg h
    obtain ⟨h1, h2⟩ := lst cs us hl hu
    exact .agg _ us h1 h2
  | tup cs =>
    obtain ⟨us, rfl, hl, hu⟩ := inv_tup h
    refine .tup _ us (by simpa using hl) fun j c u hj hju => ?_
    rw [List.getElem?_map] at hj
    obtain ⟨c', hc', rfl⟩ := Option.map_eq_some_iff.1 hj
    have hc := hu j c' u hc' hju
    cases c' with
    | agg ds =>
      obtain ⟨vs, rfl, hl, hv⟩ := inv_agg hc
      obtain ⟨h1, h2⟩ := lst ds vs hl hv
      exact .agg _ vs h1 h2
    | _ => exact cell _ _ hc
  | fn g cs =>
    obtain ⟨us, rfl, hl, hu⟩ := inv_fn h
    obtain ⟨h1, h2⟩ := lst cs us hl hu
    exact .fn g _ us h1 h2
  | _ => exact cell _ _ h
structure Ret (P : Program) (g : FuncId) (avs : List AV) (post : AV → Prop) : Prop where
  h : ∀ (w : World) (S : Nat → Prop) (us : List Value), SIn w S → ConcL w S (fun _ => ⟨0, 0⟩) [] avs us →
    Calls P g us.toArray w fun e w' => ∃ r u, e = .returned u ∧ post r ∧ Conc w' (fun b => S b ∨ (w.heap.size ≤ b ∧ b < w'.heap.size)) (fun _ => ⟨0, 0⟩) [] r u ∧ Below w.heap.size w w'
theorem Ret.mono {g : FuncId} {avs : List AV} {post post' : AV → Prop} (h : Ret P g avs post) (hp : ∀ r, post r → post' r) : Ret P g avs post' :=
  ⟨fun w S us hS hc => (h.h w S us hS hc).mono fun e w' ⟨r, u, he, hq, hr, hb⟩ => ⟨r, u, he, hp _ hq, hr, hb⟩⟩
def clo1 : AV → Bool
  | .ptr .. | .row .. | .rs .. | .mp _ | .ow .. | .agg _ | .tup _ => false
  | .fn _ cs => cs.isEmpty
  | _ => true
def clo : AV → Bool
  | .agg cs | .fn _ cs => cs.all clo1
  | x => clo1 x
def scal1 : AV → Bool
  | .any | .i .. | .b _ | .kb _ | .s _ | .nils | .nilp => true
  | _ => false
def scal : AV → Bool
  | .agg cs => cs.all scal1
  | .tup cs => cs.all fun c => match c with | .agg ds => ds.all scal1 | c => scal1 c
  | x => scal1 x
theorem Conc.clo1 {S : Nat → Prop} {blk' : Nat → BC} {H' : Hp} {x : AV} {u : Value} (h : Conc w S blk H x u) (hx : Go.Proofs.Ytdeledeopippfaa.clo1 x = true) : Conc w S blk' H' x u := by
  refine h.free ?_
  cases x with
  | sl => exact h.idf_sl
  | rf => exact h.idf_rf
  | fn g cs => cases cs with
    | nil => rfl
    | cons => cases hx
  | ptr => cases hx
  | row => cases hx
  | rs => cases hx
  | mp => cases hx
  | ow => cases hx
  | agg => cases hx
  | tup => cases hx
  | _ => trivial
theorem Conc.clo {S : Nat → Prop} {blk' : Nat → BC} {H' : Hp} {x : AV} {u : Value} (h : Conc w S blk H x u) (hx : Go.Proofs.Ytdeledeopippfaa.clo x = true) : Conc w S blk' H' x u := by
  cases x with
  | agg cs => obtain ⟨us, rfl, hl, hu⟩ := inv_agg h; exact .agg cs us hl fun j c u hj hju => (hu j c u hj hju).clo1 (List.all_eq_true.1 hx c (List.mem_of_getElem? hj))
  | fn g cs => obtain ⟨us, rfl, hl, hu⟩ := inv_fn h; exact .fn g cs us hl fun j c u hj hju => (hu j c u hj hju).clo1 (List.all_eq_true.1 hx c (List.mem_of_getElem? hj))
  | _ => exact h.clo1 hx
theorem Conc.scal1 {w' : World} {S S' : Nat → Prop} {blk' : Nat → BC} {H' : Hp} {x : AV} {u : Value} (h : Conc w S blk H x u) (hx : Go.Proofs.Ytdeledeopippfaa.scal1 x = true) : Conc w' S' blk' H' x u := by
  cases h <;> first | (cases hx; done) | (constructor; done) | (constructor; assumption)
theorem Conc.scal {w' : World} {S S' : Nat → Prop} {blk' : Nat → BC} {H' : Hp} {x : AV} {u : Value} (h : Conc w S blk H x u) (hx : Go.Proofs.Ytdeledeopippfaa.scal x = true) : Conc w' S' blk' H' x u := by
  cases x with
  | agg cs => obtain ⟨us, rfl, hl, hu⟩ := inv_agg h; exact .agg cs us hl fun j c u hj hju => (hu j c u hj hju).scal1 (List.all_eq_true.1 hx c (List.mem_of_getElem? hj))
  | tup cs =>
    obtain ⟨us, rfl, hl, hu⟩ := inv_tup h
    refine .tup cs us hl fun j c u hj hju => ?_
    have hc := hu j c u hj hju
    have hx' := List.all_eq_true.1 hx c (List.mem_of_getElem? hj)
    cases c with
    | agg ds => obtain ⟨vs, rfl, hl, hv⟩ := inv_agg hc; exact .agg ds vs hl fun j c u hj hju => (hv j c u hj hju).scal1 (List.all_eq_true.1 hx' c (List.mem_of_getElem? hj))
    | _ => exact hc.scal1 hx'
  | _ => exact h.scal1 hx
def nrm1 : AV → AV
  | .kb b => .b b
  | x => x
def nrm : AV → AV
  | .kb b => .b b
  | .agg cs => .agg (cs.map nrm1)
  | .fn f cs => .fn f (cs.map nrm1)
  | x => x
theorem Conc.nrm1 {S : Nat → Prop} {x : AV} {u : Value} (h : Conc w S blk H x u) : Conc w S blk H (Go.Proofs.Ytdeledeopippfaa.nrm1 x) u := by
  cases x with
  | kb b => rw [inv_kb h]; exact .b b
  | _ => exact h
theorem Conc.nrm {S : Nat → Prop} {x : AV} {u : Value} (h : Conc w S blk H x u) : Conc w S blk H (Go.Proofs.Ytdeledeopippfaa.nrm x) u := by
  cases x with
  | kb b => rw [inv_kb h]; exact .b b
  | agg cs =>
    obtain ⟨us, rfl, hl, hu⟩ := inv_agg h
    refine .agg _ us (by simpa using hl) fun j c u hj hju => ?_
    rw [List.getElem?_map] at hj
    obtain ⟨c', hc', rfl⟩ := Option.map_eq_some_iff.1 hj
    exact (hu j c' u hc' hju).nrm1
  | fn g cs =>
    obtain ⟨us, rfl, hl, hu⟩ := inv_fn h
    refine .fn g _ us (by simpa using hl) fun j c u hj hju => ?_
    rw [List.getElem?_map] at hj
    obtain ⟨c', hc', rfl⟩ := Option.map_eq_some_iff.1 hj
    exact (hu j c' u hc' hju).nrm1
  | _ => exact h
theorem StB.called {w' : World} (s : StB nt X f H blk FP a w) (hb : Below w.heap.size w w') : StB nt X f H blk FP a w' ∧ ∀ b, X.S FP H w.heap.size b → X.S FP H w'.heap.size b ∧ w'.heap[b]? = w.heap[b]? := by
  have hs := hb.size
  have hkeep : ∀ b, X.S FP H w.heap.size b → X.S FP H w'.heap.size b ∧ w'.heap[b]? = w.heap[b]? := fun b hS => ⟨⟨hS.1, by have := hS.2.1; omega, hS.2.2⟩, hb.block b hS.2.1⟩
  refine ⟨⟨s.defers, s.size, ?_, fun id r hr => ?_, s.apart, fun t => (s.fr t).mono hkeep (HExt.refl _ _), s.ext⟩, hkeep⟩
  · have k := s.keeps
    exact ⟨hb.os.trans k.os, hb.tape.trans k.tape, hb.output.trans k.output, Nat.le_trans k.size hs, fun b h1 h2 => (hb.block b (by have := k.size; omega)).trans (k.block b h1 h2)⟩
  · obtain ⟨h1, h2⟩ := s.rows id r hr
    exact ⟨h1.mono hkeep (HExt.refl _ _) fun x hx => hb.block _ (h2 x hx).2, fun b hb' => ⟨(h2 b hb').1, by have := (h2 b hb').2; omega⟩⟩
theorem StB.took {w' : World} (s : StB nt X f H blk FP a w) (b : Nat) (hb : X.S FP H w.heap.size b ∨ (w.heap.size ≤ b ∧ b < w'.heap.size)) (hs : w.heap.size ≤ w'.heap.size) : X.S FP H w'.heap.size b := by
  rcases hb with h | h
  · exact ⟨h.1, by have := h.2.1; omega, h.2.2⟩
  · refine ⟨.inr ?_, h.2, fun id r hr hbf => ?_⟩
    · have := s.keeps.size; omega
    · have := ((s.rows id r hr).2 b hbf).2; omega
theorem eval_list (s : StB nt X f H blk FP a w) (xs : List Operand) : ConcL w (X.S FP H w.heap.size) blk H (xs.map (ev f)) (xs.map a.eval) := by
  refine ⟨by simp, fun j c u hj hu => ?_⟩
  rw [List.getElem?_map] at hj hu
  obtain ⟨x, hx, rfl⟩ := Option.map_eq_some_iff.1 hj
  rw [hx] at hu
  cases hu
  exact s.ev x
theorem ConcL.append {S : Nat → Prop} {avs bs : List AV} {us vs : List Value} (h : ConcL w S blk H avs us) (k : ConcL w S blk H bs vs) : ConcL w S blk H (avs ++ bs) (us ++ vs) := by
  refine ⟨by simp [h.1, k.1], fun j c u hj hu => ?_⟩
  rcases Nat.lt_or_ge j avs.length with hlt | hge
  · rw [List.getElem?_append_left hlt] at hj
    rw [List.getElem?_append_left (by rw [h.1]; exact hlt)] at hu
    exact h.2 j c u hj hu
  · rw [List.getElem?_append_right hge] at hj
    rw [List.getElem?_append_right (by rw [h.1]; exact hge), h.1] at hu
    exact k.2 _ c u hj hu
def clK (E : Env) (f : Fr) (H : Hp) (fx : Operand) (args : List Operand) (K : AV → Prop) : Prop :=
  match ev f fx with
  | .fn g caps => (match E.F.get g with
    | some _ => frcL ((args.map (ev f) ++ caps).map nrm) fun avs => bif avs.all clo then (∃ post, Ret E.P g avs post ∧ ∀ r, post r → frc r K)
        else (∃ post, Ret E.P g (avs.map (shr H)) post ∧ ∀ r, post r → scal r = true ∧ frc r K)
    | none => False)
  | _ => False
theorem clK_run {fx : Operand} {args : List Operand} {K : AV → Prop} (h : clK E f H fx args K) (s : StB nt X f H blk FP a w) (o : Oper) (tys : Array TypeId) (ho : o.op = .call ⟨.value fx, args.toArray, tys⟩) (K' : Act → World → Prop) (Q' : Exit → Act → World → Prop)
    (hK : ∀ r u w', K r → Below w.heap.size w w' → Conc w' (X.S FP H w'.heap.size) blk H r u → K' (a.put o.dst u) w') : o.wp E.P a w K' Q' := by
  obtain ⟨dst, op, ty, pos, after, gd⟩ := o
  cases ho
  unfold clK at h
  split at h
  · rename_i g caps hf
    split at h
    · rename_i hF
      have hent := E.fn hF
      rw [frcL_eq] at h
      obtain ⟨us, hfv, hfl, hfu⟩ := inv_fn (hf ▸ s.ev fx)
      have hcl0 := (eval_list s args).append (bs := caps) (vs := us) ⟨hfl, hfu⟩
      have hcl : ConcL w (X.S FP H w.heap.size) blk H ((args.map (ev f) ++ caps).map nrm) (args.map a.eval ++ us) := ⟨by rw [List.length_map]; exact hcl0.1, fun j c u hj hu => by
        rw [List.getElem?_map] at hj
        obtain ⟨c', hc', rfl⟩ := Option.map_eq_some_iff.1 hj
        exact (hcl0.2 j c' u hc' hu).nrm⟩
      generalize (args.map (ev f) ++ caps).map nrm = as0 at h hcl
      have hrun : (execOp a.eval ⟨dst, .call ⟨.value fx, args.toArray, tys⟩, ty, pos, after, gd⟩).run E.P w = .ok (.enter g (args.map a.eval ++ us).toArray) w := by
        have := hent (args.map a.eval ++ us).toArray w
        simp [execOp, resolve, hfv, Deferred.ofValue, invoke]
        simpa using this
      unfold Oper.wp
      rw [hrun]
      cases hclo : as0.all clo with
      | true =>
        rw [hclo, cond_true] at h
        obtain ⟨post, hret, hp⟩ := h
        have hcl' : ConcL w (X.S FP H w.heap.size) (fun _ => ⟨0, 0⟩) [] as0 (args.map a.eval ++ us) := ⟨hcl.1, fun j c u hj hu => (hcl.2 j c u hj hu).clo (List.all_eq_true.1 hclo c (List.mem_of_getElem? hj))⟩
        refine (hret.h w (X.S FP H w.heap.size) _ ⟨fun b hb => hb.2.1, s.gl⟩ hcl').mono fun e w' ⟨r, u, he, hq, hr, hb⟩ => ?_
        subst he
        have hk := hp r hq
        rw [frc_eq] at hk
        exact hK r u w' hk hb (hr.mono (fun b hb' => ⟨s.took b hb' hb.size, rfl⟩) (fun id x hx => by simp at hx))
      | false =>
        rw [hclo, cond_false] at h
        obtain ⟨post, hret, hp⟩ := h
        have hcl' : ConcL w (fun b => b < w.heap.size) (fun _ => ⟨0, 0⟩) [] (as0.map (shr H)) (args.map a.eval ++ us) := ⟨by rw [hcl.1, List.length_map], fun j c u hj hu => by
          rw [List.getElem?_map] at hj
          obtain ⟨c', hc', rfl⟩ := Option.map_eq_some_iff.1 hj
          exact shr_conc (S := X.S FP H w.heap.size) (blk := blk) (FP := FP) (fun b hb => hb.2.1) (fun id r hr => ⟨(s.rows id r hr).1, fun b hb => ((s.rows id r hr).2 b hb).2⟩) (hcl.2 j c' u hc' hu)⟩
        refine (hret.h w (fun b => b < w.heap.size) _ ⟨fun b hb => hb, s.gl.mono fun b hb => ⟨hb.2.1, rfl⟩⟩ hcl').mono fun e w' ⟨r, u, he, hq, hr, hb⟩ => ?_
        subst he
        obtain ⟨hsc, hk⟩ := hp r hq
        rw [frc_eq] at hk
        exact hK r u w' hk hb (hr.scal hsc)
    · cases h
  · cases h
end
end
end Go.Proofs.Ytdeledeopippfaa
