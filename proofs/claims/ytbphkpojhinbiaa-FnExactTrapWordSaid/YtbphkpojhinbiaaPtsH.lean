/-
  The abstract layer: the rules for append and for literals; what a caller sees of local rows.
-/
import Derived.Test.YtbphkpojhinbiaaPtsG
namespace Go.Proofs.Ytbphkpojhinbiaa
open Go Go.RowKit
set_option linter.unusedVariables false
set_option linter.unusedSimpArgs false

section
variable {P : Program} {nt : Nat} {X : Ctx} {f : Fr} {H : Hp} {N : Nat} {Q : Exit → Fr → Hp → Nat → Prop} {ops : Array Oper} {rest : List Oper}
  {d : Nat} {ty : TypeId} {pos : String} {after : Array Edge} {a : Act} {w : World}

theorem St.nilrow (s : St nt X f H N a w) : St nt X f (H ++ [none]) N a w := by
  have hS : ∀ b, X.S H N b → X.S (H ++ [none]) N b := fun b hb => ⟨hb.1, hb.2.1, fun id r hr => by
    rcases Nat.lt_or_ge id H.length with hlt | hge
    · rw [List.getElem?_append_left hlt] at hr; exact hb.2.2 id r hr
    · rw [List.getElem?_append_right hge] at hr
      rcases Nat.eq_zero_or_pos (id - H.length) with h0 | h0
      · rw [h0] at hr; cases hr
      · rw [List.getElem?_eq_none (by simp; omega)] at hr; cases hr⟩
  have hold : ∀ (id : Nat) (r : LRow), (H ++ [none])[id]? = some (some r) → H[id]? = some (some r) := by
    intro id r hr
    rcases Nat.lt_or_ge id H.length with hlt | hge
    · rw [List.getElem?_append_left hlt] at hr; exact hr
    · rw [List.getElem?_append_right hge] at hr
      rcases Nat.eq_zero_or_pos (id - H.length) with h0 | h0
      · rw [h0] at hr; cases hr
      · rw [List.getElem?_eq_none (by simp; omega)] at hr; cases hr
  exact ⟨s.defers, s.size, s.heap, s.keeps, fun id r hr => by
    obtain ⟨h1, h2⟩ := s.rows id r (hold id r hr)
    exact ⟨h1.mono rfl (fun b hb => ⟨hS b hb, rfl⟩) (Same.push H none), h2⟩, fun i j r r' hi hj hb => s.inj i j r r' (hold i r hi) (hold j r' hj) hb,
    fun t => (s.fr t).mono (fun b hb => ⟨hS b hb, rfl⟩) (Same.push H none)⟩

/-- append to a local row. -/
theorem pl_append_row {sx x : Operand} {id n cap t e sz bytes : Nat} {agg : Bool} {zs : List AV} {r : LRow} {y : AV} {src : List (List AV)} (hS : SlT P t e) (hT : Ty P e sz agg) (hZ : ZrT P e zs) (hB : ByT P e bytes)
    (hs : ev f sx = .row id n cap) (hr : H[id]? = some (some r)) (hrs : r.sz = sz) (hy : force (ev f x) = some y) (hx : srcOf H y = some src) (hsrc : ∀ e ∈ src, e.length = sz) (hno : norefH id H = true) (hs0 : Nat.blt 0 sz = true)
    (hzl : zs.length = sz) (hz1 : zs.all AV.one = true) (hle : (n + src.length) * bytes ≤ 140737488355328) (hm : n + src.length ≤ maxLen) (hn : Nat.blt d nt = true)
    (h : ∀ b' k N', (b' = r.blk ∨ N ≤ b') → N ≤ N' → PL P nt X ops rest ((d, .row H.length (n + src.length) (n + src.length + k)) :: killF id f) (H.set id none ++ [some ⟨b', sz, r.es.take n ++ src ++ junk sz k⟩]) N' Q) :
    PL P nt X ops (⟨some d, .call ⟨.builtin .append, #[sx, x], #[t, t]⟩, ty, pos, after, none⟩ :: rest) f H N Q := by
  intro a w s
  have hy' := force_eq hy
  obtain ⟨v', w', b', k, hrun, hN', hb', s', hc'⟩ := s.append (ty := ty) hS hT hZ hB (hs ▸ s.ev sx) hr hrs (hy' ▸ s.ev x) hx hsrc hno (Nat.le_of_ble_eq_true hs0) hzl hz1 hle hm
  refine wpList_plain rfl fun K hK => ?_
  unfold Oper.wp
  have : (execOp a.eval ⟨some d, .call ⟨.builtin .append, #[sx, x], #[t, t]⟩, ty, pos, after, none⟩).run P w = .ok (.value v') w' := by
    simp [execOp, resolve, invoke, builtin, hrun]
  rw [this]
  exact hK _ _ (h b' k _ hb' hN' _ _ (s'.put (Nat.le_of_ble_eq_true hn) hc'))

/-- append to nil. -/
theorem pl_append_nil {sx x : Operand} {t e sz bytes : Nat} {agg : Bool} {zs : List AV} {y : AV} {src : List (List AV)} (hS : SlT P t e) (hT : Ty P e sz agg) (hZ : ZrT P e zs) (hB : ByT P e bytes)
    (hs : ev f sx = .ow [] (.sl [])) (hy : force (ev f x) = some y) (hx : srcOf H y = some src) (hsrc : ∀ e ∈ src, e.length = sz) (hs0 : Nat.blt 0 sz = true)
    (hzl : zs.length = sz) (hz1 : zs.all AV.one = true) (hle : src.length * bytes ≤ 140737488355328) (hm : src.length ≤ maxLen) (hn : Nat.blt d nt = true)
    (h0 : src.length = 0 → PL P nt X ops rest ((d, .ow [] (.sl [])) :: f) H N Q)
    (h : 0 < src.length → ∀ k, PL P nt X ops rest ((d, .row H.length src.length (src.length + k)) :: f) (H ++ [some ⟨N, sz, src ++ junk sz k⟩]) (N + 1) Q) :
    PL P nt X ops (⟨some d, .call ⟨.builtin .append, #[sx, x], #[t, t]⟩, ty, pos, after, none⟩ :: rest) f H N Q := by
  intro a w s
  have hy' := force_eq hy
  have hnil : a.eval sx = .slice none 0 0 := by
    have h1 := (inv_ow (hs ▸ s.ev sx)).1
    generalize a.eval sx = q at h1
    cases h1 with
    | nil => rfl
  obtain ⟨A, c, U, hev, hml, hU⟩ := src_spec s (hy' ▸ s.ev x) hx hsrc
  obtain ⟨i, z, hi, hz, hzs⟩ := hZ.zero
  subst hzs
  obtain ⟨i1, hi1, hisz⟩ := hT.info
  obtain ⟨i2, hi2, hby⟩ := hB.bytes
  rw [hi] at hi1 hi2
  cases hi1
  cases hi2
  have hzsz : z.cells.size = sz := by simpa using hzl
  have hs0' := Nat.le_of_ble_eq_true hs0
  have hN := s.heap
  rcases Nat.eq_zero_or_pos src.length with hz0 | hz0
  · refine pl_val (v := .ow [] (.sl [])) rfl rfl hn (fun a w s => ?_) (h0 hz0) a w s
    have hnil : a.eval sx = .slice none 0 0 := by
      have h1 := (inv_ow (hs ▸ s.ev sx)).1
      generalize a.eval sx = q at h1
      cases h1 with
      | nil => rfl
    obtain ⟨A, c, U, hev, _, _⟩ := src_spec s (hy' ▸ s.ev x) hx hsrc
    refine ⟨.slice none 0 0, w, ?_, s, .ow .nil (by simp)⟩
    rw [hz0] at hev
    cases A <;> simp [execOp, resolve, invoke, builtin, hnil, hev, Builtin.append_, run_underlying hS.under, sizeOf, typeInfo, hi, Builtin.lenOf, Builtin.firstCells, loadCells, loadCellsFrom]
  · obtain ⟨e0, he0⟩ := List.exists_mem_of_length_pos hz0
    obtain ⟨j0, hj0⟩ := List.getElem?_of_mem he0
    have hl0 := hsrc e0 he0
    obtain ⟨⟨b0, o0, hA, _⟩, _⟩ := hU j0 0 e0 _ hj0 (List.getElem?_eq_getElem (by omega))
    have hfl : (flat U src.length sz).length = src.length * sz := flat_len _ _ _
    have hcell : ∀ (j : Nat) (v : Value), (flat U src.length sz)[j]? = some v → w.cell? ((⟨b0, o0, none⟩ : Addr).add j) = some v := by
      intro j v hj
      have hlt : j < src.length * sz := by rw [← hfl]; exact (List.getElem?_eq_some_iff.1 hj).1
      obtain ⟨h1, h2, h3⟩ := lt_at hlt
      have hp : src[j / sz]? = some src[j / sz] := List.getElem?_eq_getElem h1
      have hl := hsrc _ (List.mem_of_getElem? hp)
      obtain ⟨⟨b', o', hA', hc⟩, _⟩ := hU (j / sz) (j % sz) _ _ hp (List.getElem?_eq_getElem (by omega))
      rw [hA] at hA'
      cases hA'
      rw [← h3] at hc
      have hv : v = U (j / sz) (j % sz) := by
        simp [flat, hlt] at hj
        exact hj.symm
      rw [add_mk, hv]
      exact hc
    unfold maxLen at hm
    have hrun := run_append_nil (P := P) w t ty e i z hS.under hi hz ⟨b0, o0, none⟩ src.length c (flat U src.length sz) (by rw [hfl, hisz]) hcell hz0 (by omega) (by rw [hby]; omega)
    let K := grownCap w src.length 0 e
    have hK : src.length ≤ K := grownCap_ge w _ _ e
    have hKm : K ≤ maxLen := grownCap_le_maxLen w _ _ e (by unfold maxLen; omega)
    have hk : K = src.length + (K - src.length) := by omega
    have hzc : (Builtin.zeroCells z.cells (K - src.length)).size = (K - src.length) * sz := by rw [size_zeroCells, hzsz]
    have s1 : St nt X f H N a w.drew := s.draw
    have hcnt : (src ++ junk sz (K - src.length)).length = K := by simp [junk]; omega
    have s2 := s1.push e ((flat U src.length sz).toArray ++ Builtin.zeroCells z.cells (K - src.length)) sz (src ++ junk sz (K - src.length))
      (by rw [hcnt]; simp only [Array.size_append, List.size_toArray, hfl, hzc]; rw [← Nat.add_mul]; congr 1; omega)
      (by
        intro el hel
        rcases List.mem_append.1 hel with h | h
        · exact hsrc el h
        · rw [List.eq_of_mem_replicate h]; simp)
      (by
        intro p q el c' hp hq
        rcases Nat.lt_or_ge p src.length with hlt | hge
        · rw [List.getElem?_append_left hlt] at hp
          obtain ⟨_, ho, hc⟩ := hU p q el c' hp hq
          have hql : q < sz := by rw [← hsrc el (List.mem_of_getElem? hp)]; exact (List.getElem?_eq_some_iff.1 hq).1
          refine ⟨U p q, ?_, ho, hc.mono (fun b hb => ⟨hb, rfl⟩) (Same.refl H)⟩
          rw [Array.getElem?_append_left (by simp [hfl]; exact at_lt hlt hql), List.getElem?_toArray]
          exact flat_at hlt hql
        · rw [List.getElem?_append_right hge] at hp
          have hc := junk_at hp hq
          subst hc
          have hpk : p - src.length < K - src.length := by
            have := (List.getElem?_eq_some_iff.1 hp).1
            simpa [junk] using this
          have hql : q < sz := by
            have he : el = List.replicate sz .any := List.eq_of_mem_replicate (List.mem_of_getElem? hp)
            have := (List.getElem?_eq_some_iff.1 hq).1
            simpa [he] using this
          have hidx : p * sz + q - src.length * sz < (K - src.length) * sz := by
            have h1 : (K - src.length) * sz + src.length * sz = K * sz := by rw [← Nat.add_mul]; congr 1; omega
            have h2 : p * sz + q < K * sz := at_lt (by omega) hql
            have h3 : src.length * sz ≤ p * sz := Nat.mul_le_mul_right _ hge
            omega
          have hz0 : 0 < z.cells.size := by omega
          have hmod := Nat.mod_lt (p * sz + q - src.length * sz) hz0
          have hg : z.cells[(p * sz + q - src.length * sz) % z.cells.size]! = z.cells[(p * sz + q - src.length * sz) % z.cells.size] := getElem!_pos z.cells _ hmod
          refine ⟨z.cells[(p * sz + q - src.length * sz) % z.cells.size]!, ?_, ?_, .any _⟩
          · have h3 : src.length * sz ≤ p * sz := Nat.mul_le_mul_right _ hge
            rw [Array.getElem?_append_right (by simp only [List.size_toArray, hfl]; omega)]
            simp only [List.size_toArray, hfl]
            have hlt' : p * sz + q - src.length * sz < (K - src.length) * z.cells.size := by rw [hzsz]; exact hidx
            simp [Builtin.zeroCells, hlt']
          · rw [hg]
            refine cv_one (List.all_eq_true.1 hz1 _ (List.mem_map.2 ⟨_, ?_, rfl⟩))
            exact Array.mem_toList_iff.2 (Array.getElem_mem hmod))
    refine wpList_plain rfl fun K' hK' => ?_
    unfold Oper.wp
    have hex : (execOp a.eval ⟨some d, .call ⟨.builtin .append, #[sx, x], #[t, t]⟩, ty, pos, after, none⟩).run P w =
        .ok (.value (.slice (some ⟨N, 0, none⟩) src.length K)) (w.drew.alloc (.cells ((flat U src.length sz).toArray ++ Builtin.zeroCells z.cells (K - src.length)) e)) := by
      rw [hA] at hev
      simp only [execOp, resolve, invoke, builtin, Sem.run_bind, Sem.run_pure, Result.andThen_ok, List.map_toArray, List.map_cons, List.map_nil, hnil, hev, hrun, hN]
      rfl
    rw [hex]
    refine hK' _ _ (h hz0 (K - src.length) _ _ (s2.put (Nat.le_of_ble_eq_true hn) ?_))
    have hnew : (H ++ [some (⟨N, sz, src ++ junk sz (K - src.length)⟩ : LRow)])[H.length]? = some (some ⟨N, sz, src ++ junk sz (K - src.length)⟩) := by simp
    rw [← hk]
    exact Conc.row H.length src.length K _ hnew hK hcnt hKm

/-! ### literals -/

theorem fold_set (off : Nat) : ∀ (l : List Value) (k : Nat) (cells : Array Value), off + k + l.length ≤ cells.size →
    ((l.zipIdx k).foldl (fun cs (p : Value × Nat) => cs.setIfInBounds (off + p.2) p.1) cells).size = cells.size ∧
    ∀ q, ((l.zipIdx k).foldl (fun cs (p : Value × Nat) => cs.setIfInBounds (off + p.2) p.1) cells)[q]? = if off + k ≤ q ∧ q < off + k + l.length then l[q - off - k]? else cells[q]?
  | [], k, cells, _ => ⟨rfl, fun q => by rw [if_neg (by simp only [List.length_nil]; omega)]; rfl⟩
  | v :: l, k, cells, h => by
    simp only [List.zipIdx_cons, List.foldl_cons]
    simp only [List.length_cons] at h
    obtain ⟨h1, h2⟩ := fold_set off l (k + 1) (cells.setIfInBounds (off + k) v) (by simp; omega)
    refine ⟨by rw [h1]; simp, fun q => ?_⟩
    rw [h2]
    by_cases hq : off + (k + 1) ≤ q ∧ q < off + (k + 1) + l.length
    · rw [if_pos hq, if_pos (by simp; omega), show q - off - k = (q - off - (k + 1)) + 1 by omega]
      rfl
    · rw [if_neg hq]
      by_cases hq2 : q = off + k
      · subst hq2
        rw [if_pos (by simp), Array.getElem?_setIfInBounds_self_of_lt (by omega), show off + k - off - k = 0 by omega]
        rfl
      · rw [if_neg (by simp; omega), Array.getElem?_setIfInBounds_ne (fun e => hq2 e.symm)]

theorem fill_seq (sz : Nat) : ∀ (vs : List Value) (k : Nat) (cells : Array Value), (∀ v ∈ vs, v.cells.size = sz) → (k + vs.length) * sz ≤ cells.size →
    ∃ cells' : Array Value, Instr.fill (fun i => some (i * sz, sz)) cells ((vs.zipIdx k).map fun p => (p.2, p.1)) = some cells' ∧ cells'.size = cells.size ∧ (∀ q, q < k * sz → cells'[q]? = cells[q]?) ∧
      ∀ (i j : Nat) (v : Value), vs[i]? = some v → j < sz → cells'[(k + i) * sz + j]? = v.cells[j]?
  | [], k, cells, _, _ => ⟨cells, rfl, rfl, fun _ _ => rfl, fun i j v hi => by simp at hi⟩
  | v :: vs, k, cells, hv, hl => by
    have hvs := hv v (by simp)
    simp only [List.length_cons] at hl
    have hks : k * sz + sz ≤ cells.size := by
      have := Nat.mul_le_mul_right sz (show k + 1 ≤ k + (vs.length + 1) by omega)
      rw [Nat.succ_mul] at this
      omega
    obtain ⟨f1, f2⟩ := fold_set (k * sz) v.cells.toList 0 cells (by simp; omega)
    simp only [Nat.add_zero, Nat.sub_zero, Array.length_toList] at f1 f2
    obtain ⟨cells', h1, h2, h3, h4⟩ := fill_seq sz vs (k + 1) ((v.cells.toList.zipIdx 0).foldl (fun cs (p : Value × Nat) => cs.setIfInBounds (k * sz + p.2) p.1) cells) (fun u hu => hv u (by simp [hu])) (by
      rw [f1]
      have : k + 1 + vs.length = k + (vs.length + 1) := by omega
      rw [this]; exact hl)
    refine ⟨cells', ?_, h2.trans f1, fun q hq => ?_, fun i j u hi hj => ?_⟩
    · simp only [List.zipIdx_cons, List.map_cons, Instr.fill]
      rw [if_neg (by simp [hvs]; omega)]
      rw [← h1]
      congr 1
      rw [← Array.foldl_toList]
      simp
    · have hq' : q < (k + 1) * sz := by rw [Nat.succ_mul]; omega
      rw [h3 q hq', f2, if_neg (by omega)]
    · cases i with
      | zero =>
        obtain rfl : v = u := by simpa using hi
        have hlt : k * sz + j < (k + 1) * sz := by rw [Nat.succ_mul]; omega
        rw [Nat.add_zero, h3 _ hlt, f2, if_pos (by omega), show k * sz + j - k * sz = j by omega]
        simp
      | succ i =>
        have := h4 i j u (by simpa using hi) hj
        rw [show k + (i + 1) = k + 1 + i by omega]
        exact this

/-- A slice literal whose elements are all given, in order. -/
theorem pl_buildSlice {t e sz n : Nat} {agg : Bool} {zs : List AV} {xs : List Operand} {vs : List AV} (hS : SlT P t e) (hT : Ty P e sz agg) (hZ : ZrT P e zs) (hzl : zs.length = sz) (hxs : xs.map (ev f) = vs) (hn' : xs.length = n) (hv : vs.all (fun v => (avc v).all AV.one && Nat.beq (avc v).length sz) = true)
    (hsmall : Nat.ble (n * sz) 16777216 = true) (hm : Nat.ble n 1000000 = true) (hn : Nat.blt d nt = true)
    (h : PL P nt X ops rest ((d, .row H.length n n) :: f) (H ++ [some ⟨N, sz, vs.map avc⟩]) (N + 1) Q) :
    PL P nt X ops (⟨some d, .buildSlice t n ((xs.zipIdx.map fun p => (p.2, p.1)).toArray), ty, pos, after, none⟩ :: rest) f H N Q := by
  refine pl_val rfl rfl hn (fun a w s => ?_) h
  subst hxs hn'
  obtain ⟨i, z, hi, hz, hzs⟩ := hZ.zero
  subst hzs
  obtain ⟨i1, hi1, hisz⟩ := hT.info
  rw [hi] at hi1
  cases hi1
  have hzsz : z.cells.size = sz := by simpa using hzl
  have hall : ∀ x ∈ xs, (avc (ev f x)).all AV.one = true ∧ (avc (ev f x)).length = sz := by
    intro x hx
    have := List.all_eq_true.1 hv (ev f x) (List.mem_map.2 ⟨x, hx, rfl⟩)
    rw [Bool.and_eq_true] at this
    exact ⟨this.1, Nat.eq_of_beq_eq_true this.2⟩
  have hcs : ∀ x ∈ xs, (a.eval x).cells.size = sz := by
    intro x hx
    obtain ⟨us, hu, hl, _⟩ := avc_conc (s.ev x) (hall x hx).1
    rw [hu]
    simp [hl, (hall x hx).2]
  let base : Array Value := (Array.range (xs.length * sz)).map (z.cells[· % z.cells.size]!)
  let base0 : Array Value := (Array.range (xs.length * sz)).map ((#[] : Array Value)[· % 0]!)
  have hsm := Nat.le_of_ble_eq_true hsmall
  have fillof : ∀ b : Array Value, b.size = xs.length * sz → ∃ cells' : Array Value, Instr.fill (fun i => some (i * sz, sz)) b ((xs.map a.eval).zipIdx.map fun p => (p.2, p.1)) = some cells' ∧ cells'.size = xs.length * sz ∧
      ∀ (i j : Nat) (v : Value), (xs.map a.eval)[i]? = some v → j < sz → cells'[i * sz + j]? = v.cells[j]? := by
    intro b hb
    obtain ⟨cells', h1, h2, _, h4⟩ := fill_seq sz (xs.map a.eval) 0 b (fun v hv => by
      obtain ⟨x, hx, rfl⟩ := List.mem_map.1 hv
      exact hcs x hx) (by simp [hb])
    exact ⟨cells', h1, h2.trans hb, fun i j v hi hj => by have := h4 i j v hi hj; rwa [Nat.zero_add] at this⟩
  have hparts : ((xs.zipIdx.map fun p => (p.2, p.1)).toArray.map fun p => (p.1, a.eval p.2)).toList = (xs.map a.eval).zipIdx.map fun p => (p.2, p.1) := by
    simp only [Array.toList_map, List.map_map, List.zipIdx_map]
    rfl
  have key : ∃ cells' : Array Value, (Instr.buildSlice t xs.length ((xs.zipIdx.map fun p => (p.2, p.1)).toArray.map fun p => (p.1, a.eval p.2))).run P w = .ok (.slice (some ⟨w.heap.size, 0, none⟩) xs.length xs.length) (w.alloc (.cells cells' e)) ∧
      cells'.size = xs.length * sz ∧ ∀ (i j : Nat) (v : Value), (xs.map a.eval)[i]? = some v → j < sz → cells'[i * sz + j]? = v.cells[j]? := by
    by_cases h0 : xs.length * sz = 0
    · obtain ⟨cells', h1, h2, h3⟩ := fillof ((Array.range (xs.length * sz)).map fun q => (#[] : Array Value)[q % (#[] : Array Value).size]!) (by simp)
      refine ⟨cells', ?_, h2, h3⟩
      unfold Instr.buildSlice
      rw [hparts]
      have hsz := run_size hT w
      simp only [Sem.run_bind, run_underlying hS.under, Result.andThen_ok, hsz]
      rw [if_neg (by omega), if_pos h0]
      simp only [Sem.run_bind, Sem.run_pure, Result.andThen_ok, h1]
      simp [newRow]
    · obtain ⟨cells', h1, h2, h3⟩ := fillof ((Array.range (xs.length * sz)).map fun q => z.cells[q % z.cells.size]!) (by simp)
      refine ⟨cells', ?_, h2, h3⟩
      unfold Instr.buildSlice
      rw [hparts]
      have hsz := run_size hT w
      have hzv : (zeroValue e).run P w = .ok z w := by simp [zeroValue, typeInfo, hi, hz]
      simp only [Sem.run_bind, run_underlying hS.under, Result.andThen_ok, hsz]
      rw [if_neg (by omega), if_neg h0]
      simp only [Sem.run_bind, Sem.run_pure, Result.andThen_ok, hzv, h1]
      simp [newRow]
  obtain ⟨cells', hrun, hsize, hat⟩ := key
  have hN := s.heap
  refine ⟨.slice (some ⟨N, 0, none⟩) xs.length xs.length, w.alloc (.cells cells' e (0, 0)), ?_, s.push e cells' sz ((xs.map (ev f)).map avc) (by simp [hsize]) (fun el hel => ?_) (fun p q el c hp hq => ?_), ?_⟩
  · rw [← hN]
    simp only [execOp, Sem.run_bind, Sem.run_pure]
    rw [hrun]
    rfl
  · obtain ⟨v, hv', rfl⟩ := List.mem_map.1 hel
    obtain ⟨x, hx, rfl⟩ := List.mem_map.1 hv'
    exact (hall x hx).2
  · rw [List.getElem?_map] at hp
    obtain ⟨v, hv', rfl⟩ := Option.map_eq_some_iff.1 hp
    rw [List.getElem?_map] at hv'
    obtain ⟨x, hx, rfl⟩ := Option.map_eq_some_iff.1 hv'
    have hmem := List.mem_of_getElem? hx
    obtain ⟨us, hu, hl, hc⟩ := avc_conc (s.ev x) (hall x hmem).1
    obtain ⟨v, hv2, ho, hcv⟩ := hc q c hq
    have hql : q < sz := by rw [← (hall x hmem).2]; exact (List.getElem?_eq_some_iff.1 hq).1
    refine ⟨v, ?_, ho, hcv⟩
    rw [hat p q (a.eval x) (by rw [List.getElem?_map, hx]; rfl) hql, hu]
    simpa using hv2
  · have hnew : (H ++ [some (⟨N, sz, (xs.map (ev f)).map avc⟩ : LRow)])[H.length]? = some (some ⟨N, sz, (xs.map (ev f)).map avc⟩) := by simp
    have hm' := Nat.le_of_ble_eq_true hm
    exact Conc.row H.length _ _ _ hnew (Nat.le_refl _) (by simp) (by unfold maxLen; omega)

/-! ### What a caller sees of a local row -/

/-- A slice literal whose elements are keyed in order, as its row stands. -/
theorem pl_buildSliceA {t e sz n : Nat} {agg : Bool} {zs : List AV} {kx : Array (Nat × Operand)} {vs : List AV} (hS : SlT P t e) (hT : Ty P e sz agg) (hZ : ZrT P e zs) (hk : kx.toList.map (·.1) = List.range kx.size) (hzl : zs.length = sz) (hxs : kx.toList.map (fun p => ev f p.2) = vs) (hn' : kx.size = n) (hv : vs.all (fun v => (avc v).all AV.one && Nat.beq (avc v).length sz) = true)
    (hsmall : Nat.ble (n * sz) 16777216 = true) (hm : Nat.ble n 1000000 = true) (hn : Nat.blt d nt = true)
    (h : PL P nt X ops rest ((d, .row H.length n n) :: f) (H ++ [some ⟨N, sz, vs.map avc⟩]) (N + 1) Q) :
    PL P nt X ops (⟨some d, .buildSlice t n kx, ty, pos, after, none⟩ :: rest) f H N Q := by
  have hkx : kx = (((kx.toList.map (·.2)).zipIdx.map fun p => (p.2, p.1)).toArray) := by
    apply Array.ext'
    show kx.toList = (kx.toList.map (·.2)).zipIdx.map fun p => (p.2, p.1)
    apply List.ext_getElem? fun j => ?_
    have := congrArg (fun l => l[j]?) hk
    simp only [List.getElem?_map, List.getElem?_zipIdx, List.getElem?_range] at this ⊢
    cases hj : kx.toList[j]? with
    | none => simp
    | some p =>
      have hjl : j < kx.size := by simpa using (List.getElem?_eq_some_iff.1 hj).1
      rw [hj, List.getElem?_range hjl] at this
      have h1 : p.1 = j := by simpa using this
      simp [← h1]
  rw [hkx]
  exact pl_buildSlice hS hT hZ hzl (by rw [List.map_map]; exact hxs) (by simpa using hn') hv hsmall hm hn h

theorem take_at {α : Type} {l : List α} {n i : Nat} {e : α} (h : (l.take n)[i]? = some e) : i < n ∧ l[i]? = some e := by
  rw [List.getElem?_take] at h
  split at h
  · exact ⟨by assumption, h⟩
  · cases h

theorem row_cd {S : Nat → Prop} {id n cap : Nat} {r : LRow} {es : List (List D)} {u : Value} (s : St nt X f H N a w) (hr : H[id]? = some (some r)) (hes : r.es.take n = es.map (List.map AV.d)) (hu : Conc w (X.S H N) H (.row id n cap) u)
    (hS : ∀ b, X.S H N b → S b) (hb : S r.blk) : CD w S (.sl es) u := by
  obtain ⟨rfl, hnc, hrl, hm⟩ := inv_row hr hu
  obtain ⟨⟨ty, cur, hb', hcur, hsz, hc⟩, hmay⟩ := s.rows id r hr
  have hlen : es.length = n := by
    have := congrArg List.length hes
    simp at this
    omega
  have hel : ∀ (i : Nat) (e : List D), es[i]? = some e → r.es[i]? = some (e.map AV.d) := by
    intro i e hi
    have : (r.es.take n)[i]? = some (e.map AV.d) := by rw [hes, List.getElem?_map, hi]; rfl
    exact (take_at this).2
  rw [← hlen]
  rw [← hlen] at hnc
  refine .sl r.blk 0 cap r.sz es (fun i j => cur.getD (i * r.sz + j) undef) hb hnc hm (fun e he => ?_) (fun i j e c hi hj => ?_) (fun i j e c hi hj => ?_)
  · obtain ⟨i, hi⟩ := List.getElem?_of_mem he
    have := hsz _ (List.mem_of_getElem? (hel i e hi))
    simpa using this
  all_goals
    obtain ⟨v, hv, ho, hcv⟩ := hc i j (e.map AV.d) (.d c) (hel i e hi) (by rw [List.getElem?_map, hj]; rfl)
    have hg : cur.getD (i * r.sz + j) undef = v := by simp [hv]
    rw [hg]
  · rw [cell_of_row w r.blk _ cur ty (0, 0) hb', Nat.zero_add]
    exact hv
  · exact (inv_d hcv).mono fun b hb => ⟨hS b hb, rfl⟩

theorem out_row_d {id n cap : Nat} {r : LRow} {es : List (List D)} (hX : X.mod = []) (hr : H[id]? = some (some r)) (hes : r.es.take n = es.map (List.map AV.d)) : Out nt X f H N (.row id n cap) (.d (.sl es)) := by
  intro a w s u hu
  have hlt := (s.rows id r hr).1.lt
  have hh := s.heap
  refine .d (row_cd s hr hes hu (fun b hb => hb.1.imp_right fun h => ⟨h, hb.2.1⟩) ?_)
  rcases (s.rows id r hr).2 with h | h
  · exact .inr ⟨h, by omega⟩
  · rw [hX] at h; cases h

/-- A cell that is owned whole: a scalar, or an owned tree. -/
inductive Own1 : AV → D → List Nat → Prop
  | v (x : Value) : Own1 (.d (.v x)) (.v x) []
  | ow (fp : List Nat) (t : D) : Own1 (.ow fp t) t fp

/-- A local row becomes an owned tree. -/
theorem out_row_ow {id n cap : Nat} {r : LRow} {es : List (List D)} {F : Nat → Nat → List Nat} (hX : X.mod = []) (hr : H[id]? = some (some r)) (hlen : es.length = n)
    (hes : ∀ (i j : Nat) (e : List D) (c : D), es[i]? = some e → e[j]? = some c → ∃ (e' : List AV) (c' : AV), r.es[i]? = some e' ∧ e'.length = e.length ∧ e'[j]? = some c' ∧ Own1 c' c (F i j)) (hl : ∀ e ∈ es, e.length = r.sz) :
    Out nt X f H N (.row id n cap) (.ow (r.blk :: cat F n r.sz) (.sl es)) := by
  intro a w s u hu
  obtain ⟨rfl, hnc, hrl, hm⟩ := inv_row hr hu
  have hlt := (s.rows id r hr).1.lt
  have hh := s.heap
  obtain ⟨⟨ty, cur, hb', hcur, hsz, hc⟩, hmay⟩ := s.rows id r hr
  have hblk : X.S0 r.blk ∨ (X.w0.heap.size ≤ r.blk ∧ r.blk < N) := by
    rcases hmay with h | h
    · exact .inr ⟨h, by omega⟩
    · rw [hX] at h; cases h
  have hval : ∀ (i j : Nat) (e : List D) (c : D), es[i]? = some e → e[j]? = some c → ∃ v, cur[i * r.sz + j]? = some v ∧ CO w c v (F i j) ∧ ∀ b ∈ F i j, X.S H N b := by
    intro i j e c hi hj
    obtain ⟨e', c', he', _, hj', hO⟩ := hes i j e c hi hj
    obtain ⟨v, hv, ho, hcv⟩ := hc i j e' c' he' hj'
    refine ⟨v, hv, ?_⟩
    generalize F i j = fp at hO
    cases hO with
    | v x =>
      obtain ⟨rfl, hs⟩ := val_of hcv
      exact ⟨.v _ hs, by simp⟩
    | ow fp t => exact inv_ow hcv
  subst hlen
  refine .ow (.sl r.blk cap r.sz ty cur es (fun i j => cur.getD (i * r.sz + j) undef) F hb' (by rw [hcur, hrl]) hnc hm hl (fun i j e c hi hj => ?_) (fun i j e c hi hj => ?_)) (fun b hb => ?_)
  · obtain ⟨v, hv, _⟩ := hval i j e c hi hj
    simp [hv]
  · obtain ⟨v, hv, hco, _⟩ := hval i j e c hi hj
    have hg : cur.getD (i * r.sz + j) undef = v := by simp [hv]
    rw [hg]
    exact hco
  · rcases List.mem_cons.1 hb with rfl | hb
    · exact hblk
    · obtain ⟨i, j, hi, hj, hb⟩ := of_mem_cat hb
      have hi' : es[i]? = some es[i] := List.getElem?_eq_getElem hi
      have hj' : es[i][j]? = some (es[i][j]'(by rw [hl _ (List.getElem_mem hi)]; exact hj)) := List.getElem?_eq_getElem _
      obtain ⟨v, _, _, hS⟩ := hval i j _ _ hi' hj'
      have := hS b hb
      exact this.1.imp_right fun h => ⟨h, this.2.1⟩

/-- A row of scalars. -/
theorem out_row_flat {id n cap : Nat} {r : LRow} {es : List (List D)} (hX : X.mod = []) (hr : H[id]? = some (some r)) (hes : r.es.take n = es.map (List.map AV.d)) (hn : n ≤ r.es.length) (hl : ∀ e ∈ es, e.length = r.sz) (hv : ∀ e ∈ es, ∀ c ∈ e, ∃ x, c = .v x) :
    Out nt X f H N (.row id n cap) (.ow [r.blk] (.sl es)) := by
  have hlen : es.length = n := by
    have := congrArg List.length hes
    simp at this
    omega
  have hcat : cat (fun _ _ => []) n r.sz = [] := by simp [cat]
  have := out_row_ow (nt := nt) (X := X) (f := f) (H := H) (N := N) (cap := cap) (F := fun _ _ => []) hX hr hlen (fun i j e c hi hj => by
    have h1 : (r.es.take n)[i]? = some (e.map AV.d) := by rw [hes, List.getElem?_map, hi]; rfl
    obtain ⟨x, rfl⟩ := hv e (List.mem_of_getElem? hi) c (List.mem_of_getElem? hj)
    exact ⟨e.map AV.d, .d (.v x), (take_at h1).2, by simp, by rw [List.getElem?_map, hj]; rfl, .v x⟩) hl
  rwa [hcat] at this

theorem out_agg {cs rs : List AV} (hl : rs.length = cs.length) (h : ∀ (j : Nat) (c r : AV), cs[j]? = some c → rs[j]? = some r → Out nt X f H N c r) : Out nt X f H N (.agg cs) (.agg rs) := by
  intro a w s u hu
  obtain ⟨us, rfl, hul, huc⟩ := inv_agg hu
  refine .agg rs us (hul.trans hl.symm) fun j r u hj hju => ?_
  have hj' : j < cs.length := by rw [← hl]; exact (List.getElem?_eq_some_iff.1 hj).1
  exact h j _ r (List.getElem?_eq_getElem hj') hj a w s u (huc j _ u (List.getElem?_eq_getElem hj') hju)

/-- An owned tree, seen as a tree alone. -/
theorem out_ow_d {fp : List Nat} {t : D} : Out nt X f H N (.ow fp t) (.d t) := fun a w s u hu => by
  obtain ⟨h1, h2⟩ := inv_ow hu
  exact .d (h1.cd fun b hb => (h2 b hb).1.imp_right fun h => ⟨h, (h2 b hb).2.1⟩)

/-! ### Local rows as arguments -/

/-- What a callee sees of a value while it runs. -/
def Shr (nt : Nat) (X : Ctx) (f : Fr) (H : Hp) (N : Nat) (x r : AV) : Prop :=
  ∀ a w, St nt X f H N a w → ∀ u, Conc w (X.S H N) H x u → Conc w (fun b => b < N) [] r u

theorem shr_clo {x : AV} (h : clo x = true) : Shr nt X f H N x x := fun a w s u hu =>
  (hu.clo h []).mono (fun b hb => ⟨hb.2.1, rfl⟩) (by intro id r hr; simp at hr)

theorem shr_ow {fp : List Nat} {t : D} : Shr nt X f H N (.ow fp t) (.d t) := fun a w s u hu => by
  obtain ⟨h1, h2⟩ := inv_ow hu
  exact .d (h1.cd fun b hb => (h2 b hb).2.1)

theorem shr_row {id n cap : Nat} {r : LRow} {es : List (List D)} (hr : H[id]? = some (some r)) (hes : r.es.take n = es.map (List.map AV.d)) : Shr nt X f H N (.row id n cap) (.d (.sl es)) := fun a w s u hu =>
  .d (row_cd s hr hes hu (fun b hb => hb.2.1) (by have := (s.rows id r hr).1.lt; have := s.heap; omega))

/-- A cell that a callee may read as a tree. -/
def ToD (nt : Nat) (X : Ctx) (f : Fr) (H : Hp) (N : Nat) (c : AV) (t : D) : Prop := ∀ a w, St nt X f H N a w → ∀ u, Conc w (X.S H N) H c u → CD w (fun b => b < N) t u
theorem toD_d {t : D} : ToD nt X f H N (.d t) t := fun a w s u hu => (inv_d hu).mono fun b hb => ⟨hb.2.1, rfl⟩
theorem toD_ow {fp : List Nat} {t : D} : ToD nt X f H N (.ow fp t) t := fun a w s u hu => by
  obtain ⟨h1, h2⟩ := inv_ow hu
  exact h1.cd fun b hb => (h2 b hb).2.1
theorem toD_row {id n cap : Nat} {r : LRow} {es : List (List D)} (hr : H[id]? = some (some r)) (hes : r.es.take n = es.map (List.map AV.d)) : ToD nt X f H N (.row id n cap) (.sl es) := fun a w s u hu =>
  inv_d (shr_row hr hes a w s u hu)

theorem shr_ptr {id i off : Nat} {r : LRow} {e : List AV} {ds : List D} (hr : H[id]? = some (some r)) (he : r.es[i]? = some e) (hl : ds.length ≤ (e.drop off).length)
    (hd : ∀ (j : Nat) (c : AV) (t : D), (e.drop off)[j]? = some c → ds[j]? = some t → ToD nt X f H N c t) : Shr nt X f H N (.ptr id i off) (.rf ds) := fun a w s u hu => by
  rw [inv_ptr hr hu]
  obtain ⟨U, hc, hcu⟩ := cells_of_row (s.rows id r hr).1 (off := off) he
  refine .rf r.blk _ ds U (by have := (s.rows id r hr).1.lt; have := s.heap; omega) (fun j t hj => ?_) (fun j t hj => ?_)
  all_goals
    have hjl : j < (e.drop off).length := Nat.lt_of_lt_of_le (List.getElem?_eq_some_iff.1 hj).1 hl
    have hcj : (e.drop off)[j]? = some ((e.drop off)[j]) := List.getElem?_eq_getElem hjl
  · exact hc j _ hcj
  · exact hd j _ t hcj hj a w s _ (hcu j _ hcj)

/-- A result that leans on nothing that stood before the call. -/
def sf1 (N : Nat) : AV → Prop
  | .any => True
  | .d (.v _) => True
  | .ow fp _ => ∀ b ∈ fp, N ≤ b
  | .fn _ [] => True
  | _ => False
def Sfree (N : Nat) : AV → Prop
  | .agg cs | .tup cs => ∀ c ∈ cs, (match c with | .agg ds => ∀ x ∈ ds, sf1 N x | c => sf1 N c)
  | x => sf1 N x

theorem Conc.sf1 {w' : World} {S S' : Nat → Prop} {x : AV} {u : Value} (h : Conc w' S [] x u) (hx : sf1 N x) (hS : ∀ b, S b → N ≤ b → S' b) : Conc w' S' H x u := by
  cases x with
  | any => exact .any u
  | d t => cases t with
    | v x => obtain ⟨rfl, hs⟩ := val_of h; exact .d (.v _ hs)
    | sl => cases hx
  | ow fp t => obtain ⟨h1, h2⟩ := inv_ow h; exact .ow h1 fun b hb => hS b (h2 b hb) (hx b hb)
  | fn g cs =>
    cases cs with
    | nil => obtain ⟨us, rfl, hl, _⟩ := inv_fn h; exact .fn g [] us hl (by simp)
    | cons => cases hx
  | rf => cases hx
  | ptr => cases hx
  | row => cases hx
  | agg => cases hx
  | tup => cases hx

theorem Conc.sfree {w' : World} {S S' : Nat → Prop} {x : AV} {u : Value} (h : Conc w' S [] x u) (hx : Sfree N x) (hS : ∀ b, S b → N ≤ b → S' b) : Conc w' S' H x u := by
  have elem : ∀ (c : AV) (u : Value), Conc w' S [] c u → (match c with | .agg ds => ∀ x ∈ ds, Go.Proofs.Ytbphkpojhinbiaa.sf1 N x | c => Go.Proofs.Ytbphkpojhinbiaa.sf1 N c) → Conc w' S' H c u := by
    intro c u hc hcx
    cases c with
    | agg ds => obtain ⟨us, rfl, hl, hu⟩ := inv_agg hc; exact .agg ds us hl fun j c u hj hju => (hu j c u hj hju).sf1 (hcx c (List.mem_of_getElem? hj)) hS
    | any => exact hc.sf1 hcx hS
    | d => exact hc.sf1 hcx hS
    | ow => exact hc.sf1 hcx hS
    | rf => exact hc.sf1 hcx hS
    | ptr => exact hc.sf1 hcx hS
    | row => exact hc.sf1 hcx hS
    | tup => exact hc.sf1 hcx hS
    | fn => exact hc.sf1 hcx hS
  cases x with
  | agg cs => obtain ⟨us, rfl, hl, hu⟩ := inv_agg h; exact .agg cs us hl fun j c u hj hju => elem c u (hu j c u hj hju) (hx c (List.mem_of_getElem? hj))
  | tup cs => obtain ⟨us, rfl, hl, hu⟩ := inv_tup h; exact .tup cs us hl fun j c u hj hju => elem c u (hu j c u hj hju) (hx c (List.mem_of_getElem? hj))
  | any => exact h.sf1 hx hS
  | d => exact h.sf1 hx hS
  | ow => exact h.sf1 hx hS
  | rf => exact h.sf1 hx hS
  | ptr => exact h.sf1 hx hS
  | row => exact h.sf1 hx hS
  | fn => exact h.sf1 hx hS

/-- A call by contract to which local rows are handed. -/
theorem pl_callL {fx : Operand} {args : List Operand} {tys : Array TypeId} {g : FuncId} {caps bs as : List AV} {post : AV → Nat → Nat → Prop} [hF : Fn P g] (hf : ev f fx = .fn g caps) (has : args.map (ev f) ++ caps = bs) (hlen : as.length = bs.length)
    (hsh : ∀ (j : Nat) (x r : AV), bs[j]? = some x → as[j]? = some r → Shr nt X f H N x r) (hpc : PC P g as post) (hn : Nat.blt d nt = true)
    (h : ∀ r N', post r N N' → N ≤ N' → Sfree N r ∧ PL P nt X ops rest ((d, r) :: f) H N' Q) : PL P nt X ops (⟨some d, .call ⟨.value fx, args.toArray, tys⟩, ty, pos, after, none⟩ :: rest) f H N Q := by
  intro a w s
  subst has
  obtain ⟨us, hfv, hfl, hfu⟩ := inv_fn (hf ▸ s.ev fx)
  have hcl := (eval_list s args).append (bs := caps) (vs := us) ⟨hfl, hfu⟩
  have hN := s.heap
  have hcl' : ConcL w (fun b => b < N) [] as (args.map a.eval ++ us) := ⟨by rw [hcl.1, hlen], fun j r u hj hu => by
    have hj' : j < (args.map (ev f) ++ caps).length := by rw [← hlen]; exact (List.getElem?_eq_some_iff.1 hj).1
    exact hsh j _ r (List.getElem?_eq_getElem hj') hj a w s u (hcl.2 j _ u (List.getElem?_eq_getElem hj') hu)⟩
  have hcall := hpc w (fun b => b < N) _ (fun b hb => by omega) hcl'
  refine wpList_plain rfl fun K hK => ?_
  unfold Oper.wp
  have hrun : (execOp a.eval ⟨some d, .call ⟨.value fx, args.toArray, tys⟩, ty, pos, after, none⟩).run P w = .ok (.enter g (args.map a.eval ++ us).toArray) w := by
    simp [execOp, resolve, hfv, Deferred.ofValue, invoke, hF.ent]
  rw [hrun]
  refine hcall.mono fun e w' ⟨r, u, he, hq, hr, hb⟩ => ?_
  subst he
  rw [hN] at hq hb hr
  have hs : N ≤ w'.heap.size := by have := hb.size; omega
  obtain ⟨hsf, hcont⟩ := h r w'.heap.size hq hs
  refine hK _ _ (hcont _ _ ((s.called hb).put (Nat.le_of_ble_eq_true hn) ?_))
  exact hr.sfree hsf fun b hb' hNb => s.took b (.inr (by rcases hb' with h | h <;> omega)) hs

/-! ### Loops -/

/-- The frame says what the list says. -/
def agree : Fr → Fr → Prop
  | [], _ => True
  | (t, v) :: L, f => lk f t = v ∧ agree L f

theorem agree_all {L f : Fr} (h : agree L f) : ∀ p ∈ L, lk f p.1 = p.2 := by
  induction L with
  | nil => intro p hp; cases hp
  | cons q L ih =>
    obtain ⟨t, v⟩ := q
    intro p hp
    rcases List.mem_cons.1 hp with rfl | hp
    · exact h.1
    · exact ih h.2 p hp

/-- What a round must leave: the next state, less far to go. -/
def Next {α : Type} (fr : α → Fr) (hp : α → Hp) (I : α → Nat → Prop) (μ : α → Nat) (x : α) : Fr → Hp → Nat → Prop := fun f H N =>
  ∃ x', μ x' < μ x ∧ agree (fr x') f ∧ H = hp x' ∧ I x' N

theorem pw_loopF {α : Type} {c : Code} (fr : α → Fr) (hp : α → Hp) (I : α → Nat → Prop) (μ : α → Nat) (x0 : α) (h0 : agree (fr x0) f) (hH : H = hp x0) (hI : I x0 N)
    (round : ∀ x N, I x N → PW P nt X c (fr x) (hp x) N (thn (Next fr hp I μ x) Q)) : PW P nt X (.loop c) f H N Q := by
  subst hH
  refine pw_forget (fr x0) (agree_all h0) ?_
  refine pw_loop (fun m f H N => ∃ x, m = μ x ∧ agree (fr x) f ∧ H = hp x ∧ I x N) (μ x0) ⟨x0, rfl, ?_, rfl, hI⟩ ?_
  · -- the list agrees with itself where its slots are apart
    have : ∀ L : Fr, agree L f → agree L L := by
      intro L h
      have key : ∀ (L' : Fr), (∀ p ∈ L', lk L p.1 = p.2) → agree L' L := by
        intro L'
        induction L' with
        | nil => intro _; trivial
        | cons q L' ih =>
          obtain ⟨t, v⟩ := q
          intro hq
          exact ⟨hq (t, v) (by simp), ih fun p hp => hq p (by simp [hp])⟩
      have hall := agree_all h
      refine key L fun p hp => ?_
      have h1 := hall p hp
      have : lk L p.1 = lk f p.1 := by
        have : ∀ (M : Fr), (∀ q ∈ M, lk f q.1 = q.2) → (∃ q ∈ M, q.1 = p.1) → lk M p.1 = lk f p.1 := by
          intro M
          induction M with
          | nil => rintro _ ⟨q, hq, _⟩; cases hq
          | cons q M ih =>
            obtain ⟨t, v⟩ := q
            intro hM hex
            rw [lk_cons]
            by_cases e : t = p.1
            · rw [if_pos e, ← e]; exact (hM (t, v) (by simp)).symm
            · rw [if_neg e]
              refine ih (fun q hq => hM q (by simp [hq])) ?_
              obtain ⟨q, hq, hqe⟩ := hex
              rcases List.mem_cons.1 hq with rfl | hq
              · exact absurd hqe e
              · exact ⟨q, hq, hqe⟩
        exact this L hall ⟨p, hp, rfl⟩
      rw [this]
      exact h1
    exact this _ h0
  · rintro m f H N ⟨x, rfl, ha, rfl, hi⟩
    refine pw_forget (fr x) (agree_all ha) ?_
    refine PW.mono (round x N hi) fun e f H N q => ?_
    cases e with
    | normal =>
      obtain ⟨x', hlt, h1, h2, h3⟩ := q
      exact ⟨μ x', hlt, x', rfl, h1, h2, h3⟩
    | exit id => exact q
    | goto l => exact q
    | ret => exact q
    | panic ch => exact q
    | outgrown => exact q

end
end Go.Proofs.Ytbphkpojhinbiaa
