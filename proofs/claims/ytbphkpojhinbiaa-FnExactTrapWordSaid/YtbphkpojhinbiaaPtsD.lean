/-
  The abstract layer: new local rows, and stores into them.
-/
import Derived.Test.YtbphkpojhinbiaaPtsC
namespace Go.Proofs.Ytbphkpojhinbiaa
open Go Go.RowKit
set_option linter.unusedVariables false
set_option linter.unusedSimpArgs false

section
variable {P : Program} {nt : Nat} {X : Ctx} {f : Fr} {H : Hp} {N : Nat} {Q : Exit → Fr → Hp → Nat → Prop} {ops : Array Oper} {rest : List Oper}
  {d : Nat} {ty : TypeId} {pos : String} {after : Array Edge} {a : Act} {w : World}

theorem S_push (X : Ctx) (H : Hp) (N : Nat) (r : LRow) (hb : r.blk = N) : ∀ b, X.S H N b → X.S (H ++ [some r]) (N + 1) b := by
  intro b ⟨h1, h2, h3⟩
  refine ⟨h1, by omega, fun id r' hr => ?_⟩
  rcases Nat.lt_or_ge id H.length with hlt | hge
  · rw [List.getElem?_append_left hlt] at hr
    exact h3 id r' hr
  · rw [List.getElem?_append_right hge] at hr
    have : r' = r := by
      rcases Nat.eq_zero_or_pos (id - H.length) with h0 | h0
      · rw [h0] at hr; simpa using hr.symm
      · rw [List.getElem?_eq_none (by simp; omega)] at hr; cases hr
    subst this
    omega

theorem Same.push (H : Hp) (r : Option LRow) : Same H (H ++ [r]) := fun id r' h =>
  ⟨r', by rw [List.getElem?_append_left (List.getElem?_eq_some_iff.1 h).1]; exact h, rfl, rfl, rfl⟩

theorem RowOk.mono {w w' : World} {S S' : Nat → Prop} {H H' : Hp} {r : LRow} (h : RowOk w S H r) (hb : w'.heap[r.blk]? = w.heap[r.blk]?)
    (hS : ∀ b, S b → S' b ∧ w'.heap[b]? = w.heap[b]?) (hH : Same H H') : RowOk w' S' H' r := by
  obtain ⟨ty, cur, h1, h2, h3, h4⟩ := h
  refine ⟨ty, cur, hb.trans h1, h2, h3, fun i j e c hi hj => ?_⟩
  obtain ⟨u, hu, ho, hc⟩ := h4 i j e c hi hj
  exact ⟨u, hu, ho, hc.mono hS hH⟩

theorem RowOk.lt {w : World} {S : Nat → Prop} {r : LRow} (h : RowOk w S H r) : r.blk < w.heap.size := by
  obtain ⟨ty, cur, h1, _⟩ := h
  exact (Array.getElem?_eq_some_iff.1 h1).1

/-- A new row. -/
theorem St.push (s : St nt X f H N a w) (ty : TypeId) (cur : Array Value) (sz : Nat) (es : List (List AV)) (hcur : cur.size = es.length * sz) (hsz : ∀ e ∈ es, e.length = sz)
    (hc : ∀ (i j : Nat) (e : List AV) (c : AV), es[i]? = some e → e[j]? = some c → ∃ u, cur[i * sz + j]? = some u ∧ u.oneCell' = true ∧ Conc w (X.S H N) H c u) :
    St nt X f (H ++ [some ⟨N, sz, es⟩]) (N + 1) a (w.alloc (.cells cur ty (0, 0))) := by
  have hN := s.heap
  have hkeep : ∀ b, X.S H N b → X.S (H ++ [some ⟨N, sz, es⟩]) (N + 1) b ∧ (w.alloc (.cells cur ty (0, 0))).heap[b]? = w.heap[b]? := fun b hb =>
    ⟨S_push X H N ⟨N, sz, es⟩ rfl b hb, Below.heap_alloc _ _ _ (by have := hb.2.1; omega)⟩
  have hsame := Same.push H (some ⟨N, sz, es⟩)
  refine ⟨s.defers, s.size, by simp [hN], ?_, fun id r hr => ?_, fun i j r r' hi hj hb => ?_, fun t => (s.fr t).mono hkeep hsame⟩
  · have k := s.keeps
    exact ⟨k.os, k.tape, k.output, by have := k.size; simp; omega, fun b hb hm => (Below.heap_alloc _ _ _ (by have := k.size; omega)).trans (k.block b hb hm)⟩
  · rcases Nat.lt_or_ge id H.length with hlt | hge
    · rw [List.getElem?_append_left hlt] at hr
      obtain ⟨h1, h2⟩ := s.rows id r hr
      exact ⟨h1.mono (Below.heap_alloc _ _ _ h1.lt) hkeep hsame, h2⟩
    · rw [List.getElem?_append_right hge] at hr
      have : r = ⟨N, sz, es⟩ := by
        rcases Nat.eq_zero_or_pos (id - H.length) with h0 | h0
        · rw [h0] at hr; simpa using hr.symm
        · rw [List.getElem?_eq_none (by simp; omega)] at hr; cases hr
      subst this
      refine ⟨⟨ty, cur, ?_, hcur, hsz, fun i j e c hi hj => ?_⟩, .inl (by have := s.keeps.size; show _ ≤ N; omega)⟩
      · show (w.alloc _).heap[N]? = _
        rw [← hN]
        exact heap_alloc_new w _
      · obtain ⟨u, hu, ho, hcu⟩ := hc i j e c hi hj
        exact ⟨u, hu, ho, hcu.mono hkeep hsame⟩
  · have old : ∀ id (r : LRow), (H ++ [some ⟨N, sz, es⟩])[id]? = some (some r) → (H[id]? = some (some r) ∧ r.blk < N) ∨ (id = H.length ∧ r.blk = N) := by
      intro id r hr
      rcases Nat.lt_or_ge id H.length with hlt | hge
      · rw [List.getElem?_append_left hlt] at hr
        exact .inl ⟨hr, by have := (s.rows id r hr).1.lt; omega⟩
      · rw [List.getElem?_append_right hge] at hr
        rcases Nat.eq_zero_or_pos (id - H.length) with h0 | h0
        · rw [h0] at hr
          have : r = ⟨N, sz, es⟩ := by simpa using hr.symm
          exact .inr ⟨by omega, by rw [this]⟩
        · rw [List.getElem?_eq_none (by simp; omega)] at hr; cases hr
    rcases old i r hi with ⟨h1, h2⟩ | ⟨h1, h2⟩ <;> rcases old j r' hj with ⟨h3, h4⟩ | ⟨h3, h4⟩
    · exact s.inj i j r r' h1 h3 hb
    · omega
    · omega
    · omega

/-- Cells of a value. -/
def avc : AV → List AV
  | .agg cs => cs
  | x => [x]

/-- The value's cells, described. -/
theorem avc_conc {S : Nat → Prop} {x : AV} {u : Value} (h : Conc w S H x u) (h1 : (avc x).all AV.one = true) :
    ∃ us : List Value, u.cells = us.toArray ∧ us.length = (avc x).length ∧ ∀ (j : Nat) (c : AV), (avc x)[j]? = some c → ∃ v, us[j]? = some v ∧ v.oneCell' = true ∧ Conc w S H c v := by
  have single : ∀ x : AV, AV.one x = true → ∀ u, Conc w S H x u → avc x = [x] → ∃ us : List Value, u.cells = us.toArray ∧ us.length = (avc x).length ∧ ∀ (j : Nat) (c : AV), (avc x)[j]? = some c → ∃ v, us[j]? = some v ∧ v.oneCell' = true ∧ Conc w S H c v := by
    intro x h1 u h e
    rw [e]
    have ho := h.one h1
    refine ⟨[u], ?_, rfl, fun j c hj => ?_⟩
    · cases u <;> simp_all [Value.cells, Value.oneCell']
    · cases j with
      | zero => cases hj; exact ⟨u, rfl, ho, h⟩
      | succ j => cases hj
  cases x with
  | agg cs =>
    obtain ⟨us, rfl, hl, hu⟩ := inv_agg h
    refine ⟨us, rfl, hl, fun j c hj => ?_⟩
    have hlt : j < us.length := by rw [hl]; exact (List.getElem?_eq_some_iff.1 hj).1
    have hc := hu j c us[j] hj (List.getElem?_eq_getElem hlt)
    exact ⟨_, List.getElem?_eq_getElem hlt, hc.one (List.all_eq_true.1 h1 c (List.mem_of_getElem? hj)), hc⟩
  | any => exact absurd h1 (by simp [avc, AV.one])
  | tup => exact absurd h1 (by simp [avc, AV.one])
  | d => exact single _ rfl u h rfl
  | ow => exact single _ rfl u h rfl
  | rf => exact single _ rfl u h rfl
  | ptr => exact single _ rfl u h rfl
  | row => exact single _ rfl u h rfl
  | fn => exact single _ rfl u h rfl

theorem pl_box {x : Operand} {t : TypeId} {v : AV} (hx : force (ev f x) = some v) (h1 : (avc v).all AV.one = true) (hn : Nat.blt d nt = true)
    (h : PL P nt X ops rest ((d, .ptr H.length 0 0) :: f) (H ++ [some ⟨N, (avc v).length, [avc v]⟩]) (N + 1) Q) : PL P nt X ops (⟨some d, .box t x, ty, pos, after, none⟩ :: rest) f H N Q := by
  refine pl_val rfl rfl hn (fun a w s => ?_) h
  cases force_eq hx
  obtain ⟨us, hu, hl, hc⟩ := avc_conc (s.ev x) h1
  refine ⟨.pointer (some ⟨N, 0, none⟩), w.alloc (.cells us.toArray t (0, 0)), ?_, s.push t us.toArray _ _ (by simp [hl]) (by simp) (fun i j e c hi hj => ?_), ?_⟩
  · simp [execOp, Instr.box, newVar, newRow, hu, s.heap]
  · cases i with
    | zero =>
      cases hi
      obtain ⟨v, hv, ho, hcv⟩ := hc j c hj
      exact ⟨v, by simpa using hv, ho, hcv⟩
    | succ i => cases hi
  · have hl : (H ++ [some (⟨N, (avc (ev f x)).length, [avc (ev f x)]⟩ : LRow)])[H.length]? = some (some ⟨N, (avc (ev f x)).length, [avc (ev f x)]⟩) := by simp
    have := Conc.ptr (w := w.alloc (.cells us.toArray t (0, 0))) (S := X.S (H ++ [some ⟨N, (avc (ev f x)).length, [avc (ev f x)]⟩]) (N + 1)) H.length 0 0 _ hl
    simpa using this

theorem cv_one {v : Value} (h : (cv v).one = true) : v.oneCell' = true := (conc_cv (w := default) (S := fun _ => False) (H := []) v).one h

/-- A new variable at its zero value. -/
theorem pl_alloc {t : TypeId} {zs : List AV} (hZ : ZrT P t zs) (h1 : zs.all AV.one = true) (hn : Nat.blt d nt = true)
    (h : PL P nt X ops rest ((d, .ptr H.length 0 0) :: f) (H ++ [some ⟨N, zs.length, [zs]⟩]) (N + 1) Q) : PL P nt X ops (⟨some d, .alloc t, ty, pos, after, none⟩ :: rest) f H N Q := by
  refine pl_val rfl rfl hn (fun a w s => ?_) h
  obtain ⟨i, z, hi, hz, hzs⟩ := hZ.zero
  subst hzs
  have hrun : (zeroValue t).run P w = .ok z w := by simp [zeroValue, typeInfo, hi, hz]
  refine ⟨.pointer (some ⟨N, 0, none⟩), w.alloc (.cells z.cells t (0, 0)), ?_, s.push t z.cells _ _ (by simp) (by simp) (fun i j e c hi hj => ?_), ?_⟩
  · simp [execOp, Instr.alloc, hrun, newVar, newRow, s.heap]
  · cases i with
    | zero =>
      cases hi
      rw [List.getElem?_map] at hj
      obtain ⟨v, hv, rfl⟩ := Option.map_eq_some_iff.1 hj
      refine ⟨v, by simpa using hv, cv_one (List.all_eq_true.1 h1 _ ?_), conc_cv v⟩
      exact List.mem_map.2 ⟨v, List.mem_of_getElem? hv, rfl⟩
    | succ i => cases hi
  · have hl : (H ++ [some (⟨N, (z.cells.toList.map cv).length, [z.cells.toList.map cv]⟩ : LRow)])[H.length]? = some (some ⟨N, (z.cells.toList.map cv).length, [z.cells.toList.map cv]⟩) := by simp
    have := Conc.ptr (w := w.alloc (.cells z.cells t (0, 0))) (S := X.S (H ++ [some ⟨N, (z.cells.toList.map cv).length, [z.cells.toList.map cv]⟩]) (N + 1)) H.length 0 0 _ hl
    simpa using this

/-- Cells put over others. -/
def over (e : List AV) (off : Nat) (cs : List AV) : List AV := e.take off ++ cs ++ e.drop (off + cs.length)

theorem Same.set {id : Nat} {r : LRow} (hr : H[id]? = some (some r)) (es : List (List AV)) (hl : es.length = r.es.length) : Same H (H.set id (some { r with es := es })) := by
  intro k r' hk
  by_cases h : id = k
  · subst h
    rw [hr] at hk
    cases Option.some.inj (Option.some.inj hk)
    exact ⟨{ r with es := es }, by simp [List.getElem?_set, (List.getElem?_eq_some_iff.1 hr).1], rfl, rfl, hl⟩
  · exact ⟨r', by rw [List.getElem?_set_ne h]; exact hk, rfl, rfl, rfl⟩

theorem set_cases {id k : Nat} {r r' : LRow} {es : List (List AV)} (hr : H[id]? = some (some r)) (hk : (H.set id (some { r with es := es }))[k]? = some (some r')) :
    (k = id ∧ r' = { r with es := es }) ∨ (k ≠ id ∧ H[k]? = some (some r')) := by
  by_cases h : id = k
  · subst h
    rw [List.getElem?_set_self (List.getElem?_eq_some_iff.1 hr).1] at hk
    exact .inl ⟨rfl, (Option.some.inj (Option.some.inj hk)).symm⟩
  · rw [List.getElem?_set_ne h] at hk
    exact .inr ⟨fun e => h e.symm, hk⟩

theorem S_set (X : Ctx) {id : Nat} {r : LRow} (hr : H[id]? = some (some r)) (es : List (List AV)) (b : Nat) : X.S (H.set id (some { r with es := es })) N b ↔ X.S H N b := by
  constructor
  · intro ⟨h1, h2, h3⟩
    refine ⟨h1, h2, fun k r' hk => ?_⟩
    by_cases h : id = k
    · subst h
      rw [hr] at hk
      cases Option.some.inj (Option.some.inj hk)
      exact h3 id { r with es := es } (by simp [List.getElem?_set, (List.getElem?_eq_some_iff.1 hr).1])
    · exact h3 k r' (by rw [List.getElem?_set_ne h]; exact hk)
  · intro ⟨h1, h2, h3⟩
    refine ⟨h1, h2, fun k r' hk => ?_⟩
    rcases set_cases hr hk with ⟨rfl, rfl⟩ | ⟨_, hk⟩
    · exact h3 k r hr
    · exact h3 k r' hk

/-- A row's cells turned as a whole: the new world bears the new elements. -/
theorem St.row {id : Nat} {r : LRow} (s : St nt X f H N a w) (hr : H[id]? = some (some r)) (es : List (List AV)) (cur' : Array Value) (hl : es.length = r.es.length) (hcur : cur'.size = es.length * r.sz) (hsz : ∀ e ∈ es, e.length = r.sz)
    (hc : ∀ (i j : Nat) (e : List AV) (c : AV), es[i]? = some e → e[j]? = some c → ∃ u, cur'[i * r.sz + j]? = some u ∧ u.oneCell' = true ∧ Conc w (X.S H N) H c u) :
    St nt X f (H.set id (some { r with es := es })) N a (w.setRow r.blk cur') := by
  have hkeep : ∀ b, X.S H N b → X.S (H.set id (some { r with es := es })) N b ∧ (w.setRow r.blk cur').heap[b]? = w.heap[b]? := fun b hb =>
    ⟨(S_set X hr es b).2 hb, setRow_other w r.blk b cur' (fun e => hb.2.2 id r hr e.symm)⟩
  have hsame := Same.set hr es hl
  obtain ⟨⟨ty, cur, hb, _⟩, hmay⟩ := s.rows id r hr
  refine ⟨s.defers, s.size, by rw [setRow_size]; exact s.heap, ?_, fun k r' hk => ?_, fun i j r1 r2 hi hj hbe => ?_, fun t => (s.fr t).mono hkeep hsame⟩
  · have k := s.keeps
    refine ⟨k.os, k.tape, k.output, by rw [setRow_size]; exact k.size, fun b hb' hm => ?_⟩
    rw [setRow_other w r.blk b cur' (fun e => by
      subst e
      rcases hmay with h | h
      · omega
      · exact hm h)]
    exact k.block b hb' hm
  · rcases set_cases hr hk with ⟨rfl, rfl⟩ | ⟨hne, hk⟩
    · refine ⟨⟨ty, cur', setRow_heap w r.blk cur cur' ty _ hb, hcur, hsz, fun i j e c hi hj => ?_⟩, hmay⟩
      obtain ⟨u, hu, ho, hcu⟩ := hc i j e c hi hj
      exact ⟨u, hu, ho, hcu.mono hkeep hsame⟩
    · obtain ⟨h1, h2⟩ := s.rows k r' hk
      exact ⟨h1.mono (setRow_other w r.blk r'.blk cur' (fun e => hne (s.inj k id r' r hk hr e))) hkeep hsame, h2⟩
  · rcases set_cases hr hi with ⟨hi1, hi2⟩ | ⟨hne, hi'⟩ <;> rcases set_cases hr hj with ⟨hj1, hj2⟩ | ⟨hne', hj'⟩
    · omega
    · rw [hi2] at hbe
      exact hi1.trans (s.inj id j r r2 hr hj' hbe)
    · rw [hj2] at hbe
      exact (s.inj i id r1 r hi' hr hbe).trans hj1.symm
    · exact s.inj i j r1 r2 hi' hj' hbe

theorem store_index {i i' j sz off n : Nat} (hj : j < sz) (hoff : off + n ≤ sz) (hne : i' ≠ i) : i' * sz + j < i * sz + off ∨ i * sz + off + n ≤ i' * sz + j := by
  rcases Nat.lt_or_gt_of_ne hne with h | h
  · left
    have := Nat.mul_le_mul_right sz (show i' + 1 ≤ i from h)
    rw [Nat.succ_mul] at this
    omega
  · right
    have := Nat.mul_le_mul_right sz (show i + 1 ≤ i' from h)
    rw [Nat.succ_mul] at this
    omega

/-- A store through a pointer into a local row. -/
theorem pl_store {x y : Operand} {t sz id i off : Nat} {agg : Bool} {r : LRow} {e : List AV} {v : AV} (hT : Ty P t sz agg) (hx : ev f x = .ptr id i off) (hr : H[id]? = some (some r)) (he : r.es[i]? = some e)
    (hy : force (ev f y) = some v) (h1 : (avc v).all AV.one = true) (hlen : (avc v).length = sz) (hle : Nat.ble (off + sz) e.length = true)
    (h : PL P nt X ops rest f (H.set id (some { r with es := r.es.set i (over e off (avc v)) })) N Q) : PL P nt X ops (⟨none, .store t x y, ty, pos, after, none⟩ :: rest) f H N Q := by
  refine pl_skip rfl rfl (fun a w s => ?_) h
  cases force_eq hy
  have hev := inv_ptr hr (hx ▸ s.ev x)
  obtain ⟨us, hu, hl, hc⟩ := avc_conc (s.ev y) h1
  obtain ⟨⟨ty', cur, hb, hcur, hsz, hcells⟩, _⟩ := s.rows id r hr
  have hel : e.length = r.sz := hsz e (List.mem_of_getElem? he)
  have hil : i < r.es.length := (List.getElem?_eq_some_iff.1 he).1
  have hle' := Nat.le_of_ble_eq_true hle
  have hmul : i * r.sz + r.sz ≤ r.es.length * r.sz := by
    rw [← Nat.succ_mul]; exact Nat.mul_le_mul_right _ hil
  have h1u : ∀ v ∈ us, v.oneCell' = true := fun v hv => by
    obtain ⟨j, hj⟩ := List.getElem?_of_mem hv
    have hlt : j < (avc (ev f y)).length := by rw [← hl]; exact (List.getElem?_eq_some_iff.1 hj).1
    obtain ⟨v', hv', ho, _⟩ := hc j _ (List.getElem?_eq_getElem hlt)
    rw [hj] at hv'
    cases hv'
    exact ho
  have hrun := run_storeCells_at P r.blk (i * r.sz + off) ty' us 0 cur w hb (by omega) h1u
  simp only [Nat.add_zero] at hrun
  refine ⟨_, ?_, s.row hr (r.es.set i (over e off (avc (ev f y)))) (cur.toList.take (i * r.sz + off) ++ us ++ cur.toList.drop (i * r.sz + off + us.length)).toArray (by simp) ?_ ?_ ?_⟩
  · simp [execOp, hev, Instr.storeAt, Instr.sureAddr, storeVar, run_size hT, hu, hl, hlen, hrun]
  · simp [hcur]; omega
  · intro e' he'
    rcases List.mem_or_eq_of_mem_set he' with h | h
    · exact hsz e' h
    · subst h
      simp [over, hel]
      omega
  · intro i' j e' c hi' hj
    by_cases hii : i = i'
    · subst hii
      rw [List.getElem?_set_self hil] at hi'
      cases hi'
      have hj' : j < r.sz := by
        have := (List.getElem?_eq_some_iff.1 hj).1
        simp [over, hel] at this
        omega
      unfold over at hj
      rw [List.append_assoc] at hj
      by_cases hlo : j < off
      · rw [List.getElem?_append_left (by simp; omega), List.getElem?_take_of_lt hlo] at hj
        obtain ⟨u, hu', ho, hcu⟩ := hcells i j e c he hj
        refine ⟨u, ?_, ho, hcu⟩
        have h0 : i * r.sz + j < cur.size := (Array.getElem?_eq_some_iff.1 hu').1
        simp only [List.getElem?_toArray, List.append_assoc]
        rw [List.getElem?_append_left (by simp; omega), List.getElem?_take_of_lt (by omega)]
        simpa using hu'
      · rw [List.getElem?_append_right (by simp; omega)] at hj
        have hmin : (List.take off e).length = off := by simp; omega
        rw [hmin] at hj
        by_cases hmid : j - off < (avc (ev f y)).length
        · rw [List.getElem?_append_left hmid] at hj
          obtain ⟨v, hv, ho, hcv⟩ := hc _ c hj
          refine ⟨v, ?_, ho, hcv⟩
          simp only [List.getElem?_toArray, List.append_assoc]
          have hmin2 : (List.take (i * r.sz + off) cur.toList).length = i * r.sz + off := by simp; omega
          rw [List.getElem?_append_right (by omega), hmin2, List.getElem?_append_left (by omega)]
          rw [show i * r.sz + j - (i * r.sz + off) = j - off by omega]
          exact hv
        · rw [List.getElem?_append_right (by omega), List.getElem?_drop] at hj
          rw [show off + (avc (ev f y)).length + (j - off - (avc (ev f y)).length) = j by omega] at hj
          obtain ⟨u, hu', ho, hcu⟩ := hcells i j e c he hj
          refine ⟨u, ?_, ho, hcu⟩
          simp only [List.getElem?_toArray, List.append_assoc]
          have hmin2 : (List.take (i * r.sz + off) cur.toList).length = i * r.sz + off := by simp; omega
          rw [List.getElem?_append_right (by omega), hmin2, List.getElem?_append_right (by omega), List.getElem?_drop]
          rw [show i * r.sz + off + us.length + (i * r.sz + j - (i * r.sz + off) - us.length) = i * r.sz + j by omega]
          simpa using hu'
    · rw [List.getElem?_set_ne hii] at hi'
      obtain ⟨u, hu', ho, hcu⟩ := hcells i' j e' c hi' hj
      have hj' : j < r.sz := by rw [← hsz e' (List.mem_of_getElem? hi')]; exact (List.getElem?_eq_some_iff.1 hj).1
      refine ⟨u, ?_, ho, hcu⟩
      have hmin2 : (List.take (i * r.sz + off) cur.toList).length = i * r.sz + off := by simp; omega
      simp only [List.getElem?_toArray, List.append_assoc]
      rcases store_index (i := i) (i' := i') (off := off) (n := us.length) hj' (by omega) (fun e => hii e.symm) with h | h
      · rw [List.getElem?_append_left (by omega), List.getElem?_take_of_lt h]
        simpa using hu'
      · rw [List.getElem?_append_right (by omega), hmin2, List.getElem?_append_right (by omega), List.getElem?_drop]
        rw [show i * r.sz + off + us.length + (i' * r.sz + j - (i * r.sz + off) - us.length) = i' * r.sz + j by omega]
        simpa using hu'

end
end Go.Proofs.Ytbphkpojhinbiaa
