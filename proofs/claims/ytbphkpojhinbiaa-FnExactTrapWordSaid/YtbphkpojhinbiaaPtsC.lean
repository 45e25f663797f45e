/-
  The abstract layer: the rules for single operations: moves, loads, stores, new variables, addresses, tests and sums of integers, booleans and strings.
-/
import Derived.Test.YtbphkpojhinbiaaPtsB
namespace Go.Proofs.Ytbphkpojhinbiaa
open Go Go.RowKit
set_option linter.unusedVariables false
set_option linter.unusedSimpArgs false

/-- What a type's row of the table says: its cells; whether its values are aggregates. -/
class Ty (P : Program) (t : Nat) (sz : outParam Nat) (agg : outParam Bool) : Prop where
  info : ∃ i, P.info? t = some i ∧ i.size = sz
  agg : ∃ d, P.underlying t = some d ∧ (match d with | .struct _ | .array _ _ => true | _ => false) = agg
class SlT (P : Program) (t : Nat) (e : outParam Nat) : Prop where
  under : P.underlying t = some (.slice e)
class BoT (P : Program) (t : Nat) : Prop where
  under : P.underlying t = some .bool
class StT (P : Program) (t : Nat) : Prop where
  under : P.underlying t = some .string
class InT (P : Program) (t : Nat) (k : outParam IntKind) : Prop where
  under : P.underlying t = some (.int k)
/-- A field's first cell. -/
class FdT (P : Program) (t i : Nat) (off : outParam Nat) : Prop where
  field : ∃ fs fl inf, P.underlying t = some (.struct fs) ∧ fs[i]? = some fl ∧ fl.offset = off ∧ P.info? fl.type = some inf ∧ inf.size ≠ 0
/-- A type's zero value, by its cells. -/
class ZrT (P : Program) (t : Nat) (zs : outParam (List AV)) : Prop where
  zero : ∃ i z, P.info? t = some i ∧ i.zero = some z ∧ z.cells.toList.map cv = zs

section
variable {P : Program}

theorem run_isAgg {t sz : Nat} {agg : Bool} (h : Ty P t sz agg) (w : World) : (isAgg t).run P w = .ok agg w := by
  obtain ⟨d, hu, hd⟩ := h.agg
  unfold isAgg
  rw [Sem.run_bind, run_underlying hu w]
  subst hd
  cases d <;> rfl

theorem run_size {t sz : Nat} {agg : Bool} (h : Ty P t sz agg) (w : World) : (sizeOf t).run P w = .ok sz w := by
  obtain ⟨i, hi, hs⟩ := h.info
  simp [sizeOf, typeInfo, hi, hs]

/-- The value itself, its head laid open (so that no frame bears a value that is still to be reckoned). -/
def force : AV → Option AV
  | .any => some .any
  | .d t => some (.d t)
  | .ow fp t => some (.ow fp t)
  | .rf cs => some (.rf cs)
  | .ptr id i off => some (.ptr id i off)
  | .row id n cap => some (.row id n cap)
  | .agg cs => some (.agg cs)
  | .tup cs => some (.tup cs)
  | .fn g cs => some (.fn g cs)
theorem force_eq {x v : AV} (h : force x = some v) : x = v := by cases x <;> exact Option.some.inj h

/-- What a load out of these cells gives. -/
def ldA (agg : Bool) (sz : Nat) (cs : List AV) : AV := bif agg then .agg (cs.take sz) else cs.headD .any

theorem run_loadVar_cells {t sz : Nat} {agg : Bool} (hT : Ty P t sz agg) {w : World} {S : Nat → Prop} {H : Hp} {b o : Nat} {cs : List AV} {U : Nat → Value}
    (hc : ∀ (j : Nat) (c : AV), cs[j]? = some c → w.cell? ⟨b, o + j, none⟩ = some (U j)) (hu : ∀ (j : Nat) (c : AV), cs[j]? = some c → Conc w S H c (U j))
    (hl : sz ≤ cs.length) (h1 : 0 < sz) : ∃ u, (loadVar t ⟨b, o, none⟩).run P w = .ok u w ∧ Conc w S H (ldA agg sz cs) u := by
  cases agg with
  | false =>
    have h0 : cs[0]? = some cs[0] := List.getElem?_eq_getElem (by omega)
    refine ⟨U 0, ?_, ?_⟩
    · have := hc 0 _ h0
      simp only [Nat.add_zero] at this
      simp [loadVar, run_isAgg hT, run_load, this]
    · have := hu 0 _ h0
      unfold ldA
      rw [cond_false]
      cases cs with
      | nil => simp at hl; omega
      | cons c r => exact this
  | true =>
    have hrun := run_loadCells_list (P := P) w ⟨b, o, none⟩ ((List.range sz).map U) (fun j v hv => by
      have hj : j < sz := by
        have := (List.getElem?_eq_some_iff.1 hv).1
        simpa using this
      have hv' : v = U j := by simpa [hj] using hv.symm
      subst hv'
      rw [add_mk]
      exact hc j cs[j] (List.getElem?_eq_getElem (by omega)))
    simp only [List.length_map, List.length_range] at hrun
    refine ⟨_, by simp [loadVar, run_isAgg hT, run_size hT, hrun]; rfl, ?_⟩
    refine .agg _ _ (by simp; omega) fun j c u hj hu' => ?_
    rw [List.getElem?_take] at hj
    split at hj
    · rename_i hlt
      have : u = U j := by simpa [hlt] using hu'.symm
      subst this
      exact hu j c hj
    · cases hj

variable {nt : Nat} {X : Ctx} {f : Fr} {H : Hp} {N : Nat} {Q : Exit → Fr → Hp → Nat → Prop} {ops : Array Oper} {rest : List Oper}
  {d : Nat} {ty : TypeId} {pos : String} {after : Array Edge}

/-- An operation that only reads: it yields a value so described, the world as it was. -/
def RD (P : Program) (nt : Nat) (X : Ctx) (op : Op) (ty : TypeId) (f : Fr) (H : Hp) (N : Nat) (v : AV) : Prop :=
  ∀ a w, St nt X f H N a w → ∃ u, (∀ (dst : Option Tmp) (pos : String) (after : Array Edge) (gd : Option (Nat × Bool)), (execOp a.eval ⟨dst, op, ty, pos, after, gd⟩).run P w = .ok (.value u) w) ∧ Conc w (X.S H N) H v u

theorem pl_rd {op : Op} {v : AV} (hr : RD P nt X op ty f H N v) (hn : Nat.blt d nt = true) (h : PL P nt X ops rest ((d, v) :: f) H N Q) : PL P nt X ops (⟨some d, op, ty, pos, after, none⟩ :: rest) f H N Q :=
  pl_val rfl rfl hn (fun a w s => by
    obtain ⟨u, hu, hc⟩ := hr a w s
    exact ⟨u, w, hu _ _ _ _, s, hc⟩) h

theorem rd_move {x : Operand} {v : AV} (hv : force (ev f x) = some v) : RD P nt X (.move x) ty f H N v :=
  fun a w s => ⟨_, fun _ _ _ _ => rfl, force_eq hv ▸ s.ev x⟩

theorem rd_assign {x : Operand} {v : AV} (hv : force (ev f x) = some v) : RD P nt X (.assign x) ty f H N v :=
  fun a w s => ⟨_, fun _ _ _ _ => rfl, force_eq hv ▸ s.ev x⟩

theorem rd_pickT {c x y : Operand} {b : Bool} {v : AV} (hc : ev f c = .d (.v (.bool b))) (hb : b = true) (hv : force (ev f x) = some v) : RD P nt X (.pick c x y) ty f H N v := by
  subst hb
  intro a w s
  have h : a.eval c = .bool true := bool_of (hc ▸ s.ev c)
  exact ⟨_, fun _ _ _ _ => by simp [execOp, h, asBool], force_eq hv ▸ s.ev x⟩
theorem rd_pickF {c x y : Operand} {b : Bool} {v : AV} (hc : ev f c = .d (.v (.bool b))) (hb : b = false) (hv : force (ev f y) = some v) : RD P nt X (.pick c x y) ty f H N v := by
  subst hb
  intro a w s
  have h : a.eval c = .bool false := bool_of (hc ▸ s.ev c)
  exact ⟨_, fun _ _ _ _ => by simp [execOp, h, asBool], force_eq hv ▸ s.ev y⟩

/-- A load through a pointer to cells that stay. -/
theorem rd_load_rf {x : Operand} {t sz : Nat} {agg : Bool} {cs : List D} {v : AV} (hT : Ty P t sz agg) (hx : ev f x = .rf cs) (hl : Nat.ble sz cs.length = true) (h1 : Nat.blt 0 sz = true) (hv : force (ldA agg sz (cs.map .d)) = some v) : RD P nt X (.load t x) ty f H N v := by
  cases force_eq hv
  intro a w s
  obtain ⟨b, o, U, hev, hS, hc, hu⟩ := inv_rf (hx ▸ s.ev x)
  obtain ⟨u, hr, hcu⟩ := run_loadVar_cells hT (S := X.S H N) (H := H) (cs := cs.map .d) (U := U) (w := w)
    (fun j c hj => by
      rw [List.getElem?_map] at hj
      obtain ⟨c', hc', rfl⟩ := Option.map_eq_some_iff.1 hj
      exact hc j c' hc')
    (fun j c hj => by
      rw [List.getElem?_map] at hj
      obtain ⟨c', hc', rfl⟩ := Option.map_eq_some_iff.1 hj
      exact .d (hu j c' hc')) (by simpa using Nat.le_of_ble_eq_true hl) (Nat.le_of_ble_eq_true h1)
  exact ⟨u, fun _ _ _ _ => by simp [execOp, hev, Instr.loadAt, Instr.sureAddr, hr], hcu⟩

theorem cells_of_row {w : World} {S : Nat → Prop} {r : LRow} (h : RowOk w S H r) {i off : Nat} {e : List AV} (hi : r.es[i]? = some e) :
    ∃ U : Nat → Value, (∀ (j : Nat) (c : AV), (e.drop off)[j]? = some c → w.cell? ⟨r.blk, i * r.sz + off + j, none⟩ = some (U j)) ∧ (∀ (j : Nat) (c : AV), (e.drop off)[j]? = some c → Conc w S H c (U j)) := by
  obtain ⟨ty, cur, hb, hcur, hsz, hc⟩ := h
  refine ⟨fun j => cur.getD (i * r.sz + (off + j)) undef, fun j c hj => ?_, fun j c hj => ?_⟩
  all_goals
    rw [List.getElem?_drop] at hj
    obtain ⟨u, hu, _, hcu⟩ := hc i (off + j) e c hi hj
  · rw [cell_of_row w r.blk _ cur ty (0, 0) hb, Nat.add_assoc, hu]
    simp [hu]
  · simpa [hu] using hcu

/-- A load through a pointer into a local row. -/
theorem rd_load_ptr {x : Operand} {t sz id i off : Nat} {agg : Bool} {r : LRow} {e : List AV} {v : AV} (hT : Ty P t sz agg) (hx : ev f x = .ptr id i off) (hr : H[id]? = some (some r)) (he : r.es[i]? = some e)
    (hl : Nat.ble (sz + off) e.length = true) (h1 : Nat.blt 0 sz = true) (hv : force (ldA agg sz (e.drop off)) = some v) : RD P nt X (.load t x) ty f H N v := by
  cases force_eq hv
  intro a w s
  have hev := inv_ptr hr (hx ▸ s.ev x)
  obtain ⟨U, hc, hu⟩ := cells_of_row (s.rows id r hr).1 (off := off) he
  obtain ⟨u, hrun, hcu⟩ := run_loadVar_cells hT (b := r.blk) (o := i * r.sz + off) hc hu (by have := Nat.le_of_ble_eq_true hl; simp; omega) (Nat.le_of_ble_eq_true h1)
  exact ⟨u, fun _ _ _ _ => by simp [execOp, hev, Instr.loadAt, Instr.sureAddr, hrun], hcu⟩

/-- A field's address. -/
theorem run_fieldAt {t i off : Nat} (hF : FdT P t i off) (w : World) (b o : Nat) : (Instr.fieldAt t (.pointer (some ⟨b, o, none⟩)) i).run P w = .ok (.pointer (some ⟨b, o + off, none⟩)) w := by
  obtain ⟨fs, fl, inf, hu, hi, ho, hinf, hs⟩ := hF.field
  subst ho
  simp [Instr.fieldAt, run_underlying hu, hi, Instr.sureAddr, fieldPlace, sizeOf, typeInfo, hinf, hs, add_mk]

theorem rd_field_rf {x : Operand} {t i off : Nat} {cs : List D} (hF : FdT P t i off) (hx : ev f x = .rf cs) : RD P nt X (.fieldAddr t x i) ty f H N (.rf (cs.drop off)) := by
  intro a w s
  obtain ⟨b, o, U, hev, hS, hc, hu⟩ := inv_rf (hx ▸ s.ev x)
  refine ⟨_, fun _ _ _ _ => by simp [execOp, hev, run_fieldAt hF], .rf b (o + off) _ (fun j => U (off + j)) hS (fun j c hj => ?_) (fun j c hj => ?_)⟩
  all_goals rw [List.getElem?_drop] at hj
  · rw [Nat.add_assoc]; exact hc _ c hj
  · exact hu _ c hj

theorem rd_field_ptr {x : Operand} {t i off id k o : Nat} {r : LRow} (hF : FdT P t i off) (hx : ev f x = .ptr id k o) (hr : H[id]? = some (some r)) : RD P nt X (.fieldAddr t x i) ty f H N (.ptr id k (o + off)) := by
  intro a w s
  have hev := inv_ptr hr (hx ▸ s.ev x)
  refine ⟨.pointer (some ⟨r.blk, k * r.sz + o + off, none⟩), fun _ _ _ _ => by simp [execOp, hev, run_fieldAt hF], ?_⟩
  have := Conc.ptr (w := w) (S := X.S H N) id k (o + off) r hr
  rwa [← Nat.add_assoc] at this

/-- The address of an element. -/
theorem run_indexAt {t e sz : Nat} {agg : Bool} (hS : SlT P t e) (hT : Ty P e sz agg) (w : World) (b o n cap i : Nat) (k : IntKind) (hi : i < n) :
    (Instr.indexAt t (.slice (some ⟨b, o, none⟩) n cap) (.int k (i : Int))).run P w = .ok (.pointer (some ⟨b, o + i * sz, none⟩)) w := by
  simp [Instr.indexAt, asIntOf, run_underlying hS.under, hi, run_size hT, add_mk]

theorem rd_index_cd {x y : Operand} {t e sz i : Nat} {agg : Bool} {k : IntKind} {es : List (List D)} {el : List D} (hS : SlT P t e) (hT : Ty P e sz agg)
    (hx : ∀ a w, St nt X f H N a w → CD w (X.S H N) (.sl es) (a.eval x)) (hy : ev f y = .d (.v (.int k (i : Int))))
    (he : es[i]? = some el) (hel : el.length = sz) : RD P nt X (.indexAddr t x y) ty f H N (.rf el) := by
  intro a w s
  obtain ⟨hyv, _⟩ := val_of (hy ▸ s.ev y)
  have hlt : i < es.length := (List.getElem?_eq_some_iff.1 he).1
  obtain ⟨b, o, cap, sz', U, hev, hSb, hcap, hm, hsz, hc, hu⟩ := inv_sl (hx a w s) (by omega)
  obtain rfl : sz' = sz := by rw [← hel]; exact (hsz el (List.mem_of_getElem? he)).symm
  exact ⟨_, fun _ _ _ _ => by simp [execOp, hev, hyv, run_indexAt hS hT w b o es.length cap i k hlt], .rf b _ el (U i) hSb (fun j c hj => hc i j el c he hj) (fun j c hj => hu i j el c he hj)⟩

theorem rd_index_d {x y : Operand} {t e sz i : Nat} {agg : Bool} {k : IntKind} {es : List (List D)} {el : List D} (hS : SlT P t e) (hT : Ty P e sz agg) (hx : ev f x = .d (.sl es)) (hy : ev f y = .d (.v (.int k (i : Int))))
    (he : es[i]? = some el) (hel : el.length = sz) : RD P nt X (.indexAddr t x y) ty f H N (.rf el) :=
  rd_index_cd hS hT (fun a w s => inv_d (hx ▸ s.ev x)) hy he hel

theorem rd_index_ow {x y : Operand} {t e sz i : Nat} {agg : Bool} {k : IntKind} {fp : List Nat} {es : List (List D)} {el : List D} (hS : SlT P t e) (hT : Ty P e sz agg) (hx : ev f x = .ow fp (.sl es)) (hy : ev f y = .d (.v (.int k (i : Int))))
    (he : es[i]? = some el) (hel : el.length = sz) : RD P nt X (.indexAddr t x y) ty f H N (.rf el) :=
  rd_index_cd hS hT (fun a w s => by have h := inv_ow (hx ▸ s.ev x); exact h.1.cd h.2) hy he hel

theorem rd_index_row {x y : Operand} {t e id n cap i : Nat} {agg : Bool} {k : IntKind} {r : LRow} (hS : SlT P t e) (hx : ev f x = .row id n cap) (hr : H[id]? = some (some r)) (hT : Ty P e r.sz agg) (hy : ev f y = .d (.v (.int k (i : Int))))
    (hi : i < n) : RD P nt X (.indexAddr t x y) ty f H N (.ptr id i 0) := by
  intro a w s
  obtain ⟨hyv, _⟩ := val_of (hy ▸ s.ev y)
  obtain ⟨hev, hnc, hl, hm⟩ := inv_row hr (hx ▸ s.ev x)
  refine ⟨.pointer (some ⟨r.blk, i * r.sz, none⟩), fun _ _ _ _ => by simp [execOp, hev, hyv, run_indexAt hS hT w r.blk 0 n cap i k hi], ?_⟩
  simpa using Conc.ptr (w := w) (S := X.S H N) id i 0 r hr

/-- len. -/
theorem rd_len {x : Operand} {t n : Nat} (hlen : ∀ a w, St nt X f H N a w → n ≤ maxLen ∧ (Builtin.len_ #[t] ty #[a.eval x]).run P w = .ok (goInt n) w) :
    RD P nt X (.call ⟨.builtin .len, #[x], #[t]⟩) ty f H N (.d (.v (.int .i64 n))) := by
  intro a w s
  obtain ⟨hm, hrun⟩ := hlen a w s
  refine ⟨.int .i64 n, fun _ _ _ _ => by simp [execOp, resolve, invoke, builtin, hrun]; rfl, .d (.v _ ?_)⟩
  unfold maxLen at hm
  simp only [Sc, Lit.wf, IntKind.min, IntKind.max, IntKind.signed, IntKind.bits]
  simp
  omega

theorem rd_len_d {x : Operand} {t e : TypeId} {es : List (List D)} (hS : SlT P t e) (hx : ev f x = .d (.sl es)) : RD P nt X (.call ⟨.builtin .len, #[x], #[t]⟩) ty f H N (.d (.v (.int .i64 (es.length : Int)))) :=
  rd_len fun a w s => by
    obtain ⟨ad, cap, hev, h1, h2⟩ := sl_form (inv_d (hx ▸ s.ev x))
    exact ⟨Nat.le_trans h1 h2, by simp [Builtin.len_, run_underlying hS.under, hev]⟩

theorem rd_len_ow {x : Operand} {t e : TypeId} {fp : List Nat} {es : List (List D)} (hS : SlT P t e) (hx : ev f x = .ow fp (.sl es)) : RD P nt X (.call ⟨.builtin .len, #[x], #[t]⟩) ty f H N (.d (.v (.int .i64 (es.length : Int)))) :=
  rd_len fun a w s => by
    have hc := inv_ow (hx ▸ s.ev x)
    obtain ⟨ad, cap, hev, h1, h2⟩ := sl_form (hc.1.cd hc.2)
    exact ⟨Nat.le_trans h1 h2, by simp [Builtin.len_, run_underlying hS.under, hev]⟩

theorem rd_len_row {x : Operand} {t e : TypeId} {id n cap : Nat} {r : LRow} (hS : SlT P t e) (hx : ev f x = .row id n cap) (hr : H[id]? = some (some r)) : RD P nt X (.call ⟨.builtin .len, #[x], #[t]⟩) ty f H N (.d (.v (.int .i64 (n : Int)))) :=
  rd_len fun a w s => by
    obtain ⟨hev, h1, _, h2⟩ := inv_row hr (hx ▸ s.ev x)
    exact ⟨Nat.le_trans h1 h2, by simp [Builtin.len_, run_underlying hS.under, hev]⟩

theorem rd_len_s {x : Operand} {t : TypeId} {b : ByteArray} (hS : StT P t) (hx : ev f x = .d (.v (.string b))) : RD P nt X (.call ⟨.builtin .len, #[x], #[t]⟩) ty f H N (.d (.v (.int .i64 (b.size : Int)))) :=
  rd_len fun a w s => by
    obtain ⟨hev, h2⟩ := val_of (hx ▸ s.ev x)
    exact ⟨h2, by simp [Builtin.len_, run_underlying hS.under, hev]⟩

theorem rd_bin {op : BinOp} {x y : Operand} {t t' : TypeId} {u v r : Value} (hx : ev f x = .d (.v u)) (hy : ev f y = .d (.v v)) (hr : ∀ w, (binOp op t u v).run P w = .ok r w)
    (hg : (∀ c, u ≠ .agg c) ∧ u ≠ .nilIface) (hs : Sc r) : RD P nt X (.binOp op t x y t') ty f H N (.d (.v r)) := by
  intro a w s
  have h1 := (val_of (hx ▸ s.ev x)).1
  have h2 := (val_of (hy ▸ s.ev y)).1
  have hgd : (eqGuard op t x y u v).run P w = .ok () w := by
    unfold eqGuard
    obtain ⟨ha, hi⟩ := hg
    cases op <;> cases u <;> simp_all
  exact ⟨r, fun _ _ _ _ => by simp [execOp, h1, h2, hgd, hr], .d (.v _ hs)⟩

def cmpI : BinOp → Int → Int → Bool
  | .eql, a, b => decide (a = b)
  | .neq, a, b => !decide (a = b)
  | .lss, a, b => decide (a < b)
  | .leq, a, b => decide (a ≤ b)
  | .gtr, a, b => decide (b < a)
  | _, a, b => decide (b ≤ a)

theorem run_cmpI {op : BinOp} {k : IntKind} {t : TypeId} (p q : Int) (hop : op = .eql ∨ op = .neq ∨ op = .lss ∨ op = .leq ∨ op = .gtr ∨ op = .geq) (w : World) :
    (binOp op t (.int k p) (.int k q)).run P w = .ok (.bool (cmpI op p q)) w := by
  rcases hop with rfl | rfl | rfl | rfl | rfl | rfl <;> simp [binOp, Op.intCmp, cmpI] <;> rfl

section
variable {x y : Operand} {t t' : TypeId} {k : IntKind} {p q : Int} (hx : ev f x = .d (.v (.int k p))) (hy : ev f y = .d (.v (.int k q)))
include hx hy
theorem rd_eql : RD P nt X (.binOp .eql t x y t') ty f H N (.d (.v (.bool (decide (p = q))))) := rd_bin hx hy (run_cmpI p q (by simp)) ⟨fun c => by simp, by simp⟩ trivial
theorem rd_neq : RD P nt X (.binOp .neq t x y t') ty f H N (.d (.v (.bool (!decide (p = q))))) := rd_bin hx hy (run_cmpI p q (by simp)) ⟨fun c => by simp, by simp⟩ trivial
theorem rd_lss : RD P nt X (.binOp .lss t x y t') ty f H N (.d (.v (.bool (decide (p < q))))) := rd_bin hx hy (run_cmpI p q (by simp)) ⟨fun c => by simp, by simp⟩ trivial
theorem rd_leq : RD P nt X (.binOp .leq t x y t') ty f H N (.d (.v (.bool (decide (p ≤ q))))) := rd_bin hx hy (run_cmpI p q (by simp)) ⟨fun c => by simp, by simp⟩ trivial
theorem rd_gtr : RD P nt X (.binOp .gtr t x y t') ty f H N (.d (.v (.bool (decide (q < p))))) := rd_bin hx hy (run_cmpI p q (by simp)) ⟨fun c => by simp, by simp⟩ trivial
theorem rd_geq : RD P nt X (.binOp .geq t x y t') ty f H N (.d (.v (.bool (decide (q ≤ p))))) := rd_bin hx hy (run_cmpI p q (by simp)) ⟨fun c => by simp, by simp⟩ trivial
end

def ariI : BinOp → Int → Int → Int
  | .add, a, b => a + b
  | .sub, a, b => a - b
  | _, a, b => a * b

theorem sc_wrap (n : Int) : Sc (.int .i64 (IntKind.i64.wrap n)) := by
  simp only [Sc, Lit.wf, IntKind.wrap_i64, IntKind.min, IntKind.max, IntKind.signed, IntKind.bits]
  simp
  omega

theorem wrap_fit {n : Int} (h1 : -9223372036854775808 ≤ n) (h2 : n ≤ 9223372036854775807) : IntKind.i64.wrap n = n := by
  rw [IntKind.wrap_i64]; omega

/-- A sum, a difference or a product. -/
theorem rd_ari {op : BinOp} {x y : Operand} {t t' : TypeId} {p q r : Int} (hx : ev f x = .d (.v (.int .i64 p))) (hy : ev f y = .d (.v (.int .i64 q))) (hr : IntKind.i64.wrap (ariI op p q) = r)
    (hop : op = .add ∨ op = .sub ∨ op = .mul) : RD P nt X (.binOp op t x y t') ty f H N (.d (.v (.int .i64 r))) := by
  subst hr
  refine rd_bin hx hy (fun w => ?_) ⟨fun c => by simp, by simp⟩ (sc_wrap _)
  rcases hop with rfl | rfl | rfl <;> simp [binOp, Op.intArith, ariI]

theorem rd_add {x y : Operand} {t t' : TypeId} {p q : Int} (hx : ev f x = .d (.v (.int .i64 p))) (hy : ev f y = .d (.v (.int .i64 q))) (h : -9223372036854775808 ≤ p + q ∧ p + q ≤ 9223372036854775807) :
    RD P nt X (.binOp .add t x y t') ty f H N (.d (.v (.int .i64 (p + q)))) := rd_ari hx hy (wrap_fit h.1 h.2) (.inl rfl)
theorem rd_sub {x y : Operand} {t t' : TypeId} {p q : Int} (hx : ev f x = .d (.v (.int .i64 p))) (hy : ev f y = .d (.v (.int .i64 q))) (h : -9223372036854775808 ≤ p - q ∧ p - q ≤ 9223372036854775807) :
    RD P nt X (.binOp .sub t x y t') ty f H N (.d (.v (.int .i64 (p - q)))) := rd_ari hx hy (wrap_fit h.1 h.2) (.inr (.inl rfl))
theorem rd_addw {x y : Operand} {t t' : TypeId} {p q : Int} (hx : ev f x = .d (.v (.int .i64 p))) (hy : ev f y = .d (.v (.int .i64 q))) :
    RD P nt X (.binOp .add t x y t') ty f H N (.d (.v (.int .i64 (IntKind.i64.wrap (p + q))))) := rd_ari hx hy rfl (.inl rfl)
theorem rd_subw {x y : Operand} {t t' : TypeId} {p q : Int} (hx : ev f x = .d (.v (.int .i64 p))) (hy : ev f y = .d (.v (.int .i64 q))) :
    RD P nt X (.binOp .sub t x y t') ty f H N (.d (.v (.int .i64 (IntKind.i64.wrap (p - q))))) := rd_ari hx hy rfl (.inr (.inl rfl))

/-- i + 1 at a counter. -/
theorem rd_incr {x y : Operand} {t t' : TypeId} {k : Nat} (hx : ev f x = .d (.v (.int .i64 (k : Int)))) (hy : ev f y = .d (.v (.int .i64 1))) (hk : k < maxLen) :
    RD P nt X (.binOp .add t x y t') ty f H N (.d (.v (.int .i64 ((k + 1 : Nat) : Int)))) := by
  refine rd_ari hx hy (r := ((k + 1 : Nat) : Int)) ?_ (.inl rfl)
  unfold maxLen at hk
  rw [show ariI .add (k : Int) 1 = ((k + 1 : Nat) : Int) from rfl]
  exact wrap_fit (by omega) (by omega)

theorem run_equalInB {t : TypeId} (hT : BoT P t) (n : Nat) (p q : Bool) (w : World) : (Op.equalIn (n + 1) t (.bool p) (.bool q)).run P w = .ok (p == q) w := by
  simp [Op.equalIn, run_underlying hT.under]
theorem run_equalB {t : TypeId} (hT : BoT P t) (p q : Bool) (w : World) : (Op.equal t (.bool p) (.bool q)).run P w = .ok (p == q) w := run_equalInB hT 9999 p q w
theorem run_eqlB {t : TypeId} (hT : BoT P t) (p q : Bool) (w : World) : (binOp .eql t (.bool p) (.bool q)).run P w = .ok (.bool (p == q)) w := by
  have h : binOp .eql t (.bool p) (.bool q) = (do pure (.bool (← Op.equal t (.bool p) (.bool q)))) := rfl
  rw [h, Sem.run_bind, run_equalB hT]
  rfl
theorem run_neqB {t : TypeId} (hT : BoT P t) (p q : Bool) (w : World) : (binOp .neq t (.bool p) (.bool q)).run P w = .ok (.bool (p != q)) w := by
  have h : binOp .neq t (.bool p) (.bool q) = (do pure (.bool (!(← Op.equal t (.bool p) (.bool q))))) := rfl
  rw [h, Sem.run_bind, run_equalB hT]
  rfl

theorem rd_eqlB {x y : Operand} {t t' : TypeId} {p q : Bool} [hT : BoT P t] (hx : ev f x = .d (.v (.bool p))) (hy : ev f y = .d (.v (.bool q))) : RD P nt X (.binOp .eql t x y t') ty f H N (.d (.v (.bool (p == q)))) :=
  rd_bin hx hy (run_eqlB hT p q) ⟨fun c => by simp, by simp⟩ trivial
theorem rd_neqB {x y : Operand} {t t' : TypeId} {p q : Bool} [hT : BoT P t] (hx : ev f x = .d (.v (.bool p))) (hy : ev f y = .d (.v (.bool q))) : RD P nt X (.binOp .neq t x y t') ty f H N (.d (.v (.bool (p != q)))) :=
  rd_bin hx hy (run_neqB hT p q) ⟨fun c => by simp, by simp⟩ trivial

theorem strEq (p q : ByteArray) : (p.toList == q.toList) = decide (p = q) := by
  rw [ByteArray.toList_eq, ByteArray.toList_eq, Bool.eq_iff_iff, beq_iff_eq, decide_eq_true_eq]
  constructor
  · intro h
    cases p
    cases q
    exact congrArg ByteArray.mk (Array.ext' h)
  · rintro rfl
    rfl
theorem rd_eqlS {x y : Operand} {t t' : TypeId} {p q : ByteArray} (hx : ev f x = .d (.v (.string p))) (hy : ev f y = .d (.v (.string q))) : RD P nt X (.binOp .eql t x y t') ty f H N (.d (.v (.bool (decide (p = q))))) :=
  rd_bin (r := .bool (decide (p = q))) hx hy (fun w => by rw [← strEq]; rfl) ⟨fun c => by simp, by simp⟩ trivial
theorem rd_neqS {x y : Operand} {t t' : TypeId} {p q : ByteArray} (hx : ev f x = .d (.v (.string p))) (hy : ev f y = .d (.v (.string q))) : RD P nt X (.binOp .neq t x y t') ty f H N (.d (.v (.bool (!decide (p = q))))) :=
  rd_bin (r := .bool (!decide (p = q))) hx hy (fun w => by rw [← strEq]; rfl) ⟨fun c => by simp, by simp⟩ trivial

theorem rd_not {x : Operand} {t : TypeId} {p : Bool} (hx : ev f x = .d (.v (.bool p))) : RD P nt X (.unOp .not t x) ty f H N (.d (.v (.bool (!p)))) := by
  intro a w s
  have h1 := (val_of (hx ▸ s.ev x)).1
  exact ⟨_, fun _ _ _ _ => by simp [execOp, h1, Op.unary], .d (.v (.bool (!p)) trivial)⟩

/-- One of several results. -/
theorem rd_extract {x : Operand} {i : Nat} {cs : List AV} {c v : AV} (hx : ev f x = .tup cs) (hi : cs[i]? = some c) (hv : force c = some v) : RD P nt X (.extract x i) ty f H N v := by
  cases force_eq hv
  intro a w s
  obtain ⟨us, hev, hl, hu⟩ := inv_tup (hx ▸ s.ev x)
  have hlt : i < us.length := by rw [hl]; exact (List.getElem?_eq_some_iff.1 hi).1
  exact ⟨us[i], fun _ _ _ _ => by simp [execOp, hev, Instr.extract, hlt], hu i c _ hi (List.getElem?_eq_getElem hlt)⟩

end
end Go.Proofs.Ytbphkpojhinbiaa
