/- Texts for VSectionsP. -/
import Derived.Test.YtdeledeopippfaaVx5
namespace Go.Proofs.Ytdeledeopippfaa
open Go Go.RowKit
set_option linter.unusedVariables false
set_option linter.unusedSimpArgs false
section
variable {E : Env} {P : Program} {nt : Nat} {X : Ctx} {f : Fr} {H : Hp} {Q : Exit → Fr → Hp → Prop}
def blankK : RK → RK
  | .mp .. => .hid
  | k => k
def blank (r : Row) : Row := ⟨r.sz, r.cap, fun _ _ => .any, blankK r.k⟩
def hidM (M : List Nat) : Nat → Hp → Hp
  | _, [] => []
  | k, r :: H => (bif M.contains k then r.map blank else r) :: hidM M (k + 1) H
theorem hidM_at (M : List Nat) : ∀ (H : Hp) (k i : Nat), (hidM M k H)[i]? = (H[i]?).map fun r => bif M.contains (k + i) then r.map blank else r
  | [], k, i => by simp [hidM]
  | r :: H, k, 0 => by simp [hidM]
  | r :: H, k, i + 1 => by
    show (hidM M (k + 1) H)[i]? = _
    rw [hidM_at M H (k + 1) i, List.getElem?_cons_succ, show k + 1 + i = k + (i + 1) by omega]
theorem hidM_len (M : List Nat) : ∀ (H : Hp) (k : Nat), (hidM M k H).length = H.length
  | [], _ => rfl
  | r :: H, k => by show (hidM M (k + 1) H).length + 1 = _; rw [hidM_len M H]; rfl
def hide (M : List Nat) (n : Nat) (H : Hp) : Hp := hidM M 0 (H.take n) ++ H.drop n
theorem hide_at (M : List Nat) (n : Nat) (H : Hp) (id : Nat) : (hide M n H)[id]? = H[id]? ∨ (hide M n H)[id]? = (H[id]?).map (·.map blank) := by
  unfold hide
  rcases Nat.lt_or_ge id (H.take n).length with h | h
  · rw [List.getElem?_append_left (by rw [hidM_len]; exact h), hidM_at]
    have hn : id < n := by simp at h; omega
    rw [List.getElem?_take_of_lt hn]
    cases M.contains (0 + id) with
    | true => exact .inr rfl
    | false => exact .inl (by simp)
  · rw [List.getElem?_append_right (by rw [hidM_len]; exact h), hidM_len]
    left
    rw [List.getElem?_drop]
    simp only [List.length_take] at h ⊢
    rcases Nat.le_total n H.length with hn | hn
    · congr 1
      omega
    · rw [Nat.min_eq_right hn] at h ⊢
      rw [List.getElem?_eq_none (by omega), List.getElem?_eq_none (by omega)]
theorem hide_some {M : List Nat} {n id : Nat} {r : Row} (h : (hide M n H)[id]? = some (some r)) : ∃ r', H[id]? = some (some r') ∧ (r = r' ∨ r = blank r') := by
  rcases hide_at M n H id with e | e
  · rw [e] at h; exact ⟨r, h, .inl rfl⟩
  · rw [e] at h
    cases hr : H[id]? with
    | none => rw [hr] at h; cases h
    | some x =>
      cases x with
      | none => rw [hr] at h; cases h
      | some r' => rw [hr] at h; cases h; exact ⟨r', rfl, .inr rfl⟩
theorem some_hide {M : List Nat} {n id : Nat} {r' : Row} (h : H[id]? = some (some r')) : ∃ r, (hide M n H)[id]? = some (some r) ∧ (r = r' ∨ r = blank r') := by
  rcases hide_at M n H id with e | e
  · exact ⟨r', e.trans h, .inl rfl⟩
  · exact ⟨blank r', by rw [e, h]; rfl, .inr rfl⟩
theorem dims_of {r r' : Row} (h : r = r' ∨ r = blank r') : r.sz = r'.sz ∧ r.cap = r'.cap := by
  rcases h with rfl | rfl
  · exact ⟨rfl, rfl⟩
  · exact ⟨rfl, rfl⟩
theorem hext_hide (M : List Nat) (n : Nat) (H : Hp) (blk : Nat → BC) : HExt H blk (hide M n H) blk := fun id x h => by
  cases x with
  | none =>
    left
    rcases hide_at M n H id with e | e
    · rw [e]; exact h
    · rw [e, h]; rfl
  | some r =>
    obtain ⟨r', h', e⟩ := some_hide (M := M) (n := n) h
    obtain ⟨h1, h2⟩ := dims_of e
    exact .inr ⟨r, r', rfl, h', h1, h2, rfl⟩
theorem hide_hext (M : List Nat) (n : Nat) (H : Hp) (blk : Nat → BC) : HExt (hide M n H) blk H blk := fun id x h => by
  cases x with
  | none =>
    left
    rcases hide_at M n H id with e | e
    · rw [← e]; exact h
    · rw [e] at h
      cases hr : H[id]? with
      | none => rw [hr] at h; cases h
      | some y => cases y with
        | none => rfl
        | some r => rw [hr] at h; cases h
  | some r =>
    obtain ⟨r', h', e⟩ := hide_some h
    obtain ⟨h1, h2⟩ := dims_of e
    exact .inr ⟨r, r', rfl, h', h1.symm, h2.symm, rfl⟩
theorem hide_S (M : List Nat) (n : Nat) (FP : Nat → List Nat) (H : Hp) (N b : Nat) : X.S FP (hide M n H) N b ↔ X.S FP H N b := by
  unfold Ctx.S
  refine and_congr_right fun _ => and_congr_right fun _ => ⟨fun h id r hr => ?_, fun h id r hr => ?_⟩
  · obtain ⟨r', h', e⟩ := some_hide (M := M) (n := n) hr
    exact h id r' h'
  · obtain ⟨r', h', e⟩ := hide_some hr
    exact h id r' h'
theorem StB.hide {blk : Nat → BC} {FP : Nat → List Nat} {a : Act} {w : World} (M : List Nat) (n : Nat) (s : StB nt X f H blk FP a w) : StB nt X f (hide M n H) blk FP a w := by
  have hS : ∀ b, X.S FP H w.heap.size b → X.S FP (Go.Proofs.Ytdeledeopippfaa.hide M n H) w.heap.size b ∧ w.heap[b]? = w.heap[b]? := fun b hb => ⟨(hide_S M n FP H _ b).2 hb, rfl⟩
  refine ⟨s.defers, s.size, s.keeps, fun id r hr => ?_, fun i j r r' hi hj => ?_, fun t => (s.fr t).mono hS (hext_hide M n H blk), s.ext.trans (hext_hide M n H blk)⟩
  · obtain ⟨r', h', e⟩ := hide_some hr
    obtain ⟨h1, h5⟩ := s.rows id r' h'
    refine ⟨?_, h5⟩
    rcases e with rfl | rfl
    · exact h1.mono hS (hext_hide M n H blk) fun _ _ => rfl
    · rcases h1 with h1 | ⟨h0, hle, hk, hb, ty, cur, F, h1, h2, hall, h3, h4⟩
      · refine .inl ⟨h1.1, h1.2.1, ?_⟩
        rcases h1.2.2 with ⟨q1, q2⟩ | q | ⟨ak, fm, sts, q, _⟩
        · refine .inl ⟨?_, q2⟩
          show (blankK r'.k).isMp = false
          cases hk : r'.k <;> rw [hk] at q1 <;> first | rfl | cases q1
        · exact .inr (.inl (by show blankK r'.k = .hid; rw [q]; rfl))
        · exact .inr (.inl (by show blankK r'.k = .hid; rw [q]; rfl))
      · have hk : (blankK r'.k).isMp = false := by cases hk' : r'.k <;> rw [hk'] at hk <;> first | rfl | cases hk
        refine .inr ⟨h0, hle, hk, hb, ty, cur, fun _ _ => [], h1, h2, hall, fun i j hi hj => ?_, by simp, by simp⟩
        obtain ⟨u, q1, q2, _⟩ := h3 i j hi hj
        exact ⟨u, q1, q2, .plain (.any u)⟩
  · obtain ⟨q, hq, e⟩ := hide_some hi
    obtain ⟨q', hq', e'⟩ := hide_some hj
    exact s.apart i j q q' hq hq'
def low1 (n : Nat) : AV → Bool
  | .ptr k _ _ => Nat.blt k n
  | .row k _ => Nat.blt k n
  | .rs k _ _ => Nat.blt k n
  | .mp k => Nat.blt k n
  | .agg _ | .tup _ | .fn _ _ => false
  | _ => true
def low (n : Nat) : AV → Bool
  | .agg cs => cs.all (low1 n)
  | .tup cs => cs.all (low1 n)
  | .fn _ cs => cs.all (low1 n)
  | x => low1 n x
def Ext (n : Nat) (d : Option Nat) (f f' : Fr) : Prop := ∀ t, d ≠ some t → low n (lk f t) = true → lk f' t = lk f t
theorem ext_rfl {n : Nat} {d : Option Nat} {f : Fr} : Ext n d f f := fun _ _ _ => rfl
theorem ext_cons {n d : Nat} {f : Fr} {v : AV} : Ext n (some d) f ((d, v) :: f) := fun t ht _ => by rw [lk_cons, if_neg (fun e => ht (congrArg some e))]
def PJ (P : Program) (nt : Nat) (X : Ctx) (ops : Array Oper) (H1 : Hp) (op : Op) (ty : TypeId) (g : Fr) (v : AV) : Prop :=
  ∀ T, YS P nt X op ty g (H1 ++ T) v ∧ ∀ blk FP a w, StB nt X g (H1 ++ T) blk FP a w → ∃ u, Conc w (X.S FP (H1 ++ T) w.heap.size) blk (H1 ++ T) v u
theorem pj_rd {ops : Array Oper} {H1 : Hp} {op : Op} {ty : TypeId} {g : Fr} {v : AV} (h : ∀ T, RD P nt X op ty g (H1 ++ T) v) : PJ P nt X ops H1 op ty g v := fun T =>
  ⟨ys_rd (h T), fun blk FP a w s => by
    obtain ⟨u, _, hc⟩ := h T blk FP a w s
    exact ⟨u, hc⟩⟩
def waits (D : List Nat) (o : Oper) : Bool := o.after.all fun e => !Region.binds .any e || D.contains e.on
theorem waits_iff {D : List Nat} {o : Oper} : waits D o = true ↔ ∀ e ∈ o.after, Region.binds .any e = true → e.on ∈ D := by
  unfold waits
  rw [Array.all_eq_true']
  constructor
  · intro h e he hb
    have := h e he
    rw [hb] at this
    simpa using this
  · intro h e he
    cases hb : Region.binds .any e with
    | false => rfl
    | true => have := h e he hb; simpa using this
def PR1 (P : Program) (nt : Nat) (X : Ctx) (ops : Array Oper) (H1 : Hp) (o : Oper) (f : Fr) (v : AV) : Prop :=
  (o.guard = none ∧ PJ P nt X ops H1 o.op o.type (restr (looks ops o) f) v) ∨
  (∃ i t pol, o.guard = some (i, pol) ∧ (ops[i]?).bind (·.dst) = some t ∧ ((GY f t pol ∧ PJ P nt X ops H1 o.op o.type (restr (looks ops o) f) v) ∨ (GN f t pol ∧ v = .tup [])))
def lone (ops : Array Oper) (i d : Nat) : Bool :=
  (List.range ops.size).all fun k => match ops[k]? with
    | none => true
    | some q => Nat.beq k i || (!(q.looksAt ops).contains d || q.after.any fun e => Region.binds .any e && Nat.beq e.on i)
theorem lone_spec {ops : Array Oper} {i d k : Nat} {q : Oper} (h : lone ops i d = true) (hk : ops[k]? = some q) (hne : k ≠ i) (hd : d ∈ q.looksAt ops) : ∃ e ∈ q.after, Region.binds .any e = true ∧ e.on = i := by
  unfold lone at h
  have h1 := List.all_eq_true.1 h k (List.mem_range.2 (Array.getElem?_eq_some_iff.1 hk).1)
  rw [hk] at h1
  have hb : Nat.beq k i = false := by
    cases hb : Nat.beq k i with
    | true => exact absurd (Nat.eq_of_beq_eq_true hb) hne
    | false => rfl
  simp only [hb, Bool.false_or, Bool.or_eq_true, Bool.not_eq_true'] at h1
  rcases h1 with h1 | h1
  · rw [List.contains_eq_mem] at h1
    simp [hd] at h1
  · obtain ⟨e, he, hb⟩ := Array.any_eq_true'.1 h1
    rw [Bool.and_eq_true] at hb
    exact ⟨e, he, hb.1, Nat.eq_of_beq_eq_true hb.2⟩
def DR (P : Program) (nt : Nat) (X : Ctx) (ops : Array Oper) (M : List Nat) (H0 : Hp) (Q : Exit → Fr → Hp → Prop) : Nat → List Nat → Fr → Hp → Prop
  | 0, D, f, H => Q .normal f H
  | n + 1, D, f, H =>
    (∃ i o d v, ops[i]? = some o ∧ i ∉ D ∧ o.dst = some d ∧ d < nt ∧ waits D o = true ∧ ((looks ops o).all fun t => low H0.length (lk f t)) = true ∧ low H0.length v = true ∧ lone ops i d = true ∧ PR1 P nt X ops (hidM M 0 H0) o f v ∧ DR P nt X ops M H0 Q n (i :: D) ((d, v) :: f) H) ∨
    (∀ i o, ops[i]? = some o → i ∉ D → waits D o = true →
      PL P nt X ops [o] f H fun e f' H' => e = .normal ∧ Ext H0.length o.dst f f' ∧ hidM M 0 (H'.take H0.length) = hidM M 0 H0 ∧ DR P nt X ops M H0 Q n (i :: D) f' H')
theorem PR1.congr {ops : Array Oper} {H1 : Hp} {o : Oper} {f f' : Fr} {v : AV} (hf : ∀ t ∈ looks ops o, lk f' t = lk f t) (h : PR1 P nt X ops H1 o f v) : PR1 P nt X ops H1 o f' v := by
  have hr : restr (looks ops o) f' = restr (looks ops o) f := List.map_congr_left fun t ht => by rw [hf t ht]
  rcases h with ⟨h1, h2⟩ | ⟨i, t, pol, h1, h2, h4⟩
  · exact .inl ⟨h1, by rw [hr]; exact h2⟩
  · refine .inr ⟨i, t, pol, h1, h2, ?_⟩
    unfold GY GN
    rw [hr, hf t (by unfold looks Oper.looksAt; rw [h1]; exact List.mem_append_right _ (by show t ∈ ((ops[i]?).bind (·.dst)).toList; rw [h2]; simp))]
    exact h4
theorem StB.act {blk : Nat → BC} {FP : Nat → List Nat} {a b : Act} {w : World} (s : StB nt X f H blk FP b w) (hd : a.defers = []) (hs : a.tmps.size = nt) (h : ∀ t, lk f t ≠ .any → a.tmps.getD t undef = b.tmps.getD t undef) : StB nt X f H blk FP a w := by
  refine ⟨hd, hs, s.keeps, s.rows, s.apart, fun t => ?_, s.ext⟩
  by_cases ht : lk f t = .any
  · rw [ht]; exact .any _
  · rw [h t ht]; exact s.fr t
theorem full {D : List Nat} {m : Nat} (hn : D.Nodup) (hl : ∀ i ∈ D, i < m) (hlt : D.length < m) : ∃ i, i < m ∧ i ∉ D := by
  apply Classical.byContradiction
  intro h
  have hsub : ∀ i ∈ List.range m, i ∈ D := fun i hi => Classical.byContradiction fun hd => h ⟨i, List.mem_range.1 hi, hd⟩
  have := List.Nodup.length_le_of_subset (List.nodup_range (n := m)) hsub
  rw [List.length_range] at this
  omega
def pend (ops : Array Oper) (D : List Nat) (listed : Array Bool) (t : Nat) : Prop := ∃ (i : Nat) (o : Oper), ops[i]? = some o ∧ o.dst = some t ∧ i ∈ D ∧ listed.getD i false = false
structure Mid (P : Program) (nt : Nat) (X : Ctx) (ops : Array Oper) (M : List Nat) (H0 : Hp) (Q : Exit → Fr → Hp → Prop) (n : Nat) (D : List Nat) (f : Fr) (H : Hp) (blk : Nat → BC) (FP : Nat → List Nat) (listed : Array Bool) (a b : Act) (w : World) : Prop where
  dr : DR P nt X ops M H0 Q n D f H
  nodup : D.Nodup
  low : ∀ i ∈ D, i < ops.size
  len : D.length + n = ops.size
  old : hidM M 0 (H.take H0.length) = hidM M 0 H0
  inD : ∀ i, listed.getD i false = true → i ∈ D
  size : listed.size = ops.size
  st : StB nt X f H blk FP b w
  defers : a.defers = []
  tmps : a.tmps.size = nt
  same : ∀ t, ¬ pend ops D listed t → a.tmps.getD t undef = b.tmps.getD t undef
  pends : ∀ i ∈ D, listed.getD i false = false → ∃ o d v, ops[i]? = some o ∧ o.dst = some d ∧ d < nt ∧ waits D o = true ∧ lk f d = v ∧ ((looks ops o).all fun t => Go.Proofs.Ytdeledeopippfaa.low H0.length (lk f t)) = true ∧ Go.Proofs.Ytdeledeopippfaa.low H0.length v = true ∧ lone ops i d = true ∧ PR1 P nt X ops (hidM M 0 H0) o f v
def drawOkS (ops : Array Oper) : Bool :=
  (List.range ops.size).all fun i => match ops[i]? with
    | none => true
    | some o => (match o.op with | .select .. => false | _ => true) && (match o.dst with | some d => !(o.looksAt ops).contains d | none => true) && (o.after.all fun e => !Region.binds .any e || Nat.blt e.on i) && (List.range ops.size).all fun j => match ops[j]? with
      | none => true
      | some p => Nat.beq i j || (match p.dst with
        | none => true
        | some d => (o.dst != some d) && (!(o.looksAt ops).contains d || ((Nat.blt j i && o.after.any fun e => Region.binds .any e && Nat.beq e.on j) || (Nat.blt i j && p.after.any fun e => Region.binds .any e && Nat.beq e.on i))))
theorem drawOkS_spec {ops : Array Oper} (h : drawOkS ops = true) {i : Nat} {o : Oper} (hi : ops[i]? = some o) : (∀ cs b, o.op ≠ .select cs b) ∧ (∀ d, o.dst = some d → d ∉ o.looksAt ops) ∧ (∀ e ∈ o.after, Region.binds .any e = true → e.on < i) ∧
    ∀ (j : Nat) (p : Oper) (d : Nat), ops[j]? = some p → i ≠ j → p.dst = some d → o.dst ≠ some d ∧ (d ∈ o.looksAt ops → (j < i ∧ ∃ e ∈ o.after, Region.binds .any e = true ∧ e.on = j) ∨ (i < j ∧ ∃ e ∈ p.after, Region.binds .any e = true ∧ e.on = i)) := by
  unfold drawOkS at h
  have hil : i < ops.size := (Array.getElem?_eq_some_iff.1 hi).1
  have h1 := List.all_eq_true.1 h i (List.mem_range.2 hil)
  rw [hi] at h1
  simp only [Bool.and_eq_true] at h1
  refine ⟨fun cs b e => ?_, fun d hd hm => ?_, fun e he hb => ?_, fun j p d hj hne hd => ?_⟩
  · have := h1.1.1.1
    rw [e] at this
    cases this
  · have := h1.1.1.2
    rw [hd] at this
    simp [List.contains_eq_mem, hm] at this
  · have h2 := Array.all_eq_true'.1 h1.1.2 e he
    rw [hb] at h2
    simpa using h2
  · have hjl : j < ops.size := (Array.getElem?_eq_some_iff.1 hj).1
    have h2 := List.all_eq_true.1 h1.2 j (List.mem_range.2 hjl)
    have hb : Nat.beq i j = false := by
      cases hb : Nat.beq i j with
      | true => exact absurd (Nat.eq_of_beq_eq_true hb) hne
      | false => rfl
    simp only [hj, hb, hd, Bool.false_or, Bool.and_eq_true] at h2
    refine ⟨by simpa using h2.1, fun hm => ?_⟩
    have h3 := h2.2
    simp only [Bool.or_eq_true, Bool.not_eq_true', Bool.and_eq_true] at h3
    rcases h3 with h3 | ⟨h3, h4⟩ | ⟨h3, h4⟩
    · rw [List.contains_eq_mem] at h3
      simp [hm] at h3
    · obtain ⟨e, he, hb⟩ := Array.any_eq_true'.1 h4
      rw [Bool.and_eq_true] at hb
      exact .inl ⟨Nat.le_of_ble_eq_true h3, e, he, hb.1, Nat.eq_of_beq_eq_true hb.2⟩
    · obtain ⟨e, he, hb⟩ := Array.any_eq_true'.1 h4
      rw [Bool.and_eq_true] at hb
      exact .inr ⟨Nat.le_of_ble_eq_true h3, e, he, hb.1, Nat.eq_of_beq_eq_true hb.2⟩
theorem exec_same {ops : Array Oper} {o : Oper} {a b : Act} (hs : ∀ cs b, o.op ≠ .select cs b) (h : ∀ t ∈ o.looksAt ops, a.tmps.getD t undef = b.tmps.getD t undef) : execOp a.eval o = execOp b.eval o :=
  execOp_congr o hs fun x hx => by
    cases x with
    | tmp t => exact h t (List.mem_append_left _ (List.mem_filterMap.2 ⟨.tmp t, by simpa using hx, rfl⟩))
    | _ => rfl
theorem wanted_same {ops : Array Oper} {o : Oper} {a b : Act} (hsz : a.tmps.size = b.tmps.size) (h : ∀ t ∈ o.looksAt ops, a.tmps.getD t undef = b.tmps.getD t undef) :
    Region.wanted o (yielded ops a.tmps) = Region.wanted o (yielded ops b.tmps) := by
  unfold Region.wanted
  cases hg : o.guard with
  | none => rfl
  | some gw =>
    obtain ⟨g, want⟩ := gw
    have hy : yielded ops a.tmps g = yielded ops b.tmps g := by
      unfold yielded
      cases ht : (ops[g]?).bind (·.dst) with
      | none => rfl
      | some t =>
        have := h t (by simp [Oper.looksAt, hg, ht])
        have e : a.tmps[t]? = b.tmps[t]? := by
          rcases Nat.lt_or_ge t a.tmps.size with hl | hl
          · have hl2 : t < b.tmps.size := Nat.lt_of_lt_of_eq hl hsz
            simp [hl, hl2] at this ⊢
            exact this
          · rw [Array.getElem?_eq_none hl, Array.getElem?_eq_none (Nat.le_trans (Nat.le_of_eq hsz.symm) hl)]
        rw [Option.bind_some, Option.bind_some, e]
    show (yielded ops a.tmps g == some want) = (yielded ops b.tmps g == some want)
    rw [hy]
theorem wp_same {ops : Array Oper} {o : Oper} {a b : Act} {w : World} {K K' : Act → World → Prop} {Q Q' : Exit → Act → World → Prop} (he : execOp a.eval o = execOp b.eval o) (hd : a.defers = b.defers)
    (hK : ∀ u w', K (b.put o.dst u) w' → K' (a.put o.dst u) w') (hD : ∀ d u w', ¬ K (({ b with defers := d :: b.defers } : Act).put o.dst u) w') (hQ : ∀ e a w, e ≠ .normal → ¬ Q e a w)
    (h : o.wp P b w K Q) : o.wp P a w K' Q' := by
  unfold Oper.wp at *
  rw [he]
  generalize (execOp b.eval o).run P w = r at *
  cases r with
  | ok n w' =>
    cases n <;> simp only [Oper.upon] at h ⊢
    case value u => exact hK _ _ h
    case skip => exact hK _ _ h
    case defer d => exact absurd h (hD d _ _)
    case enter g args =>
      refine Calls.mono h fun e w'' he => ?_
      cases e with
      | returned u => exact hK _ _ he
      | panicked c => exact absurd he (hQ _ _ _ (by simp))
      | outgrown =>
        obtain ⟨a, w, h⟩ := (he : LetsOut Q)
        exact absurd h (hQ _ _ _ (by simp))
    case row row args => exact Rows.mono h fun u w'' he => hK _ _ he
  | halt x w' =>
    cases x <;> simp only [Oper.upon] at h ⊢
    case panic v => exact absurd h (hQ _ _ _ (by simp))
theorem getD_put {a : Act} {d t : Nat} {u : Value} (h : d ≠ t) : (a.put (some d) u).tmps.getD t undef = a.tmps.getD t undef := by simp [Act.put, Array.getElem?_setIfInBounds_ne h]
theorem put_eq {a b : Act} {o : Option Tmp} {u : Value} {t : Nat} (hs : a.tmps.size = b.tmps.size) (h : o ≠ some t → a.tmps.getD t undef = b.tmps.getD t undef) : (a.put o u).tmps.getD t undef = (b.put o u).tmps.getD t undef := by
  cases o with
  | none => exact h (by simp)
  | some d =>
    by_cases hd : d = t
    · subst hd
      rcases Nat.lt_or_ge d a.tmps.size with hl | hl
      · have hl2 : d < b.tmps.size := Nat.lt_of_lt_of_eq hl hs
        simp [Act.put, hl, hl2]
      · have hl2 : b.tmps.size ≤ d := Nat.le_trans (Nat.le_of_eq hs.symm) hl
        simp [Act.put, hl, hl2]
    · rw [getD_put hd, getD_put hd]
      exact h (fun e => hd (Option.some.inj e))
theorem put_defers {a : Act} {o : Option Tmp} {u : Value} : (a.put o u).defers = a.defers := by cases o <;> rfl
theorem put_size {a : Act} {o : Option Tmp} {u : Value} : (a.put o u).tmps.size = a.tmps.size := by cases o <;> simp [Act.put]
theorem pw_drawS {id : Nat} {l : List Oper} (M : List Nat) (hm : P.follows .mixedOrders = true) (hok : drawOkS l.toArray = true) (h : DR P nt X l.toArray M H Q l.length [] f H) :
    PW P nt X (.region id l.toArray true) f H Q := by
  rintro a w ⟨blk0, FP0, s⟩
  refine wp_region_any hm ?_
  have uniq : ∀ {i j : Nat} {o p : Oper} {d : Nat}, l.toArray[i]? = some o → l.toArray[j]? = some p → o.dst = some d → p.dst = some d → i = j := by
    intro i j o p d hi hj ho hp
    by_cases e : i = j
    · exact e
    · exact absurd ho ((drawOkS_spec hok hi).2.2.2 j p d hj e hp).1
  have key : ∀ (fuel n : Nat) (D : List Nat) (f : Fr) (H' : Hp) (blk : Nat → BC) (FP : Nat → List Nat) (listed : Array Bool) (a b : Act) (w : World), Mid P nt X l.toArray M H Q n D f H' blk FP listed a b w → left l.toArray.size listed ≤ fuel →
      wpAny P .any l.toArray (Lift nt X Q) fuel listed a w := by
    have done : ∀ (n : Nat) (D : List Nat) (f : Fr) (H' : Hp) (blk : Nat → BC) (FP : Nat → List Nat) (listed : Array Bool) (a b : Act) (w : World), Mid P nt X l.toArray M H Q n D f H' blk FP listed a b w → Region.ready .any l.toArray listed = [] → Lift nt X Q .normal a w := by
      intro n D f H' blk FP listed a b w m hr
      have all : ∀ (n i : Nat), i < n → i < l.toArray.size → listed.getD i false = true := by
        intro n
        induction n with
        | zero => intro i hi; omega
        | succ n ih =>
          intro i hi hil
          rcases Nat.lt_or_ge i n with hlt | hge
          · exact ih i hlt hil
          · have hin : i = n := by omega
            subst hin
            cases hu : listed.getD i false with
            | true => rfl
            | false =>
              exfalso
              have hmem : i ∈ Region.ready .any l.toArray listed := by
                refine mem_ready.2 ⟨?_, _, Array.getElem?_eq_getElem hil, fun e he hb => ?_⟩
                · have : i < listed.size := by rw [m.size]; exact hil
                  simp [this] at hu ⊢
                  exact hu
                · have hlt := (drawOkS_spec hok (Array.getElem?_eq_getElem hil)).2.2.1 e he hb
                  exact ih e.on hlt (by omega)
              rw [hr] at hmem
              cases hmem
      have hn : n = 0 := by
        apply Classical.byContradiction
        intro hne
        obtain ⟨i, hi, hD⟩ := full m.nodup m.low (by have := m.len; omega)
        exact hD (m.inD i (all (i + 1) i (by omega) hi))
      subst hn
      refine ⟨f, H', m.dr, blk, FP, m.st.act m.defers m.tmps fun t _ => m.same t ?_⟩
      rintro ⟨i, o, ho, _, _, hl⟩
      rw [all (i + 1) i (by omega) (Array.getElem?_eq_some_iff.1 ho).1] at hl
      cases hl
    intro fuel
    induction fuel with
    | zero =>
      intro n D f H' blk FP listed a b w m hleft
      have hr : Region.ready .any l.toArray listed = [] := by
        rw [List.eq_nil_iff_forall_not_mem]
        intro i hi
        obtain ⟨hu, o, ho, _⟩ := mem_ready.1 hi
        have hil : i < l.toArray.size := (Array.getElem?_eq_some_iff.1 ho).1
        have : 0 < left l.toArray.size listed := by
          unfold left
          refine List.countP_pos_iff.2 ⟨i, List.mem_range.2 hil, ?_⟩
          have : i < listed.size := by rw [m.size]; exact hil
          simp [this] at hu ⊢
          exact hu
        omega
      exact ⟨hr, done _ _ _ _ _ _ _ _ _ _ m hr⟩
    | succ fuel ih =>
      intro n D f H' blk FP listed a b w m hleft
      refine ⟨fun hr => done _ _ _ _ _ _ _ _ _ _ m hr, fun i hi => ?_⟩
      obtain ⟨hu, o, ho, hall⟩ := mem_ready.1 hi
      have hil : i < l.toArray.size := (Array.getElem?_eq_some_iff.1 ho).1
      have hil' : i < listed.size := by rw [m.size]; exact hil
      have hu' : listed.getD i false = false := by
        simp [hil'] at hu ⊢
        exact hu
      obtain ⟨hsel, hown, _, hoth⟩ := drawOkS_spec hok ho
      have hleft' : left l.toArray.size (listed.setIfInBounds i true) ≤ fuel := by
        have : left l.toArray.size (listed.setIfInBounds i true) < left l.toArray.size listed := by
          unfold left
          refine countP_lt (i := i) _ (List.mem_range.2 hil) (fun x hx => ?_) (by simpa using hu') (by simp [hil'])
          by_cases hix : i = x
          · subst hix; simpa using hu'
          · rw [getD_set_ne false hix] at hx; exact hx
        omega
      have hsz' : (listed.setIfInBounds i true).size = l.toArray.size := by simpa using m.size
      have hset : (listed.setIfInBounds i true).getD i false = true := by simp [hil']
      unfold wpOp
      rw [ho]
      dsimp only
      have hlook : ∀ {n : Nat} {D : List Nat} {f : Fr} {b : Act}, Mid P nt X l.toArray M H Q n D f H' blk FP listed a b w → ∀ t ∈ looks l.toArray o, a.tmps.getD t undef = b.tmps.getD t undef := by
        intro n D f b m t ht
        refine m.same t ?_
        rintro ⟨j, p, hj, hpt, hjD, hjl⟩
        by_cases hji : i = j
        · subst hji
          obtain rfl : p = o := Option.some.inj (hj.symm.trans ho)
          exact hown t hpt ht
        · have hw : ∃ e ∈ o.after, Region.binds .any e = true ∧ e.on = j := by
            rcases (hoth j p t hj hji hpt).2 ht with ⟨_, h⟩ | _
            · exact h
            · obtain ⟨p', d', _, hp', hd', _, _, _, _, _, hl, _⟩ := m.pends j hjD hjl
              obtain rfl : p' = p := Option.some.inj (hp'.symm.trans hj)
              obtain rfl : d' = t := Option.some.inj (hd'.symm.trans hpt)
              exact lone_spec hl ho hji ht
          obtain ⟨e, he, hb, hon⟩ := hw
          have := hall e he hb
          rw [hon, hjl] at this
          cases this
      have any_restr : ∀ {o : Oper} {f : Fr} {t : Nat}, lk (restr (looks l.toArray o) f) t ≠ .any → t ∈ looks l.toArray o := by
        intro o f t ht
        apply Classical.byContradiction
        intro hn
        rw [lk_restr, if_neg hn] at ht
        exact ht rfl
      have hHH : ∀ {n : Nat} {D : List Nat} {f : Fr} {b : Act}, Mid P nt X l.toArray M H Q n D f H' blk FP listed a b w → hide M H.length H' = hidM M 0 H ++ H'.drop H.length := fun m => by unfold hide; rw [m.old]
      have hback : ∀ {w' : World} {N' : Nat} {v : AV} {u : Value}, Conc w' (X.S FP (hide M H.length H') N') blk (hide M H.length H') v u → Conc w' (X.S FP H' N') blk H' v u := fun hc => hc.mono (fun b hb => ⟨(hide_S M H.length FP H' _ b).1 hb, rfl⟩) (hide_hext M H.length H' blk)
      have pnd : ∀ (n : Nat) (D : List Nat) (f : Fr) (b : Act), Mid P nt X l.toArray M H Q n D f H' blk FP listed a b w → i ∈ D →
          (if Region.wanted o (yielded l.toArray a.tmps) = true then o.wp P a w (wpAny P .any l.toArray (Lift nt X Q) fuel (listed.setIfInBounds i true)) (Lift nt X Q) ∨ (o.asks P a w ∧ LetsOut (Lift nt X Q))
            else wpAny P .any l.toArray (Lift nt X Q) fuel (listed.setIfInBounds i true) (a.put o.dst undef) w) := by
        intro n D f b m hiD
        obtain ⟨o', d, v, ho', hd, hdn, hw, hlk, hlow, hlv, _, hpr⟩ := m.pends i hiD hu'
        obtain rfl : o' = o := Option.some.inj (ho'.symm.trans ho)
        have s1 : StB nt X (restr (looks l.toArray o') f) (hidM M 0 H ++ H'.drop H.length) blk FP a w := by
          rw [← hHH m]
          exact ((m.st.hide M H.length).restr (looks l.toArray o')).act m.defers m.tmps fun t ht => hlook m t (any_restr ht)
        have next : ∀ u w', Below w.heap.size w w' → Conc w' (X.S FP (hidM M 0 H ++ H'.drop H.length) w'.heap.size) blk (hidM M 0 H ++ H'.drop H.length) v u → wpAny P .any l.toArray (Lift nt X Q) fuel (listed.setIfInBounds i true) (a.put o'.dst u) w' := by
          intro u w' hb hc
          rw [← hHH m] at hc
          refine ih n D f H' blk FP _ _ (b.put (some d) u) w' ?_ hleft'
          refine ⟨m.dr, m.nodup, m.low, m.len, m.old, fun j hj => ?_, hsz', ?_, put_defers.trans m.defers, put_size.trans m.tmps, fun t hp => ?_, fun j hjD hjl => ?_⟩
          · by_cases hij : i = j
            · exact hij ▸ hiD
            · rw [getD_set_ne false hij] at hj; exact m.inD j hj
          · refine ((m.st.called hb).1.put hdn (hback hc)).congr fun t => ?_
            rw [lk_cons]
            split
            · rename_i e; rw [← e]; exact hlk
            · rfl
          · rw [hd]
            refine put_eq (m.tmps.trans m.st.size.symm) fun hne => m.same t ?_
            rintro ⟨j, p, hj, hpt, hjD, hjl⟩
            refine hp ⟨j, p, hj, hpt, hjD, ?_⟩
            have hij : i ≠ j := by
              rintro rfl
              obtain rfl : p = o' := Option.some.inj (hj.symm.trans ho)
              exact hne (hd.symm.trans hpt)
            rw [getD_set_ne false hij]
            exact hjl
          · have hij : i ≠ j := by
              rintro rfl
              rw [hset] at hjl
              cases hjl
            rw [getD_set_ne false hij] at hjl
            exact m.pends j hjD hjl
        rcases hpr with ⟨hg, hy⟩ | ⟨i', t, pol, hgd, hi', hrest⟩
        · rw [if_pos (by simp [Region.wanted, hg])]
          exact .inl ((hy (H'.drop H.length)).1 blk FP a w s1 o'.dst o'.pos o'.after o'.guard _ _ next)
        · have hlt : t ∈ looks l.toArray o' := by
            unfold looks Oper.looksAt
            rw [hgd]
            refine List.mem_append_right _ ?_
            show t ∈ ((l.toArray[i']?).bind (·.dst)).toList
            rw [hi']
            simp
          have hvt := hlook m t hlt
          have yv : ∀ bb, b.tmps.getD t undef = .bool bb → yielded l.toArray a.tmps i' = some bb := by
            intro bb hv
            rw [← hvt] at hv
            unfold yielded
            rw [hi']
            by_cases ht : t < a.tmps.size
            · have : a.tmps[t]? = some (.bool bb) := by
                rw [Array.getElem?_eq_getElem ht]
                simpa [ht] using hv
              simp [this]
            · simp [ht, undef] at hv
          rcases hrest with ⟨hp, hy⟩ | ⟨hp, hany⟩
          · have hv : b.tmps.getD t undef = .bool pol := by
              rcases hp with h | h
              · exact inv_b (h ▸ m.st.fr t)
              · exact inv_kb (h ▸ m.st.fr t)
            rw [if_pos (by simp [Region.wanted, hgd, yv _ hv])]
            exact .inl ((hy (H'.drop H.length)).1 blk FP a w s1 o'.dst o'.pos o'.after o'.guard _ _ next)
          · have hyv : yielded l.toArray a.tmps i' ≠ some pol := by
              rcases hp with h | h | h
              · rw [yv _ (inv_b (h ▸ m.st.fr t))]; simp
              · rw [yv _ (inv_kb (h ▸ m.st.fr t))]; simp
              · have hv : b.tmps.getD t undef = .tuple #[] := by
                  have := h ▸ m.st.fr t
                  obtain ⟨us, hu, hl, _⟩ := inv_tup this
                  cases us with
                  | nil => exact hu
                  | cons => cases hl
                rw [← hvt] at hv
                unfold yielded
                rw [hi']
                by_cases ht : t < a.tmps.size
                · have : a.tmps[t]? = some (.tuple #[]) := by
                    rw [Array.getElem?_eq_getElem ht]
                    simpa [ht] using hv
                  simp [this]
                · simp [ht]
            rw [if_neg (by simpa [Region.wanted, hgd] using hyv)]
            refine next undef w (Below.refl _ _) (by rw [hany]; exact .tup [] [] rfl (by simp))
      clear hi hleft
      revert m
      revert b f D
      induction n with
      | zero =>
        intro D f b m
        refine pnd 0 D f b m ?_
        apply Classical.byContradiction
        intro hD
        have := List.Nodup.length_le_of_subset (List.nodup_cons.2 ⟨hD, m.nodup⟩) (l₂ := List.range l.toArray.size) (fun x hx => by
          rcases List.mem_cons.1 hx with rfl | hx
          · exact List.mem_range.2 hil
          · exact List.mem_range.2 (m.low x hx))
        rw [List.length_range, List.length_cons] at this
        have := m.len
        omega
      | succ n ihn =>
        intro D f b m
        by_cases hiD : i ∈ D
        · exact pnd (n + 1) D f b m hiD
        rcases m.dr with ⟨j, oj, d, v, hj, hjD, hd, hdn, hwj, hlow, hlv, hlone, hpr, hdr⟩ | hbr
        · have hjl : listed.getD j false = false := by
            cases hl : listed.getD j false with
            | false => rfl
            | true => exact absurd (m.inD j hl) hjD
          obtain ⟨_, howj, _, hothj⟩ := drawOkS_spec hok hj
          have hu : ∃ u, Conc w (X.S FP H' w.heap.size) blk H' v u := by
            have s1 : StB nt X (restr (looks l.toArray oj) f) (hidM M 0 H ++ H'.drop H.length) blk FP b w := by
              rw [← hHH m]
              exact (m.st.hide M H.length).restr (looks l.toArray oj)
            have run : PJ P nt X l.toArray (hidM M 0 H) oj.op oj.type (restr (looks l.toArray oj) f) v → ∃ u, Conc w (X.S FP H' w.heap.size) blk H' v u := fun hy => by
              obtain ⟨u, hc⟩ := (hy (H'.drop H.length)).2 blk FP b w s1
              rw [← hHH m] at hc
              exact ⟨u, hback hc⟩
            rcases hpr with ⟨_, hy⟩ | ⟨_, _, _, _, _, ⟨_, hy⟩ | ⟨_, hany⟩⟩
            · exact run hy
            · exact run hy
            · exact ⟨undef, by rw [hany]; exact .tup [] [] rfl (by simp)⟩
          obtain ⟨u, hc⟩ := hu
          have hlooks : ∀ {i2 : Nat} {o2 : Oper}, l.toArray[i2]? = some o2 → i2 ∈ j :: D → waits D o2 = true → ∀ t ∈ looks l.toArray o2, lk ((d, v) :: f) t = lk f t := by
            intro i2 o2 h2 hD2 hw2 t ht
            rw [lk_cons, if_neg]
            rintro rfl
            by_cases e : i2 = j
            · subst e
              obtain rfl : o2 = oj := Option.some.inj (h2.symm.trans hj)
              exact howj d hd ht
            · obtain ⟨e', he, hb, hon⟩ := lone_spec hlone h2 e ht
              exact hjD (hon ▸ waits_iff.1 hw2 e' he hb)
          have hlowc : ∀ {o2 : Oper}, (∀ t ∈ looks l.toArray o2, lk ((d, v) :: f) t = lk f t) → ((looks l.toArray o2).all fun t => low H.length (lk f t)) = true → ((looks l.toArray o2).all fun t => low H.length (lk ((d, v) :: f) t)) = true := by
            intro o2 h1 h2
            rw [List.all_eq_true] at h2 ⊢
            intro t ht
            rw [h1 t ht]
            exact h2 t ht
          refine ihn (j :: D) ((d, v) :: f) (b.put (some d) u) ⟨hdr, List.nodup_cons.2 ⟨hjD, m.nodup⟩, fun x hx => ?_, ?_, m.old, fun x hx => List.mem_cons_of_mem _ (m.inD x hx), m.size, m.st.put hdn hc, m.defers, m.tmps, fun t hp => ?_, fun x hx hxl => ?_⟩
          · rcases List.mem_cons.1 hx with rfl | hx
            · exact (Array.getElem?_eq_some_iff.1 hj).1
            · exact m.low x hx
          · have := m.len
            simp only [List.length_cons]
            omega
          · have hdt : d ≠ t := by
              rintro rfl
              exact hp ⟨j, oj, hj, hd, by simp, hjl⟩
            rw [getD_put hdt]
            refine m.same t ?_
            rintro ⟨x, p, hx, hpt, hxD, hxl⟩
            exact hp ⟨x, p, hx, hpt, List.mem_cons_of_mem _ hxD, hxl⟩
          · rcases List.mem_cons.1 hx with rfl | hxD
            · have h1 := hlooks hj (by simp) hwj
              refine ⟨oj, d, v, hj, hd, hdn, ?_, by rw [lk_cons, if_pos rfl], hlowc h1 hlow, hlv, hlone, hpr.congr h1⟩
              exact waits_iff.2 fun e he hb => List.mem_cons_of_mem _ (waits_iff.1 hwj e he hb)
            · obtain ⟨o2, d2, v2, h1, h2, h3, h4, h5, h6, h7, h7', h8⟩ := m.pends x hxD hxl
              have h9 := hlooks h1 hx h4
              refine ⟨o2, d2, v2, h1, h2, h3, waits_iff.2 fun e he hb => List.mem_cons_of_mem _ (waits_iff.1 h4 e he hb), ?_, hlowc h9 h6, h7, h7', h8.congr h9⟩
              rw [lk_cons, if_neg]
              · exact h5
              · rintro rfl
                have := uniq h1 hj h2 hd
                subst this
                exact hjD hxD
        · have hw : waits D o = true := waits_iff.2 fun e he hb => m.inD e.on (hall e he hb)
          have hp := hbr i o ho hiD hw b w ⟨blk, FP, m.st⟩
          unfold wpList at hp
          rw [wanted_same (ops := l.toArray) (m.tmps.trans m.st.size.symm) (hlook m)]
          have next : ∀ u w', wpList P l.toArray (Lift nt X fun e f' H2 => e = .normal ∧ Ext H.length o.dst f f' ∧ hidM M 0 (H2.take H.length) = hidM M 0 H ∧ DR P nt X l.toArray M H Q n (i :: D) f' H2) [] (b.put o.dst u) w' →
              wpAny P .any l.toArray (Lift nt X Q) fuel (listed.setIfInBounds i true) (a.put o.dst u) w' := by
            intro u w' hk
            obtain ⟨f2, H2, ⟨_, hext, hold, hdr⟩, blk2, FP2, s2⟩ := hk
            refine ih n (i :: D) f2 H2 blk2 FP2 _ _ (b.put o.dst u) w' ⟨hdr, List.nodup_cons.2 ⟨hiD, m.nodup⟩, fun x hx => ?_, ?_, hold, fun x hx => ?_, hsz', s2, put_defers.trans m.defers, put_size.trans m.tmps, fun t hp => ?_, fun x hx hxl => ?_⟩ hleft'
            · rcases List.mem_cons.1 hx with rfl | hx
              · exact hil
              · exact m.low x hx
            · have := m.len
              simp only [List.length_cons]
              omega
            · by_cases hix : i = x
              · subst hix; simp
              · rw [getD_set_ne false hix] at hx; exact List.mem_cons_of_mem _ (m.inD x hx)
            · refine put_eq (m.tmps.trans m.st.size.symm) fun hne => m.same t ?_
              rintro ⟨x, p, hx, hpt, hxD, hxl⟩
              refine hp ⟨x, p, hx, hpt, List.mem_cons_of_mem _ hxD, ?_⟩
              have hix : i ≠ x := by rintro rfl; exact hiD hxD
              rw [getD_set_ne false hix]
              exact hxl
            · have hix : i ≠ x := by
                rintro rfl
                rw [hset] at hxl
                cases hxl
              rw [getD_set_ne false hix] at hxl
              have hxD : x ∈ D := by
                rcases List.mem_cons.1 hx with e | hx
                · exact absurd e.symm hix
                · exact hx
              obtain ⟨o2, d2, v2, h1, h2, h3, h4, h5, h6, h7, h7', h8⟩ := m.pends x hxD hxl
              have h9 : ∀ t ∈ looks l.toArray o2, lk f2 t = lk f t := by
                intro t ht
                refine hext t (fun e => ?_) (List.all_eq_true.1 h6 t ht)
                rcases ((drawOkS_spec hok h1).2.2.2 i o t ho (Ne.symm hix) e).2 ht with ⟨_, e', he, hb, hon⟩ | ⟨_, e', he, hb, hon⟩
                · exact hiD (hon ▸ waits_iff.1 h4 e' he hb)
                · have := hall e' he hb
                  rw [hon, hxl] at this
                  cases this
              refine ⟨o2, d2, v2, h1, h2, h3, waits_iff.2 fun e he hb => List.mem_cons_of_mem _ (waits_iff.1 h4 e he hb), ?_, ?_, h7, h7', h8.congr h9⟩
              · rw [hext d2 (fun e => hix (uniq ho h1 e h2)) (by rw [h5]; exact h7)]
                exact h5
              · rw [List.all_eq_true] at h6 ⊢
                intro t ht
                rw [h9 t ht]
                exact h6 t ht
          by_cases hwt : Region.wanted o (yielded l.toArray b.tmps) = true
          · rw [if_pos hwt] at hp ⊢
            rcases hp with hp | ⟨_, a2, w2, f2, H2, ⟨hq, _⟩, _⟩
            · refine .inl (wp_same (ops := l.toArray) (exec_same hsel (hlook m)) (m.defers.trans m.st.defers.symm) next (fun d u w' hk => ?_) (fun e a w hne hq => ?_) hp)
              · obtain ⟨_, _, _, _, _, s2⟩ := hk
                have := s2.defers
                rw [put_defers] at this
                cases this
              · obtain ⟨_, _, ⟨hq, _⟩, _⟩ := hq
                exact hne hq
            · cases hq
          · rw [if_neg hwt] at hp ⊢
            exact next undef w hp
  refine key l.toArray.size l.length [] f H blk0 FP0 (Array.replicate l.toArray.size false) a a _ ?_ ?_
  · refine ⟨h, List.nodup_nil, by simp, by simp, by rw [List.take_length], fun i hi => ?_, by simp, s.draw, s.defers, s.size, fun t _ => rfl, by simp⟩
    have : (Array.replicate l.toArray.size false).getD i false = false := by
      generalize l.toArray.size = m
      rcases Nat.lt_or_ge i m with hj | hj <;> simp [hj]
    rw [this] at hi
    cases hi
  · unfold left
    exact Nat.le_trans List.countP_le_length (by simp)
end
end Go.Proofs.Ytdeledeopippfaa
