/-
  The abstract layer: a region whose order is drawn, where each operation reads or calls a function by a contract whose result is known: in whatever order, the frame behind it is the same.
-/
import Derived.Test.YtbphkpojhinbiaaPtsE
import Derived.Orders
namespace Go.Proofs.Ytbphkpojhinbiaa
open Go Go.RowKit
set_option linter.unusedVariables false
set_option linter.unusedSimpArgs false

section
variable {P : Program} {nt : Nat} {X : Ctx} {f : Fr} {H : Hp} {N : Nat} {Q : Exit → Fr → Hp → Nat → Prop}

/-- An operation that yields v in the end, whatever the number of blocks; blocks may come. -/
def YS (P : Program) (nt : Nat) (X : Ctx) (op : Op) (ty : TypeId) (f : Fr) (H : Hp) (v : AV) : Prop :=
  ∀ (N : Nat) a w, St nt X f H N a w → ∀ (dst : Option Tmp) (pos : String) (after : Array Edge) (gd : Option (Nat × Bool)) (K : Act → World → Prop) (Q : Exit → Act → World → Prop),
    (∀ u w', Below N w w' → Conc w' (X.S H w'.heap.size) H v u → K (a.put dst u) w') → (⟨dst, op, ty, pos, after, gd⟩ : Oper).wp P a w K Q

theorem ys_rd {op : Op} {ty : TypeId} {v : AV} (h : ∀ N, RD P nt X op ty f H N v) : YS P nt X op ty f H v := by
  intro N a w s dst pos after gd K Q hK
  obtain ⟨u, hu, hc⟩ := h N a w s
  unfold Oper.wp
  rw [hu]
  have hN := s.heap
  exact hK u w (by rw [← hN]; exact Below.refl _ _) (by rw [hN]; exact hc)

/-- A call whose result is one value. -/
theorem ys_call {ty : TypeId} {fx : Operand} {args : List Operand} {tys : Array TypeId} {g : FuncId} {caps as : List AV} {post : AV → Nat → Nat → Prop} {v : AV} [hF : Fn P g] (hf : ev f fx = .fn g caps) (has : args.map (ev f) ++ caps = as)
    (hclo : as.all clo = true) (hpc : PC P g as post) (hv : ∀ r N N', post r N N' → r = v) : YS P nt X (.call ⟨.value fx, args.toArray, tys⟩) ty f H v := by
  intro N a w s dst pos after gd K Q hK
  subst has
  obtain ⟨us, hfv, hfl, hfu⟩ := inv_fn (hf ▸ s.ev fx)
  have hcl := (eval_list s args).append (bs := caps) (vs := us) ⟨hfl, hfu⟩
  have hcl' : ConcL w (X.S H N) [] (args.map (ev f) ++ caps) (args.map a.eval ++ us) := ⟨hcl.1, fun j c u hj hu => (hcl.2 j c u hj hu).clo (List.all_eq_true.1 hclo c (List.mem_of_getElem? hj)) []⟩
  have hcall := hpc w (X.S H N) _ s.low hcl'
  unfold Oper.wp
  have hrun : (execOp a.eval ⟨dst, .call ⟨.value fx, args.toArray, tys⟩, ty, pos, after, gd⟩).run P w = .ok (.enter g (args.map a.eval ++ us).toArray) w := by
    simp [execOp, resolve, hfv, Deferred.ofValue, invoke, hF.ent]
  rw [hrun]
  refine hcall.mono fun e w' ⟨r, u, he, hq, hr, hb⟩ => ?_
  subst he
  have hN := s.heap
  rw [hN] at hq hb hr
  have hs : N ≤ w'.heap.size := by have := hb.size; omega
  refine hK u w' hb ?_
  rw [← hv _ _ _ hq]
  refine hr.mono (fun b hb' => ⟨s.took b hb' hs, rfl⟩) ?_
  intro id r hr; simp at hr

/-- The slots that an operation looks at, its guard's among them. -/
def looks (ops : Array Oper) (o : Oper) : List Nat := o.looksAt ops

/-- The frame cut down to some slots. -/
def restr (ts : List Nat) (f : Fr) : Fr := ts.map fun t => (t, lk f t)

/-- The reading, in the order of the text: each operation judged by what stands in the slots that it looks at. -/
inductive PR (P : Program) (nt : Nat) (X : Ctx) (ops : Array Oper) (H : Hp) : List Oper → Fr → Fr → Prop
  | nil (f : Fr) : PR P nt X ops H [] f f
  | run {d : Nat} {op : Op} {ty : TypeId} {pos : String} {after : Array Edge} {rest : List Oper} {f F : Fr} {v : AV} (hn : Nat.blt d nt = true) (hy : YS P nt X op ty (restr (looks ops ⟨some d, op, ty, pos, after, none⟩) f) H v)
      (h : PR P nt X ops H rest ((d, v) :: f) F) : PR P nt X ops H (⟨some d, op, ty, pos, after, none⟩ :: rest) f F
  | grun {d i t : Nat} {pol b : Bool} {op : Op} {ty : TypeId} {pos : String} {after : Array Edge} {rest : List Oper} {f F : Fr} {v : AV} (hn : Nat.blt d nt = true) (hi : (ops[i]?).bind (·.dst) = some t) (hb : lk f t = .d (.v (.bool b))) (hp : b = pol)
      (hy : YS P nt X op ty (restr (looks ops ⟨some d, op, ty, pos, after, some (i, pol)⟩) f) H v)
      (h : PR P nt X ops H rest ((d, v) :: f) F) : PR P nt X ops H (⟨some d, op, ty, pos, after, some (i, pol)⟩ :: rest) f F
  | gnot {d i t : Nat} {pol b : Bool} {op : Op} {ty : TypeId} {pos : String} {after : Array Edge} {rest : List Oper} {f F : Fr} (hn : Nat.blt d nt = true) (hi : (ops[i]?).bind (·.dst) = some t) (hb : lk f t = .d (.v (.bool b))) (hp : b = !pol)
      (h : PR P nt X ops H rest ((d, .any) :: f) F) : PR P nt X ops H (⟨some d, op, ty, pos, after, some (i, pol)⟩ :: rest) f F

/-- Each operation writes a slot of its own, and waits for whatever writes a slot that it looks at. -/
def drawOk (ops : Array Oper) : Bool :=
  (List.range ops.size).all fun i => match ops[i]? with
    | none => true
    | some o => o.dst.isSome && (o.after.all fun e => !Region.binds .any e || Nat.blt e.on i) && (List.range ops.size).all fun j => match ops[j]? with
      | none => true
      | some p => Nat.beq i j || (p.dst != o.dst && (match p.dst with
        | none => true
        | some d => !(o.looksAt ops).contains d || (Nat.blt j i && o.after.any fun e => Region.binds .any e && Nat.beq e.on j)))

theorem drawOk_spec {ops : Array Oper} (h : drawOk ops = true) {i j : Nat} {o p : Oper} (hi : ops[i]? = some o) (hj : ops[j]? = some p) (hne : i ≠ j) :
    p.dst ≠ o.dst ∧ ∀ d, p.dst = some d → d ∈ o.looksAt ops → j < i ∧ ∃ e ∈ o.after, Region.binds .any e = true ∧ e.on = j := by
  unfold drawOk at h
  have hil : i < ops.size := (Array.getElem?_eq_some_iff.1 hi).1
  have hjl : j < ops.size := (Array.getElem?_eq_some_iff.1 hj).1
  have h1 := List.all_eq_true.1 h i (List.mem_range.2 hil)
  rw [hi] at h1
  simp only [Bool.and_eq_true] at h1
  have h2 := List.all_eq_true.1 h1.2 j (List.mem_range.2 hjl)
  have hb : Nat.beq i j = false := by
    cases hb : Nat.beq i j with
    | true => exact absurd (Nat.eq_of_beq_eq_true hb) hne
    | false => rfl
  simp only [hj, hb, Bool.false_or, Bool.and_eq_true] at h2
  refine ⟨by simpa using h2.1, fun d hd hm => ?_⟩
  have h3 := h2.2
  rw [hd] at h3
  simp only [Bool.or_eq_true, Bool.not_eq_true', Bool.and_eq_true] at h3
  rcases h3 with h3 | ⟨h3, h4⟩
  · rw [List.contains_eq_mem] at h3
    simp [hm] at h3
  · obtain ⟨e, he, hb⟩ := Array.any_eq_true'.1 h4
    rw [Bool.and_eq_true] at hb
    exact ⟨Nat.le_of_ble_eq_true h3, e, he, hb.1, Nat.eq_of_beq_eq_true hb.2⟩

theorem drawOk_dst {ops : Array Oper} (h : drawOk ops = true) {i : Nat} {o : Oper} (hi : ops[i]? = some o) : ∃ d, o.dst = some d := by
  unfold drawOk at h
  have hil : i < ops.size := (Array.getElem?_eq_some_iff.1 hi).1
  have h1 := List.all_eq_true.1 h i (List.mem_range.2 hil)
  rw [hi] at h1
  simp only [Bool.and_eq_true] at h1
  exact Option.isSome_iff_exists.1 h1.1.1

theorem drawOk_after {ops : Array Oper} (h : drawOk ops = true) {i : Nat} {o : Oper} (hi : ops[i]? = some o) : ∀ e ∈ o.after, Region.binds .any e = true → e.on < i := by
  unfold drawOk at h
  have hil : i < ops.size := (Array.getElem?_eq_some_iff.1 hi).1
  have h1 := List.all_eq_true.1 h i (List.mem_range.2 hil)
  rw [hi] at h1
  simp only [Bool.and_eq_true] at h1
  intro e he hb
  have h2 := Array.all_eq_true'.1 h1.1.2 e he
  rw [hb] at h2
  simpa using h2

/-- An operation that is done has written the slot. -/
def wrote (ops : Array Oper) (listed : Array Bool) (t : Nat) : Bool := (List.range ops.size).any fun i => listed.getD i false && (match ops[i]? with | some o => o.dst == some t | none => false)
theorem wrote_iff {ops : Array Oper} {listed : Array Bool} {t : Nat} : wrote ops listed t = true ↔ ∃ (i : Nat) (o : Oper), ops[i]? = some o ∧ o.dst = some t ∧ listed.getD i false = true := by
  unfold wrote
  rw [List.any_eq_true]
  constructor
  · rintro ⟨i, hi, h⟩
    rw [Bool.and_eq_true] at h
    obtain ⟨h1, h2⟩ := h
    cases ho : ops[i]? with
    | none => rw [ho] at h2; cases h2
    | some o => rw [ho] at h2; exact ⟨i, o, ho, by simpa using h2, h1⟩
  · rintro ⟨i, o, ho, hd, hl⟩
    refine ⟨i, List.mem_range.2 (Array.getElem?_eq_some_iff.1 ho).1, ?_⟩
    simp [hl, ho, hd]

/-- What stands in the slots while some operations are done: theirs out of F, all others as they stood. -/
def Half (ops : Array Oper) (f F : Fr) (listed : Array Bool) (t : Nat) : AV := if wrote ops listed t = true then lk F t else lk f t

/-- What the sequence says of one operation in it. -/
theorem PR.at_ {ops : Array Oper} {todo : List Oper} {f F : Fr} (h : PR P nt X ops H todo f F) : ∀ (k : Nat) (o : Oper) (d : Nat), todo[k]? = some o → o.dst = some d →
    (∀ j p, j ≠ k → todo[j]? = some p → p.dst ≠ some d) →
    ∃ g : Fr, (∀ t, (∀ j p, j < k → todo[j]? = some p → p.dst ≠ some t) → lk g t = lk f t) ∧ (∀ j p t, j < k → todo[j]? = some p → p.dst = some t → (∀ j' p', j' ≠ j → todo[j']? = some p' → p'.dst ≠ some t) → lk g t = lk F t) ∧ Nat.blt d nt = true ∧
      ((o.guard = none ∧ YS P nt X o.op o.type (restr (looks ops o) g) H (lk F d)) ∨
       (∃ i t pol b, o.guard = some (i, pol) ∧ (ops[i]?).bind (·.dst) = some t ∧ lk g t = .d (.v (.bool b)) ∧ ((b = pol ∧ YS P nt X o.op o.type (restr (looks ops o) g) H (lk F d)) ∨ (b = (!pol) ∧ lk F d = .any)))) := by
  have keep : ∀ {todo : List Oper} {f F : Fr}, PR P nt X ops H todo f F → ∀ t, (∀ p ∈ todo, p.dst ≠ some t) → lk F t = lk f t := by
    intro todo f F h
    induction h with
    | nil f => intro t _; rfl
    | run hn hy h ih => intro t ht; rw [ih t fun p hp => ht p (by simp [hp]), lk_cons, if_neg (fun e => ht _ List.mem_cons_self (congrArg some e))]
    | grun hn hi hb hp hy h ih => intro t ht; rw [ih t fun p hp => ht p (by simp [hp]), lk_cons, if_neg (fun e => ht _ List.mem_cons_self (congrArg some e))]
    | gnot hn hi hb hp h ih => intro t ht; rw [ih t fun p hp => ht p (by simp [hp]), lk_cons, if_neg (fun e => ht _ List.mem_cons_self (congrArg some e))]
  have fin : ∀ {d : Nat} {v : AV} {o : Oper} {rest : List Oper} {f F : Fr}, PR P nt X ops H rest ((d, v) :: f) F → (∀ j p, j ≠ 0 → (o :: rest)[j]? = some p → p.dst ≠ some d) → lk F d = v := by
    intro d v o rest f F h hu
    rw [keep h d fun p hp => by
      obtain ⟨j, hj⟩ := List.getElem?_of_mem hp
      exact hu (j + 1) p (by omega) (by simpa using hj), lk_cons, if_pos rfl]
  have step : ∀ {d0 : Nat} {v0 : AV} {o0 : Oper} {rest : List Oper} {f F : Fr}, o0.dst = some d0 → PR P nt X ops H rest ((d0, v0) :: f) F →
      (∀ (k : Nat) (o : Oper) (d : Nat), rest[k]? = some o → o.dst = some d → (∀ j p, j ≠ k → rest[j]? = some p → p.dst ≠ some d) →
        ∃ g : Fr, (∀ t, (∀ j p, j < k → rest[j]? = some p → p.dst ≠ some t) → lk g t = lk ((d0, v0) :: f) t) ∧ (∀ j p t, j < k → rest[j]? = some p → p.dst = some t → (∀ j' p', j' ≠ j → rest[j']? = some p' → p'.dst ≠ some t) → lk g t = lk F t) ∧ Nat.blt d nt = true ∧
          ((o.guard = none ∧ YS P nt X o.op o.type (restr (looks ops o) g) H (lk F d)) ∨
           (∃ i t pol b, o.guard = some (i, pol) ∧ (ops[i]?).bind (·.dst) = some t ∧ lk g t = .d (.v (.bool b)) ∧ ((b = pol ∧ YS P nt X o.op o.type (restr (looks ops o) g) H (lk F d)) ∨ (b = (!pol) ∧ lk F d = .any))))) →
      ∀ (k : Nat) (o : Oper) (d : Nat), rest[k]? = some o → o.dst = some d → (∀ j p, j ≠ k + 1 → (o0 :: rest)[j]? = some p → p.dst ≠ some d) →
        ∃ g : Fr, (∀ t, (∀ j p, j < k + 1 → (o0 :: rest)[j]? = some p → p.dst ≠ some t) → lk g t = lk f t) ∧ (∀ j p t, j < k + 1 → (o0 :: rest)[j]? = some p → p.dst = some t → (∀ j' p', j' ≠ j → (o0 :: rest)[j']? = some p' → p'.dst ≠ some t) → lk g t = lk F t) ∧ Nat.blt d nt = true ∧
          ((o.guard = none ∧ YS P nt X o.op o.type (restr (looks ops o) g) H (lk F d)) ∨
           (∃ i t pol b, o.guard = some (i, pol) ∧ (ops[i]?).bind (·.dst) = some t ∧ lk g t = .d (.v (.bool b)) ∧ ((b = pol ∧ YS P nt X o.op o.type (restr (looks ops o) g) H (lk F d)) ∨ (b = (!pol) ∧ lk F d = .any)))) := by
    intro d0 v0 o0 rest f F hd0 hrest ih k o d hk hd hu
    obtain ⟨g, h1, h2, h3, h4⟩ := ih k o d hk hd fun j p hj hp => hu (j + 1) p (by omega) (by simpa using hp)
    refine ⟨g, fun t ht => ?_, fun j p t hj hp hpt hut => ?_, h3, h4⟩
    · rw [h1 t fun j p hj hp => ht (j + 1) p (by omega) (by simpa using hp), lk_cons, if_neg (fun e => ht 0 o0 (by omega) rfl (by rw [hd0, e]))]
    · cases j with
      | zero =>
        have hpo : p = o0 := by simpa using hp.symm
        rw [hpo] at hpt
        have e : d0 = t := Option.some.inj (hd0.symm.trans hpt)
        subst e
        rw [h1 d0 fun j p' hj hp' => hut (j + 1) p' (by omega) (by simpa using hp')]
        rw [lk_cons, if_pos rfl]
        exact (fin (o := o0) hrest (fun j p' hj hp' => hut j p' hj hp')).symm
      | succ j => exact h2 j p t (by omega) (by simpa using hp) hpt fun j' p' hj' hp' => hut (j' + 1) p' (by omega) (by simpa using hp')
  induction h with
  | nil f => intro k o d hk; simp at hk
  | @run d0 op ty pos after rest f F v hn hy h ih =>
    intro k o d hk hd hu
    cases k with
    | zero =>
      obtain rfl : _ = o := by simpa using hk
      cases hd
      refine ⟨f, fun t _ => rfl, fun j p t hj => by omega, hn, .inl ⟨rfl, ?_⟩⟩
      rw [fin (o := ⟨some d0, op, ty, pos, after, none⟩) h hu]
      exact hy
    | succ k => exact step rfl h ih k o d (by simpa using hk) hd hu
  | @grun d0 i t pol b op ty pos after rest f F v hn hi hb hp hy h ih =>
    intro k o d hk hd hu
    cases k with
    | zero =>
      obtain rfl : _ = o := by simpa using hk
      cases hd
      refine ⟨f, fun t _ => rfl, fun j p t hj => by omega, hn, .inr ⟨i, t, pol, b, rfl, hi, hb, .inl ⟨hp, ?_⟩⟩⟩
      rw [fin (o := ⟨some d0, op, ty, pos, after, some (i, pol)⟩) h hu]
      exact hy
    | succ k => exact step rfl h ih k o d (by simpa using hk) hd hu
  | @gnot d0 i t pol b op ty pos after rest f F hn hi hb hp h ih =>
    intro k o d hk hd hu
    cases k with
    | zero =>
      obtain rfl : _ = o := by simpa using hk
      cases hd
      refine ⟨f, fun t _ => rfl, fun j p t hj => by omega, hn, .inr ⟨i, t, pol, b, rfl, hi, hb, .inr ⟨hp, ?_⟩⟩⟩
      exact fin (o := ⟨some d0, op, ty, pos, after, some (i, pol)⟩) h hu
    | succ k => exact step rfl h ih k o d (by simpa using hk) hd hu

theorem PR.keep {ops : Array Oper} {todo : List Oper} {f F : Fr} (h : PR P nt X ops H todo f F) : ∀ t, (∀ p ∈ todo, p.dst ≠ some t) → lk F t = lk f t := by
  induction h with
  | nil f => intro t _; rfl
  | run hn hy h ih => intro t ht; rw [ih t fun p hp => ht p (by simp [hp]), lk_cons, if_neg (fun e => ht _ List.mem_cons_self (congrArg some e))]
  | grun hn hi hb hp hy h ih => intro t ht; rw [ih t fun p hp => ht p (by simp [hp]), lk_cons, if_neg (fun e => ht _ List.mem_cons_self (congrArg some e))]
  | gnot hn hi hb hp h ih => intro t ht; rw [ih t fun p hp => ht p (by simp [hp]), lk_cons, if_neg (fun e => ht _ List.mem_cons_self (congrArg some e))]

theorem St.congr {g g' : Fr} {N : Nat} {a : Act} {w : World} (s : St nt X g H N a w) (h : ∀ t, lk g' t = lk g t) : St nt X g' H N a w :=
  ⟨s.defers, s.size, s.heap, s.keeps, s.rows, s.inj, fun t => by rw [h]; exact s.fr t⟩

theorem lk_restr (ts : List Nat) (g : Fr) (t : Nat) : lk (restr ts g) t = if t ∈ ts then lk g t else .any := by
  induction ts with
  | nil => rfl
  | cons x ts ih =>
    show lk ((x, lk g x) :: restr ts g) t = _
    rw [lk_cons, ih]
    by_cases h : x = t
    · subst h; simp
    · rw [if_neg h]
      by_cases h2 : t ∈ ts
      · simp [h2]
      · rw [if_neg h2, if_neg (by simp; exact ⟨fun e => h e.symm, h2⟩)]

theorem St.draw {g : Fr} {N : Nat} {a : Act} {w : World} (s : St nt X g H N a w) : St nt X g H N a { w with drawn := w.drawn + 1 } :=
  ⟨s.defers, s.size, s.heap, ⟨s.keeps.os, s.keeps.tape, s.keeps.output, s.keeps.size, s.keeps.block⟩,
    fun id r hr => ⟨(s.rows id r hr).1.mono rfl (fun b hb => ⟨hb, rfl⟩) (Same.refl H), (s.rows id r hr).2⟩, s.inj, fun t => (s.fr t).mono (fun b hb => ⟨hb, rfl⟩) (Same.refl H)⟩

/-- How many operations are still to come. -/
def left (n : Nat) (listed : Array Bool) : Nat := (List.range n).countP fun i => !listed.getD i false

theorem countP_lt {p q : Nat → Bool} {i : Nat} : ∀ l : List Nat, i ∈ l → (∀ x, q x = true → p x = true) → p i = true → q i = false → l.countP q < l.countP p
  | [], h, _, _, _ => by simp at h
  | x :: l, h, hpq, hp, hq => by
    have hle : ∀ l : List Nat, l.countP q ≤ l.countP p := fun l => List.countP_mono_left fun x _ => hpq x
    rw [List.countP_cons, List.countP_cons]
    rcases List.mem_cons.1 h with e | h
    · subst e
      have := hle l
      simp only [hp, hq]
      simp
      omega
    · have := countP_lt l h hpq hp hq
      cases hx : q x with
      | true => rw [if_pos rfl, if_pos (hpq x hx)]; omega
      | false => simp only [Bool.false_eq_true, if_false]; split <;> omega

/-- IN WHATEVER ORDER: the frame behind the region is the one that the text's order gives. -/
theorem pw_draw {id : Nat} {l : List Oper} {F : Fr} (hm : P.follows .mixedOrders = true) (hok : drawOk l.toArray = true) (h : PR P nt X l.toArray H l f F) (hq : ∀ N', N ≤ N' → Q .normal F H N') :
    PW P nt X (.region id l.toArray true) f H N Q := by
  intro a w s
  refine wp_region_any hm ?_
  have hget : ∀ i : Nat, l.toArray[i]? = l[i]? := fun i => List.getElem?_toArray
  have uniq : ∀ {i j : Nat} {o p : Oper} {d : Nat}, l[i]? = some o → l[j]? = some p → o.dst = some d → p.dst = some d → i = j := by
    intro i j o p d hi hj ho hp
    by_cases e : i = j
    · exact e
    · exact absurd (hp.trans ho.symm) (drawOk_spec hok ((hget i).trans hi) ((hget j).trans hj) e).1
  have key : ∀ (fuel : Nat) (listed : Array Bool) (a : Act) (w : World) (N' : Nat) (g : Fr), N ≤ N' → listed.size = l.toArray.size → left l.toArray.size listed ≤ fuel → (∀ t, lk g t = Half l.toArray f F listed t) → St nt X g H N' a w →
      wpAny P .any l.toArray (Lift nt X Q) fuel listed a w := by
    have done : ∀ (listed : Array Bool) (a : Act) (w : World) (N' : Nat) (g : Fr), N ≤ N' → listed.size = l.toArray.size → (∀ t, lk g t = Half l.toArray f F listed t) → St nt X g H N' a w → Region.ready .any l.toArray listed = [] → Lift nt X Q .normal a w := by
      intro listed a w N' g hN hls hg s hr
      have all : ∀ (n i : Nat), i < n → i < l.toArray.size → listed.getD i false = true := by
        intro n
        induction n with
        | zero => intro i hi; omega
        | succ n ih =>
          intro i hi hil
          rcases Nat.lt_or_ge i n with hlt | hge
          · exact ih i hlt hil
          · have hin : i = n := by omega
            subst hin
            cases hu : listed.getD i false with
            | true => rfl
            | false =>
              exfalso
              have hmem : i ∈ Region.ready .any l.toArray listed := by
                unfold Region.ready
                rw [List.mem_filter]
                refine ⟨List.mem_range.2 hil, ?_⟩
                have hu' : listed.getD i true = false := by
                  have : i < listed.size := by omega
                  simp [this] at hu ⊢
                  exact hu
                rw [hu', Array.getElem?_eq_getElem hil]
                simp only [Bool.not_false, Bool.true_and, Option.map_some, Option.getD_some]
                refine Array.all_eq_true'.2 fun e he => ?_
                cases hb : Region.binds .any e with
                | false => rfl
                | true =>
                  have hlt := drawOk_after hok (Array.getElem?_eq_getElem hil) e he hb
                  rw [ih e.on hlt (by omega)]
                  rfl
              rw [hr] at hmem
              cases hmem
      refine ⟨F, H, N', hq N' hN, s.congr fun t => ?_⟩
      rw [hg]
      unfold Half
      split
      · rfl
      · rename_i hno
        refine h.keep t fun p hp hpt => hno (wrote_iff.2 ?_)
        obtain ⟨j, hj⟩ := List.getElem?_of_mem hp
        have hjl : j < l.toArray.size := by simpa using (List.getElem?_eq_some_iff.1 hj).1
        exact ⟨j, p, (hget j).trans hj, hpt, all (j + 1) j (by omega) hjl⟩
    intro fuel
    induction fuel with
    | zero =>
      intro listed a w N' g hN hls hleft hg s
      have hr : Region.ready .any l.toArray listed = [] := by
        rw [List.eq_nil_iff_forall_not_mem]
        intro i hi
        obtain ⟨hu, o, ho, _⟩ := mem_ready.1 hi
        have hil : i < l.toArray.size := (Array.getElem?_eq_some_iff.1 ho).1
        have : 0 < left l.toArray.size listed := by
          unfold left
          refine List.countP_pos_iff.2 ⟨i, List.mem_range.2 hil, ?_⟩
          have : i < listed.size := by omega
          simp [this] at hu ⊢
          exact hu
        omega
      exact ⟨hr, done listed a w N' g hN hls hg s hr⟩
    | succ fuel ih =>
      intro listed a w N' g hN hls hleft hg s
      refine ⟨fun hr => done listed a w N' g hN hls hg s hr, fun i hi => ?_⟩
      obtain ⟨hu, o, ho, hall⟩ := mem_ready.1 hi
      have hil : i < l.toArray.size := (Array.getElem?_eq_some_iff.1 ho).1
      have hil' : i < listed.size := by omega
      have hu' : listed.getD i false = false := by
        simp [hil'] at hu ⊢
        exact hu
      obtain ⟨d, hd⟩ := drawOk_dst hok ho
      have hol : l[i]? = some o := (hget i).symm.trans ho
      obtain ⟨gt, h1, h2, hnt, hcase⟩ := h.at_ i o d hol hd (fun j p hne hj hpd => hne (uniq hj hol hpd hd))
      -- what stands in a slot that the operation looks at
      have hlook : ∀ t ∈ looks l.toArray o, lk g t = lk gt t := by
        intro t ht
        rw [hg]
        unfold Half
        by_cases hw : ∃ (j : Nat) (p : Oper), l[j]? = some p ∧ p.dst = some t
        · obtain ⟨j, p, hj, hpt⟩ := hw
          by_cases hji : j = i
          · -- its own slot: not looked at before it is written
            subst hji
            obtain rfl : p = o := Option.some.inj (hj.symm.trans hol)
            rw [if_neg, h1 t fun j' p' hj' hp' hpt' => by have := uniq hp' hj hpt' hpt; omega]
            intro hw
            obtain ⟨j', p', hj', hpt', hl'⟩ := wrote_iff.1 hw
            have := uniq ((hget j').symm.trans hj') hj hpt' hpt
            subst this
            rw [hu'] at hl'
            cases hl'
          · obtain ⟨hlt, e, he, hb, hon⟩ := (drawOk_spec hok ho ((hget j).trans hj) (fun e => hji e.symm)).2 t hpt ht
            have hlj : listed.getD j false = true := by rw [← hon]; exact hall e he hb
            rw [if_pos (wrote_iff.2 ⟨j, p, (hget j).trans hj, hpt, hlj⟩)]
            exact (h2 j p t hlt hj hpt fun j' p' hne hj' hpt' => hne (uniq hj' hj hpt' hpt)).symm
        · rw [if_neg (fun h => by obtain ⟨j, p, hj, hpt, _⟩ := wrote_iff.1 h; exact hw ⟨j, p, (hget j).symm.trans hj, hpt⟩)]
          exact (h1 t fun j p _ hj hpt => hw ⟨j, p, hj, hpt⟩).symm
      have hrestr : St nt X (restr (looks l.toArray o) gt) H N' a w := by
        have : ∀ t, lk (restr (looks l.toArray o) gt) t = lk (restr (looks l.toArray o) g) t := by
          intro t
          rw [lk_restr, lk_restr]
          split
          · rename_i hm; exact (hlook t hm).symm
          · rfl
        refine St.congr (St.forget s (restr (looks l.toArray o) g) ?_) this
        intro p hp
        obtain ⟨t, ht, rfl⟩ := List.mem_map.1 hp
        rfl
      -- the frame behind it
      have hhalf : ∀ t, lk ((d, lk F d) :: g) t = Half l.toArray f F (listed.setIfInBounds i true) t := by
        intro t
        rw [lk_cons, hg]
        unfold Half
        by_cases hdt : d = t
        · subst hdt
          rw [if_pos rfl, if_pos (wrote_iff.2 ⟨i, o, ho, hd, by simp [hil']⟩)]
        · rw [if_neg hdt]
          congr 1
          rw [eq_iff_iff, wrote_iff, wrote_iff]
          constructor
          · rintro ⟨j, p, hj, hpt, hl⟩
            exact ⟨j, p, hj, hpt, getD_set_true hl⟩
          · rintro ⟨j, p, hj, hpt, hl⟩
            refine ⟨j, p, hj, hpt, ?_⟩
            by_cases hij : i = j
            · subst hij
              obtain rfl : p = o := Option.some.inj (hj.symm.trans ho)
              rw [hd] at hpt
              exact absurd (Option.some.inj hpt) hdt
            · rw [getD_set_ne false hij] at hl
              exact hl
      have hleft' : left l.toArray.size (listed.setIfInBounds i true) ≤ fuel := by
        have : left l.toArray.size (listed.setIfInBounds i true) < left l.toArray.size listed := by
          unfold left
          refine countP_lt (i := i) _ (List.mem_range.2 hil) (fun x hx => ?_) (by simpa using hu') (by simp [hil'])
          by_cases hix : i = x
          · subst hix; simpa using hu'
          · rw [getD_set_ne false hix] at hx; exact hx
        omega
      have hsz' : (listed.setIfInBounds i true).size = l.toArray.size := by simpa using hls
      have run : YS P nt X o.op o.type (restr (looks l.toArray o) gt) H (lk F d) → o.wp P a w (wpAny P .any l.toArray (Lift nt X Q) fuel (listed.setIfInBounds i true)) (Lift nt X Q) := by
        intro hy
        refine hy N' a w hrestr o.dst o.pos o.after o.guard _ _ fun u w' hb hc => ?_
        rw [hd]
        have hs' : N' ≤ w'.heap.size := by have := hb.size; have := s.heap; omega
        exact ih _ _ _ w'.heap.size _ (by omega) hsz' hleft' hhalf ((s.called hb).put (Nat.le_of_ble_eq_true hnt) hc)
      have skip : lk F d = .any → wpAny P .any l.toArray (Lift nt X Q) fuel (listed.setIfInBounds i true) (a.put o.dst undef) w := by
        intro hany
        rw [hd]
        exact ih _ _ _ N' _ hN hsz' hleft' hhalf (s.put (Nat.le_of_ble_eq_true hnt) (by rw [hany]; exact .any _))
      unfold wpOp
      rw [ho]
      dsimp only
      rcases hcase with ⟨hgd, hy⟩ | ⟨i', t, pol, b, hgd, hi', hb, hrest⟩
      · rw [if_pos (by simp [Region.wanted, hgd])]
        exact .inl (run hy)
      · have hlt : t ∈ looks l.toArray o := by
          unfold looks Oper.looksAt
          rw [hgd]
          refine List.mem_append_right _ ?_
          show t ∈ ((l.toArray[i']?).bind (·.dst)).toList
          rw [hi']
          simp
        have hbg : lk g t = .d (.v (.bool b)) := (hlook t hlt).trans hb
        have hv : a.tmps.getD t undef = .bool b := bool_of (hbg ▸ s.fr t)
        have hyv : yielded l.toArray a.tmps i' = some b := by
          unfold yielded
          rw [hi']
          by_cases ht : t < a.tmps.size
          · have : a.tmps[t]? = some (.bool b) := by
              rw [Array.getElem?_eq_getElem ht]
              simpa [ht] using hv
            simp [this]
          · simp [ht, undef] at hv
        rcases hrest with ⟨hp, hy⟩ | ⟨hp, hany⟩
        · rw [if_pos (by simp [Region.wanted, hgd, hyv, hp])]
          exact .inl (run hy)
        · rw [if_neg (by simp [Region.wanted, hgd, hyv, hp])]
          exact skip hany
  refine key l.toArray.size (Array.replicate l.toArray.size false) a _ N f (Nat.le_refl _) (by simp) ?_ (fun t => ?_) ?_
  · unfold left
    exact Nat.le_trans List.countP_le_length (by simp)
  · unfold Half
    rw [if_neg]
    intro hw
    obtain ⟨j, p, _, _, hl⟩ := wrote_iff.1 hw
    have : (Array.replicate l.toArray.size false).getD j false = false := by
      generalize l.toArray.size = m
      rcases Nat.lt_or_ge j m with hj | hj <;> simp [hj]
    rw [this] at hl
    cases hl
  · exact s.draw

end
end Go.Proofs.Ytbphkpojhinbiaa
