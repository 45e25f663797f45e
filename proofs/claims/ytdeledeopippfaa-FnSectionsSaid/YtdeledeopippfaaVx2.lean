/- Texts for VSectionsP. -/
import Derived.Test.YtdeledeopippfaaVx1
namespace Go.Proofs.Ytdeledeopippfaa
open Go Go.RowKit
set_option linter.unusedVariables false
set_option linter.unusedSimpArgs false
section
def lk : Fr → Nat → AV
  | [], _ => .any
  | (d, v) :: r, t => bif Nat.beq d t then v else lk r t
def ev (f : Fr) : Operand → AV
  | .tmp t => lk f t
  | .const v => cv v
  | .global _ => .any
  | .func g => .fn g []
theorem lk_cons (f : Fr) (d : Nat) (v : AV) (t : Nat) : lk ((d, v) :: f) t = if d = t then v else lk f t := by
  show (bif Nat.beq d t then v else lk f t) = _
  by_cases h : d = t
  · subst h; rw [if_pos rfl, Nat.beq_refl]; rfl
  · have hb : Nat.beq d t = false := by
      cases hb : Nat.beq d t with
      | true => exact absurd (Nat.eq_of_beq_eq_true hb) h
      | false => rfl
    rw [if_neg h, hb]; rfl
structure Keeps (mod : Nat → Prop) (w w' : World) : Prop where
  os : w'.os = w.os
  tape : w'.tape = w.tape
  output : w'.output = w.output
  size : w.heap.size ≤ w'.heap.size
  block : ∀ k, k < w.heap.size → ¬ mod k → w'.heap[k]? = w.heap[k]?
theorem Keeps.refl (mod : Nat → Prop) (w : World) : Keeps mod w w := ⟨rfl, rfl, rfl, Nat.le_refl _, fun _ _ _ => rfl⟩
structure Ctx where
  w0 : World
  S0 : Nat → Prop
  mod : Nat → Prop
  H0 : Hp
  blk0 : Nat → BC
  g : (∀ b, S0 b → b < w0.heap.size ∧ ¬ mod b) ∧ Gl w0 S0
def Ctx.S (X : Ctx) (FP : Nat → List Nat) (H : Hp) (N : Nat) : Nat → Prop := fun b => (X.S0 b ∨ X.w0.heap.size ≤ b) ∧ b < N ∧ ∀ (id : Nat) (r : Row), H[id]? = some (some r) → b ∉ FP id
structure StB (nt : Nat) (X : Ctx) (f : Fr) (H : Hp) (blk : Nat → BC) (FP : Nat → List Nat) (a : Act) (w : World) : Prop where
  defers : a.defers = []
  size : a.tmps.size = nt
  keeps : Keeps X.mod X.w0 w
  rows : ∀ (id : Nat) (r : Row), H[id]? = some (some r) → RowOk w (X.S FP H w.heap.size) blk H (FP id) (blk id) r ∧ ∀ b ∈ FP id, (X.w0.heap.size ≤ b ∨ X.mod b) ∧ b < w.heap.size
  apart : ∀ (i j : Nat) (r r' : Row), H[i]? = some (some r) → H[j]? = some (some r') → i ≠ j → ∀ b ∈ FP i, b ∉ FP j
  fr : ∀ t, Conc w (X.S FP H w.heap.size) blk H (lk f t) (a.tmps.getD t undef)
  ext : HExt X.H0 X.blk0 H blk
theorem StB.gl {nt : Nat} {X : Ctx} {f : Fr} {H : Hp} {blk : Nat → BC} {FP : Nat → List Nat} {a : Act} {w : World} (s : StB nt X f H blk FP a w) : Gl w (X.S FP H w.heap.size) := X.g.2.mono fun b hb =>
  ⟨⟨.inl hb, Nat.lt_of_lt_of_le (X.g.1 b hb).1 s.keeps.size, fun id r hr hf => ((s.rows id r hr).2 b hf).1.elim (fun h => absurd (X.g.1 b hb).1 (Nat.not_lt.2 h)) (X.g.1 b hb).2⟩, s.keeps.block b (X.g.1 b hb).1 (X.g.1 b hb).2⟩
def St (nt : Nat) (X : Ctx) (f : Fr) (H : Hp) (a : Act) (w : World) : Prop := ∃ blk FP, StB nt X f H blk FP a w
def Lift (nt : Nat) (X : Ctx) (Q : Exit → Fr → Hp → Prop) : Exit → Act → World → Prop := fun e a w => ∃ f H, Q e f H ∧ St nt X f H a w
def PW (P : Program) (nt : Nat) (X : Ctx) (c : Code) (f : Fr) (H : Hp) (Q : Exit → Fr → Hp → Prop) : Prop := ∀ a w, St nt X f H a w → Code.wp P c (Lift nt X Q) a w
def PL (P : Program) (nt : Nat) (X : Ctx) (ops : Array Oper) (todo : List Oper) (f : Fr) (H : Hp) (Q : Exit → Fr → Hp → Prop) : Prop := ∀ a w, St nt X f H a w → wpList P ops (Lift nt X Q) todo a w
def thn (next : Fr → Hp → Prop) (Q : Exit → Fr → Hp → Prop) : Exit → Fr → Hp → Prop
  | .normal, f, H => next f H
  | e, f, H => Q e f H
def inBlk (id : Nat) (Q : Exit → Fr → Hp → Prop) : Exit → Fr → Hp → Prop
  | .exit id', f, H => bif Nat.beq id' id then Q .normal f H else Q (.exit id') f H
  | e, f, H => Q e f H
section
variable {P : Program} {nt : Nat} {X : Ctx} {f f' : Fr} {H : Hp} {Q Q' : Exit → Fr → Hp → Prop} {a : Act} {w : World} {blk : Nat → BC} {FP : Nat → List Nat}
theorem Lift.mono {e : Exit} (h : Lift nt X Q e a w) (hq : ∀ e f H, Q e f H → Q' e f H) : Lift nt X Q' e a w := by
  obtain ⟨f, H, q, s⟩ := h
  exact ⟨f, H, hq _ _ _ q, s⟩
theorem PW.mono {c : Code} (h : PW P nt X c f H Q) (hq : ∀ e f H, Q e f H → Q' e f H) : PW P nt X c f H Q' :=
  fun a w s => wp_mono (h a w s) fun _ _ _ l => l.mono hq
theorem pw_seq {x y : Code} (h : PW P nt X x f H (thn (fun f H => PW P nt X y f H Q) Q)) : PW P nt X (.seq x y) f H Q := by
  intro a w s
  refine wp_seq (wp_mono (h a w s) fun e a w l => ?_)
  obtain ⟨f, H, q, s⟩ := l
  cases e with
  | normal => exact q a w s
  | exit id => exact ⟨f, H, q, s⟩
  | goto l => exact ⟨f, H, q, s⟩
  | ret => exact ⟨f, H, q, s⟩
  | panic ch => exact ⟨f, H, q, s⟩
  | outgrown => exact ⟨f, H, q, s⟩
theorem pw_skip (h : Q .normal f H) : PW P nt X .skip f H Q := fun _ _ s => wp_skip ⟨f, H, h, s⟩
theorem pw_ret (h : Q .ret f H) : PW P nt X .ret f H Q := fun _ _ s => wp_ret ⟨f, H, h, s⟩
theorem pw_exit {id : Nat} (h : Q (.exit id) f H) : PW P nt X (.exit id) f H Q := fun _ _ s => wp_exit ⟨f, H, h, s⟩
theorem pw_block {id : Nat} {c : Code} (h : PW P nt X c f H (inBlk id Q)) : PW P nt X (.block id c) f H Q := by
  intro a w s
  refine wp_block (wp_mono (h a w s) fun e a w l => ?_)
  obtain ⟨f, H, q, s⟩ := l
  cases e with
  | exit id' =>
    simp only [Exit.inBlock, inBlk] at q ⊢
    by_cases h : id' = id
    · subst h
      rw [Nat.beq_refl] at q
      rw [if_pos rfl]
      exact ⟨f, H, q, s⟩
    · have hb : Nat.beq id' id = false := by
        cases hb : Nat.beq id' id with
        | true => exact absurd (Nat.eq_of_beq_eq_true hb) h
        | false => rfl
      rw [hb] at q
      rw [if_neg h]
      exact ⟨f, H, q, s⟩
  | normal => exact ⟨f, H, q, s⟩
  | goto l => exact ⟨f, H, q, s⟩
  | ret => exact ⟨f, H, q, s⟩
  | panic ch => exact ⟨f, H, q, s⟩
  | outgrown => exact ⟨f, H, q, s⟩
theorem pw_loop {c : Code} (I : Nat → Fr → Hp → Prop) (m : Nat) (h0 : I m f H)
    (round : ∀ m f H, I m f H → PW P nt X c f H (thn (fun f H => ∃ m', m' < m ∧ I m' f H) Q)) : PW P nt X (.loop c) f H Q := by
  intro a w s
  let J : Nat → Act → World → Prop := fun m a w => ∃ f H, I m f H ∧ St nt X f H a w
  have key : ∀ a w, (∃ m, J m a w) → ∃ m, J m a w ∧ ∀ m', J m' a w → m ≤ m' := by
    intro a w ⟨m, hm⟩
    induction m using Nat.strongRecOn with
    | _ m ih =>
      by_cases hex : ∃ m', m' < m ∧ J m' a w
      · obtain ⟨m', hlt, hj⟩ := hex; exact ih m' hlt hj
      · refine ⟨m, hm, fun m' hj => ?_⟩
        rcases Nat.lt_or_ge m' m with hlt | hge
        · exact absurd ⟨m', hlt, hj⟩ hex
        · exact hge
  have dec : ∀ a w, Decidable (∃ m, J m a w) := fun _ _ => Classical.propDecidable _
  let μ : Act → World → Nat := fun a w => if hx : ∃ m, J m a w then Classical.choose (key a w hx) else 0
  refine wp_loop (fun a w => ∃ m, J m a w) μ ⟨m, f, H, h0, s⟩ fun a w hI => ?_
  have hμ : μ a w = Classical.choose (key a w hI) := dif_pos hI
  obtain ⟨hJ, hmin⟩ := Classical.choose_spec (key a w hI)
  rw [← hμ] at hJ hmin
  obtain ⟨f, H, hi, s⟩ := hJ
  refine wp_mono (round _ f H hi a w s) fun e a' w' l => ?_
  obtain ⟨f', H', q, s'⟩ := l
  cases e with
  | normal =>
    obtain ⟨m', hlt, hi'⟩ := q
    have hx : ∃ m, J m a' w' := ⟨m', f', H', hi', s'⟩
    refine ⟨hx, ?_⟩
    have hμ' : μ a' w' = Classical.choose (key a' w' hx) := dif_pos hx
    have hmin' := (Classical.choose_spec (key a' w' hx)).2 m' ⟨f', H', hi', s'⟩
    rw [← hμ'] at hmin'
    omega
  | exit id => exact ⟨f', H', q, s'⟩
  | goto l => exact ⟨f', H', q, s'⟩
  | ret => exact ⟨f', H', q, s'⟩
  | panic ch => exact ⟨f', H', q, s'⟩
  | outgrown => exact ⟨f', H', q, s'⟩
theorem StB.ev (s : StB nt X f H blk FP a w) (x : Operand) : Conc w (X.S FP H w.heap.size) blk H (Go.Proofs.Ytdeledeopippfaa.ev f x) (a.eval x) := by
  cases x with
  | tmp t => exact s.fr t
  | const v => exact conc_cv v
  | global g => exact .any _
  | func g => exact .fn g [] [] rfl (by simp)
theorem StB.put {d : Nat} {v : AV} {u : Value} (s : StB nt X f H blk FP a w) (hd : d < nt) (h : Conc w (X.S FP H w.heap.size) blk H v u) : StB nt X ((d, v) :: f) H blk FP (a.put (some d) u) w := by
  refine ⟨s.defers, by simpa [Act.put] using s.size, s.keeps, s.rows, s.apart, fun t => ?_, s.ext⟩
  rw [lk_cons]
  by_cases ht : d = t
  · subst ht
    rw [if_pos rfl]
    have : (a.put (some d) u).tmps.getD d undef = u := by
      have hs : d < a.tmps.size := by rw [s.size]; exact hd
      simp [Act.put, hs]
    rw [this]
    exact h
  · rw [if_neg ht]
    have : (a.put (some d) u).tmps.getD t undef = a.tmps.getD t undef := by simp [Act.put, Array.getElem?_setIfInBounds_ne ht]
    rw [this]
    exact s.fr t
theorem StB.refr {g : Fr} (s : StB nt X f H blk FP a w) (h : ∀ t, Conc w (X.S FP H w.heap.size) blk H (lk f t) (a.tmps.getD t undef) → Conc w (X.S FP H w.heap.size) blk H (lk g t) (a.tmps.getD t undef)) : StB nt X g H blk FP a w :=
  ⟨s.defers, s.size, s.keeps, s.rows, s.apart, fun t => h t (s.fr t), s.ext⟩
theorem pw_cond {c : Operand} {x y : Code} {b : Bool} (hc : ev f c = .b b ∨ ev f c = .kb b) (ht : b = true → PW P nt X x f H Q) (hf : b = false → PW P nt X y f H Q) : PW P nt X (.cond c x y) f H Q := by
  rintro a w ⟨blk, FP, s⟩
  have hv : a.eval c = .bool b := by
    rcases hc with h | h
    · exact inv_b (h ▸ s.ev c)
    · exact inv_kb (h ▸ s.ev c)
  exact wp_cond_split hv (fun h => ht h a w ⟨blk, FP, s⟩) (fun h => hf h a w ⟨blk, FP, s⟩)
theorem pw_region {id : Nat} {ops : Array Oper} (h : PL P nt X ops ops.toList f H Q) : PW P nt X (.region id ops false) f H Q := by
  intro a w s
  have := wp_region_lit (id := id) (l := ops.toList) (P := P) (Q := Lift nt X Q) (a := a) (w := w) (by simpa using h a w s)
  simpa using this
variable {ops : Array Oper} {rest : List Oper} {o : Oper} {H' : Hp}
theorem pl_nil (h : Q .normal f H) : PL P nt X ops [] f H Q := fun _ _ s => wpList_nil ⟨f, H, h, s⟩
def PO (P : Program) (nt : Nat) (X : Ctx) (o : Oper) (f : Fr) (H : Hp) (K : Fr → Hp → Prop) : Prop :=
  ∀ a w, St nt X f H a w → ∀ (K' : Act → World → Prop) (Q' : Exit → Act → World → Prop), (∀ f H a w, K f H → St nt X f H a w → K' a w) → o.wp P a w K' Q'
theorem PO.mono {K K' : Fr → Hp → Prop} (h : PO P nt X o f H K) (hk : ∀ f H, K f H → K' f H) : PO P nt X o f H K' :=
  fun a w s J Q hJ => h a w s J Q fun f H a w k s => hJ f H a w (hk _ _ k) s
theorem pl_op (hg : o.guard = none) (h : PO P nt X o f H fun f H => PL P nt X ops rest f H Q) : PL P nt X ops (o :: rest) f H Q := by
  intro a w s
  refine wpList_plain hg fun K hK => ?_
  exact h a w s _ _ fun f H a w k s => hK a w (k a w s)
theorem pl_run {i t : Nat} {pol : Bool} (hg : o.guard = some (i, pol)) (hi : (ops[i]?).bind (·.dst) = some t) (hb : lk f t = .b pol ∨ lk f t = .kb pol)
    (h : PO P nt X { o with guard := none } f H fun f H => PL P nt X ops rest f H Q) : PL P nt X ops (o :: rest) f H Q := by
  obtain ⟨d?, op, ty, pos, after, guard⟩ := o
  cases hg
  intro a w ⟨blk, FP, s⟩
  have hv : a.tmps.getD t undef = .bool pol := by
    rcases hb with h | h
    · exact inv_b (h ▸ s.fr t)
    · exact inv_kb (h ▸ s.fr t)
  have hy : yielded ops a.tmps i = some pol := by
    unfold yielded
    rw [hi]
    by_cases ht : t < a.tmps.size
    · have : a.tmps[t]? = some (.bool pol) := by
        rw [Array.getElem?_eq_getElem ht]
        simpa [ht] using hv
      simp [this]
    · simp [ht, undef] at hv
  have := pl_op (ops := ops) (rest := rest) (Q := Q) rfl h a w ⟨blk, FP, s⟩
  unfold wpList at this ⊢
  rw [if_pos (by simp [Region.wanted])] at this
  rw [if_pos (by simp [Region.wanted, hy])]
  exact this
def skp (d? : Option Tmp) (f : Fr) : Fr := match d? with | some d => (d, .tup []) :: f | none => f
theorem pl_not {i t : Nat} {pol : Bool} (hg : o.guard = some (i, pol)) (hi : (ops[i]?).bind (·.dst) = some t) (hb : lk f t = .b (!pol) ∨ lk f t = .kb (!pol) ∨ lk f t = .tup []) (hn : (match o.dst with | some d => Nat.blt d nt | none => true) = true)
    (h : PL P nt X ops rest (skp o.dst f) H Q) : PL P nt X ops (o :: rest) f H Q := by
  intro a w ⟨blk, FP, s⟩
  have hy : yielded ops a.tmps i ≠ some pol := by
    unfold yielded
    rw [hi]
    rcases hb with h | h | h
    · have hv : a.tmps.getD t undef = .bool (!pol) := inv_b (h ▸ s.fr t)
      by_cases ht : t < a.tmps.size
      · have : a.tmps[t]? = some (.bool (!pol)) := by
          rw [Array.getElem?_eq_getElem ht]
          simpa [ht] using hv
        simp [this]
      · simp [ht, undef] at hv
    · have hv : a.tmps.getD t undef = .bool (!pol) := inv_kb (h ▸ s.fr t)
      by_cases ht : t < a.tmps.size
      · have : a.tmps[t]? = some (.bool (!pol)) := by
          rw [Array.getElem?_eq_getElem ht]
          simpa [ht] using hv
        simp [this]
      · simp [ht, undef] at hv
    · have hv : a.tmps.getD t undef = .tuple #[] := by
        have := h ▸ s.fr t
        obtain ⟨us, hu, hl, _⟩ := inv_tup this
        cases us with
        | nil => exact hu
        | cons => cases hl
      by_cases ht : t < a.tmps.size
      · have : a.tmps[t]? = some (.tuple #[]) := by
          rw [Array.getElem?_eq_getElem ht]
          simpa [ht] using hv
        simp [this]
      · simp [ht]
  unfold wpList
  rw [if_neg (by simpa [Region.wanted, hg] using hy)]
  obtain ⟨d?, op, ty, pos, after, guard⟩ := o
  cases d? with
  | none => exact h _ _ ⟨blk, FP, s⟩
  | some d => exact h _ _ ⟨blk, FP, s.put (Nat.le_of_ble_eq_true hn) (.tup [] [] rfl (by simp))⟩
theorem St.know {t : Nat} {b : Bool} (hb : lk f t = .b b) (s : St nt X f H a w) : St nt X ((t, .kb b) :: f) H a w := by
  obtain ⟨blk, FP, s⟩ := s
  refine ⟨blk, FP, s.refr fun t' h => ?_⟩
  rw [lk_cons]
  by_cases e : t = t'
  · subst e
    rw [if_pos rfl]
    rw [hb] at h
    rw [inv_b h]
    exact .kb _
  · rwa [if_neg e]
theorem S_push {N N' : Nat} (X : Ctx) (FP : Nat → List Nat) (H : Hp) (r : Row) (fp : List Nat) (hN : N ≤ N') (hfp : ∀ b ∈ fp, N ≤ b) : ∀ b, X.S FP H N b → X.S (fun id => if id = H.length then fp else FP id) (H ++ [some r]) N' b := by
  intro b ⟨h1, h2, h3⟩
  refine ⟨h1, by omega, fun id r' hr hb => ?_⟩
  simp only at hb
  rcases Nat.lt_or_ge id H.length with hlt | hge
  · rw [List.getElem?_append_left hlt] at hr
    rw [if_neg (by omega)] at hb
    exact h3 id r' hr hb
  · rw [List.getElem?_append_right hge] at hr
    rcases Nat.eq_zero_or_pos (id - H.length) with h0 | h0
    · rw [if_pos (by omega)] at hb
      have := hfp b hb
      omega
    · rw [List.getElem?_eq_none (by simp; omega)] at hr; cases hr
theorem HExt.push (H : Hp) (blk : Nat → BC) (r : Option Row) (b : BC) : HExt H blk (H ++ [r]) (fun id => if id = H.length then b else blk id) := fun id x h => by
  have hlt : id < H.length := (List.getElem?_eq_some_iff.1 h).1
  cases x with
  | none => exact .inl (by rw [List.getElem?_append_left hlt]; exact h)
  | some r' => exact .inr ⟨r', r', rfl, by rw [List.getElem?_append_left hlt]; exact h, rfl, rfl, by simp only; rw [if_neg (by omega)]⟩
theorem old_or_new {r : Row} {id : Nat} {r' : Row} (h : (H ++ [some r])[id]? = some (some r')) : (id < H.length ∧ H[id]? = some (some r')) ∨ (id = H.length ∧ r' = r) := by
  rcases Nat.lt_or_ge id H.length with hlt | hge
  · rw [List.getElem?_append_left hlt] at h
    exact .inl ⟨hlt, h⟩
  · rw [List.getElem?_append_right hge] at h
    rcases Nat.eq_zero_or_pos (id - H.length) with h0 | h0
    · rw [h0] at h
      exact .inr ⟨by omega, (Option.some.inj (Option.some.inj h)).symm⟩
    · rw [List.getElem?_eq_none (by simp; omega)] at h; cases h
theorem StB.pushC (s : StB nt X f H blk FP a w) (ty : TypeId) (cur : Array Value) (r : Row) (c : Nat) (h0 : 0 < c) (hle : r.cap ≤ c) (hk : r.k.isMp = false) (hcur : cur.size = c * r.sz) (hall : ∀ u ∈ cur, u.oneCell' = true)
    (hc : ∀ i j, i < r.cap → j < r.sz → ∃ u, cur[i * r.sz + j]? = some u ∧ Conc w (X.S FP H w.heap.size) blk H (r.es i j) u) (fz : Nat × Nat) (hz : FzOk fz cur.size) :
    StB nt X f (H ++ [some r]) (fun id => if id = H.length then ⟨w.heap.size, c⟩ else blk id) (fun id => if id = H.length then [w.heap.size] else FP id) a (w.alloc (.cells cur ty fz)) := by
  have hsz : (w.alloc (.cells cur ty fz)).heap.size = w.heap.size + 1 := by simp
  have hkeep : ∀ b, X.S FP H w.heap.size b → X.S (fun id => if id = H.length then [w.heap.size] else FP id) (H ++ [some r]) (w.alloc (.cells cur ty fz)).heap.size b ∧ (w.alloc (.cells cur ty fz)).heap[b]? = w.heap[b]? := fun b hb =>
    ⟨S_push X FP H r [w.heap.size] (by omega) (by simp) b hb, Below.heap_alloc _ _ _ hb.2.1⟩
  have hext := HExt.push H blk (some r) ⟨w.heap.size, c⟩
  refine ⟨s.defers, s.size, ?_, fun id r' hr => ?_, fun i j r1 r2 hi hj hij b hb hb' => ?_, fun t => (s.fr t).mono hkeep hext, s.ext.trans hext⟩
  · have k := s.keeps
    exact ⟨k.os, k.tape, k.output, by have := k.size; omega, fun b hb hm => (Below.heap_alloc _ _ _ (by have := k.size; omega)).trans (k.block b hb hm)⟩
  · rcases old_or_new hr with ⟨hlt, hr⟩ | ⟨rfl, rfl⟩
    · obtain ⟨h1, h2⟩ := s.rows id r' hr
      simp only [if_neg (show ¬ id = H.length by omega)]
      exact ⟨h1.mono hkeep hext fun x hx => Below.heap_alloc _ _ _ (h2 x hx).2, fun b hb => ⟨(h2 b hb).1, by have := (h2 b hb).2; omega⟩⟩
    · simp only [if_pos]
      refine ⟨.inr ⟨h0, hle, hk, by simp, ty, cur, fun _ _ => [], ⟨fz, heap_alloc_new w _, hz⟩, hcur, hall, fun i j hi hj => ?_, by simp, by simp⟩, fun b hb => ?_⟩
      · obtain ⟨u, hu, hcu⟩ := hc i j hi hj
        exact ⟨u, hu, hall u (Array.mem_of_getElem? hu), .plain (hcu.mono hkeep hext)⟩
      · obtain rfl : b = w.heap.size := by simpa using hb
        exact ⟨.inl s.keeps.size, by omega⟩
  · try simp only at hb hb'
    rcases old_or_new hi with ⟨hlt, hi1⟩ | ⟨hi1, _⟩ <;> rcases old_or_new hj with ⟨hlt', hj1⟩ | ⟨hj1, _⟩
    · rw [if_neg (by omega)] at hb hb'
      exact s.apart i j r1 r2 hi1 hj1 hij b hb hb'
    · rw [if_neg (by omega)] at hb
      rw [if_pos hj1] at hb'
      have := ((s.rows i r1 hi1).2 b hb).2
      obtain rfl : b = w.heap.size := by simpa using hb'
      omega
    · rw [if_pos hi1] at hb
      rw [if_neg (by omega)] at hb'
      have := ((s.rows j r2 hj1).2 b hb').2
      obtain rfl : b = w.heap.size := by simpa using hb
      omega
    · omega
theorem StB.push (s : StB nt X f H blk FP a w) (ty : TypeId) (cur : Array Value) (r : Row) (hk : r.k.isMp = false) (h0 : 0 < r.cap) (hcur : cur.size = r.cap * r.sz)
    (hc : ∀ i j, i < r.cap → j < r.sz → ∃ u, cur[i * r.sz + j]? = some u ∧ u.oneCell' = true ∧ Conc w (X.S FP H w.heap.size) blk H (r.es i j) u) :
    StB nt X f (H ++ [some r]) (fun id => if id = H.length then ⟨w.heap.size, r.cap⟩ else blk id) (fun id => if id = H.length then [w.heap.size] else FP id) a (w.alloc (.cells cur ty (0, 0))) := by
  refine s.pushC ty cur r r.cap h0 (Nat.le_refl _) hk hcur (fun u hu => ?_) (fun i j hi hj => ?_) (0, 0) (.inl rfl)
  · obtain ⟨k, hk⟩ := Array.getElem?_of_mem hu
    have hlt : k < r.cap * r.sz := by rw [← hcur]; exact (Array.getElem?_eq_some_iff.1 hk).1
    have hsz : 0 < r.sz := by
      rcases Nat.eq_zero_or_pos r.sz with h | h
      · rw [h] at hlt; omega
      · exact h
    obtain ⟨v, hv, ho, _⟩ := hc (k / r.sz) (k % r.sz) (Nat.div_lt_of_lt_mul (by rw [Nat.mul_comm]; exact hlt)) (Nat.mod_lt _ hsz)
    rw [Nat.div_add_mod' k r.sz, hk] at hv
    cases hv
    exact ho
  · obtain ⟨u, hu, _, hcu⟩ := hc i j hi hj
    exact ⟨u, hu, hcu⟩
theorem set_cases {id k : Nat} {r r1 r' : Row} (hr : H[id]? = some (some r)) (hk : (H.set id (some r1))[k]? = some (some r')) :
    (k = id ∧ r' = r1) ∨ (k ≠ id ∧ H[k]? = some (some r')) := by
  by_cases h : id = k
  · subst h
    rw [List.getElem?_set_self (List.getElem?_eq_some_iff.1 hr).1] at hk
    exact .inl ⟨rfl, (Option.some.inj (Option.some.inj hk)).symm⟩
  · rw [List.getElem?_set_ne h] at hk
    exact .inr ⟨fun e => h e.symm, hk⟩
theorem HExt.set {id : Nat} {r r1 : Row} (blk : Nat → BC) (hr : H[id]? = some (some r)) (h1 : r1.sz = r.sz) (h2 : r1.cap = r.cap) : HExt H blk (H.set id (some r1)) blk := by
  intro k x hk
  by_cases h : id = k
  · subst h
    rw [hr] at hk
    cases hk
    exact .inr ⟨r, r1, rfl, by simp [List.getElem?_set, (List.getElem?_eq_some_iff.1 hr).1], h1, h2, rfl⟩
  · cases x with
    | none => exact .inl (by rw [List.getElem?_set_ne h]; exact hk)
    | some r' => exact .inr ⟨r', r', rfl, by rw [List.getElem?_set_ne h]; exact hk, rfl, rfl, rfl⟩
theorem S_set (X : Ctx) (FP : Nat → List Nat) {id N : Nat} {r r1 : Row} (hr : H[id]? = some (some r)) (b : Nat) : X.S FP (H.set id (some r1)) N b ↔ X.S FP H N b := by
  constructor
  · intro ⟨h1, h2, h3⟩
    refine ⟨h1, h2, fun k r' hk => ?_⟩
    by_cases h : id = k
    · subst h
      exact h3 id r1 (by simp [List.getElem?_set, (List.getElem?_eq_some_iff.1 hr).1])
    · exact h3 k r' (by rw [List.getElem?_set_ne h]; exact hk)
  · intro ⟨h1, h2, h3⟩
    refine ⟨h1, h2, fun k r' hk => ?_⟩
    rcases set_cases hr hk with ⟨rfl, rfl⟩ | ⟨_, hk⟩
    · exact h3 k r hr
    · exact h3 k r' hk
theorem StB.row {id : Nat} {r : Row} (s : StB nt X f H blk FP a w) (hr : H[id]? = some (some r)) (es : Nat → Nat → AV) (cur' : Array Value) (h0 : 0 < (blk id).c) (hcur : cur'.size = (blk id).c * r.sz) (hall : ∀ u ∈ cur', u.oneCell' = true) (F : Nat → Nat → List Nat)
    (hc : ∀ i j, i < r.cap → j < r.sz → ∃ u, cur'[i * r.sz + j]? = some u ∧ u.oneCell' = true ∧ Own w (X.S FP H w.heap.size) blk H (es i j) u (F i j))
    (hF : ∀ i j, i < r.cap → j < r.sz → ∀ x ∈ F i j, x ∈ FP id ∧ x ≠ (blk id).b)
    (hFF : ∀ i j i' j', i < r.cap → j < r.sz → i' < r.cap → j' < r.sz → (i ≠ i' ∨ j ≠ j') → ∀ x ∈ F i j, x ∉ F i' j') :
    StB nt X f (H.set id (some { r with es := es })) blk FP a (w.setRow (blk id).b cur') := by
  have hsz : (w.setRow (blk id).b cur').heap.size = w.heap.size := setRow_size ..
  rcases (s.rows id r hr).1 with hrow | ⟨_, hle, hk, hblk, ty, cur, F0, ⟨fz, hb, hz⟩, hcs0, _⟩
  · omega
  have hkeep : ∀ b, X.S FP H w.heap.size b → X.S FP (H.set id (some { r with es := es })) (w.setRow (blk id).b cur').heap.size b ∧ (w.setRow (blk id).b cur').heap[b]? = w.heap[b]? := fun b hb =>
    ⟨by rw [hsz]; exact (S_set X FP hr b).2 hb, setRow_other w (blk id).b b cur' (fun e => hb.2.2 id r hr (e ▸ hblk))⟩
  have hext := HExt.set (H := H) blk hr (r1 := { r with es := es }) rfl rfl
  refine ⟨s.defers, s.size, ?_, fun k r' hk' => ?_, fun i j r1 r2 hi hj hij => ?_, fun t => (s.fr t).mono hkeep hext, s.ext.trans hext⟩
  · have k := s.keeps
    refine ⟨k.os, k.tape, k.output, by rw [hsz]; exact k.size, fun b hb' hm => ?_⟩
    rw [setRow_other w (blk id).b b cur' (fun e => by
      subst e
      rcases ((s.rows id r hr).2 _ hblk).1 with h | h
      · omega
      · exact hm h)]
    exact k.block b hb' hm
  · rw [hsz]
    rcases set_cases hr hk' with ⟨rfl, rfl⟩ | ⟨hne, hk'⟩
    · refine ⟨.inr ⟨h0, hle, hk, hblk, ty, cur', F, ⟨fz, setRow_heap w (blk k).b cur cur' ty _ hb, by rw [hcur, ← hcs0]; exact hz⟩, hcur, hall, fun i j hi hj => ?_, hF, hFF⟩, (s.rows k r hr).2⟩
      obtain ⟨u, hu, ho, hcu⟩ := hc i j hi hj
      rw [hsz] at hkeep
      exact ⟨u, hu, ho, hcu.mono hkeep hext fun x hx => setRow_other w (blk k).b x cur' (hF i j hi hj x hx).2⟩
    · obtain ⟨h1, h2⟩ := s.rows k r' hk'
      rw [hsz] at hkeep
      exact ⟨h1.mono hkeep hext fun x hx => setRow_other w (blk id).b x cur' (fun e => s.apart id k r r' hr hk' (fun e => hne e.symm) _ hblk (e ▸ hx)), h2⟩
  · rcases set_cases hr hi with ⟨hi1, _⟩ | ⟨hne, hi'⟩ <;> rcases set_cases hr hj with ⟨hj1, _⟩ | ⟨hne', hj'⟩
    · omega
    · subst hi1; exact s.apart i j r r2 hr hj' hij
    · subst hj1; exact s.apart i j r1 r hi' hr hij
    · exact s.apart i j r1 r2 hi' hj' hij
end
end
end Go.Proofs.Ytdeledeopippfaa
