/-
  The abstract layer: the state of a function's run described (St), what a piece of code does to it (PW), and the rules for the code's forms and for operations in general.
-/
import Derived.Test.YtbphkpojhinbiaaPtsA
namespace Go.Proofs.Ytbphkpojhinbiaa
open Go Go.RowKit
set_option linter.unusedVariables false
set_option linter.unusedSimpArgs false

abbrev Fr := List (Nat × AV)
abbrev Hp := List (Option LRow)

/-- What the frame says of slot t. -/
def lk : Fr → Nat → AV
  | [], _ => .any
  | (d, v) :: r, t => bif Nat.beq d t then v else lk r t

/-- What is said of a constant. -/
def cv : Value → AV
  | .int k n => bif (Lit.int k n).wf then .d (.v (.int k n)) else .any
  | .bool b => .d (.v (.bool b))
  | .string s => bif Nat.ble s.size 1000000 then .d (.v (.string s)) else .any
  | .slice none 0 0 => .d (.sl [])
  | _ => .any

/-- What is said of an operand. -/
def ev (f : Fr) : Operand → AV
  | .tmp t => lk f t
  | .const v => cv v
  | .global _ => .any
  | .func g => .fn g []

/-- Nothing that was there has turned, but for the blocks of mod. -/
structure Keeps (mod : List Nat) (w w' : World) : Prop where
  os : w'.os = w.os
  tape : w'.tape = w.tape
  output : w'.output = w.output
  size : w.heap.size ≤ w'.heap.size
  block : ∀ k, k < w.heap.size → k ∉ mod → w'.heap[k]? = w.heap[k]?

theorem Keeps.refl (mod : List Nat) (w : World) : Keeps mod w w := ⟨rfl, rfl, rfl, Nat.le_refl _, fun _ _ _ => rfl⟩
theorem Keeps.below {w w' : World} (h : Keeps [] w w') : Below w.heap.size w w' := ⟨h.os, h.tape, h.output, h.size, fun k hk => h.block k hk (by simp)⟩

/-- What a function's run stands in: the world at its start, the blocks that its arguments' trees may lie in, the blocks that it may change. -/
structure Ctx where
  w0 : World
  S0 : Nat → Prop
  mod : List Nat

/-- The blocks that stay as they are while the function runs. -/
def Ctx.S (X : Ctx) (H : Hp) (N : Nat) : Nat → Prop := fun b => (X.S0 b ∨ X.w0.heap.size ≤ b) ∧ b < N ∧ ∀ (id : Nat) (r : LRow), H[id]? = some (some r) → r.blk ≠ b

structure St (nt : Nat) (X : Ctx) (f : Fr) (H : Hp) (N : Nat) (a : Act) (w : World) : Prop where
  defers : a.defers = []
  size : a.tmps.size = nt
  heap : w.heap.size = N
  keeps : Keeps X.mod X.w0 w
  rows : ∀ (id : Nat) (r : LRow), H[id]? = some (some r) → RowOk w (X.S H N) H r ∧ (X.w0.heap.size ≤ r.blk ∨ r.blk ∈ X.mod)
  inj : ∀ (i j : Nat) (r r' : LRow), H[i]? = some (some r) → H[j]? = some (some r') → r.blk = r'.blk → i = j
  fr : ∀ t, Conc w (X.S H N) H (lk f t) (a.tmps.getD t undef)

def Lift (nt : Nat) (X : Ctx) (Q : Exit → Fr → Hp → Nat → Prop) : Exit → Act → World → Prop := fun e a w => ∃ f H N, Q e f H N ∧ St nt X f H N a w

def PW (P : Program) (nt : Nat) (X : Ctx) (c : Code) (f : Fr) (H : Hp) (N : Nat) (Q : Exit → Fr → Hp → Nat → Prop) : Prop := ∀ a w, St nt X f H N a w → Code.wp P c (Lift nt X Q) a w

def PL (P : Program) (nt : Nat) (X : Ctx) (ops : Array Oper) (todo : List Oper) (f : Fr) (H : Hp) (N : Nat) (Q : Exit → Fr → Hp → Nat → Prop) : Prop :=
  ∀ a w, St nt X f H N a w → wpList P ops (Lift nt X Q) todo a w

def thn (next : Fr → Hp → Nat → Prop) (Q : Exit → Fr → Hp → Nat → Prop) : Exit → Fr → Hp → Nat → Prop
  | .normal, f, H, N => next f H N
  | e, f, H, N => Q e f H N

def inBlk (id : Nat) (Q : Exit → Fr → Hp → Nat → Prop) : Exit → Fr → Hp → Nat → Prop
  | .exit id', f, H, N => if id' = id then Q .normal f H N else Q (.exit id') f H N
  | e, f, H, N => Q e f H N

section
variable {P : Program} {nt : Nat} {X : Ctx} {f f' : Fr} {H : Hp} {N : Nat} {Q Q' : Exit → Fr → Hp → Nat → Prop}

theorem Lift.mono {e : Exit} {a : Act} {w : World} (h : Lift nt X Q e a w) (hq : ∀ e f H N, Q e f H N → Q' e f H N) : Lift nt X Q' e a w := by
  obtain ⟨f, H, N, q, s⟩ := h
  exact ⟨f, H, N, hq _ _ _ _ q, s⟩

theorem PW.mono {c : Code} (h : PW P nt X c f H N Q) (hq : ∀ e f H N, Q e f H N → Q' e f H N) : PW P nt X c f H N Q' :=
  fun a w s => wp_mono (h a w s) fun _ _ _ l => l.mono hq

theorem pw_seq {x y : Code} (h : PW P nt X x f H N (thn (fun f H N => PW P nt X y f H N Q) Q)) : PW P nt X (.seq x y) f H N Q := by
  intro a w s
  refine wp_seq (wp_mono (h a w s) fun e a w l => ?_)
  obtain ⟨f, H, N, q, s⟩ := l
  cases e with
  | normal => exact q a w s
  | exit id => exact ⟨f, H, N, q, s⟩
  | goto l => exact ⟨f, H, N, q, s⟩
  | ret => exact ⟨f, H, N, q, s⟩
  | panic ch => exact ⟨f, H, N, q, s⟩
  | outgrown => exact ⟨f, H, N, q, s⟩

/-- What follows, as one word. -/
def Kt (P : Program) (nt : Nat) (X : Ctx) (y : Code) (Q : Exit → Fr → Hp → Nat → Prop) : Fr → Hp → Nat → Prop := fun f H N => PW P nt X y f H N Q
theorem pw_seq_t {x y : Code} (h : PW P nt X x f H N (thn (Kt P nt X y Q) Q)) : PW P nt X (.seq x y) f H N Q := pw_seq h
theorem thn_t {y : Code} (h : PW P nt X y f H N Q') : thn (Kt P nt X y Q') Q .normal f H N := h
theorem pl_id {ops : Array Oper} {todo : List Oper} (h : PL P nt X ops todo f H N Q) : PL P nt X ops todo f H N Q := h
theorem pw_id {c : Code} (h : PW P nt X c f H N Q) : PW P nt X c f H N Q := h

theorem thn_n {next : Fr → Hp → Nat → Prop} (h : next f H N) : thn next Q .normal f H N := h
theorem thn_r {next : Fr → Hp → Nat → Prop} (h : Q .ret f H N) : thn next Q .ret f H N := h
theorem thn_e {next : Fr → Hp → Nat → Prop} {id : Nat} (h : Q (.exit id) f H N) : thn next Q (.exit id) f H N := h
theorem blk_n {id : Nat} (h : Q .normal f H N) : inBlk id Q .normal f H N := h
theorem blk_r {id : Nat} (h : Q .ret f H N) : inBlk id Q .ret f H N := h
theorem blk_e {id : Nat} (h : Q .normal f H N) : inBlk id Q (.exit id) f H N := by simpa [inBlk] using h
theorem blk_ne {id id' : Nat} (hne : Nat.beq id' id = false) (h : Q (.exit id') f H N) : inBlk id Q (.exit id') f H N := by
  simp only [inBlk]
  rw [if_neg (fun e => by subst e; rw [Nat.beq_refl] at hne; cases hne)]
  exact h

theorem pw_skip (h : Q .normal f H N) : PW P nt X .skip f H N Q := fun _ _ s => wp_skip ⟨f, H, N, h, s⟩
theorem pw_ret (h : Q .ret f H N) : PW P nt X .ret f H N Q := fun _ _ s => wp_ret ⟨f, H, N, h, s⟩
theorem pw_exit {id : Nat} (h : Q (.exit id) f H N) : PW P nt X (.exit id) f H N Q := fun _ _ s => wp_exit ⟨f, H, N, h, s⟩

theorem pw_block {id : Nat} {c : Code} (h : PW P nt X c f H N (inBlk id Q)) : PW P nt X (.block id c) f H N Q := by
  intro a w s
  refine wp_block (wp_mono (h a w s) fun e a w l => ?_)
  obtain ⟨f, H, N, q, s⟩ := l
  cases e with
  | exit id' =>
    simp only [Exit.inBlock, inBlk] at q ⊢
    split
    · rw [if_pos (by assumption)] at q; exact ⟨f, H, N, q, s⟩
    · rw [if_neg (by assumption)] at q; exact ⟨f, H, N, q, s⟩
  | normal => exact ⟨f, H, N, q, s⟩
  | goto l => exact ⟨f, H, N, q, s⟩
  | ret => exact ⟨f, H, N, q, s⟩
  | panic ch => exact ⟨f, H, N, q, s⟩
  | outgrown => exact ⟨f, H, N, q, s⟩

theorem pw_loop {c : Code} (I : Nat → Fr → Hp → Nat → Prop) (m : Nat) (h0 : I m f H N)
    (round : ∀ m f H N, I m f H N → PW P nt X c f H N (thn (fun f H N => ∃ m', m' < m ∧ I m' f H N) Q)) : PW P nt X (.loop c) f H N Q := by
  intro a w s
  let J : Nat → Act → World → Prop := fun m a w => ∃ f H N, I m f H N ∧ St nt X f H N a w
  have key : ∀ a w, (∃ m, J m a w) → ∃ m, J m a w ∧ ∀ m', J m' a w → m ≤ m' := by
    intro a w ⟨m, hm⟩
    induction m using Nat.strongRecOn with
    | _ m ih =>
      by_cases hex : ∃ m', m' < m ∧ J m' a w
      · obtain ⟨m', hlt, hj⟩ := hex; exact ih m' hlt hj
      · refine ⟨m, hm, fun m' hj => ?_⟩
        rcases Nat.lt_or_ge m' m with hlt | hge
        · exact absurd ⟨m', hlt, hj⟩ hex
        · exact hge
  have dec : ∀ a w, Decidable (∃ m, J m a w) := fun _ _ => Classical.propDecidable _
  let μ : Act → World → Nat := fun a w => if hx : ∃ m, J m a w then Classical.choose (key a w hx) else 0
  refine wp_loop (fun a w => ∃ m, J m a w) μ ⟨m, f, H, N, h0, s⟩ fun a w hI => ?_
  have hμ : μ a w = Classical.choose (key a w hI) := dif_pos hI
  obtain ⟨hJ, hmin⟩ := Classical.choose_spec (key a w hI)
  rw [← hμ] at hJ hmin
  obtain ⟨f, H, N, hi, s⟩ := hJ
  refine wp_mono (round _ f H N hi a w s) fun e a' w' l => ?_
  obtain ⟨f', H', N', q, s'⟩ := l
  cases e with
  | normal =>
    obtain ⟨m', hlt, hi'⟩ := q
    have hx : ∃ m, J m a' w' := ⟨m', f', H', N', hi', s'⟩
    refine ⟨hx, ?_⟩
    have hμ' : μ a' w' = Classical.choose (key a' w' hx) := dif_pos hx
    have hmin' := (Classical.choose_spec (key a' w' hx)).2 m' ⟨f', H', N', hi', s'⟩
    rw [← hμ'] at hmin'
    omega
  | exit id => exact ⟨f', H', N', q, s'⟩
  | goto l => exact ⟨f', H', N', q, s'⟩
  | ret => exact ⟨f', H', N', q, s'⟩
  | panic ch => exact ⟨f', H', N', q, s'⟩
  | outgrown => exact ⟨f', H', N', q, s'⟩

/-- A constant is as it is said to be. -/
theorem conc_cv {w : World} {S : Nat → Prop} {H : Hp} (v : Value) : Conc w S H (cv v) v := by
  unfold cv
  split
  · rename_i k n
    cases hw : (Lit.int k n).wf with
    | true => exact .d (.v _ hw)
    | false => exact .any _
  · exact .d (.v _ trivial)
  · rename_i s
    cases hw : Nat.ble s.size 1000000 with
    | true => exact .d (.v _ (by have := Nat.le_of_ble_eq_true hw; unfold Sc maxLen; omega))
    | false => exact .any _
  · exact .d .nil
  · exact .any _

theorem St.ev {a : Act} {w : World} (s : St nt X f H N a w) (x : Operand) : Conc w (X.S H N) H (ev f x) (a.eval x) := by
  cases x with
  | tmp t => exact s.fr t
  | const v => exact conc_cv v
  | global g => exact .any _
  | func g => exact .fn g [] [] rfl (by simp)

theorem lk_cons (d : Nat) (v : AV) (t : Nat) : lk ((d, v) :: f) t = if d = t then v else lk f t := by
  show (bif Nat.beq d t then v else lk f t) = _
  by_cases h : d = t
  · subst h; rw [if_pos rfl, Nat.beq_refl]; rfl
  · have hb : Nat.beq d t = false := by
      cases hb : Nat.beq d t with
      | true => exact absurd (Nat.eq_of_beq_eq_true hb) h
      | false => rfl
    rw [if_neg h, hb]; rfl

theorem St.put {a : Act} {w : World} {d : Nat} {v : AV} {u : Value} (s : St nt X f H N a w) (hd : d < nt) (h : Conc w (X.S H N) H v u) : St nt X ((d, v) :: f) H N (a.put (some d) u) w := by
  refine ⟨s.defers, by simpa [Act.put] using s.size, s.heap, s.keeps, s.rows, s.inj, fun t => ?_⟩
  rw [lk_cons]
  by_cases ht : d = t
  · subst ht
    rw [if_pos rfl]
    have : (a.put (some d) u).tmps.getD d undef = u := by
      have hs : d < a.tmps.size := by rw [s.size]; exact hd
      simp [Act.put, hs]
    rw [this]
    exact h
  · rw [if_neg ht]
    have : (a.put (some d) u).tmps.getD t undef = a.tmps.getD t undef := by simp [Act.put, Array.getElem?_setIfInBounds_ne ht]
    rw [this]
    exact s.fr t

/-- Only what a list says of the frame is kept. -/
theorem St.forget {a : Act} {w : World} (s : St nt X f H N a w) (L : Fr) (h : ∀ p ∈ L, lk f p.1 = p.2) : St nt X L H N a w := by
  refine ⟨s.defers, s.size, s.heap, s.keeps, s.rows, s.inj, fun t => ?_⟩
  have : lk L t = .any ∨ lk L t = lk f t := by
    induction L with
    | nil => exact .inl rfl
    | cons p L ih =>
      obtain ⟨d, v⟩ := p
      rw [lk_cons]
      split
      · rename_i e; subst e; exact .inr (h (d, v) (by simp)).symm
      · exact ih fun q hq => h q (by simp [hq])
  rcases this with e | e
  · rw [e]; exact .any _
  · rw [e]; exact s.fr t

theorem pw_forget {c : Code} (L : Fr) (hL : ∀ p ∈ L, lk f p.1 = p.2) (h : PW P nt X c L H N Q) : PW P nt X c f H N Q := fun a w s => h a w (s.forget L hL)

theorem bool_of {w : World} {S : Nat → Prop} {b : Bool} {u : Value} (h : Conc w S H (.d (.v (.bool b))) u) : u = .bool b := by
  cases h with | d h => cases h with | v _ _ => rfl

theorem val_of {w : World} {S : Nat → Prop} {x u : Value} (h : Conc w S H (.d (.v x)) u) : u = x ∧ Sc x := by
  cases h with | d h => cases h with | v _ h => exact ⟨rfl, h⟩

theorem inv_rf {w : World} {S : Nat → Prop} {cs : List D} {u : Value} (h : Conc w S H (.rf cs) u) :
    ∃ (b o : Nat) (U : Nat → Value), u = .pointer (some ⟨b, o, none⟩) ∧ S b ∧ (∀ (j : Nat) (c : D), cs[j]? = some c → w.cell? ⟨b, o + j, none⟩ = some (U j)) ∧ (∀ (j : Nat) (c : D), cs[j]? = some c → CD w S c (U j)) :=
  match u, h with | _, .rf b o _ U hS hc hu => ⟨b, o, U, rfl, hS, hc, hu⟩

theorem inv_ptr {w : World} {S : Nat → Prop} {id i off : Nat} {r : LRow} {u : Value} (hr : H[id]? = some (some r)) (h : Conc w S H (.ptr id i off) u) : u = .pointer (some ⟨r.blk, i * r.sz + off, none⟩) :=
  match u, h with | _, .ptr _ _ _ r' h' => by rw [hr] at h'; rw [Option.some.inj (Option.some.inj h')]

theorem inv_row {w : World} {S : Nat → Prop} {id n cap : Nat} {r : LRow} {u : Value} (hr : H[id]? = some (some r)) (h : Conc w S H (.row id n cap) u) :
    u = .slice (some ⟨r.blk, 0, none⟩) n cap ∧ n ≤ cap ∧ r.es.length = cap ∧ cap ≤ maxLen :=
  match u, h with | _, .row _ _ _ r' h' hn hl hm => by rw [hr] at h'; cases Option.some.inj (Option.some.inj h'); exact ⟨rfl, hn, hl, hm⟩

theorem inv_d {w : World} {S : Nat → Prop} {t : D} {u : Value} (h : Conc w S H (.d t) u) : CD w S t u := match u, h with | _, .d h => h
theorem inv_ow {w : World} {S : Nat → Prop} {fp : List Nat} {t : D} {u : Value} (h : Conc w S H (.ow fp t) u) : CO w t u fp ∧ ∀ b ∈ fp, S b := match u, h with | _, .ow h hS => ⟨h, hS⟩
theorem inv_agg {w : World} {S : Nat → Prop} {cs : List AV} {u : Value} (h : Conc w S H (.agg cs) u) :
    ∃ us : List Value, u = .agg us.toArray ∧ us.length = cs.length ∧ ∀ (j : Nat) (c : AV) (u : Value), cs[j]? = some c → us[j]? = some u → Conc w S H c u := match u, h with | _, .agg _ us hl hu => ⟨us, rfl, hl, hu⟩
theorem inv_tup {w : World} {S : Nat → Prop} {cs : List AV} {u : Value} (h : Conc w S H (.tup cs) u) :
    ∃ us : List Value, u = .tuple us.toArray ∧ us.length = cs.length ∧ ∀ (j : Nat) (c : AV) (u : Value), cs[j]? = some c → us[j]? = some u → Conc w S H c u := match u, h with | _, .tup _ us hl hu => ⟨us, rfl, hl, hu⟩
theorem inv_fn {w : World} {S : Nat → Prop} {g : FuncId} {cs : List AV} {u : Value} (h : Conc w S H (.fn g cs) u) :
    ∃ us : List Value, u = .func (.func g) #[] us.toArray ∧ us.length = cs.length ∧ ∀ (j : Nat) (c : AV) (u : Value), cs[j]? = some c → us[j]? = some u → Conc w S H c u := match u, h with | _, .fn _ _ us hl hu => ⟨us, rfl, hl, hu⟩
theorem inv_sl {w : World} {S : Nat → Prop} {es : List (List D)} {u : Value} (h : CD w S (.sl es) u) (hne : 0 < es.length) :
    ∃ (b o cap sz : Nat) (U : Nat → Nat → Value), u = .slice (some ⟨b, o, none⟩) es.length cap ∧ S b ∧ es.length ≤ cap ∧ cap ≤ maxLen ∧ (∀ e ∈ es, e.length = sz) ∧
      (∀ (i j : Nat) (e : List D) (c : D), es[i]? = some e → e[j]? = some c → w.cell? ⟨b, o + i * sz + j, none⟩ = some (U i j)) ∧ (∀ (i j : Nat) (e : List D) (c : D), es[i]? = some e → e[j]? = some c → CD w S c (U i j)) :=
  match es, u, h with
  | _, _, .nil => absurd hne (by simp)
  | _, _, .emp .. => absurd hne (by simp)
  | _, _, .sl b o cap sz _ U hS hcap hm hsz hc hu => ⟨b, o, cap, sz, U, rfl, hS, hcap, hm, hsz, hc, hu⟩
/-- A tree that is a slice lies at a slice value of its length. -/
theorem sl_form {w : World} {S : Nat → Prop} {es : List (List D)} {u : Value} (h : CD w S (.sl es) u) : ∃ (a : Option Addr) (cap : Nat), u = .slice a es.length cap ∧ es.length ≤ cap ∧ cap ≤ maxLen :=
  match es, u, h with
  | _, _, .nil => ⟨none, 0, rfl, by simp, by simp⟩
  | _, _, .emp a cap hm => ⟨some a, cap, rfl, by simp, hm⟩
  | _, _, .sl b o cap sz _ U hS hcap hm hsz hc hu => ⟨_, cap, rfl, hcap, hm⟩

theorem pw_cond {c : Operand} {x y : Code} {b : Bool} (hc : ev f c = .d (.v (.bool b))) (ht : b = true → PW P nt X x f H N Q) (hf : b = false → PW P nt X y f H N Q) : PW P nt X (.cond c x y) f H N Q := by
  intro a w s
  have hv : a.eval c = .bool b := bool_of (hc ▸ s.ev c)
  exact wp_cond_split hv (fun h => ht h a w s) (fun h => hf h a w s)

theorem pw_condT {c : Operand} {x y : Code} {b : Bool} (hc : ev f c = .d (.v (.bool b))) (hb : b = true) (h : PW P nt X x f H N Q) : PW P nt X (.cond c x y) f H N Q :=
  pw_cond hc (fun _ => h) (fun e => by rw [hb] at e; cases e)
theorem pw_condF {c : Operand} {x y : Code} {b : Bool} (hc : ev f c = .d (.v (.bool b))) (hb : b = false) (h : PW P nt X y f H N Q) : PW P nt X (.cond c x y) f H N Q :=
  pw_cond hc (fun e => by rw [hb] at e; cases e) (fun _ => h)

theorem pw_region {id : Nat} {l : List Oper} (h : PL P nt X l.toArray l f H N Q) : PW P nt X (.region id l.toArray false) f H N Q :=
  fun a w s => wp_region_lit (h a w s)

theorem pl_nil {ops : Array Oper} (h : Q .normal f H N) : PL P nt X ops [] f H N Q := fun _ _ s => wpList_nil ⟨f, H, N, h, s⟩

variable {ops : Array Oper} {rest : List Oper} {o : Oper} {H' : Hp} {N' : Nat}

/-- An operation that writes a slot. -/
theorem pl_val {d : Nat} {v : AV} (hg : o.guard = none) (hd : o.dst = some d) (hn : Nat.blt d nt = true)
    (hop : ∀ a w, St nt X f H N a w → ∃ u w', (execOp a.eval o).run P w = .ok (.value u) w' ∧ St nt X f H' N' a w' ∧ Conc w' (X.S H' N') H' v u)
    (h : PL P nt X ops rest ((d, v) :: f) H' N' Q) : PL P nt X ops (o :: rest) f H N Q := by
  intro a w s
  obtain ⟨u, w', hr, s', hc⟩ := hop a w s
  refine wpList_plain hg fun K hK => ?_
  unfold Oper.wp
  rw [hr]
  show K (a.put o.dst u) w'
  rw [hd]
  exact hK _ _ (h _ _ (s'.put (Nat.le_of_ble_eq_true hn) hc))

/-- An operation that writes no slot (a store). -/
theorem pl_skip (hg : o.guard = none) (hd : o.dst = none)
    (hop : ∀ a w, St nt X f H N a w → ∃ w', (execOp a.eval o).run P w = .ok .skip w' ∧ St nt X f H' N' a w')
    (h : PL P nt X ops rest f H' N' Q) : PL P nt X ops (o :: rest) f H N Q := by
  intro a w s
  obtain ⟨w', hr, s'⟩ := hop a w s
  refine wpList_plain hg fun K hK => ?_
  unfold Oper.wp
  rw [hr]
  show K (a.put o.dst undef) w'
  rw [hd]
  exact hK _ _ (h _ _ s')

/-- A guarded operation that runs. -/
theorem pl_run {dst : Option Tmp} {op : Op} {ty : TypeId} {pos : String} {after : Array Edge} {i t : Nat} {pol : Bool}
    (hi : (ops[i]?).bind (·.dst) = some t) {b : Bool} (hb : lk f t = .d (.v (.bool b))) (hp : b = pol)
    (h : PL P nt X ops ({ dst := dst, op := op, type := ty, pos := pos, after := after, guard := none } :: rest) f H N Q) :
    PL P nt X ops ({ dst := dst, op := op, type := ty, pos := pos, after := after, guard := some (i, pol) } :: rest) f H N Q := by
  subst hp
  intro a w s
  have hv : a.tmps.getD t undef = .bool b := bool_of (hb ▸ s.fr t)
  have hy : yielded ops a.tmps i = some b := by
    unfold yielded
    rw [hi]
    by_cases ht : t < a.tmps.size
    · have : a.tmps[t]? = some (.bool b) := by
        rw [Array.getElem?_eq_getElem ht]
        simpa [ht] using hv
      simp [this]
    · simp [ht, undef] at hv
  have := h a w s
  unfold wpList at this ⊢
  rw [if_pos (by simp [Region.wanted])] at this
  rw [if_pos (by simp [Region.wanted, hy])]
  exact this

/-- A guard that is not decided. -/
theorem pl_gsplit {d? : Option Tmp} {op : Op} {ty : TypeId} {pos : String} {after : Array Edge} {i t : Nat} {pol b : Bool}
    (hi : (ops[i]?).bind (·.dst) = some t) (hb : lk f t = .d (.v (.bool b)))
    (h1 : b = true → PL P nt X ops ({ dst := d?, op := op, type := ty, pos := pos, after := after, guard := some (i, pol) } :: rest) f H N Q)
    (h2 : b = false → PL P nt X ops ({ dst := d?, op := op, type := ty, pos := pos, after := after, guard := some (i, pol) } :: rest) f H N Q) :
    PL P nt X ops ({ dst := d?, op := op, type := ty, pos := pos, after := after, guard := some (i, pol) } :: rest) f H N Q := by
  cases b
  · exact h2 rfl
  · exact h1 rfl

/-- A guarded operation that does not run. -/
theorem pl_not {d : Nat} {op : Op} {ty : TypeId} {pos : String} {after : Array Edge} {i t : Nat} {pol b : Bool}
    (hi : (ops[i]?).bind (·.dst) = some t) (hb : lk f t = .d (.v (.bool b))) (hne : b = !pol) (hn : Nat.blt d nt = true)
    (h : PL P nt X ops rest ((d, .any) :: f) H N Q) :
    PL P nt X ops ({ dst := some d, op := op, type := ty, pos := pos, after := after, guard := some (i, pol) } :: rest) f H N Q := by
  intro a w s
  have hv : a.tmps.getD t undef = .bool b := bool_of (hb ▸ s.fr t)
  have hy : yielded ops a.tmps i ≠ some pol := by
    unfold yielded
    rw [hi]
    by_cases ht : t < a.tmps.size
    · have : a.tmps[t]? = some (.bool b) := by
        rw [Array.getElem?_eq_getElem ht]
        simpa [ht] using hv
      simp [this, hne]
    · simp [ht, undef] at hv
  unfold wpList
  rw [if_neg (by simpa [Region.wanted] using hy)]
  exact h _ _ (s.put (Nat.le_of_ble_eq_true hn) (.any _))

theorem pl_not0 {op : Op} {ty : TypeId} {pos : String} {after : Array Edge} {i t : Nat} {pol b : Bool}
    (hi : (ops[i]?).bind (·.dst) = some t) (hb : lk f t = .d (.v (.bool b))) (hne : b = !pol)
    (h : PL P nt X ops rest f H N Q) :
    PL P nt X ops ({ dst := none, op := op, type := ty, pos := pos, after := after, guard := some (i, pol) } :: rest) f H N Q := by
  intro a w s
  have hv : a.tmps.getD t undef = .bool b := bool_of (hb ▸ s.fr t)
  have hy : yielded ops a.tmps i ≠ some pol := by
    unfold yielded
    rw [hi]
    by_cases ht : t < a.tmps.size
    · have : a.tmps[t]? = some (.bool b) := by
        rw [Array.getElem?_eq_getElem ht]
        simpa [ht] using hv
      simp [this, hne]
    · simp [ht, undef] at hv
  unfold wpList
  rw [if_neg (by simpa [Region.wanted] using hy)]
  exact h _ _ s
end

end Go.Proofs.Ytbphkpojhinbiaa
