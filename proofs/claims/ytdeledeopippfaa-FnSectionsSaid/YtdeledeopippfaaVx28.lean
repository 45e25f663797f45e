/- Texts for VSectionsP. -/
import Derived.Test.YtdeledeopippfaaVx25
import Derived.Test.YtdeledeopippfaaVx20
import Derived.Test.YtdeledeopippfaaVx23
namespace Go.Proofs.Ytdeledeopippfaa
open Go Go.RowKit
set_option linter.unusedVariables false
set_option linter.unusedSimpArgs false
def wdC (c : Nat) : Prop := 45 ≤ c ∧ c ≤ 57 ∨ 97 ≤ c ∧ c ≤ 122
structure WdTo (b : ByteArray) (k : Nat) : Prop where
  h : ∀ j, j < k → wdC (b.data.getD j 0).toNat
theorem WdTo.zero (b : ByteArray) : WdTo b 0 := ⟨fun j hj => absurd hj (Nat.not_lt_zero _)⟩
theorem WdTo.succ {b : ByteArray} {k : Nat} (h : WdTo b k) (hc : wdC (b.data.getD k 0).toNat) : WdTo b (k + 1) := ⟨fun j hj => by
  rcases Nat.lt_or_ge j k with q | q
  · exact h.h j q
  · obtain rfl : j = k := by omega
    exact hc⟩
structure wdB (b : ByteArray) : Prop where
  h : WdTo b b.size
  lo : 1 ≤ b.size
  hi : b.size ≤ 40
def Import.good (x : Import) : Prop := wdB x.name ∧ 0 ≤ x.params ∧ x.params ≤ 8
structure CodeTo (l : List Ins) (k : Nat) : Prop where
  h : ∀ j, j < k → (l.getD j default).good = true
theorem CodeTo.zero (l : List Ins) : CodeTo l 0 := ⟨fun j hj => absurd hj (Nat.not_lt_zero _)⟩
theorem CodeTo.succ {l : List Ins} {k : Nat} (h : CodeTo l k) (hc : (l.getD k default).good = true) : CodeTo l (k + 1) := ⟨fun j hj => by
  rcases Nat.lt_or_ge j k with q | q
  · exact h.h j q
  · obtain rfl : j = k := by omega
    exact hc⟩
structure Core.fine (c : Core) : Prop where
  hp : 0 ≤ c.params ∧ c.params ≤ 8
  hl : 0 ≤ c.locals ∧ c.locals ≤ 8
  hc : c.code.length ≤ 120
  hi : CodeTo c.code c.code.length
def Core.good (c : Core) : Prop := wdB c.name ∧ c.fine
structure ImTo (l : List Import) (k : Nat) : Prop where
  h : ∀ j, j < k → (l.getD j default).good ∧ (l.getD j default).name ∉ (l.take j).map (·.name)
structure CoTo (l : List Core) (k : Nat) : Prop where
  h : ∀ j, j < k → (l.getD j default).good ∧ (l.getD j default).name ∉ (l.take j).map (·.name)
theorem ImTo.zero (l : List Import) : ImTo l 0 := ⟨fun j hj => absurd hj (Nat.not_lt_zero _)⟩
theorem CoTo.zero (l : List Core) : CoTo l 0 := ⟨fun j hj => absurd hj (Nat.not_lt_zero _)⟩
theorem ImTo.succ {l : List Import} {k : Nat} (h : ImTo l k) (h1 : (l.getD k default).good) (h2 : (l.getD k default).name ∉ (l.take k).map (·.name)) : ImTo l (k + 1) := ⟨fun j hj => by
  rcases Nat.lt_or_ge j k with q | q
  · exact h.h j q
  · obtain rfl : j = k := by omega
    exact ⟨h1, h2⟩⟩
theorem CoTo.succ {l : List Core} {k : Nat} (h : CoTo l k) (h1 : (l.getD k default).good) (h2 : (l.getD k default).name ∉ (l.take k).map (·.name)) : CoTo l (k + 1) := ⟨fun j hj => by
  rcases Nat.lt_or_ge j k with q | q
  · exact h.h j q
  · obtain rfl : j = k := by omega
    exact ⟨h1, h2⟩⟩
structure Module.good (m : Module) : Prop where
  pages : 1 ≤ m.pages ∧ m.pages ≤ 16
  li : m.imports.length ≤ 12
  lc : m.cores.length ≤ 8
  im : ImTo m.imports m.imports.length
  co : CoTo m.cores m.cores.length
def bitN (b : Bool) : Nat := cond b 1 0
def putB (s : ByteArray) : List Nat := lebL s.size ++ bsN s
def putN (l : List Nat) : List Nat := lebL l.length ++ l
theorem putN_bs (s : ByteArray) : putN (bsN s) = putB s := by
  unfold putN putB
  rw [bsN_len]
def Import.by (x : Import) : List Nat := putB x.name ++ lebL x.params.toNat ++ [bitN x.result]
def Core.by (c : Core) : List Nat := putB c.name ++ lebL c.params.toNat ++ lebL c.locals.toNat ++ [bitN c.result]
def bodyN (l : List Ins) : List Nat := lebL l.length ++ l.flatMap Ins.by
def Core.cby (c : Core) : List Nat := putN (bodyN c.code)
def secN (id : Nat) (l : List Nat) : List Nat := id :: putN l
def headN : List Nat := [0, 99, 111, 114, 1]
def Module.s1 (m : Module) : List Nat := lebL m.pages.toNat
def Module.s2 (m : Module) : List Nat := lebL m.imports.length ++ m.imports.flatMap Import.by
def Module.s3 (m : Module) : List Nat := lebL m.cores.length ++ m.cores.flatMap Core.by
def Module.s4 (m : Module) : List Nat := lebL m.cores.length ++ m.cores.flatMap Core.cby
def Module.by (m : Module) : List Nat := headN ++ secN 1 m.s1 ++ secN 2 m.s2 ++ secN 3 m.s3 ++ secN 4 m.s4
theorem lb_small {n : Nat} (h : n ≤ 16383) : (lebL n).length ≤ 2 := lebL_len 1 n (by omega)
theorem lb_tiny {n : Nat} (h : n ≤ 127) : (lebL n).length ≤ 1 := by rw [lebL_small h]; exact Nat.le_refl _
theorem fm_len {α : Type} {f : α → List Nat} {k : Nat} : ∀ {l : List α}, (∀ x ∈ l, (f x).length ≤ k) → (l.flatMap f).length ≤ l.length * k
  | [], _ => by simp
  | a :: l, h => by
    have h1 := h a (List.mem_cons_self ..)
    have h2 := fm_len (l := l) fun x hx => h x (List.mem_cons_of_mem _ hx)
    rw [List.flatMap_cons, List.length_append, List.length_cons, Nat.add_mul]
    omega
theorem Ins.by_len (i : Ins) : i.by.length ≤ 11 := by
  unfold Ins.by
  split
  · rename_i hg
    rw [List.length_cons]
    split
    · rename_i h1
      have := sl10 (i.good_1 hg h1)
      omega
    · split
      · rename_i h1 h2
        have := i.good_n hg h1 h2
        have := lb9 (n := i.a.toNat) (by omega)
        omega
      · simp
  · simp
theorem bodyN_len {l : List Ins} (h : l.length ≤ 120) : (bodyN l).length ≤ 1322 := by
  have h1 := fm_len (f := Ins.by) (k := 11) (l := l) fun x _ => x.by_len
  have h2 := lb_small (n := l.length) (by omega)
  unfold bodyN
  rw [List.length_append]
  omega
theorem putN_len {l : List Nat} (h : l.length ≤ 16383) : (putN l).length ≤ l.length + 2 := by
  have := lb_small h
  unfold putN
  rw [List.length_append]
  omega
theorem putB_len {s : ByteArray} (h : s.size ≤ 127) : (putB s).length ≤ s.size + 1 := by
  have := lb_tiny h
  unfold putB
  rw [List.length_append, bsN_len]
  omega
theorem Import.by_len {x : Import} (h : x.good) : x.by.length ≤ 43 := by
  have := putB_len (s := x.name) (by have := h.1.hi; omega)
  have := h.1.hi
  have := lb_tiny (n := x.params.toNat) (by have := h.2; omega)
  unfold Import.by
  simp only [List.length_append, List.length_singleton]
  omega
theorem Core.by_len {x : Core} (h : x.good) : x.by.length ≤ 44 := by
  have := putB_len (s := x.name) (by have := h.1.hi; omega)
  have := h.1.hi
  have := lb_tiny (n := x.params.toNat) (by have := h.2.hp; omega)
  have := lb_tiny (n := x.locals.toNat) (by have := h.2.hl; omega)
  unfold Core.by
  simp only [List.length_append, List.length_singleton]
  omega
theorem Core.cby_len {x : Core} (h : x.fine) : x.cby.length ≤ 1324 := by
  have h1 := bodyN_len h.hc
  have := putN_len (l := bodyN x.code) (by omega)
  unfold Core.cby
  omega
theorem mem_getD {α : Type} [Inhabited α] {l : List α} {x : α} (h : x ∈ l) : ∃ j, j < l.length ∧ l.getD j default = x := by
  obtain ⟨j, hj, rfl⟩ := List.getElem_of_mem h
  exact ⟨j, hj, by rw [List.getD_eq_getElem?_getD, List.getElem?_eq_getElem hj]; rfl⟩
theorem Module.im_good {m : Module} (h : m.good) : ∀ x ∈ m.imports, x.good := fun x hx => by
  obtain ⟨j, hj, rfl⟩ := mem_getD hx
  exact (h.im.h j hj).1
theorem Module.co_good {m : Module} (h : m.good) : ∀ x ∈ m.cores, x.good := fun x hx => by
  obtain ⟨j, hj, rfl⟩ := mem_getD hx
  exact (h.co.h j hj).1
theorem secN_len {k : Nat} {l : List Nat} (h : l.length ≤ 16383) : (secN k l).length ≤ l.length + 3 := by
  have := putN_len h
  unfold secN
  rw [List.length_cons]
  omega
theorem Module.s1_len {m : Module} (h : m.good) : m.s1.length ≤ 1 := lb_tiny (by have := h.pages; omega)
theorem Module.s2_len {m : Module} (h : m.good) : m.s2.length ≤ 517 := by
  have h1 := fm_len (f := Import.by) (k := 43) (l := m.imports) fun x hx => Import.by_len (m.im_good h x hx)
  have := h.li
  have := lb_tiny (n := m.imports.length) (by omega)
  unfold Module.s2
  rw [List.length_append]
  omega
theorem Module.s3_len {m : Module} (h : m.good) : m.s3.length ≤ 353 := by
  have h1 := fm_len (f := Core.by) (k := 44) (l := m.cores) fun x hx => Core.by_len (m.co_good h x hx)
  have := h.lc
  have := lb_tiny (n := m.cores.length) (by omega)
  unfold Module.s3
  rw [List.length_append]
  omega
theorem Module.s4_len {m : Module} (h : m.good) : m.s4.length ≤ 10593 := by
  have h1 := fm_len (f := Core.cby) (k := 1324) (l := m.cores) fun x hx => Core.cby_len (m.co_good h x hx).2
  have := h.lc
  have := lb_tiny (n := m.cores.length) (by omega)
  unfold Module.s4
  rw [List.length_append]
  omega
theorem Module.by_len {m : Module} (h : m.good) : m.by.length ≤ 30000 := by
  have h1 := m.s1_len h
  have h2 := m.s2_len h
  have h3 := m.s3_len h
  have h4 := m.s4_len h
  have := secN_len (k := 1) (l := m.s1) (by omega)
  have := secN_len (k := 2) (l := m.s2) (by omega)
  have := secN_len (k := 3) (l := m.s3) (by omega)
  have := secN_len (k := 4) (l := m.s4) (by omega)
  unfold Module.by
  simp only [List.length_append]
  have : headN.length = 5 := rfl
  omega
section
variable {E : Env} {P : Program} {nt : Nat} {X : Ctx} {f : Fr} {H : Hp}
theorem wp_both {o : Oper} {a : Act} {w : World} {K K' : Act → World → Prop} {Q Q' : Exit → Act → World → Prop} (h : ∀ a w, K a w → K' a w) (hq : ∀ e a w, e ≠ .normal → Q e a w → Q' e a w)
    (hh : o.wp P a w K Q) : o.wp P a w K' Q' := by
  unfold Oper.wp at *
  generalize (execOp a.eval o).run P w = r at *
  cases r with
  | ok n w' =>
    cases n <;> simp only [Oper.upon] at hh ⊢ <;>
      first
        | exact h _ _ hh
        | exact Calls.mono hh (fun e w'' he => by
            cases e <;> first
              | exact h _ _ he
              | exact hq _ _ _ (by simp) he
              | exact he.elim fun a h => h.elim fun w h => ⟨a, w, hq _ _ _ (by simp) h⟩)
        | exact Rows.mono hh (fun _ _ he => h _ _ he)
  | halt x w' => cases x <;> simp only [Oper.upon] at hh ⊢ <;> first | exact hq _ _ _ (by simp) hh | exact hh
theorem any_more {ops : Array Oper} {Q : Exit → Act → World → Prop} : ∀ (n : Nat) (listed : Array Bool) (a : Act) (w : World), wpAny P .any ops Q n listed a w → wpAny P .any ops Q (n + 1) listed a w
  | 0, listed, a, w, h => ⟨fun _ => h.2, fun i hi => by rw [h.1] at hi; cases hi⟩
  | n + 1, listed, a, w, h => ⟨h.1, fun i hi => wpOp_mono (any_more n _) (h.2 i hi)⟩
theorem any_le {ops : Array Oper} {Q : Exit → Act → World → Prop} {n m : Nat} (hm : n ≤ m) {listed : Array Bool} {a : Act} {w : World} (h : wpAny P .any ops Q n listed a w) : wpAny P .any ops Q m listed a w := by
  induction hm with
  | refl => exact h
  | step _ ih => exact any_more _ _ _ _ ih
structure SplitOk (ops : Array Oper) (k : Nat) : Prop where
  le : k ≤ ops.size
  lo : ∀ i o, i < k → ops[i]? = some o → (∀ e ∈ o.after, Region.binds .any e = true → e.on < i) ∧ ∀ g b, o.guard = some (g, b) → g < k
  hi : ∀ i o, k ≤ i → ops[i]? = some o → o.guard = none ∧ (∀ e ∈ o.after, Region.binds .any e = true → e.on < i) ∧ ∀ j, j < i → ∃ y p, y ≤ i ∧ ops[y]? = some p ∧ ∃ e ∈ p.after, Region.binds .any e = true ∧ e.on = j
theorem SplitOk.ed {ops : Array Oper} {k : Nat} (ok : SplitOk ops k) {i : Nat} {o : Oper} (ho : ops[i]? = some o) : ∀ e ∈ o.after, Region.binds .any e = true → e.on < i := by
  by_cases h : i < k
  · exact (ok.lo i o h ho).1
  · exact (ok.hi i o (by omega) ho).2.1
def Clo (ops : Array Oper) (l : Array Bool) : Prop := ∀ i o, l.getD i false = true → ops[i]? = some o → ∀ e ∈ o.after, Region.binds .any e = true → l.getD e.on false = true
theorem SplitOk.all {ops : Array Oper} {k : Nat} (ok : SplitOk ops k) {l : Array Bool} (hc : Clo ops l) {i : Nat} (hk : k ≤ i) {o : Oper} (ho : ops[i]? = some o) (ha : ∀ e ∈ o.after, Region.binds .any e = true → l.getD e.on false = true) : ∀ j, j < i → l.getD j false = true := by
  have key : ∀ n j, j < i → i - j ≤ n → l.getD j false = true := by
    intro n
    induction n with
    | zero => intro j hj hn; omega
    | succ n ih =>
      intro j hj hn
      obtain ⟨y, p, hy, hp, e, he, hb, rfl⟩ := (ok.hi i o hk ho).2.2 j hj
      have hlt := ok.ed hp e he hb
      by_cases e1 : y = i
      · subst e1
        obtain rfl : p = o := Option.some.inj (hp.symm.trans ho)
        exact ha e he hb
      · exact hc y p (ih y (by omega) (by omega)) hp e he hb
  exact fun j hj => key (i - j) j hj (Nat.le_refl _)
def ldOf (k N : Nat) (l0 l : Array Bool) : Prop := l0.size = k ∧ l.size = N ∧ (∀ i, i < k → l.getD i false = l0.getD i false) ∧ ∀ i, k ≤ i → l.getD i false = false
theorem getD_tf {l : Array Bool} {i : Nat} (h : i < l.size) : l.getD i true = l.getD i false := by
  rw [Array.getD_eq_getD_getElem?, Array.getD_eq_getD_getElem?, Array.getElem?_eq_getElem h]; rfl
theorem all_done {ops : Array Oper} {l0 : Array Bool} (hs : l0.size = ops.size) (he : ∀ i o, ops[i]? = some o → ∀ e ∈ o.after, Region.binds .any e = true → e.on < i) (hr : Region.ready .any ops l0 = []) : ∀ i, i < ops.size → l0.getD i false = true := by
  intro i
  induction i using Nat.strongRecOn with
  | ind i ih =>
    intro hi
    cases hu : l0.getD i false with
    | true => rfl
    | false =>
      exfalso
      have : i ∈ Region.ready .any ops l0 := mem_ready.2 ⟨by rw [getD_tf (by omega)]; exact hu, _, Array.getElem?_eq_getElem hi, fun e h1 h2 => by
        have hlt := he i _ (Array.getElem?_eq_getElem hi) e h1 h2
        exact ih e.on hlt (by omega)⟩
      rw [hr] at this
      cases this
theorem set_at {l : Array Bool} {i j : Nat} (h : i < l.size) : (l.setIfInBounds i true).getD j false = if i = j then true else l.getD j false := by
  split
  · rename_i e; subst e; simp [h]
  · rename_i e; exact getD_set_ne false e
theorem Clo.set {ops : Array Oper} {l : Array Bool} (hc : Clo ops l) {i : Nat} (hi : i < l.size) {o : Oper} (ho : ops[i]? = some o) (ha : ∀ e ∈ o.after, Region.binds .any e = true → l.getD e.on false = true) : Clo ops (l.setIfInBounds i true) := by
  intro j p hj hp e he hb
  rw [set_at hi] at hj ⊢
  split
  · rfl
  · split at hj
    · rename_i e1
      subst e1
      obtain rfl : p = o := Option.some.inj (hp.symm.trans ho)
      exact ha e he hb
    · exact hc j p hj hp e he hb
theorem any_split {ops ops0 : Array Oper} {k : Nat} {Q0 Q : Exit → Act → World → Prop} (ok : SplitOk ops k) (h0 : ops0.size = k) (h1 : ∀ i, i < k → ops0[i]? = ops[i]?)
    (hq : ∀ e a w, e ≠ .normal → Q0 e a w → Q e a w) (ht : ∀ a w l, l.size = ops.size → (∀ i, i < k → l.getD i false = true) → (∀ i, k ≤ i → l.getD i false = false) → Q0 .normal a w → wpAny P .any ops Q (ops.size - k) l a w) :
    ∀ (n m : Nat) (l0 l : Array Bool) (a : Act) (w : World), ldOf k ops.size l0 l → Clo ops l → n + (ops.size - k) ≤ m → wpAny P .any ops0 Q0 n l0 a w → wpAny P .any ops Q m l a w := by
  have hz := ok.le
  have ed : ∀ i o, ops0[i]? = some o → ∀ e ∈ o.after, Region.binds .any e = true → e.on < i := fun i o ho => by
    have hi : i < k := by rw [← h0]; exact (Array.getElem?_eq_some_iff.1 ho).1
    exact (ok.lo i o hi ((h1 i hi).symm.trans ho)).1
  have fin : ∀ (m : Nat) (l0 l : Array Bool) (a : Act) (w : World), ldOf k ops.size l0 l → ops.size - k ≤ m → Region.ready .any ops0 l0 = [] → Q0 .normal a w → wpAny P .any ops Q m l a w := fun m l0 l a w hl hm hr hQ => by
    obtain ⟨e1, e2, e3, e4⟩ := hl
    have hd := all_done (e1.trans h0.symm) ed hr
    exact any_le hm (ht a w l e2 (fun i hi => (e3 i hi).trans (hd i (by omega))) e4 hQ)
  intro n
  induction n with
  | zero => exact fun m l0 l a w hl hc hm h => fin m l0 l a w hl (by omega) h.1 h.2
  | succ n ih =>
    intro m l0 l a w hl hc hm h
    by_cases hr : Region.ready .any ops0 l0 = []
    · exact fin m l0 l a w hl (by omega) hr (h.1 hr)
    · obtain ⟨e1, e2, e3, e4⟩ := id hl
      obtain ⟨m, rfl⟩ : ∃ m', m = m' + 1 := ⟨m - 1, by omega⟩
      have back : ∀ i, i ∈ Region.ready .any ops0 l0 → i ∈ Region.ready .any ops l := fun i hi => by
        obtain ⟨u, o, ho, ha⟩ := mem_ready.1 hi
        have hik : i < k := by rw [← h0]; exact (Array.getElem?_eq_some_iff.1 ho).1
        refine mem_ready.2 ⟨?_, o, (h1 i hik).symm.trans ho, fun e he hb => ?_⟩
        · rw [getD_tf (by omega)] at u ⊢
          rw [e3 i hik]; exact u
        · have := ed i o ho e he hb
          rw [e3 e.on (by omega)]; exact ha e he hb
      have fwd : ∀ i, i ∈ Region.ready .any ops l → i < k ∧ i ∈ Region.ready .any ops0 l0 := fun i hi => by
        obtain ⟨u, o, ho, ha⟩ := mem_ready.1 hi
        by_cases hik : i < k
        · refine ⟨hik, mem_ready.2 ⟨?_, o, (h1 i hik).trans ho, fun e he hb => ?_⟩⟩
          · rw [getD_tf (by omega)] at u ⊢
            rw [← e3 i hik]; exact u
          · have := (ok.lo i o hik ho).1 e he hb
            rw [← e3 e.on (by omega)]; exact ha e he hb
        · exfalso
          cases hrl : Region.ready .any ops0 l0 with
          | nil => exact hr hrl
          | cons j r =>
            have hj : j ∈ Region.ready .any ops0 l0 := by rw [hrl]; exact List.mem_cons_self
            obtain ⟨u2, o2, ho2, _⟩ := mem_ready.1 hj
            have hjk : j < k := by rw [← h0]; exact (Array.getElem?_eq_some_iff.1 ho2).1
            have := ok.all hc (by omega) ho ha j (by omega)
            rw [e3 j hjk] at this
            rw [getD_tf (by omega), this] at u2
            cases u2
      refine ⟨fun hn => ?_, fun i hi => ?_⟩
      · exfalso
        cases hrl : Region.ready .any ops0 l0 with
        | nil => exact hr hrl
        | cons j r =>
          have hj : j ∈ Region.ready .any ops0 l0 := by rw [hrl]; exact List.mem_cons_self
          have := back j hj
          rw [hn] at this
          cases this
      · obtain ⟨hik, hi0⟩ := fwd i hi
        have hp := h.2 i hi0
        have hc' : Clo ops (l.setIfInBounds i true) := by
          obtain ⟨_, o, ho, ha⟩ := mem_ready.1 hi
          exact hc.set (by omega) ho ha
        have hl' : ldOf k ops.size (l0.setIfInBounds i true) (l.setIfInBounds i true) := by
          refine ⟨by simpa using e1, by simpa using e2, fun j hj => ?_, fun j hj => ?_⟩
          · rw [set_at (by omega), set_at (by omega), e3 j hj]
          · rw [set_at (by omega), if_neg (by omega)]; exact e4 j hj
        have next : ∀ a w, wpAny P .any ops0 Q0 n (l0.setIfInBounds i true) a w → wpAny P .any ops Q m (l.setIfInBounds i true) a w := fun a w hh => ih m _ _ a w hl' hc' (by omega) hh
        unfold wpOp at hp ⊢
        rw [h1 i hik] at hp
        cases ho : ops[i]? with
        | none => rw [ho] at hp; exact next a w hp
        | some o =>
          rw [ho] at hp
          dsimp only at hp ⊢
          have hy : Region.wanted o (yielded ops0 a.tmps) = Region.wanted o (yielded ops a.tmps) := by
            unfold Region.wanted
            cases hg : o.guard with
            | none => rfl
            | some g =>
              obtain ⟨g, b⟩ := g
              dsimp only
              have := (ok.lo i o hik ho).2 g b hg
              unfold yielded
              rw [h1 g this]
          rw [hy] at hp
          split
          · rename_i hw
            rw [if_pos hw] at hp
            exact hp.imp (wp_both next hq) (fun q => ⟨q.1, q.2.elim fun a h => h.elim fun w h => ⟨a, w, hq _ _ _ (by simp) h⟩⟩)
          · rename_i hw
            rw [if_neg hw] at hp
            exact next _ _ hp
theorem any_tail {ops : Array Oper} {k : Nat} {Q : Exit → Act → World → Prop} (ok : SplitOk ops k) {opsT : Array Oper} : ∀ (n j : Nat) (l : Array Bool) (a : Act) (w : World), k ≤ j → j + n = ops.size → l.size = ops.size → (∀ i, i < j → l.getD i false = true) → (∀ i, j ≤ i → l.getD i false = false) →
    wpList P opsT Q (ops.toList.drop j) a w → wpAny P .any ops Q n l a w
  | 0, j, l, a, w, hk, hj, hs, ha, hb, h => by
    have hd : ops.toList.drop j = [] := List.drop_of_length_le (by rw [Array.length_toList]; omega)
    rw [hd] at h
    refine ⟨?_, h⟩
    rw [List.eq_nil_iff_forall_not_mem]
    intro i hi
    obtain ⟨u, o, ho, _⟩ := mem_ready.1 hi
    have hil := (Array.getElem?_eq_some_iff.1 ho).1
    rw [getD_tf (by omega), ha i (by omega)] at u
    cases u
  | n + 1, j, l, a, w, hk, hj, hs, ha, hb, h => by
    have hjl : j < ops.toList.length := by rw [Array.length_toList]; omega
    rw [List.drop_eq_getElem_cons hjl] at h
    have ho : ops[j]? = some (ops.toList[j]) := by rw [Array.getElem_toList, Array.getElem?_eq_getElem]
    have o1 := ok.hi j _ hk ho
    have hrd : ∀ i, i ∈ Region.ready .any ops l → i = j := fun i hi => by
      obtain ⟨u, o, ho, hx⟩ := mem_ready.1 hi
      have hil := (Array.getElem?_eq_some_iff.1 ho).1
      apply Classical.byContradiction
      intro hne
      by_cases hlt : i < j
      · rw [getD_tf (by omega), ha i hlt] at u
        cases u
      · have hc : Clo ops l := fun y p hy hp e he hbb => by
          have h1 := ok.ed hp e he hbb
          by_cases hyj : y < j
          · exact ha _ (by omega)
          · rw [hb y (by omega)] at hy; cases hy
        have := ok.all hc (by omega) ho hx j (by omega)
        rw [hb j (Nat.le_refl _)] at this
        cases this
    have hj' : j ∈ Region.ready .any ops l := mem_ready.2 ⟨by rw [getD_tf (by omega)]; exact hb j (Nat.le_refl _), _, ho, fun e he hbb => ha _ (o1.2.1 e he hbb)⟩
    refine ⟨fun hn => absurd (hn ▸ hj') (List.not_mem_nil), fun i hi => ?_⟩
    obtain rfl := hrd i hi
    have next : ∀ a w, wpList P opsT Q (ops.toList.drop (i + 1)) a w → wpAny P .any ops Q n (l.setIfInBounds i true) a w := fun a w hh => any_tail ok n (i + 1) _ a w (by omega) (by omega) (by simpa using hs) (fun x hx => by
        rw [set_at (by omega)]
        split
        · rfl
        · exact ha x (by omega)) (fun x hx => by rw [set_at (by omega), if_neg (by omega)]; exact hb x (by omega)) hh
    unfold wpOp
    rw [ho]
    dsimp only
    have hw : ∀ y : Nat → Option Bool, Region.wanted ops.toList[i] y = true := fun y => by unfold Region.wanted; rw [o1.1]
    unfold wpList at h
    rw [if_pos (hw _)] at h ⊢
    exact h.imp (wp_both next fun e a w _ q => q) id
def edgesOk (i : Nat) (o : Oper) : Bool := o.after.toList.all fun e => !Region.binds .any e || Nat.blt e.on i
def waitsAll (all : List Oper) (i : Nat) : Bool := (List.range i).all fun j => (all.take (i + 1)).any fun q => waitsOn j q.after.toList
def loOk (all : List Oper) (k : Nat) : Nat → List Oper → Bool
  | _, [] => true
  | i, o :: r => bif Nat.blt i k then edgesOk i o && ((match o.guard with | none => true | some (g, _) => Nat.blt g k) && loOk all k (i + 1) r)
    else (match o.guard with | none => edgesOk i o && (waitsAll all i && loOk all k (i + 1) r) | some _ => false)
theorem loOk_at {all : List Oper} {k : Nat} : ∀ (l : List Oper) (n i : Nat) (o : Oper), loOk all k n l = true → l[i - n]? = some o → n ≤ i → edgesOk i o = true ∧ (i < k → ∀ g b, o.guard = some (g, b) → g < k) ∧ (k ≤ i → o.guard = none ∧ waitsAll all i = true)
  | [], n, i, o, h, ho, hn => by simp at ho
  | p :: l, n, i, o, h, ho, hn => by
    unfold loOk at h
    by_cases e : n = i
    · subst e
      rw [Nat.sub_self] at ho
      obtain rfl : p = o := Option.some.inj ho
      cases hb : Nat.blt n k with
      | true =>
        rw [hb, cond_true, Bool.and_eq_true, Bool.and_eq_true] at h
        have hlt := Nat.le_of_ble_eq_true hb
        refine ⟨h.1, fun _ g b hg => ?_, fun hk => absurd hlt (by omega)⟩
        have := h.2.1
        rw [hg] at this
        exact Nat.le_of_ble_eq_true this
      | false =>
        rw [hb, cond_false] at h
        have hlt : ¬ n < k := fun q => by
          have : Nat.blt n k = true := Nat.ble_eq_true_of_le q
          rw [hb] at this; cases this
        split at h
        · rename_i hg
          rw [Bool.and_eq_true, Bool.and_eq_true] at h
          exact ⟨h.1, fun q => absurd q hlt, fun _ => ⟨hg, h.2.1⟩⟩
        · cases h
    · have hr : loOk all k (n + 1) l = true := by
        cases hb : Nat.blt n k with
        | true => rw [hb, cond_true, Bool.and_eq_true, Bool.and_eq_true] at h; exact h.2.2
        | false =>
          rw [hb, cond_false] at h
          split at h
          · rw [Bool.and_eq_true, Bool.and_eq_true] at h; exact h.2.2
          · cases h
      refine loOk_at l (n + 1) i o hr ?_ (by omega)
      rw [show i - n = (i - (n + 1)) + 1 by omega] at ho
      simpa using ho
theorem splitOk_of {ops : Array Oper} {k : Nat} (h : (Nat.ble k ops.size && loOk ops.toList k 0 ops.toList) = true) : SplitOk ops k := by
  rw [Bool.and_eq_true] at h
  have at' : ∀ i o, ops[i]? = some o → edgesOk i o = true ∧ (i < k → ∀ g b, o.guard = some (g, b) → g < k) ∧ (k ≤ i → o.guard = none ∧ waitsAll ops.toList i = true) := fun i o ho => loOk_at _ 0 i o h.2 (by simpa using ho) (Nat.zero_le _)
  have ed : ∀ i o, edgesOk i o = true → ∀ e ∈ o.after, Region.binds .any e = true → e.on < i := fun i o he e hm hb => by
    have := List.all_eq_true.1 he e (by simpa using hm)
    rw [hb] at this
    have h2 : e.on < i := by simpa using this
    exact h2
  refine ⟨Nat.le_of_ble_eq_true h.1, fun i o hi ho => ⟨ed i o (at' i o ho).1, (at' i o ho).2.1 hi⟩, fun i o hi ho => ?_⟩
  obtain ⟨q1, q2, q3⟩ := at' i o ho
  refine ⟨(q3 hi).1, ed i o q1, fun j hj => ?_⟩
  have := List.all_eq_true.1 (q3 hi).2 j (List.mem_range.2 hj)
  rw [List.any_eq_true] at this
  obtain ⟨q, hq, hw⟩ := this
  obtain ⟨y, hy, rfl⟩ := List.getElem_of_mem hq
  rw [List.length_take] at hy
  rw [waitsOn_eq, List.any_eq_true] at hw
  obtain ⟨e, he, hb⟩ := hw
  rw [Bool.and_eq_true] at hb
  rw [Array.length_toList] at hy
  have hyl : y < ops.size := by omega
  refine ⟨y, ops[y], by omega, Array.getElem?_eq_getElem hyl, e, ?_, hb.1, Nat.eq_of_beq_eq_true hb.2⟩
  simpa using he
theorem dt_goS {id : Nat} {ops : Array Oper} {Q : Exit → Fr → Hp → Prop} (k n0 : Nat) (M : List Nat) (hn : Nat.ble n0 H.length = true) (hs : (Nat.ble k ops.size && loOk ops.toList k 0 ops.toList) = true)
    (h : drawOkS (ops.toList.take k).toArray = true ∧ dsC E nt (ops.toList.take k).toArray M (H.take n0) (fun f H => wops E nt ops (ops.toList.drop k) f H (Q .normal)) (ops.toList.take k).length [] f H) : DT E nt X id ops f H Q := ⟨fun a w s => by
  obtain ⟨hok, h⟩ := h
  have ok := splitOk_of hs
  have hl : (H.take n0).length = n0 := by rw [List.length_take]; have := Nat.le_of_ble_eq_true hn; omega
  have hold : hidM M 0 (H.take (H.take n0).length) = hidM M 0 (H.take n0) := by rw [hl]
  have hk : (ops.toList.take k).toArray.size = k := by
    have := ok.le
    simp; omega
  refine wp_region_any E.mixed ?_
  have h0 := any_drawH (P := E.P) (X := X) (f := f) (l := ops.toList.take k) (Q := thn (fun f H => wops E nt ops (ops.toList.drop k) f H (Q .normal)) Q) M hold hok (dsC_ok (Q := thn (fun f H => wops E nt ops (ops.toList.drop k) f H (Q .normal)) Q) (X := X) _ _ _ _ hold h) a w s
  have h1 : ∀ i, i < k → (ops.toList.take k).toArray[i]? = ops[i]? := fun i hi => by simp [List.getElem?_take, hi]
  refine any_split (P := E.P) ok hk h1 (Q0 := Lift nt X (thn (fun f H => wops E nt ops (ops.toList.drop k) f H (Q .normal)) Q)) (fun e a w he hq => ?_) (fun a w l hs ha hb hq => ?_) _ _ _ (Array.replicate ops.size false) a _ ?_ (fun i o hi _ => ?_) ?_ h0
  · cases e <;> first | exact absurd rfl he | exact hq
  · obtain ⟨f', H', hw, s'⟩ := hq
    have := wops_ok (X := X) (Q := Q) _ _ _ _ (fun f H h => h) hw
    exact any_tail (opsT := ops) ok _ k l a w (Nat.le_refl _) (by have := ok.le; omega) hs ha hb (this a w s')
  · have hle := ok.le
    refine ⟨by rw [hk]; simp, by simp, fun i hi => ?_, fun i hi => ?_⟩
    · have := ok.le
      rw [hk]
      have h1 : (Array.replicate ops.size false).getD i false = false := by simp [show i < ops.size by omega]
      have h2 : (Array.replicate k false).getD i false = false := by simp [hi]
      rw [h2]
      first
        | exact h1
        | simp [show i < ops.size by omega]
    · rcases Nat.lt_or_ge i ops.size with hj | hj <;> simp [hj]
  · have : (Array.replicate ops.size false).getD i false = false := by rcases Nat.lt_or_ge i ops.size with hj | hj <;> simp [hj]
    rw [this] at hi
    cases hi
  · rw [hk]
    have := ok.le
    omega⟩
end
end Go.Proofs.Ytdeledeopippfaa
