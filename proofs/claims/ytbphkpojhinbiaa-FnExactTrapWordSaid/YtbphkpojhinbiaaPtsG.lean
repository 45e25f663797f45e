/-
  The abstract layer: slices that the function makes itself: make, a literal, append; and what becomes of local rows at a call and at the function's end.
-/
import Derived.Test.YtbphkpojhinbiaaPtsF
namespace Go.Proofs.Ytbphkpojhinbiaa
open Go Go.RowKit
set_option linter.unusedVariables false
set_option linter.unusedSimpArgs false

/-- An element's bytes. -/
class ByT (P : Program) (t : Nat) (bytes : outParam Nat) : Prop where
  bytes : ∃ i, P.info? t = some i ∧ i.bytes = bytes

section
variable {P : Program} {nt : Nat} {X : Ctx} {f : Fr} {H : Hp} {N : Nat} {Q : Exit → Fr → Hp → Nat → Prop} {ops : Array Oper} {rest : List Oper}
  {d : Nat} {ty : TypeId} {pos : String} {after : Array Edge} {a : Act} {w : World}

theorem div_mod_at {i j sz : Nat} (hj : j < sz) : (i * sz + j) / sz = i ∧ (i * sz + j) % sz = j := by
  constructor
  · rw [Nat.mul_comm, Nat.mul_add_div (by omega), Nat.div_eq_of_lt hj, Nat.add_zero]
  · rw [Nat.mul_comm, Nat.mul_add_mod, Nat.mod_eq_of_lt hj]

theorem at_lt {n i j sz : Nat} (hi : i < n) (hj : j < sz) : i * sz + j < n * sz := by
  have := Nat.mul_le_mul_right sz (show i + 1 ≤ n from hi)
  rw [Nat.succ_mul] at this
  omega

theorem lt_at {n k sz : Nat} (hk : k < n * sz) : k / sz < n ∧ k % sz < sz ∧ k = k / sz * sz + k % sz := by
  have hs : 0 < sz := by
    rcases Nat.eq_zero_or_pos sz with h | h
    · subst h; simp at hk
    · exact h
  exact ⟨Nat.div_lt_of_lt_mul (by rw [Nat.mul_comm]; exact hk), Nat.mod_lt _ hs, by rw [Nat.mul_comm]; exact (Nat.div_add_mod k sz).symm⟩

/-- make([]T, n). -/
theorem pl_make {x : Operand} {t e sz n bytes : Nat} {agg : Bool} {zs : List AV} (hS : SlT P t e) (hT : Ty P e sz agg) (hZ : ZrT P e zs) (hB : ByT P e bytes) (hx : ev f x = .d (.v (.int .i64 (n : Int)))) (hle : n * bytes ≤ 281474976710656) (hm : n ≤ maxLen) (h1 : zs.all AV.one = true) (hl : zs.length = sz) (hn : Nat.blt d nt = true)
    (h : PL P nt X ops rest ((d, .row H.length n n) :: f) (H ++ [some ⟨N, sz, List.replicate n zs⟩]) (N + 1) Q) : PL P nt X ops (⟨some d, .makeSlice t x x, ty, pos, after, none⟩ :: rest) f H N Q := by
  refine pl_val rfl rfl hn (fun a w s => ?_) h
  obtain ⟨i, z, hi, hz, hzs⟩ := hZ.zero
  subst hzs
  obtain ⟨i1, hi1, hsz⟩ := hT.info
  obtain ⟨i2, hi2, hby⟩ := hB.bytes
  rw [hi] at hi1 hi2
  cases hi1
  cases hi2
  obtain ⟨hxv, _⟩ := val_of (hx ▸ s.ev x)
  unfold maxLen at hm
  have hrun := run_make (P := P) w t e i z hS.under hi hz .i64 .i64 n n (by omega) (Int.le_refl _) (by rw [hby]; have : ((n * bytes : Nat) : Int) ≤ 281474976710656 := by omega
                                                                                                       rw [Int.natCast_mul] at this; rw [Int.mul_comm]; exact this) (by omega)
  simp only [Int.toNat_natCast] at hrun
  have hzl : z.cells.size = sz := by simpa using hl
  refine ⟨.slice (some ⟨N, 0, none⟩) n n, w.alloc (.cells (madeCells z.cells (n * i.size)) e), ?_, s.push e _ sz (List.replicate n (z.cells.toList.map cv)) (by rw [size_madeCells, hsz]; simp) (by
    intro x hx
    rw [List.eq_of_mem_replicate hx]
    exact hl) (fun p q el c hp hq => ?_), ?_⟩
  · simp [execOp, hxv, hrun, s.heap]
  · have hel : el = z.cells.toList.map cv := List.eq_of_mem_replicate (List.mem_of_getElem? hp)
    subst hel
    have hpn : p < n := by simpa using (List.getElem?_eq_some_iff.1 hp).1
    rw [List.getElem?_map] at hq
    obtain ⟨v, hv, rfl⟩ := Option.map_eq_some_iff.1 hq
    have hql : q < sz := by rw [← hzl]; simpa using (List.getElem?_eq_some_iff.1 hv).1
    refine ⟨v, ?_, cv_one (List.all_eq_true.1 h1 _ (List.mem_map.2 ⟨v, List.mem_of_getElem? hv, rfl⟩)), conc_cv v⟩
    have hlt : p * sz + q < n * i.size := by rw [hsz]; exact at_lt hpn hql
    have hmod : (p * sz + q) % z.cells.size = q := by rw [hzl]; exact (div_mod_at hql).2
    have hv' : z.cells[q]! = v := by
      have : z.cells[q]? = some v := by simpa using hv
      rw [getElem!_def, this]
    unfold madeCells
    simp [hlt, hmod, hv']
  · have hl' : (H ++ [some (⟨N, sz, List.replicate n (z.cells.toList.map cv)⟩ : LRow)])[H.length]? = some (some ⟨N, sz, List.replicate n (z.cells.toList.map cv)⟩) := by simp
    exact Conc.row H.length n n _ hl' (Nat.le_refl _) (by simp) (by unfold maxLen; omega)

/-! ### append -/

/-- It speaks of local row id. -/
def refs (id : Nat) : AV → Bool
  | .ptr k _ _ => Nat.beq k id
  | .row k _ _ => Nat.beq k id
  | .agg _ | .tup _ | .fn _ _ => true
  | _ => false
def kill1 (id : Nat) (x : AV) : AV := bif refs id x then .any else x
/-- What speaks of local row id is not said any more. -/
def kill (id : Nat) : AV → AV
  | .agg cs => .agg (cs.map (kill1 id))
  | .tup cs => .tup (cs.map (kill1 id))
  | .fn g cs => .fn g (cs.map (kill1 id))
  | x => kill1 id x
def killF (id : Nat) (f : Fr) : Fr := f.map fun p => (p.1, kill id p.2)
def norefH (id : Nat) (H : Hp) : Bool := H.all fun r => match r with | none => true | some r => r.es.all fun e => e.all fun c => !refs id c

theorem lk_killF (id : Nat) (f : Fr) (t : Nat) : lk (killF id f) t = kill id (lk f t) := by
  induction f with
  | nil => rfl
  | cons p f ih =>
    obtain ⟨d, v⟩ := p
    show lk ((d, kill id v) :: killF id f) t = _
    rw [lk_cons, lk_cons, ih]
    split <;> rfl

/-- A description that does not speak of row id holds where that row is gone. -/
theorem Conc.gone1 {w' : World} {S S' : Nat → Prop} {H' : Hp} {id : Nat} {x : AV} {u : Value} (h : Conc w S H x u) (hx : refs id x = false) (hS : ∀ b, S b → S' b ∧ w'.heap[b]? = w.heap[b]?)
    (hH : ∀ (k : Nat) (r : LRow), k ≠ id → H[k]? = some (some r) → H'[k]? = some (some r)) : Conc w' S' H' x u := by
  cases x with
  | any => exact .any u
  | d t => exact .d ((inv_d h).mono hS)
  | ow fp t => obtain ⟨h1, h2⟩ := inv_ow h; exact .ow (h1.mono fun b hb => (hS b (h2 b hb)).2) fun b hb => (hS b (h2 b hb)).1
  | rf cs =>
    obtain ⟨b, o, U, rfl, hb, hc, hu⟩ := inv_rf h
    refine .rf b o cs U (hS b hb).1 (fun j c hj => ?_) (fun j c hj => (hu j c hj).mono hS)
    rw [World.cell?_of_block (w := w) (hS b hb).2]
    exact hc j c hj
  | ptr k i off =>
    match u, h with
    | _, .ptr _ _ _ r hr => exact .ptr k i off r (hH k r (fun e => by subst e; simp [refs] at hx) hr)
  | row k n cap =>
    match u, h with
    | _, .row _ _ _ r hr hn hl hm => exact .row k n cap r (hH k r (fun e => by subst e; simp [refs] at hx) hr) hn hl hm
  | agg => cases hx
  | tup => cases hx
  | fn => cases hx

theorem Conc.gone {w' : World} {S S' : Nat → Prop} {H' : Hp} {id : Nat} {x : AV} {u : Value} (h : Conc w S H x u) (hS : ∀ b, S b → S' b ∧ w'.heap[b]? = w.heap[b]?)
    (hH : ∀ (k : Nat) (r : LRow), k ≠ id → H[k]? = some (some r) → H'[k]? = some (some r)) : Conc w' S' H' (kill id x) u := by
  have one : ∀ (x : AV) (u : Value), Conc w S H x u → Conc w' S' H' (kill1 id x) u := by
    intro x u h
    unfold kill1
    cases hr : refs id x with
    | true => exact .any u
    | false => exact h.gone1 hr hS hH
  have many : ∀ (cs : List AV) (us : List Value), (∀ (j : Nat) (c : AV) (u : Value), cs[j]? = some c → us[j]? = some u → Conc w S H c u) →
      ∀ (j : Nat) (c : AV) (u : Value), (cs.map (kill1 id))[j]? = some c → us[j]? = some u → Conc w' S' H' c u := by
    intro cs us hu j c u hj hju
    rw [List.getElem?_map] at hj
    obtain ⟨c', hc', rfl⟩ := Option.map_eq_some_iff.1 hj
    exact one c' u (hu j c' u hc' hju)
  cases x with
  | agg cs => obtain ⟨us, rfl, hl, hu⟩ := inv_agg h; exact .agg _ us (by simpa using hl) (many cs us hu)
  | tup cs => obtain ⟨us, rfl, hl, hu⟩ := inv_tup h; exact .tup _ us (by simpa using hl) (many cs us hu)
  | fn g cs => obtain ⟨us, rfl, hl, hu⟩ := inv_fn h; exact .fn g _ us (by simpa using hl) (many cs us hu)
  | any => exact one _ u h
  | d => exact one _ u h
  | ow => exact one _ u h
  | rf => exact one _ u h
  | ptr => exact one _ u h
  | row => exact one _ u h

/-- The elements that a slice holds. -/
def srcOf (H : Hp) : AV → Option (List (List AV))
  | .row id m _ => match H[id]? with | some (some r) => some (r.es.take m) | _ => none
  | .d (.sl es) => some (es.map (List.map AV.d))
  | .ow _ (.sl es) => some (es.map (List.map AV.d))
  | _ => none

theorem src_spec (s : St nt X f H N a w) {x : AV} {u : Value} {es : List (List AV)} {sz : Nat} (hc : Conc w (X.S H N) H x u) (hx : srcOf H x = some es) (hsz : ∀ e ∈ es, e.length = sz) :
    ∃ (A : Option Addr) (c : Nat) (U : Nat → Nat → Value), u = .slice A es.length c ∧ es.length ≤ maxLen ∧ ∀ (i j : Nat) (e : List AV) (c : AV), es[i]? = some e → e[j]? = some c →
      (∃ b o, A = some ⟨b, o, none⟩ ∧ w.cell? ⟨b, o + (i * sz + j), none⟩ = some (U i j)) ∧ (U i j).oneCell' = true ∧ Conc w (X.S H N) H c (U i j) := by
  have tree : ∀ ds : List (List D), CD w (X.S H N) (.sl ds) u → es = ds.map (List.map AV.d) → ∃ (A : Option Addr) (c : Nat) (U : Nat → Nat → Value), u = .slice A es.length c ∧ es.length ≤ maxLen ∧
      ∀ (i j : Nat) (e : List AV) (c : AV), es[i]? = some e → e[j]? = some c → (∃ b o, A = some ⟨b, o, none⟩ ∧ w.cell? ⟨b, o + (i * sz + j), none⟩ = some (U i j)) ∧ (U i j).oneCell' = true ∧ Conc w (X.S H N) H c (U i j) := by
    intro ds hcd he
    subst he
    obtain ⟨ad, cap, hu, hcap, hm⟩ := sl_form hcd
    rcases Nat.eq_zero_or_pos ds.length with h0 | h0
    · have hds := List.eq_nil_of_length_eq_zero h0
      subst hds
      exact ⟨ad, cap, fun _ _ => undef, hu, by simp, by simp⟩
    · obtain ⟨b, o, cap, sz', U, rfl, hS, hcap, hm, hsz', hcell, hcu⟩ := inv_sl hcd h0
      obtain ⟨e0, he0⟩ := List.exists_mem_of_length_pos h0
      have hss : sz' = sz := by rw [← hsz' e0 he0, ← hsz (e0.map AV.d) (List.mem_map.2 ⟨e0, he0, rfl⟩)]; simp
      subst hss
      refine ⟨some ⟨b, o, none⟩, cap, U, by simp, by simp; omega, fun i j e c hi hj => ?_⟩
      rw [List.getElem?_map] at hi
      obtain ⟨e', he', rfl⟩ := Option.map_eq_some_iff.1 hi
      rw [List.getElem?_map] at hj
      obtain ⟨c', hc', rfl⟩ := Option.map_eq_some_iff.1 hj
      have h2 := hcu i j e' c' he' hc'
      exact ⟨⟨b, o, rfl, by rw [← Nat.add_assoc]; exact hcell i j e' c' he' hc'⟩, h2.one, .d h2⟩
  cases x with
  | row id m cap =>
    have hx' : (match H[id]? with | some (some r) => some (r.es.take m) | _ => none) = some es := hx
    split at hx'
    · · rename_i r hr
        cases hx'
        obtain ⟨rfl, hmc, hrl, hml⟩ := inv_row hr hc
        obtain ⟨ty', cur, hb, hcur, hrsz, hcell⟩ := (s.rows id r hr).1
        have hlen : (r.es.take m).length = m := by simp; omega
        refine ⟨_, cap, fun i j => cur.getD (i * sz + j) undef, by rw [hlen], by rw [hlen]; omega, fun i j e c hi hj => ?_⟩
        have hlt : i < m := by rw [← hlen]; exact (List.getElem?_eq_some_iff.1 hi).1
        rw [List.getElem?_take_of_lt hlt] at hi
        have hss : r.sz = sz := by
          rw [← hrsz e (List.mem_of_getElem? hi)]
          refine hsz e (List.mem_of_getElem? (i := i) ?_)
          rw [List.getElem?_take_of_lt hlt]; exact hi
        obtain ⟨u, hu, ho, hcu⟩ := hcell i j e c hi hj
        rw [hss] at hu
        have hg : cur.getD (i * sz + j) undef = u := by simp [hu]
        dsimp only
        rw [hg]
        refine ⟨⟨r.blk, 0, rfl, ?_⟩, ho, hcu⟩
        rw [cell_of_row w r.blk _ cur ty' (0, 0) hb, Nat.zero_add]
        exact hu
    · cases hx'
  | d t => cases t with
    | v x => cases hx
    | sl ds => exact tree ds (inv_d hc) (Option.some.inj hx).symm
  | ow fp t => cases t with
    | v x => cases hx
    | sl ds => exact tree ds ((inv_ow hc).1.cd (inv_ow hc).2) (Option.some.inj hx).symm
  | any => cases hx
  | rf => cases hx
  | ptr => cases hx
  | agg => cases hx
  | tup => cases hx
  | fn => cases hx

/-- An element whose cells are not said. -/
def junk (sz k : Nat) : List (List AV) := List.replicate k (List.replicate sz .any)

theorem noref_of {id' : Nat} (hno : norefH id' H = true) {k : Nat} {r : LRow} (hk : H[k]? = some (some r)) {i j : Nat} {e : List AV} {c : AV} (hi : r.es[i]? = some e) (hj : e[j]? = some c) : refs id' c = false := by
  have h1 := List.all_eq_true.1 hno _ (List.mem_of_getElem? hk)
  have h2 := List.all_eq_true.1 h1 _ (List.mem_of_getElem? hi)
  have h3 := List.all_eq_true.1 h2 _ (List.mem_of_getElem? hj)
  simpa using h3

theorem hrep {id : Nat} {r' : LRow} {k : Nat} {r2 : LRow} (h : (H.set id none ++ [some r'])[k]? = some (some r2)) : (k ≠ id ∧ H[k]? = some (some r2)) ∨ (k = H.length ∧ r2 = r') := by
  rcases Nat.lt_or_ge k H.length with hlt | hge
  · rw [List.getElem?_append_left (by simpa using hlt)] at h
    by_cases e : id = k
    · subst e
      rw [List.getElem?_set_self hlt] at h
      cases h
    · rw [List.getElem?_set_ne e] at h
      exact .inl ⟨fun x => e x.symm, h⟩
  · rw [List.getElem?_append_right (by simpa using hge)] at h
    simp only [List.length_set] at h
    rcases Nat.eq_zero_or_pos (k - H.length) with h0 | h0
    · rw [h0] at h
      exact .inr ⟨by omega, by simpa using h.symm⟩
    · rw [List.getElem?_eq_none (by simp; omega)] at h
      cases h

theorem hrep_old {id : Nat} {r' : LRow} {k : Nat} {r2 : LRow} (hk : k ≠ id) (h : H[k]? = some (some r2)) : (H.set id none ++ [some r'])[k]? = some (some r2) := by
  have hlt : k < H.length := (List.getElem?_eq_some_iff.1 h).1
  rw [List.getElem?_append_left (by simpa using hlt), List.getElem?_set_ne (fun e => hk e.symm)]
  exact h

theorem hrep_new {id : Nat} {r' : LRow} : (H.set id none ++ [some r'])[H.length]? = some (some r') := by
  rw [List.getElem?_append_right (by simp)]
  simp

/-- A row makes way for another. -/
theorem St.replace {id N' : Nat} {r r' : LRow} {w' : World} (s : St nt X f H N a w) (hr : H[id]? = some (some r)) (hno : norefH id H = true)
    (hkeep : ∀ b, X.S H N b → w'.heap[b]? = w.heap[b]?) (hother : ∀ (k : Nat) (r2 : LRow), k ≠ id → H[k]? = some (some r2) → w'.heap[r2.blk]? = w.heap[r2.blk]?)
    (hsize : w'.heap.size = N') (hN : N ≤ N') (keeps : Keeps X.mod X.w0 w') (hb' : r'.blk = r.blk ∨ (N ≤ r'.blk ∧ r'.blk < N'))
    (hrow : RowOk w' (X.S (H.set id none ++ [some r']) N') (H.set id none ++ [some r']) r') :
    (∀ b, X.S H N b → X.S (H.set id none ++ [some r']) N' b ∧ w'.heap[b]? = w.heap[b]?) ∧ St nt X (killF id f) (H.set id none ++ [some r']) N' a w' := by
  have hS : ∀ b, X.S H N b → X.S (H.set id none ++ [some r']) N' b ∧ w'.heap[b]? = w.heap[b]? := by
    intro b hb
    refine ⟨⟨hb.1, by have := hb.2.1; omega, fun k r2 hk => ?_⟩, hkeep b hb⟩
    rcases hrep hk with ⟨_, hk⟩ | ⟨_, rfl⟩
    · exact hb.2.2 k r2 hk
    · rcases hb' with h | h
      · rw [h]; exact hb.2.2 id r hr
      · have := hb.2.1; omega
  have hH : ∀ (k : Nat) (r2 : LRow), k ≠ id → H[k]? = some (some r2) → (H.set id none ++ [some r'])[k]? = some (some r2) := fun k r2 hk h => hrep_old hk h
  refine ⟨hS, s.defers, s.size, hsize, keeps, fun k r2 hk => ?_, fun i j r1 r2 hi hj hb => ?_, fun t => ?_⟩
  · rcases hrep hk with ⟨hne, hk⟩ | ⟨_, rfl⟩
    · obtain ⟨⟨ty, cur, h1, h2, h3, h4⟩, h5⟩ := s.rows k r2 hk
      refine ⟨⟨ty, cur, (hother k r2 hne hk).trans h1, h2, h3, fun i j e c hi hj => ?_⟩, h5⟩
      obtain ⟨u, hu, ho, hc⟩ := h4 i j e c hi hj
      exact ⟨u, hu, ho, hc.gone1 (noref_of hno hk hi hj) hS hH⟩
    · refine ⟨hrow, ?_⟩
      rcases hb' with h | h
      · rw [h]; exact (s.rows id r hr).2
      · left
        have := s.keeps.size
        have := s.heap
        omega
  · have old : ∀ (k : Nat) (r2 : LRow), (H.set id none ++ [some r'])[k]? = some (some r2) → (k ≠ id ∧ H[k]? = some (some r2) ∧ r2.blk < N ∧ r2.blk ≠ r'.blk) ∨ (k = H.length ∧ r2 = r') := by
      intro k r2 hk
      rcases hrep hk with ⟨hne, hk⟩ | h
      · have hlt := (s.rows k r2 hk).1.lt
        have hh := s.heap
        refine .inl ⟨hne, hk, by omega, fun e => ?_⟩
        rcases hb' with h | h
        · exact hne (s.inj k id r2 r hk hr (by rw [e, h]))
        · omega
      · exact .inr h
    rcases old i r1 hi with ⟨_, h1, _, h2⟩ | ⟨h1, h2⟩ <;> rcases old j r2 hj with ⟨_, h3, _, h4⟩ | ⟨h3, h4⟩
    · exact s.inj i j r1 r2 h1 h3 hb
    · subst h4; exact absurd hb h2
    · subst h2; exact absurd hb.symm h4
    · omega
  · rw [lk_killF]
    exact (s.fr t).gone hS hH

theorem run_append_room' {t e bytes : Nat} {i : TypeInfo} (ht : P.underlying t = some (.slice e)) (hi : P.info? e = some i)
    (g sLen sCap : Nat) (cur : Array Value) (ty' : TypeId) (hg : w.heap[g]? = some (.cells cur ty' (0, 0)))
    (ad : Addr) (m c : Nat) (news : List Value) (hl : news.length = m * i.size) (hnews : ∀ j u, news[j]? = some u → w.cell? (ad.add j) = some u) (h1 : ∀ u ∈ news, u.oneCell' = true)
    (hroom : sLen + m ≤ sCap) (hfit : sLen * i.size + news.length ≤ cur.size) :
    (Builtin.append_ #[t, t] ty #[.slice (some ⟨g, 0, none⟩) sLen sCap, .slice (some ad) m c]).run P w =
      .ok (.slice (some ⟨g, 0, none⟩) (sLen + m) sCap) (w.setRow g (cur.toList.take (sLen * i.size) ++ news ++ cur.toList.drop (sLen * i.size + news.length)).toArray) := by
  have hf := run_firstCells_some (P := P) w i.size m ad m c news hl hnews
  have hst := run_storeCells_at P g (sLen * i.size) ty' news 0 cur w hg (by simpa using hfit) h1
  simp only [Nat.add_zero] at hst
  simp [Builtin.append_, run_underlying ht, sizeOf, typeInfo, hi, Builtin.lenOf, hroom, hf, Addr.add_lit, hst]

theorem run_append_none {t e : Nat} {i : TypeInfo} (ht : P.underlying t = some (.slice e)) (hi : P.info? e = some i)
    (g sLen sCap c : Nat) (hroom : sLen ≤ sCap) :
    (Builtin.append_ #[t, t] ty #[.slice (some ⟨g, 0, none⟩) sLen sCap, .slice none 0 c]).run P w = .ok (.slice (some ⟨g, 0, none⟩) sLen sCap) w := by
  simp [Builtin.append_, run_underlying ht, sizeOf, typeInfo, hi, Builtin.lenOf, hroom, Builtin.firstCells, storeCells]

/-- The cells of the source, one after the other. -/
def flat (U : Nat → Nat → Value) (m sz : Nat) : List Value := (List.range (m * sz)).map fun k => U (k / sz) (k % sz)
theorem flat_len (U : Nat → Nat → Value) (m sz : Nat) : (flat U m sz).length = m * sz := by simp [flat]
theorem flat_at {U : Nat → Nat → Value} {m sz i j : Nat} (hi : i < m) (hj : j < sz) : (flat U m sz)[i * sz + j]? = some (U i j) := by
  have := at_lt hi hj
  obtain ⟨h1, h2⟩ := div_mod_at (i := i) hj
  simp [flat, this, h1, h2]

theorem junk_at {sz k i j : Nat} {e : List AV} {c : AV} (hi : (junk sz k)[i]? = some e) (hj : e[j]? = some c) : c = .any := by
  have he : e = List.replicate sz .any := List.eq_of_mem_replicate (List.mem_of_getElem? hi)
  subst he
  exact List.eq_of_mem_replicate (List.mem_of_getElem? hj)

/-- append to a local row. -/
theorem St.append {id n cap t e sz bytes : Nat} {agg : Bool} {zs : List AV} {r : LRow} {x : AV} {u v : Value} {src : List (List AV)} (s : St nt X f H N a w) (hS : SlT P t e) (hT : Ty P e sz agg) (hZ : ZrT P e zs) (hB : ByT P e bytes)
    (hv : Conc w (X.S H N) H (.row id n cap) v) (hr : H[id]? = some (some r)) (hrs : r.sz = sz) (hu : Conc w (X.S H N) H x u) (hx : srcOf H x = some src) (hsrc : ∀ e ∈ src, e.length = sz) (hno : norefH id H = true) (hs0 : 0 < sz)
    (hzl : zs.length = sz) (hz1 : zs.all AV.one = true) (hle : (n + src.length) * bytes ≤ 140737488355328) (hm : n + src.length ≤ maxLen) :
    ∃ v' w' b' k, (Builtin.append_ #[t, t] ty #[v, u]).run P w = .ok v' w' ∧ N ≤ w'.heap.size ∧ (b' = r.blk ∨ N ≤ b') ∧
      St nt X (killF id f) (H.set id none ++ [some ⟨b', sz, r.es.take n ++ src ++ junk sz k⟩]) w'.heap.size a w' ∧
      Conc w' (X.S (H.set id none ++ [some ⟨b', sz, r.es.take n ++ src ++ junk sz k⟩]) w'.heap.size) (H.set id none ++ [some ⟨b', sz, r.es.take n ++ src ++ junk sz k⟩]) (.row H.length (n + src.length) (n + src.length + k)) v' := by
  obtain ⟨rfl, hnc, hrl, hcm⟩ := inv_row hr hv
  obtain ⟨A, c, U, rfl, hml, hU⟩ := src_spec s hu hx hsrc
  obtain ⟨⟨ty', cur, hb, hcur, hrsz, hcells⟩, hmay⟩ := s.rows id r hr
  obtain ⟨i, z, hi, hz, hzs⟩ := hZ.zero
  subst hzs
  obtain ⟨i1, hi1, hisz⟩ := hT.info
  obtain ⟨i2, hi2, hby⟩ := hB.bytes
  rw [hi] at hi1 hi2
  cases hi1
  cases hi2
  have hzsz : z.cells.size = sz := by simpa using hzl
  rw [hrs] at hcur hrsz hcells
  have hN := s.heap
  have hsrcref : ∀ (i j : Nat) (e : List AV) (c : AV), src[i]? = some e → e[j]? = some c → refs id c = false := by
    intro p q el c' hp hq
    cases x with
    | row id2 m2 cap2 =>
      have hx' : (match H[id2]? with | some (some r) => some (r.es.take m2) | _ => none) = some src := hx
      split at hx'
      · rename_i r2 hr2
        cases hx'
        rw [List.getElem?_take] at hp
        split at hp
        · exact noref_of hno hr2 hp hq
        · cases hp
      · cases hx'
    | d t => cases t with
      | v x => cases hx
      | sl ds =>
        cases hx
        rw [List.getElem?_map] at hp
        obtain ⟨e', _, rfl⟩ := Option.map_eq_some_iff.1 hp
        rw [List.getElem?_map] at hq
        obtain ⟨c', _, rfl⟩ := Option.map_eq_some_iff.1 hq
        rfl
    | ow fp t => cases t with
      | v x => cases hx
      | sl ds =>
        cases hx
        rw [List.getElem?_map] at hp
        obtain ⟨e', _, rfl⟩ := Option.map_eq_some_iff.1 hp
        rw [List.getElem?_map] at hq
        obtain ⟨c', _, rfl⟩ := Option.map_eq_some_iff.1 hq
        rfl
    | any => cases hx
    | rf => cases hx
    | ptr => cases hx
    | agg => cases hx
    | tup => cases hx
    | fn => cases hx
  -- what the new row's cells are, given an array that bears them
  have built : ∀ (w' : World) (H' : Hp) (S' : Nat → Prop) (cur' : Array Value) (k : Nat), (∀ b, X.S H N b → S' b ∧ w'.heap[b]? = w.heap[b]?) → (∀ (k : Nat) (r2 : LRow), k ≠ id → H[k]? = some (some r2) → H'[k]? = some (some r2)) →
      (∀ q, q < n * sz → cur'[q]? = cur[q]?) → (∀ q, q < src.length * sz → cur'[n * sz + q]? = (flat U src.length sz)[q]?) → (∀ q, q < (n + src.length + k) * sz → ∃ u, cur'[q]? = some u ∧ u.oneCell' = true) →
      ∀ (p q : Nat) (el : List AV) (c : AV), (r.es.take n ++ src ++ junk sz k)[p]? = some el → el[q]? = some c → ∃ u, cur'[p * sz + q]? = some u ∧ u.oneCell' = true ∧ Conc w' S' H' c u := by
    intro w' H' S' cur' k hk hH h1 h2 h3 p q el c' hp hq
    have hln : (r.es.take n).length = n := by simp; omega
    rw [List.append_assoc] at hp
    rcases Nat.lt_or_ge p n with hlt | hge
    · rw [List.getElem?_append_left (by omega), List.getElem?_take_of_lt hlt] at hp
      obtain ⟨u, hu, ho, hc⟩ := hcells p q el c' hp hq
      have hql : q < sz := by rw [← hrsz el (List.mem_of_getElem? hp)]; exact (List.getElem?_eq_some_iff.1 hq).1
      exact ⟨u, (h1 _ (at_lt hlt hql)).trans hu, ho, hc.gone1 (noref_of hno hr hp hq) hk hH⟩
    · rw [List.getElem?_append_right (by omega), hln] at hp
      rcases Nat.lt_or_ge (p - n) src.length with hlt | hge2
      · rw [List.getElem?_append_left hlt] at hp
        obtain ⟨_, ho, hc⟩ := hU _ q el c' hp hq
        have hql : q < sz := by rw [← hsrc el (List.mem_of_getElem? hp)]; exact (List.getElem?_eq_some_iff.1 hq).1
        refine ⟨U (p - n) q, ?_, ho, hc.gone1 (hsrcref _ q el c' hp hq) hk hH⟩
        have hidx : p * sz + q = n * sz + ((p - n) * sz + q) := by
          rw [← Nat.add_assoc, ← Nat.add_mul]
          congr 2
          omega
        rw [hidx, h2 _ (at_lt hlt hql)]
        exact flat_at hlt hql
      · rw [List.getElem?_append_right hge2] at hp
        have hc := junk_at hp hq
        subst hc
        have hpk : p - n - src.length < k := by
          have := (List.getElem?_eq_some_iff.1 hp).1
          simpa [junk] using this
        have hql : q < sz := by
          have he : el = List.replicate sz .any := List.eq_of_mem_replicate (List.mem_of_getElem? hp)
          have := (List.getElem?_eq_some_iff.1 hq).1
          simpa [he] using this
        obtain ⟨u, hu, ho⟩ := h3 (p * sz + q) (at_lt (by omega) hql)
        exact ⟨u, hu, ho, .any _⟩
  have hlens : ∀ (k : Nat), ∀ el ∈ r.es.take n ++ src ++ junk sz k, el.length = sz := by
    intro k el hel
    rcases List.mem_append.1 hel with h | h
    · rcases List.mem_append.1 h with h | h
      · exact hrsz el (List.mem_of_mem_take h)
      · exact hsrc el h
    · rw [List.eq_of_mem_replicate h]; simp
  have hcount : ∀ k : Nat, (r.es.take n ++ src ++ junk sz k).length = n + src.length + k := by
    intro k
    simp [junk]
    omega
  have hcone : ∀ q, q < cap * sz → ∃ u, cur[q]? = some u ∧ u.oneCell' = true := by
    intro q hq
    obtain ⟨h1, h2, h3⟩ := lt_at hq
    have hp : r.es[q / sz]? = some (r.es[q / sz]'(by omega)) := List.getElem?_eq_getElem _
    have hl := hrsz _ (List.mem_of_getElem? hp)
    obtain ⟨u, hu, ho, _⟩ := hcells (q / sz) (q % sz) _ _ hp (List.getElem?_eq_getElem (by omega))
    rw [← h3] at hu
    exact ⟨u, hu, ho⟩
  have hflat1 : ∀ v ∈ flat U src.length sz, v.oneCell' = true := by
    intro v hv
    obtain ⟨k, hk, rfl⟩ := List.mem_map.1 hv
    obtain ⟨h1, h2, h3⟩ := lt_at (List.mem_range.1 hk)
    have hp : src[k / sz]? = some src[k / sz] := List.getElem?_eq_getElem h1
    have hl := hsrc _ (List.mem_of_getElem? hp)
    exact (hU (k / sz) (k % sz) _ _ hp (List.getElem?_eq_getElem (by omega))).2.1
  have hcell : ∀ b o, A = some ⟨b, o, none⟩ → ∀ (j : Nat) (v : Value), (flat U src.length sz)[j]? = some v → w.cell? ((⟨b, o, none⟩ : Addr).add j) = some v := by
    intro b o hA j v hj
    have hlt : j < src.length * sz := by rw [← flat_len U]; exact (List.getElem?_eq_some_iff.1 hj).1
    obtain ⟨h1, h2, h3⟩ := lt_at hlt
    have hp : src[j / sz]? = some src[j / sz] := List.getElem?_eq_getElem h1
    have hl := hsrc _ (List.mem_of_getElem? hp)
    obtain ⟨⟨b', o', hA', hc⟩, _⟩ := hU (j / sz) (j % sz) _ _ hp (List.getElem?_eq_getElem (by omega))
    rw [hA] at hA'
    cases hA'
    rw [← h3] at hc
    have hv : v = U (j / sz) (j % sz) := by
      simp [flat, hlt] at hj
      exact hj.symm
    rw [add_mk, hv]
    exact hc
  by_cases hroom : n + src.length ≤ cap
  · -- there is room
    have hk : cap = n + src.length + (cap - (n + src.length)) := by omega
    have hfit : n * sz + src.length * sz ≤ cur.size := by rw [hcur, hrl, ← Nat.add_mul]; exact Nat.mul_le_mul_right _ hroom
    let cur' : Array Value := (cur.toList.take (n * sz) ++ flat U src.length sz ++ cur.toList.drop (n * sz + (flat U src.length sz).length)).toArray
    have hfl : (flat U src.length sz).length = src.length * sz := flat_len _ _ _
    have hc1 : ∀ q, q < n * sz → cur'[q]? = cur[q]? := by
      intro q hq
      show ((cur.toList.take (n * sz) ++ flat U src.length sz ++ cur.toList.drop (n * sz + (flat U src.length sz).length)).toArray)[q]? = _
      rw [List.getElem?_toArray, List.append_assoc, List.getElem?_append_left (by simp; omega), List.getElem?_take_of_lt hq]
      simp
    have hc2 : ∀ q, q < src.length * sz → cur'[n * sz + q]? = (flat U src.length sz)[q]? := by
      intro q hq
      show ((cur.toList.take (n * sz) ++ flat U src.length sz ++ cur.toList.drop (n * sz + (flat U src.length sz).length)).toArray)[n * sz + q]? = _
      have hmin : (cur.toList.take (n * sz)).length = n * sz := by simp; omega
      rw [List.getElem?_toArray, List.append_assoc, List.getElem?_append_right (by omega), hmin, List.getElem?_append_left (by omega)]
      congr 1
      omega
    have hcs : cur'.size = cap * sz := by
      show ((cur.toList.take (n * sz) ++ flat U src.length sz ++ cur.toList.drop (n * sz + (flat U src.length sz).length)).toArray).size = _
      simp only [List.size_toArray, List.length_append, List.length_take, List.length_drop, Array.length_toList, hfl]
      rw [hcur, hrl] at *
      omega
    have hc3 : ∀ q, q < (n + src.length + (cap - (n + src.length))) * sz → ∃ u, cur'[q]? = some u ∧ u.oneCell' = true := by
      rw [← hk]
      intro q hq
      rcases Nat.lt_or_ge q (n * sz) with h | h
      · rw [hc1 q h]; exact hcone q hq
      · rcases Nat.lt_or_ge (q - n * sz) (src.length * sz) with h2 | h2
        · have := hc2 (q - n * sz) h2
          rw [show n * sz + (q - n * sz) = q by omega] at this
          rw [this]
          exact ⟨_, List.getElem?_eq_getElem (by omega), hflat1 _ (List.getElem_mem _)⟩
        · obtain ⟨u, hu, ho⟩ := hcone q hq
          refine ⟨u, ?_, ho⟩
          show ((cur.toList.take (n * sz) ++ flat U src.length sz ++ cur.toList.drop (n * sz + (flat U src.length sz).length)).toArray)[q]? = _
          have hmin : (cur.toList.take (n * sz)).length = n * sz := by simp; omega
          rw [List.getElem?_toArray, List.append_assoc, List.getElem?_append_right (by omega), hmin, List.getElem?_append_right (by omega), List.getElem?_drop, hfl]
          rw [show n * sz + src.length * sz + (q - n * sz - src.length * sz) = q by omega]
          simpa using hu
    have hkeep : ∀ b, X.S H N b → (w.setRow r.blk cur').heap[b]? = w.heap[b]? := fun b hb => setRow_other w r.blk b cur' (fun e => hb.2.2 id r hr e.symm)
    have hrun : (Builtin.append_ #[t, t] ty #[.slice (some ⟨r.blk, 0, none⟩) n cap, .slice A src.length c]).run P w = .ok (.slice (some ⟨r.blk, 0, none⟩) (n + src.length) cap) (w.setRow r.blk cur') := by
      rcases Nat.eq_zero_or_pos src.length with h0 | h0
      · have hcur' : cur' = cur := by
          apply Array.ext'
          show cur.toList.take (n * sz) ++ flat U src.length sz ++ cur.toList.drop (n * sz + (flat U src.length sz).length) = cur.toList
          have hnil : flat U src.length sz = [] := List.eq_nil_of_length_eq_zero (by rw [hfl, h0]; simp)
          rw [hnil]
          simp
        rw [hcur', setRow_self w r.blk cur ty' (0, 0) hb, h0]
        cases A with
        | none =>
          have := run_append_none (P := P) (w := w) (ty := ty) hS.under hi r.blk n cap c hnc
          simpa using this
        | some ad =>
          have := run_append_room' (P := P) (w := w) (ty := ty) (bytes := 0) hS.under hi r.blk n cap cur ty' hb ad 0 c [] (by simp) (by simp) (by simp) (by omega) (by rw [hisz]; simp; rw [hcur, hrl]; exact Nat.mul_le_mul_right _ hnc)
          rw [this]
          simp [setRow_self w r.blk cur ty' (0, 0) hb]
      · obtain ⟨e0, he0⟩ := List.exists_mem_of_length_pos h0
        obtain ⟨j0, hj0⟩ := List.getElem?_of_mem he0
        have hl0 := hsrc e0 he0
        obtain ⟨⟨b0, o0, hA, _⟩, _⟩ := hU j0 0 e0 _ hj0 (List.getElem?_eq_getElem (by omega))
        rw [hA]
        have := run_append_room' (P := P) (w := w) (ty := ty) (bytes := 0) hS.under hi r.blk n cap cur ty' hb ⟨b0, o0, none⟩ src.length c (flat U src.length sz) (by rw [hfl, hisz]) (hcell b0 o0 hA) hflat1 hroom (by rw [hisz, hfl]; exact hfit)
        rw [hisz] at this
        exact this
    have hrep' := s.replace (r' := ⟨r.blk, sz, r.es.take n ++ src ++ junk sz (cap - (n + src.length))⟩) (w' := w.setRow r.blk cur') (N' := N) hr hno hkeep
      (fun k r2 hk2 h2 => setRow_other w r.blk r2.blk cur' (fun e => hk2 (s.inj k id r2 r h2 hr e))) (by rw [setRow_size]; exact hN) (Nat.le_refl _) ?_ (.inl rfl) ?_
    · refine ⟨_, w.setRow r.blk cur', r.blk, cap - (n + src.length), hrun, by rw [setRow_size]; omega, .inl rfl, ?_, ?_⟩
      · rw [setRow_size, hN]; exact hrep'.2
      · rw [setRow_size, hN, ← hk]
        exact Conc.row H.length _ cap ⟨r.blk, sz, r.es.take n ++ src ++ junk sz (cap - (n + src.length))⟩ hrep_new (by omega) (by rw [hcount]; omega) hcm
    · have k := s.keeps
      refine ⟨k.os, k.tape, k.output, by rw [setRow_size]; exact k.size, fun b hb' hmb => ?_⟩
      rw [setRow_other w r.blk b cur' (fun e => by
        subst e
        rcases hmay with h | h
        · omega
        · exact hmb h)]
      exact k.block b hb' hmb
    · refine ⟨ty', cur', setRow_heap w r.blk cur cur' ty' _ hb, ?_, hlens _, built _ _ _ cur' _ (fun b hb => ⟨?_, hkeep b hb⟩) (fun k r2 hk2 h2 => hrep_old hk2 h2) hc1 hc2 hc3⟩
      · rw [hcs, hcount, ← hk]
      · refine ⟨hb.1, hb.2.1, fun k r2 hk2 => ?_⟩
        rcases hrep hk2 with ⟨_, h2⟩ | ⟨_, rfl⟩
        · exact hb.2.2 k r2 h2
        · exact hb.2.2 id r hr
  · -- it grows
    have h0 : 0 < src.length := by omega
    obtain ⟨e0, he0⟩ := List.exists_mem_of_length_pos h0
    obtain ⟨j0, hj0⟩ := List.getElem?_of_mem he0
    have hl0 := hsrc e0 he0
    obtain ⟨⟨b0, o0, hA, _⟩, _⟩ := hU j0 0 e0 _ hj0 (List.getElem?_eq_getElem (by omega))
    have hfl : (flat U src.length sz).length = src.length * sz := flat_len _ _ _
    have hcl : n * sz ≤ cur.size := by rw [hcur, hrl]; exact Nat.mul_le_mul_right _ hnc
    have holdl : (cur.toList.take (n * sz)).length = n * sz := by simp; omega
    unfold maxLen at hm
    have hrun := run_append_grow (P := P) w t ty e i z hS.under hi hz ⟨r.blk, 0, none⟩ n cap (cur.toList.take (n * sz)) (by rw [holdl, hisz]) (by
      intro j v hj
      have hlt : j < n * sz := by rw [← holdl]; exact (List.getElem?_eq_some_iff.1 hj).1
      rw [List.getElem?_take_of_lt hlt] at hj
      rw [add_mk, cell_of_row w r.blk _ cur ty' (0, 0) hb, Nat.zero_add]
      simpa using hj) ⟨b0, o0, none⟩ src.length c (flat U src.length sz) (by rw [hfl, hisz]) (hcell b0 o0 hA) (by omega) (by omega) (growslice_fits (by omega) (by rw [hby]; exact hle))
    let K := grownCap w (n + src.length) cap e
    have hK : n + src.length ≤ K := grownCap_ge w _ _ e
    have hKm : K ≤ maxLen := grownCap_le_maxLen w _ _ e (by unfold maxLen; omega)
    have hk : K = n + src.length + (K - (n + src.length)) := by omega
    let cur' : Array Value := (cur.toList.take (n * sz)).toArray ++ (flat U src.length sz).toArray ++ Builtin.zeroCells z.cells (K - (n + src.length))
    have hzc : (Builtin.zeroCells z.cells (K - (n + src.length))).size = (K - (n + src.length)) * sz := by rw [size_zeroCells, hzsz]
    have hc1 : ∀ q, q < n * sz → cur'[q]? = cur[q]? := by
      intro q hq
      show ((cur.toList.take (n * sz)).toArray ++ (flat U src.length sz).toArray ++ Builtin.zeroCells z.cells (K - (n + src.length)))[q]? = _
      rw [Array.append_assoc, Array.getElem?_append_left (by simp; omega), List.getElem?_toArray, List.getElem?_take_of_lt hq]
      simp
    have hc2 : ∀ q, q < src.length * sz → cur'[n * sz + q]? = (flat U src.length sz)[q]? := by
      intro q hq
      show ((cur.toList.take (n * sz)).toArray ++ (flat U src.length sz).toArray ++ Builtin.zeroCells z.cells (K - (n + src.length)))[n * sz + q]? = _
      rw [Array.append_assoc, Array.getElem?_append_right (by simp; omega)]
      simp only [List.size_toArray, holdl]
      rw [Array.getElem?_append_left (by simp [hfl]; omega), List.getElem?_toArray]
      congr 1
      omega
    have hcs : cur'.size = K * sz := by
      show ((cur.toList.take (n * sz)).toArray ++ (flat U src.length sz).toArray ++ Builtin.zeroCells z.cells (K - (n + src.length))).size = _
      simp only [Array.size_append, List.size_toArray, holdl, hfl, hzc]
      rw [← Nat.add_mul, ← Nat.add_mul]
      congr 1
      omega
    have hc3 : ∀ q, q < (n + src.length + (K - (n + src.length))) * sz → ∃ u, cur'[q]? = some u ∧ u.oneCell' = true := by
      rw [← hk]
      intro q hq
      rcases Nat.lt_or_ge q (n * sz) with h | h
      · rw [hc1 q h]; exact hcone q (Nat.lt_of_lt_of_le h (Nat.mul_le_mul_right _ hnc))
      · rcases Nat.lt_or_ge (q - n * sz) (src.length * sz) with h2 | h2
        · have := hc2 (q - n * sz) h2
          rw [show n * sz + (q - n * sz) = q by omega] at this
          rw [this]
          exact ⟨_, List.getElem?_eq_getElem (by omega), hflat1 _ (List.getElem_mem _)⟩
        · have hlt : q - n * sz - src.length * sz < (K - (n + src.length)) * sz := by
            have h1 : (K - (n + src.length)) * sz + (n * sz + src.length * sz) = K * sz := by
              rw [← Nat.add_mul, ← Nat.add_mul]; congr 1; omega
            omega
          have hz0 : 0 < z.cells.size := by omega
          refine ⟨z.cells[(q - n * sz - src.length * sz) % z.cells.size]!, ?_, ?_⟩
          · show ((cur.toList.take (n * sz)).toArray ++ (flat U src.length sz).toArray ++ Builtin.zeroCells z.cells (K - (n + src.length)))[q]? = _
            rw [Array.append_assoc, Array.getElem?_append_right (by simp; omega), Array.getElem?_append_right (by simp [hfl]; omega)]
            simp only [List.size_toArray, holdl, hfl]
            have hlt' : q - n * sz - src.length * sz < (K - (n + src.length)) * z.cells.size := by rw [hzsz]; exact hlt
            simp [Builtin.zeroCells, hlt']
          · have hmod := Nat.mod_lt (q - n * sz - src.length * sz) hz0
            have hg : z.cells[(q - n * sz - src.length * sz) % z.cells.size]! = z.cells[(q - n * sz - src.length * sz) % z.cells.size] := getElem!_pos z.cells _ hmod
            rw [hg]
            refine cv_one (List.all_eq_true.1 hz1 _ (List.mem_map.2 ⟨_, ?_, rfl⟩))
            exact Array.mem_toList_iff.2 (Array.getElem_mem hmod)
    have hw' : w.drew.heap.size = N := hN
    have hheap : ∀ b, b < N → (w.drew.alloc (.cells cur' e (0, 0))).heap[b]? = w.heap[b]? := fun b hb => Below.heap_alloc w.drew _ b (by rw [hw']; exact hb)
    have hrep' := s.replace (r' := ⟨N, sz, r.es.take n ++ src ++ junk sz (K - (n + src.length))⟩) (w' := w.drew.alloc (.cells cur' e (0, 0))) (N' := N + 1) hr hno
      (fun b hb => hheap b hb.2.1) (fun k r2 _ h2 => hheap _ (by have := (s.rows k r2 h2).1.lt; omega)) (by rw [World.size_alloc, hw']) (by omega) ?_ (.inr ⟨Nat.le_refl _, by show N < N + 1; omega⟩) ?_
    · refine ⟨_, w.drew.alloc (.cells cur' e (0, 0)), N, K - (n + src.length), by rw [hA]; exact hrun, by rw [World.size_alloc, hw']; omega, .inr (Nat.le_refl _), ?_, ?_⟩
      · rw [World.size_alloc, hw']; exact hrep'.2
      · rw [World.size_alloc, hw', ← hk, hN]
        exact Conc.row H.length _ K ⟨N, sz, r.es.take n ++ src ++ junk sz (K - (n + src.length))⟩ hrep_new hK (by rw [hcount]; omega) hKm
    · have k := s.keeps
      exact ⟨k.os, k.tape, k.output, by rw [World.size_alloc, hw']; have := k.size; omega, fun b hb' hmb => (hheap b (by have := k.size; omega)).trans (k.block b hb' hmb)⟩
    · refine ⟨e, cur', ?_, ?_, hlens _, built _ _ _ cur' _ (fun b hb => ⟨?_, hheap b hb.2.1⟩) (fun k r2 hk2 h2 => hrep_old hk2 h2) hc1 hc2 hc3⟩
      · show (w.drew.alloc _).heap[N]? = _
        rw [← hw']
        exact heap_alloc_new w.drew _
      · rw [hcs, hcount, ← hk]
      · refine ⟨hb.1, by have := hb.2.1; omega, fun k r2 hk2 => ?_⟩
        rcases hrep hk2 with ⟨_, h2⟩ | ⟨_, rfl⟩
        · exact hb.2.2 k r2 h2
        · have := hb.2.1
          show N ≠ b
          omega

end
end Go.Proofs.Ytbphkpojhinbiaa
