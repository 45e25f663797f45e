/- Texts for VSectionsP. -/
import Derived.Laws.MakeOwn
import Derived.Laws.AppendOwn
import Derived.Test.YtdeledeopippfaaVx4
namespace Go.Proofs.Ytdeledeopippfaa
open Go Go.RowKit
set_option linter.unusedVariables false
set_option linter.unusedSimpArgs false
section
variable {E : Env} {P : Program} {nt : Nat} {X : Ctx} {f : Fr} {H : Hp} {ty : TypeId} {a : Act} {w : World} {blk : Nat → BC} {FP : Nat → List Nat}
theorem div_mod_at {i j sz : Nat} (hj : j < sz) : (i * sz + j) / sz = i ∧ (i * sz + j) % sz = j := by
  constructor
  · rw [Nat.mul_comm, Nat.mul_add_div (by omega), Nat.div_eq_of_lt hj, Nat.add_zero]
  · rw [Nat.mul_comm, Nat.mul_add_mod, Nat.mod_eq_of_lt hj]
theorem at_lt {n i j sz : Nat} (hi : i < n) (hj : j < sz) : i * sz + j < n * sz := by
  have := Nat.mul_le_mul_right sz (show i + 1 ≤ n from hi)
  rw [Nat.succ_mul] at this
  omega
theorem lt_at {n k sz : Nat} (hk : k < n * sz) : k / sz < n ∧ k % sz < sz ∧ k = k / sz * sz + k % sz := by
  have hs : 0 < sz := by
    rcases Nat.eq_zero_or_pos sz with h | h
    · subst h; simp at hk
    · exact h
  exact ⟨Nat.div_lt_of_lt_mul (by rw [Nat.mul_comm]; exact hk), Nat.mod_lt _ hs, by rw [Nat.mul_comm]; exact (Nat.div_add_mod k sz).symm⟩
theorem StB.push0 (s : StB nt X f H blk FP a w) (r : Row) (h0 : r.cap = 0) (hk : r.k.isMp = false) :
    StB nt X f (H ++ [some r]) (fun id => if id = H.length then ⟨0, 0⟩ else blk id) (fun id => if id = H.length then [] else FP id) a w := by
  have hkeep : ∀ b, X.S FP H w.heap.size b → X.S (fun id => if id = H.length then [] else FP id) (H ++ [some r]) w.heap.size b ∧ w.heap[b]? = w.heap[b]? := fun b hb =>
    ⟨S_push X FP H r [] (by omega) (by simp) b hb, rfl⟩
  have hext := HExt.push H blk (some r) ⟨0, 0⟩
  refine ⟨s.defers, s.size, s.keeps, fun id r' hr => ?_, fun i j r1 r2 hi hj hij b hb hb' => ?_, fun t => (s.fr t).mono hkeep hext, s.ext.trans hext⟩
  · rcases old_or_new hr with ⟨hlt, hr⟩ | ⟨rfl, rfl⟩
    · obtain ⟨h1, h2⟩ := s.rows id r' hr
      simp only [if_neg (show ¬ id = H.length by omega)]
      exact ⟨h1.mono hkeep hext fun x hx => rfl, h2⟩
    · simp only [if_pos]
      exact ⟨.inl ⟨h0, rfl, .inl ⟨hk, rfl⟩⟩, by simp⟩
  · try simp only at hb hb'
    rcases old_or_new hi with ⟨hlt, hi1⟩ | ⟨hi1, _⟩ <;> rcases old_or_new hj with ⟨hlt', hj1⟩ | ⟨hj1, _⟩
    · rw [if_neg (by omega)] at hb hb'
      exact s.apart i j r1 r2 hi1 hj1 hij b hb hb'
    · rw [if_pos hj1] at hb'
      cases hb'
    · rw [if_pos hi1] at hb
      cases hb
    · omega
def mkK (E : Env) (nt : Nat) (f : Fr) (H : Hp) (d : Nat) (t : TypeId) (x y : Operand) (K : AV → Hp → Prop) : Prop :=
  match elemAt E t with
  | none => False
  | some (_, te) => (match te.zero with
    | none => False
    | some zs => bif Nat.blt d nt && (Nat.beq zs.length te.sz && (zs.map cv).all AV.one1) then
        (match ev f x, ev f y with
        | .i _ l, .i _ c => (0 ≤ l ∧ l ≤ c ∧ te.bytes * c ≤ 281474976710656 ∧ c ≤ 9223372036854775807) ∧ frcL (zs.map cv) fun cs => snocK H (some ⟨te.sz, c.toNat, fun _ j => cs.getD j .any, .arr⟩) fun H' => K (.row H.length l.toNat) H'
        | _, _ => False) else False)
theorem mkK_ok {d : Nat} {t : TypeId} {x y : Operand} {pos : String} {after : Array Edge} {gd : Option (Nat × Bool)} {K : Fr → Hp → Prop} (h : mkK E nt f H d t x y fun v H => K ((d, v) :: f) H) : PO E.P nt X ⟨some d, .makeSlice t x y, ty, pos, after, gd⟩ f H K := by
  unfold mkK at h
  split at h
  · cases h
  rename_i e te hS
  obtain ⟨hu, hT⟩ := elemAt_ok hS
  split at h
  · cases h
  rename_i zs hzs
  cases hb : (Nat.blt d nt && (Nat.beq zs.length te.sz && (zs.map cv).all AV.one1)) with
  | false => rw [hb] at h; cases h
  | true =>
    rw [hb, cond_true] at h
    rw [Bool.and_eq_true, Bool.and_eq_true] at hb
    obtain ⟨hn, hzl, h1⟩ := hb
    have hzl' := Nat.eq_of_beq_eq_true hzl
    split at h
    · rename_i kl l kc c hx hy
      obtain ⟨⟨g0, g1, g2, g3⟩, h⟩ := h
      rw [frcL_eq, snocK_eq] at h
      refine po_val rfl hn (fun blk FP a w s => ?_) h
      obtain ⟨i, z, hi, hz, hzc⟩ := hT.zero zs hzs
      obtain ⟨i1, hi1, hisz, hiby⟩ := hT.info
      rw [hi] at hi1
      cases hi1
      have hxv := (inv_i (hx ▸ s.ev x)).1
      have hyv := (inv_i (hy ▸ s.ev y)).1
      have hrun := run_make (P := E.P) w t e i z hu hi hz kl kc l c g0 g1 (by rw [hiby]; exact g2) (by omega)
      have hzs' : z.cells.size = te.sz := by rw [← hzl', ← hzc]; simp
      have hex : ∀ dst pos after gd, (execOp a.eval ⟨dst, .makeSlice t x y, ty, pos, after, gd⟩).run E.P w = .ok (.value (.slice (some ⟨w.heap.size, 0, none⟩) l.toNat c.toNat)) (w.alloc (.cells (madeCells z.cells (c.toNat * i.size)) e)) := fun _ _ _ _ => by simp [execOp, hxv, hyv, hrun]
      by_cases hc0 : c.toNat = 0
      · have hb : Below w.heap.size w (w.alloc (.cells (madeCells z.cells (c.toNat * i.size)) e)) := (Below.refl _ _).alloc (Nat.le_refl _) _
        have s1 := (s.called hb).1.push0 ⟨te.sz, c.toNat, fun _ j => (zs.map cv).getD j .any, .arr⟩ hc0 rfl
        refine ⟨_, _, _, _, hex _ _ _ _, s1, ?_⟩
        have hnew : (H ++ [some (⟨te.sz, c.toNat, fun _ j => (zs.map cv).getD j .any, .arr⟩ : Row)])[H.length]? = some (some ⟨te.sz, c.toNat, fun _ j => (zs.map cv).getD j .any, .arr⟩) := by simp
        have hl0 : l.toNat = 0 := by omega
        rw [hl0, show Value.slice (some ⟨w.heap.size, 0, none⟩) 0 c.toNat = Value.slice (some ⟨w.heap.size, 0, none⟩) 0 0 by rw [hc0]]
        exact .row0 _ hnew hc0 (by simp) _
      · have s1 := s.push e (madeCells z.cells (c.toNat * i.size)) ⟨te.sz, c.toNat, fun _ j => (zs.map cv).getD j .any, .arr⟩ rfl (by show 0 < c.toNat; omega) (by rw [size_madeCells, hisz]) (fun p q hp hq => ?_)
        · refine ⟨_, _, _, _, hex _ _ _ _, s1, ?_⟩
          have := Conc.row (w := w.alloc (.cells (madeCells z.cells (c.toNat * i.size)) e)) (S := X.S (fun id => if id = H.length then [w.heap.size] else FP id) (H ++ [some ⟨te.sz, c.toNat, fun _ j => (zs.map cv).getD j .any, .arr⟩]) (w.alloc (.cells (madeCells z.cells (c.toNat * i.size)) e)).heap.size)
            (blk := fun id => if id = H.length then ⟨w.heap.size, c.toNat⟩ else blk id) (H := H ++ [some ⟨te.sz, c.toNat, fun _ j => (zs.map cv).getD j .any, .arr⟩]) (id := H.length) (n := l.toNat) ⟨te.sz, c.toNat, fun _ j => (zs.map cv).getD j .any, .arr⟩ (by simp) (by show l.toNat ≤ c.toNat; omega) (by simp) (by simp; omega) (by simp; unfold maxLen; omega)
          simpa using this
        · dsimp only at hp hq ⊢
          have hql : q < zs.length := by omega
          have hzq : z.cells[q]? = some zs[q] := by
            have : z.cells.toList[q]? = some zs[q] := by rw [hzc]; exact List.getElem?_eq_getElem hql
            simpa using this
          have hcv : Conc w (X.S FP H w.heap.size) blk H (cv zs[q]) zs[q] := conc_cv _
          refine ⟨zs[q], ?_, hcv.one1 (List.all_eq_true.1 h1 _ (List.mem_map.2 ⟨_, List.getElem_mem hql, rfl⟩)), by simpa [hql] using hcv⟩
          have hlt : p * te.sz + q < c.toNat * i.size := by rw [hisz]; exact at_lt hp hq
          have hmod : (p * te.sz + q) % z.cells.size = q := by rw [hzs']; exact (div_mod_at hq).2
          have hv' : z.cells[q]! = zs[q] := by rw [getElem!_def, hzq]
          unfold madeCells
          simp [hlt, hmod, hv']
    · cases h
end
end Go.Proofs.Ytdeledeopippfaa
