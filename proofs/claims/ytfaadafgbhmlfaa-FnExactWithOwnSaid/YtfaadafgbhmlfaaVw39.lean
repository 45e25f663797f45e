/- Texts for VWithOwnP. -/
import Derived.Test.YtfaadafgbhmlfaaVw38
namespace Go.Proofs.Ytfaadafgbhmlfaa
open Go Go.RowKit
set_option linter.unusedVariables false
set_option linter.unusedSimpArgs false
section
open Go Go.RowKit Go.Shelf
def secV3 (x : Section) : List Value := [.int .i64 x.id, .string x.name, .string x.bytes]
def secCells : List Section → List Value
  | [] => []
  | x :: l => secV3 x ++ secCells l
theorem secCells_app : ∀ a b : List Section, secCells (a ++ b) = secCells a ++ secCells b
  | [], b => rfl
  | x :: a, b => by rw [List.cons_append, secCells, secCells, secCells_app a b, List.append_assoc]
theorem secCells_take : ∀ (l : List Section) (i : Nat), (secCells l).take (3 * i) = secCells (l.take i)
  | [], i => by simp [secCells]
  | x :: l, 0 => by simp [secCells]
  | x :: l, i + 1 => by
    rw [List.take_succ_cons, secCells, secCells, ← secCells_take l i, show 3 * (i + 1) = 3 * i + 3 by omega]
    rfl
theorem secCells_drop : ∀ (l : List Section) (i : Nat), (secCells l).drop (3 * i) = secCells (l.drop i)
  | [], i => by simp [secCells]
  | x :: l, 0 => by simp
  | x :: l, i + 1 => by
    rw [List.drop_succ_cons, secCells, ← secCells_drop l i, show 3 * (i + 1) = 3 * i + 3 by omega]
    rfl
theorem secCells_get : ∀ (l : List Section) (i : Nat), i < l.length → (secCells l)[i * 3]? = some (.int .i64 (l.getD i default).id) ∧ (secCells l)[i * 3 + 1]? = some (.string (l.getD i default).name) ∧ (secCells l)[i * 3 + 2]? = some (.string (l.getD i default).bytes)
  | [], i, h => absurd h (Nat.not_lt_zero _)
  | x :: l, 0, h => ⟨rfl, rfl, rfl⟩
  | x :: l, i + 1, h => by
    obtain ⟨h1, h2, h3⟩ := secCells_get l i (by simpa using h)
    have e : ∀ j, (secCells (x :: l))[(i + 1) * 3 + j]? = (secCells l)[i * 3 + j]? := fun j => by
      rw [secCells, show (i + 1) * 3 + j = 3 + (i * 3 + j) by omega, List.getElem?_append_right (by show 3 ≤ _; omega)]
      congr 1
      show 3 + (i * 3 + j) - 3 = _
      omega
    have e0 := e 0
    rw [Nat.add_zero, Nat.add_zero] at e0
    exact ⟨e0.trans h1, (e 1).trans h2, (e 2).trans h3⟩
theorem insL_sec (l : List Section) (x : Section) (at' : Int) : insL (secCells l) (secV3 x) at'.toNat = secCells (woL l at' x) := by
  unfold insL woL
  rw [secCells_app, secCells_app, secCells_take, secCells_drop]
  rfl
theorem cells_eq : ∀ (l : List Section) (c : List Value), c.length = 3 * l.length → (∀ i, i < l.length → c[i * 3]? = some (.int .i64 (l.getD i default).id) ∧ c[i * 3 + 1]? = some (.string (l.getD i default).name) ∧ c[i * 3 + 2]? = some (.string (l.getD i default).bytes)) → c = secCells l
  | [], c, h, _ => List.length_eq_zero_iff.1 h
  | x :: l, c, h, hc => by
    match c, h with
    | a :: b :: d :: c, h =>
      obtain ⟨h1, h2, h3⟩ := hc 0 (by simp)
      have h1 : some a = some (Value.int .i64 x.id) := h1
      have h2 : some b = some (Value.string x.name) := h2
      have h3 : some d = some (Value.string x.bytes) := h3
      cases h1; cases h2; cases h3
      have := cells_eq l c (by simp at h; omega) (fun i hi => by
        obtain ⟨q1, q2, q3⟩ := hc (i + 1) (by simp; omega)
        rw [show (i + 1) * 3 = i * 3 + 3 by omega] at q1 q2 q3
        exact ⟨q1, q2, q3⟩)
      rw [this]
      rfl
def SoPost (w : World) (l : List Section) (e : Ending) (w' : World) : Prop := ∃ (base : Option Addr) (c : Nat), e = .returned (.tuple #[.slice base l.length c, .int .i64 0]) ∧ Keeps (fun _ => False) w w' ∧ ((c = 0 ∧ l = []) ∨ ∃ (b : Nat) (cur : Array Value) (ty : TypeId), base = some ⟨b, 0, none⟩ ∧ w.heap.size ≤ b ∧ RowAt w' b cur ty ∧ cur.size = c * 3 ∧ l.length ≤ c ∧ c ≤ maxLen ∧ (∀ u ∈ cur, u.oneCell' = true) ∧ cur.toList.take (3 * l.length) = secCells l)
theorem so_val (s : ByteArray) (hs : s.size ≤ 1048576) {l : List Section} (h : secAll s = some l) (hz : ¬ 30000 < s.size) (w : World) (S : Nat → Prop) (hS : SIn w S) : Calls Try.prog 10 #[.string s] w fun e w' => SoPost w l e w' := by
  have hm : (1048576 : Nat) ≤ maxLen := by decide
  refine ((sectionsOf_impl_ok s hs h hz).h w S (fun _ => ⟨0, 0⟩) (fun _ => []) [.string s] ⟨fun id r q => by simp at q, fun i j r r' q => by simp at q, fun b hb => ⟨hS b hb, fun id r q => by simp at q⟩⟩ hS.gl (.cons1 (.s (by omega)) concL_nil)).mono ?_
  rintro e w' ⟨r, u, H', blk', FP', he, ⟨rfl, rfl⟩, hR, hcu, hext, hfr, hk⟩
  have hK : Keeps (fun _ => False) w w' := ⟨hk.os, hk.tape, hk.output, hk.size, fun k hlt _ => hk.block k hlt (by rintro ⟨id, r, q, _⟩; simp at q)⟩
  obtain ⟨us, rfl, hl, hu⟩ := inv_tup hcu
  match us, hl, hu with
  | [u0, u1], _, hu =>
    have c1 := (inv_i (hu 1 _ _ rfl rfl)).1
    subst c1
    have c0 := hu 0 _ _ rfl rfl
    obtain ⟨hok, hfp⟩ := hR.rows 0 (rowL 3 Section.cs l) rfl
    rcases inv_row (r := rowL 3 Section.cs l) rfl c0 with ⟨rfl, hn, hle0, hc0, hmx⟩ | ⟨a', rfl, hn0, hc0⟩
    · rcases hok with ⟨q0, q1, _⟩ | ⟨p0, p1, p2, p3, ty, cur, F, d1, d2, d3, d4, d5, d6⟩
      · omega
      · refine ⟨_, _, he, hK, .inr ⟨_, cur, ty, rfl, ?_, d1, d2, p1, by omega, d3, ?_⟩⟩
        · rcases hfr _ ⟨0, _, rfl, p3⟩ with q | ⟨id, r, q, _⟩
          · exact q
          · simp at q
        · have hcl : cur.toList.length = (blk' 0).c * 3 := d2
          have p1' : l.length ≤ (blk' 0).c := p1
          refine cells_eq l _ (by rw [List.length_take]; omega) (fun i hi => ?_)
          have hget : ∀ j, j < 3 → (cur.toList.take (3 * l.length))[i * 3 + j]? = cur[i * 3 + j]? := fun j hj => by
            rw [List.getElem?_take, if_pos (by omega)]
            simp
          obtain ⟨u0, e0, _, o0⟩ := d4 i 0 hi (by show 0 < 3; omega)
          obtain ⟨u1, e1, _, o1⟩ := d4 i 1 hi (by show 1 < 3; omega)
          obtain ⟨u2, e2, _, o2⟩ := d4 i 2 hi (by show 2 < 3; omega)
          have f0 := (inv_i (o0.conc rfl)).1
          have f1 := (inv_s (o1.conc rfl)).1
          have f2 := (inv_s (o2.conc rfl)).1
          subst f0 f1 f2
          have g0 := hget 0 (by omega)
          rw [Nat.add_zero] at g0
          exact ⟨g0.trans e0, (hget 1 (by omega)).trans e1, (hget 2 (by omega)).trans e2⟩
    · have hl0 : l = [] := List.length_eq_zero_iff.1 (by omega)
      subst hl0
      exact ⟨a', 0, he, hK, .inl ⟨rfl, rfl⟩⟩
end
end Go.Proofs.Ytfaadafgbhmlfaa
