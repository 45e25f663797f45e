/- Texts for VSectionsP. -/
import Derived.Test.YtdeledeopippfaaVx30
namespace Go.Proofs.Ytdeledeopippfaa
open Go Go.RowKit
set_option linter.unusedVariables false
set_option linter.unusedSimpArgs false
set_option maxRecDepth 8000
section
attribute [local irreducible] IntKind.wrap
def secB (s : ByteArray) : Int := ((s.data.getD 0 0).toNat : Int)
def secG (s : ByteArray) : ByteArray × Int × Bool := gbB (s.extract 1 s.size)
def secX (s : ByteArray) : Section := if secB s = 0 then ⟨secB s, (gbB (secG s).1).1, (secG s).1.extract (gbB (secG s).1).2.1.toNat (secG s).1.size⟩ else ⟨secB s, ⟨#[]⟩, (secG s).1⟩
structure secF (s : ByteArray) : Prop where
  g : (secG s).2.2 = true
  h : secB s = 0 → (gbB (secG s).1).2.2 = true
  ok : okSec (secX s)
def secT (s : ByteArray) : ByteArray := s.extract (1 + (secG s).2.1).toNat s.size
open Classical in
noncomputable def secs : Nat → ByteArray → List Section → Option (List Section)
  | 0, s, acc => if s.size = 0 then some acc else none
  | n + 1, s, acc => if s.size = 0 then some acc else if secF s then secs n (secT s) (acc ++ [secX s]) else none
theorem gbB_rng (s : ByteArray) : 0 ≤ (gbB s).2.1 ∧ (gbB s).2.1 ≤ s.size ∧ (gbB s).1.size ≤ s.size := by
  obtain ⟨r1, r2, r3, r4⟩ := getL_rng s
  by_cases h : (getL s).2.2 = true ∧ (getL s).1 ≤ (s.size : Int) - (getL s).2.1
  · rw [gb_ok h.1 h.2]
    refine ⟨by show 0 ≤ (getL s).2.1 + (getL s).1; omega, by show (getL s).2.1 + (getL s).1 ≤ _; omega, ?_⟩
    show (s.extract _ _).size ≤ _
    rw [ByteArray.size_extract]
    omega
  · rw [gb_no h]
    exact ⟨Int.le_refl _, by show (0 : Int) ≤ s.size; omega, Nat.zero_le _⟩
theorem secG_rng {s : ByteArray} (h : 1 ≤ s.size) : 0 ≤ (secG s).2.1 ∧ (secG s).2.1 + 1 ≤ s.size ∧ (secG s).1.size + 1 ≤ s.size := by
  obtain ⟨h1, h2, h3⟩ := gbB_rng (s.extract 1 s.size)
  rw [ByteArray.size_extract] at h2 h3
  unfold secG
  omega
theorem secX_0 {s : ByteArray} (h : secB s = 0) : secX s = ⟨secB s, (gbB (secG s).1).1, (secG s).1.extract (gbB (secG s).1).2.1.toNat (secG s).1.size⟩ := if_pos h
theorem secX_1 {s : ByteArray} (h : ¬ secB s = 0) : secX s = ⟨secB s, ⟨#[]⟩, (secG s).1⟩ := if_neg h
def secV (x : Section) (n : Int) (b : Bool) : AV := .tup [.agg x.cs, .i .i64 n, .b b]
def secK (s c d : ByteArray) (m : Int) : Section := if secB s = 0 then ⟨secB s, d, c.extract m.toNat c.size⟩ else ⟨secB s, ⟨#[]⟩, c⟩
section
attribute [local irreducible] gbB secG okSec
set_option maxHeartbeats 2000000 in
theorem l17Read_w (s : ByteArray) (hs : s.size ≤ 1048576) (h0 : 1 ≤ s.size) (c : ByteArray) (n : Int) (ok : Bool) (hG : Ret env.P 80 [.s (s.extract 1 s.size)] (fun r => r = gbR (c, n, ok))) (q1 : 0 ≤ n) (q2 : n ≤ 1048576) (d : ByteArray) (m : Int) (fine : Bool) (hH : Ret env.P 80 [.s c] (fun r => r = gbR (d, m, fine))) (p1 : 0 ≤ m) (p2 : m ≤ c.size) :
    Ret env.P 62 [.s s] (fun r => r = bif pb (ok = true ∧ (secB s = 0 → fine = true) ∧ okSec (secK s c d m)) then secV (secK s c d m) (1 + n) true else secV default 0 false) := by
  have hz : ¬ s = ⟨#[]⟩ := fun e => by rw [e] at h0; exact absurd h0 (by decide)
  have hw : IntKind.i64.wrap (1 + n) = 1 + n := wr64 (by omega) (by omega)
  have hS := fun x => l17Section_ok x
  have hlt := UInt8.toNat_lt (s.data.getD 0 0)
  have hq : IntKind.i64.wrap ((s.data.getD (Int.toNat 0) 0).toNat : Int) = secB s := wr64 (by show _ ≤ ((s.data.getD 0 0).toNat : Int); omega) (by show ((s.data.getD 0 0).toNat : Int) < _; omega)
  by_cases hb : secB s = 0
  · have hK : secK s c d m = ⟨secB s, d, c.extract m.toNat c.size⟩ := if_pos hb
    rw [hK]
    cases ok
    · rw [pb_f.mpr (fun q => nomatch q.1)]
      refine ret_of (nt := 59) (rvs := [.cell 2 52, .tmp 3, .tmp 4]) Try.func62 rfl rfl rfl rfl (fun X => ?_)
      repeat' (first | omega | (with_reducible show (_ : Int) < _; dsimp only; omega) | (with_reducible show (_ : Nat) ≤ _; dsimp only; omega) | ((with_reducible show SrcOk _ _ _) <;> (first | exact srcOk_1 rfl | exact srcOk_L (fun _ => ⟨rfl, rfl⟩) | exact srcOk_E (fun _ => ⟨rfl, rfl⟩))) | ((conv => whnf) <;> (first | (exact absurd ‹s = _› hz) | (exact absurd hb ‹_›) | (exact absurd ‹secB s = 0› hb) | rw [hq] | rw [hw] | refine And.intro ?_ ?_ | (intro _h; first | contradiction | (try simp only [dd] at _h)) | (refine dt_go ?_) | exact rfl | exact True.intro | exact dkk | exact dks | ((first | refine .inl ⟨_, hG, ?_⟩ | refine ⟨_, hG, ?_⟩); (try rintro _ rfl)) | ((first | refine .inl ⟨_, hH, ?_⟩ | refine ⟨_, hH, ?_⟩); (try rintro _ rfl)) | ((first | refine .inl ⟨_, hS ⟨secB s, d, c.extract m.toNat c.size⟩, ?_⟩ | refine ⟨_, hS ⟨secB s, d, c.extract m.toNat c.size⟩, ?_⟩); (try rintro _ rfl)) | (refine wrap_succ ?_; omega))))
    cases fine
    · rw [pb_f.mpr (fun q => nomatch q.2.1 hb)]
      refine ret_of (nt := 59) (rvs := [.cell 2 52, .tmp 3, .tmp 4]) Try.func62 rfl rfl rfl rfl (fun X => ?_)
      repeat' (first | omega | (with_reducible show (_ : Int) < _; dsimp only; omega) | (with_reducible show (_ : Nat) ≤ _; dsimp only; omega) | ((with_reducible show SrcOk _ _ _) <;> (first | exact srcOk_1 rfl | exact srcOk_L (fun _ => ⟨rfl, rfl⟩) | exact srcOk_E (fun _ => ⟨rfl, rfl⟩))) | ((conv => whnf) <;> (first | (exact absurd ‹s = _› hz) | (exact absurd hb ‹_›) | (exact absurd ‹secB s = 0› hb) | rw [hq] | rw [hw] | refine And.intro ?_ ?_ | (intro _h; first | contradiction | (try simp only [dd] at _h)) | (refine dt_go ?_) | exact rfl | exact True.intro | exact dkk | exact dks | ((first | refine .inl ⟨_, hG, ?_⟩ | refine ⟨_, hG, ?_⟩); (try rintro _ rfl)) | ((first | refine .inl ⟨_, hH, ?_⟩ | refine ⟨_, hH, ?_⟩); (try rintro _ rfl)) | ((first | refine .inl ⟨_, hS ⟨secB s, d, c.extract m.toNat c.size⟩, ?_⟩ | refine ⟨_, hS ⟨secB s, d, c.extract m.toNat c.size⟩, ?_⟩); (try rintro _ rfl)) | (refine wrap_succ ?_; omega))))
    by_cases ho : okSec ⟨secB s, d, c.extract m.toNat c.size⟩
    · rw [pb_t.mpr ⟨rfl, fun _ => rfl, ho⟩]
      have hS' := hS ⟨secB s, d, c.extract m.toNat c.size⟩
      rw [pb_t.mpr ho] at hS'
      refine ret_of (nt := 59) (rvs := [.cell 2 52, .tmp 3, .tmp 4]) Try.func62 rfl rfl rfl rfl (fun X => ?_)
      repeat' (first | omega | (with_reducible show (_ : Int) < _; dsimp only; omega) | (with_reducible show (_ : Nat) ≤ _; dsimp only; omega) | ((with_reducible show SrcOk _ _ _) <;> (first | exact srcOk_1 rfl | exact srcOk_L (fun _ => ⟨rfl, rfl⟩) | exact srcOk_E (fun _ => ⟨rfl, rfl⟩))) | ((conv => whnf) <;> (first | (exact absurd ‹s = _› hz) | (exact absurd hb ‹_›) | (exact absurd ‹secB s = 0› hb) | rw [hq] | rw [hw] | refine And.intro ?_ ?_ | (intro _h; first | contradiction | (try simp only [dd] at _h)) | (refine dt_go ?_) | exact rfl | exact True.intro | exact dkk | exact dks | ((first | refine .inl ⟨_, hG, ?_⟩ | refine ⟨_, hG, ?_⟩); (try rintro _ rfl)) | ((first | refine .inl ⟨_, hH, ?_⟩ | refine ⟨_, hH, ?_⟩); (try rintro _ rfl)) | ((first | refine .inl ⟨_, hS', ?_⟩ | refine ⟨_, hS', ?_⟩); (try rintro _ rfl)) | (refine wrap_succ ?_; omega))))
    · rw [pb_f.mpr (fun q => ho q.2.2)]
      have hS' := hS ⟨secB s, d, c.extract m.toNat c.size⟩
      rw [pb_f.mpr ho] at hS'
      refine ret_of (nt := 59) (rvs := [.cell 2 52, .tmp 3, .tmp 4]) Try.func62 rfl rfl rfl rfl (fun X => ?_)
      repeat' (first | omega | (with_reducible show (_ : Int) < _; dsimp only; omega) | (with_reducible show (_ : Nat) ≤ _; dsimp only; omega) | ((with_reducible show SrcOk _ _ _) <;> (first | exact srcOk_1 rfl | exact srcOk_L (fun _ => ⟨rfl, rfl⟩) | exact srcOk_E (fun _ => ⟨rfl, rfl⟩))) | ((conv => whnf) <;> (first | (exact absurd ‹s = _› hz) | (exact absurd hb ‹_›) | (exact absurd ‹secB s = 0› hb) | rw [hq] | rw [hw] | refine And.intro ?_ ?_ | (intro _h; first | contradiction | (try simp only [dd] at _h)) | (refine dt_go ?_) | exact rfl | exact True.intro | exact dkk | exact dks | ((first | refine .inl ⟨_, hG, ?_⟩ | refine ⟨_, hG, ?_⟩); (try rintro _ rfl)) | ((first | refine .inl ⟨_, hH, ?_⟩ | refine ⟨_, hH, ?_⟩); (try rintro _ rfl)) | ((first | refine .inl ⟨_, hS', ?_⟩ | refine ⟨_, hS', ?_⟩); (try rintro _ rfl)) | (refine wrap_succ ?_; omega))))
  · have hK : secK s c d m = ⟨secB s, ⟨#[]⟩, c⟩ := if_neg hb
    rw [hK]
    cases ok
    · rw [pb_f.mpr (fun q => nomatch q.1)]
      refine ret_of (nt := 59) (rvs := [.cell 2 52, .tmp 3, .tmp 4]) Try.func62 rfl rfl rfl rfl (fun X => ?_)
      repeat' (first | omega | (with_reducible show (_ : Int) < _; dsimp only; omega) | (with_reducible show (_ : Nat) ≤ _; dsimp only; omega) | ((with_reducible show SrcOk _ _ _) <;> (first | exact srcOk_1 rfl | exact srcOk_L (fun _ => ⟨rfl, rfl⟩) | exact srcOk_E (fun _ => ⟨rfl, rfl⟩))) | ((conv => whnf) <;> (first | (exact absurd ‹s = _› hz) | (exact absurd hb ‹_›) | (exact absurd ‹secB s = 0› hb) | rw [hq] | rw [hw] | refine And.intro ?_ ?_ | (intro _h; first | contradiction | (try simp only [dd] at _h)) | (refine dt_go ?_) | exact rfl | exact True.intro | exact dkk | exact dks | ((first | refine .inl ⟨_, hG, ?_⟩ | refine ⟨_, hG, ?_⟩); (try rintro _ rfl)) | ((first | refine .inl ⟨_, hH, ?_⟩ | refine ⟨_, hH, ?_⟩); (try rintro _ rfl)) | ((first | refine .inl ⟨_, hS ⟨secB s, ⟨#[]⟩, c⟩, ?_⟩ | refine ⟨_, hS ⟨secB s, ⟨#[]⟩, c⟩, ?_⟩); (try rintro _ rfl)) | (refine wrap_succ ?_; omega))))
    by_cases ho : okSec ⟨secB s, ⟨#[]⟩, c⟩
    · rw [pb_t.mpr ⟨rfl, fun q => absurd q hb, ho⟩]
      have hS' := hS ⟨secB s, ⟨#[]⟩, c⟩
      rw [pb_t.mpr ho] at hS'
      refine ret_of (nt := 59) (rvs := [.cell 2 52, .tmp 3, .tmp 4]) Try.func62 rfl rfl rfl rfl (fun X => ?_)
      repeat' (first | omega | (with_reducible show (_ : Int) < _; dsimp only; omega) | (with_reducible show (_ : Nat) ≤ _; dsimp only; omega) | ((with_reducible show SrcOk _ _ _) <;> (first | exact srcOk_1 rfl | exact srcOk_L (fun _ => ⟨rfl, rfl⟩) | exact srcOk_E (fun _ => ⟨rfl, rfl⟩))) | ((conv => whnf) <;> (first | (exact absurd ‹s = _› hz) | (exact absurd hb ‹_›) | (exact absurd ‹secB s = 0› hb) | rw [hq] | rw [hw] | refine And.intro ?_ ?_ | (intro _h; first | contradiction | (try simp only [dd] at _h)) | (refine dt_go ?_) | exact rfl | exact True.intro | exact dkk | exact dks | ((first | refine .inl ⟨_, hG, ?_⟩ | refine ⟨_, hG, ?_⟩); (try rintro _ rfl)) | ((first | refine .inl ⟨_, hH, ?_⟩ | refine ⟨_, hH, ?_⟩); (try rintro _ rfl)) | ((first | refine .inl ⟨_, hS', ?_⟩ | refine ⟨_, hS', ?_⟩); (try rintro _ rfl)) | (refine wrap_succ ?_; omega))))
    · rw [pb_f.mpr (fun q => ho q.2.2)]
      have hS' := hS ⟨secB s, ⟨#[]⟩, c⟩
      rw [pb_f.mpr ho] at hS'
      refine ret_of (nt := 59) (rvs := [.cell 2 52, .tmp 3, .tmp 4]) Try.func62 rfl rfl rfl rfl (fun X => ?_)
      repeat' (first | omega | (with_reducible show (_ : Int) < _; dsimp only; omega) | (with_reducible show (_ : Nat) ≤ _; dsimp only; omega) | ((with_reducible show SrcOk _ _ _) <;> (first | exact srcOk_1 rfl | exact srcOk_L (fun _ => ⟨rfl, rfl⟩) | exact srcOk_E (fun _ => ⟨rfl, rfl⟩))) | ((conv => whnf) <;> (first | (exact absurd ‹s = _› hz) | (exact absurd hb ‹_›) | (exact absurd ‹secB s = 0› hb) | rw [hq] | rw [hw] | refine And.intro ?_ ?_ | (intro _h; first | contradiction | (try simp only [dd] at _h)) | (refine dt_go ?_) | exact rfl | exact True.intro | exact dkk | exact dks | ((first | refine .inl ⟨_, hG, ?_⟩ | refine ⟨_, hG, ?_⟩); (try rintro _ rfl)) | ((first | refine .inl ⟨_, hH, ?_⟩ | refine ⟨_, hH, ?_⟩); (try rintro _ rfl)) | ((first | refine .inl ⟨_, hS', ?_⟩ | refine ⟨_, hS', ?_⟩); (try rintro _ rfl)) | (refine wrap_succ ?_; omega))))
end
end
section
attribute [local irreducible] IntKind.wrap
theorem Wk.takeB {α : Type} [Inhabited α] {sz k : Nat} {c : α → List AV} {l : List α} {g : Nat → Nat → AV} (hk : k ≤ l.length) (hg : ∀ i j, g i j = (c (l.getD i default)).getD j .any) : Wk (.sl sz k g) (slL sz c (l.take k)) := by
  refine Wk.sl' rfl (by simp; omega) fun i j hi hj => .of ?_
  rw [hg]
  congr 2
  rw [List.getD_eq_getElem?_getD, List.getD_eq_getElem?_getD, List.getElem?_take, if_pos hi]
def imP (nm : ByteArray) (x : Import) : Bool := decide (x.name = nm)
def coP (nm : ByteArray) (x : Core) : Bool := decide (x.name = nm)
theorem imP_iff {nm : ByteArray} {l : List Import} : 0 ≤ idxI (l.findIdx? (imP nm)) ↔ nm ∈ l.map (·.name) := by
  have := idx_any l (imP nm)
  rw [Bool.eq_iff_iff, decide_eq_true_iff, List.any_eq_true] at this
  rw [this, List.mem_map]
  exact ⟨fun ⟨x, hx, he⟩ => ⟨x, hx, of_decide_eq_true he⟩, fun ⟨x, hx, he⟩ => ⟨x, hx, decide_eq_true he⟩⟩
theorem coP_iff {nm : ByteArray} {l : List Core} : 0 ≤ idxI (l.findIdx? (coP nm)) ↔ nm ∈ l.map (·.name) := by
  have := idx_any l (coP nm)
  rw [Bool.eq_iff_iff, decide_eq_true_iff, List.any_eq_true] at this
  rw [this, List.mem_map]
  exact ⟨fun ⟨x, hx, he⟩ => ⟨x, hx, of_decide_eq_true he⟩, fun ⟨x, hx, he⟩ => ⟨x, hx, decide_eq_true he⟩⟩
structure ImNo (l : List Import) (nm : ByteArray) (k : Nat) : Prop where
  h : ∀ j, j < k → imP nm (l.getD j default) = false
structure CoNo (l : List Core) (nm : ByteArray) (k : Nat) : Prop where
  h : ∀ j, j < k → coP nm (l.getD j default) = false
theorem ImNo.zero (l : List Import) (nm : ByteArray) : ImNo l nm 0 := ⟨fun j hj => absurd hj (Nat.not_lt_zero _)⟩
theorem CoNo.zero (l : List Core) (nm : ByteArray) : CoNo l nm 0 := ⟨fun j hj => absurd hj (Nat.not_lt_zero _)⟩
theorem ImNo.succ {l : List Import} {nm : ByteArray} {k : Nat} (h : ImNo l nm k) (hn : ¬ (l.getD k default).name = nm) : ImNo l nm (k + 1) := ⟨fun j hj => by
  rcases Nat.lt_or_ge j k with q | q
  · exact h.h j q
  · obtain rfl : j = k := by omega
    exact decide_eq_false hn⟩
theorem CoNo.succ {l : List Core} {nm : ByteArray} {k : Nat} (h : CoNo l nm k) (hn : ¬ (l.getD k default).name = nm) : CoNo l nm (k + 1) := ⟨fun j hj => by
  rcases Nat.lt_or_ge j k with q | q
  · exact h.h j q
  · obtain rfl : j = k := by omega
    exact decide_eq_false hn⟩
theorem l15ImportAt_ok (l : List Import) (nm : ByteArray) (hl : l.length ≤ 1048576) : Ret env.P 91 [slL 3 Import.cs l, .s nm] (fun r => r = .i .i64 (idxI (l.findIdx? (imP nm)))) := by
  refine ret_of (nt := 20) (rvs := [.tmp 4]) Try.func91 rfl rfl rfl rfl (fun X => ?_)
  repeat' (first | omega | (with_reducible show (_ : Int) < _; dsimp only; omega) | (with_reducible show (_ : Nat) ≤ _; dsimp only; omega) | ((with_reducible show SrcOk _ _ _) <;> (first | exact srcOk_1 rfl | exact srcOk_L (fun _ => ⟨rfl, rfl⟩) | exact srcOk_E (fun _ => ⟨rfl, rfl⟩))) | ((conv => whnf) <;> (first | refine loopN l.length (fun k => [(5, .i .i64 k)]) (fun k => []) (fun k => ImNo l nm k) ⟨.zero l nm, ?_⟩ | refine And.intro ?_ ?_ | (intro _h; first | contradiction | (try simp only [dd] at _h)) | (refine dt_go ?_) | exact rfl | exact True.intro | exact dkk | exact dks | (refine wrap_succ ?_; omega))))
  all_goals (try simp only [Int.toNat_natCast] at *)
  all_goals first
    | exact ImNo.succ ‹_› ‹_›
    | (conv => whnf
       exact leaf_i (idx_some (by omega) (decide_eq_true ‹_›) ‹ImNo l nm _›.h))
    | (conv => whnf
       exact leaf_i (idx_none fun j hj => ‹ImNo l nm _›.h j (by omega)))
    | trace_state
theorem l15CoreAt_ok (l : List Core) (nm : ByteArray) (hl : l.length ≤ 1048576) : Ret env.P 93 [slL 5 Core.cs l, .s nm] (fun r => r = .i .i64 (idxI (l.findIdx? (coP nm)))) := by
  refine ret_of (nt := 20) (rvs := [.tmp 4]) Try.func93 rfl rfl rfl rfl (fun X => ?_)
  repeat' (first | omega | (with_reducible show (_ : Int) < _; dsimp only; omega) | (with_reducible show (_ : Nat) ≤ _; dsimp only; omega) | ((with_reducible show SrcOk _ _ _) <;> (first | exact srcOk_1 rfl | exact srcOk_L (fun _ => ⟨rfl, rfl⟩) | exact srcOk_E (fun _ => ⟨rfl, rfl⟩))) | ((conv => whnf) <;> (first | refine loopN l.length (fun k => [(5, .i .i64 k)]) (fun k => []) (fun k => CoNo l nm k) ⟨.zero l nm, ?_⟩ | refine And.intro ?_ ?_ | (intro _h; first | contradiction | (try simp only [dd] at _h)) | (refine dt_go ?_) | exact rfl | exact True.intro | exact dkk | exact dks | (refine wrap_succ ?_; omega))))
  all_goals (try simp only [Int.toNat_natCast] at *)
  all_goals first
    | exact CoNo.succ ‹_› ‹_›
    | (conv => whnf
       exact leaf_i (idx_some (by omega) (decide_eq_true ‹_›) ‹CoNo l nm _›.h))
    | (conv => whnf
       exact leaf_i (idx_none fun j hj => ‹CoNo l nm _›.h j (by omega)))
    | trace_state
theorem Core.okc {c : Core} (h : c.ok) : c.code.length ≤ 1048576 := h.2.1
theorem core_no {c : Core} {k : Nat} (hw : CodeTo c.code k) (hk : k < c.code.length) (h : ¬ (c.code.getD k default).good = true) : ¬ c.good := fun q => h (q.2.hi.h k hk)
theorem core_yes {c : Core} {k : Nat} (hw : CodeTo c.code k) (hk : k = c.code.length) (h0 : wdB c.name) (h1 : 0 ≤ c.params ∧ c.params ≤ 8) (h2 : 0 ≤ c.locals ∧ c.locals ≤ 8) (h3 : c.code.length ≤ 120) : c.good := by
  subst hk
  exact ⟨h0, h1, h2, h3, hw⟩
theorem l15Core_ok (c : Core) (h : c.ok) : Ret env.P 92 [.agg c.cs] (fun r => r = .b (pb c.good)) := by
  have hs : c.name.size ≤ 1048576 := h.1
  have hl := Core.okc h
  refine ret_of (nt := 40) (rvs := [.tmp 2]) Try.func92 rfl rfl rfl rfl (fun X => ?_)
  repeat' (first | omega | (with_reducible show (_ : Int) < _; dsimp only; omega) | (with_reducible show (_ : Nat) ≤ _; dsimp only; omega) | ((with_reducible show SrcOk _ _ _) <;> (first | exact srcOk_1 rfl | exact srcOk_L (fun _ => ⟨rfl, rfl⟩) | exact srcOk_E (fun _ => ⟨rfl, rfl⟩))) | ((conv => whnf) <;> (first | refine loopN c.code.length (fun k => [(3, .i .i64 k)]) (fun k => []) (fun k => CodeTo c.code k) ⟨.zero _, ?_⟩ | refine And.intro ?_ ?_ | (intro _h; first | contradiction | (try simp only [dd] at _h)) | (refine dt_go ?_) | exact rfl | exact True.intro | exact dkk | exact dks | ((first | refine .inl ⟨_, l15Word_ok _ hs, ?_⟩ | refine ⟨_, l15Word_ok _ hs, ?_⟩); (try rintro _ rfl)) | ((first | refine .inl ⟨_, l00In_ok _ _ _, ?_⟩ | refine ⟨_, l00In_ok _ _ _, ?_⟩); (try rintro _ rfl)) | ((first | refine .inl ⟨_, l15Ins_ok _, ?_⟩ | refine ⟨_, l15Ins_ok _, ?_⟩); (try rintro _ rfl)) | (refine wrap_succ ?_; omega))))
  all_goals (try simp only [Int.toNat_natCast] at *)
  all_goals first
    | exact CodeTo.succ ‹_› (by simpa using ‹¬ _ = false›)
    | (conv => whnf
       exact leaf_f (core_no ‹CodeTo c.code _› (by omega) (by simpa using ‹_ = false›)))
    | (conv => whnf
       exact leaf_t (core_yes ‹CodeTo c.code _› (by omega) (Classical.not_not.1 ‹¬ ¬ wdB _›) ‹0 ≤ c.params ∧ _› ‹0 ≤ c.locals ∧ _› (by omega)))
    | (conv => whnf
       exact leaf_f (fun q => by first | exact absurd q.1 ‹¬ wdB _› | (have := q.2.hp; have := q.2.hl; have := q.2.hc; omega)))
    | trace_state
theorem first_of {p q : Prop} (h : p) (_ : q) : p := h
theorem im_no {m : Module} {k : Nat} (hw : ImTo m.imports k) (hk : k < m.imports.length) (h : (m.imports.getD k default).good → (m.imports.getD k default).name ∈ (m.imports.take k).map (·.name)) : ¬ m.good := fun q => by
  have := q.im.h k hk
  exact this.2 (h this.1)
theorem co_no {m : Module} {k : Nat} (hw : CoTo m.cores k) (hk : k < m.cores.length) (h : (m.cores.getD k default).good → (m.cores.getD k default).name ∈ (m.cores.take k).map (·.name)) : ¬ m.good := fun q => by
  have := q.co.h k hk
  exact this.2 (h this.1)
theorem mod_yes {m : Module} {k k' : Nat} (hw : ImTo m.imports k) (hk : k = m.imports.length) (hw' : CoTo m.cores k') (hk' : k' = m.cores.length) (hp : 1 ≤ m.pages ∧ m.pages ≤ 16) (h1 : m.imports.length ≤ 12) (h2 : m.cores.length ≤ 8) : m.good := by
  subst hk
  subst hk'
  exact ⟨hp, h1, h2, hw, hw'⟩
set_option maxHeartbeats 1000000 in
theorem l15Shape_ok (m : Module) (h : m.ok) : Ret env.P 85 [.agg m.cs] (fun r => r = .b (pb m.good)) := by
  have hi := h.1.1
  have hc := h.2.1
  have him : ∀ k, k < m.imports.length → (m.imports.getD k default).name.size ≤ 1048576 := fun k hk => h.1.2 k hk
  have hco : ∀ k, k < m.cores.length → (m.cores.getD k default).ok := fun k hk => h.2.2 k hk
  have ht : ∀ (k : Nat), ((m.imports.take k).length ≤ 1048576) := fun k => by rw [List.length_take]; omega
  have hu : ∀ (k : Nat), ((m.cores.take k).length ≤ 1048576) := fun k => by rw [List.length_take]; omega
  refine ret_of (nt := 82) (rvs := [.tmp 2]) Try.func85 rfl rfl rfl rfl (fun X => ?_)
  repeat' (first | omega | (with_reducible show (_ : Int) < _; dsimp only; omega) | (with_reducible show (_ : Nat) ≤ _; dsimp only; omega) | ((with_reducible show SrcOk _ _ _) <;> (first | exact srcOk_1 rfl | exact srcOk_L (fun _ => ⟨rfl, rfl⟩) | exact srcOk_E (fun _ => ⟨rfl, rfl⟩))) | ((conv => whnf) <;> (first | ((first | refine .inl ⟨_, Ret.wk (.cons (Wk.takeB (l := m.imports) (by omega) (fun _ _ => by simp only [Int.toNat_zero, Nat.zero_add])) (.cons (.refl _) .nil)) (l15ImportAt_ok (m.imports.take _) _ (ht _)), ?_⟩ | refine ⟨_, Ret.wk (.cons (Wk.takeB (l := m.imports) (by omega) (fun _ _ => by simp only [Int.toNat_zero, Nat.zero_add])) (.cons (.refl _) .nil)) (l15ImportAt_ok (m.imports.take _) _ (ht _)), ?_⟩); (try rintro _ rfl)) | ((first | refine .inl ⟨_, Ret.wk (.cons (Wk.takeB (l := m.cores) (by omega) (fun _ _ => by simp only [Int.toNat_zero, Nat.zero_add])) (.cons (.refl _) .nil)) (l15CoreAt_ok (m.cores.take _) _ (hu _)), ?_⟩ | refine ⟨_, Ret.wk (.cons (Wk.takeB (l := m.cores) (by omega) (fun _ _ => by simp only [Int.toNat_zero, Nat.zero_add])) (.cons (.refl _) .nil)) (l15CoreAt_ok (m.cores.take _) _ (hu _)), ?_⟩); (try rintro _ rfl)) | refine loopAt 3 m.imports.length (fun k => [(3, .i .i64 k)]) (fun k => []) (fun k => ImTo m.imports k) rfl ⟨.zero _, ?_⟩ | refine loopAt 5 m.cores.length (fun k => [(5, .i .i64 k)]) (fun k => []) (fun k => CoTo m.cores k) rfl ⟨.zero _, ?_⟩ | refine And.intro ?_ ?_ | (intro _h; first | contradiction | (try simp only [dd] at _h)) | (refine dt_go ?_) | exact rfl | exact True.intro | exact dkk | exact dks | ((first | refine .inl ⟨_, l15Word_ok _ (him _ (by omega)), ?_⟩ | refine ⟨_, l15Word_ok _ (him _ (by omega)), ?_⟩); (try rintro _ rfl)) | ((first | refine .inl ⟨_, l00In_ok _ _ _, ?_⟩ | refine ⟨_, l00In_ok _ _ _, ?_⟩); (try rintro _ rfl)) | ((first | refine .inl ⟨_, l15Core_ok _ (hco _ (by omega)), ?_⟩ | refine ⟨_, l15Core_ok _ (hco _ (by omega)), ?_⟩); (try rintro _ rfl)) | (refine wrap_succ ?_; omega))))
  all_goals (try simp only [Int.toNat_natCast, Int.sub_zero, imP_iff, coP_iff, Classical.not_not] at *)
  all_goals first
    | exact ImTo.succ ‹_› ⟨‹wdB _›, ‹_ ∧ _›⟩ ‹_›
    | exact CoTo.succ ‹_› ‹_› ‹_›
    | (conv => whnf
       exact leaf_f (co_no ‹CoTo m.cores _› (by omega) (fun q => first_of ‹_› q)))
    | (conv => whnf
       exact leaf_f (co_no ‹CoTo m.cores _› (by omega) (fun q => absurd q ‹_›)))
    | (conv => whnf
       exact leaf_t (mod_yes ‹ImTo m.imports _› (by omega) ‹CoTo m.cores _› (by omega) ‹1 ≤ m.pages ∧ _› (by omega) (by omega)))
    | (conv => whnf
       exact leaf_f (im_no ‹ImTo m.imports _› (by omega) (fun q => first_of ‹_› q)))
    | (conv => whnf
       exact leaf_f (im_no ‹ImTo m.imports _› (by omega) (fun q => absurd q.1 ‹_›)))
    | (conv => whnf
       exact leaf_f (im_no ‹ImTo m.imports _› (by omega) (fun q => absurd q.2 ‹_›)))
    | (conv => whnf
       exact leaf_f (fun q => by first | exact absurd q.pages ‹_› | (have := q.li; have := q.lc; omega)))
    | trace_state
theorem shapeS_ok (m : Module) (h : m.ok) : Ret env.P 76 [.agg m.cs] (fun r => r = .b (pb m.good)) := by
  refine ret_of (nt := 5) (rvs := [.tmp 2]) Try.func76 rfl rfl rfl rfl (fun X => ?_)
  repeat' (first | omega | (with_reducible show (_ : Int) < _; dsimp only; omega) | (with_reducible show (_ : Nat) ≤ _; dsimp only; omega) | ((with_reducible show SrcOk _ _ _) <;> (first | exact srcOk_1 rfl | exact srcOk_L (fun _ => ⟨rfl, rfl⟩) | exact srcOk_E (fun _ => ⟨rfl, rfl⟩))) | ((conv => whnf) <;> (first | refine And.intro ?_ ?_ | (intro _h; first | contradiction | (try simp only [dd] at _h)) | (refine dt_go ?_) | exact rfl | exact True.intro | exact dkk | exact dks | ((first | refine .inl ⟨_, l15Shape_ok m h, ?_⟩ | refine ⟨_, l15Shape_ok m h, ?_⟩); (try rintro _ rfl)) | (refine wrap_succ ?_; omega))))
end
section
attribute [local irreducible] IntKind.wrap
theorem strE_app (b c : ByteArray) (i j : Nat) : catE b.size (strE b) (strE c) i j = strE (b ++ c) i j := by
  rw [catE_at]
  unfold strE
  rw [ByteArray.data_append, Array.getD_eq_getD_getElem?, Array.getD_eq_getD_getElem?, Array.getD_eq_getD_getElem?, Array.getElem?_append]
  split
  · rename_i h
    rw [if_pos (show i < b.data.size from h)]
  · rename_i h
    rw [if_neg (show ¬ i < b.data.size from h)]
    rfl
theorem strE_appO (b c : ByteArray) : ∀ i j, i < b.size + c.size → j < 1 → OwEq (catE b.size (strE b) (strE c) i j) (strE (b ++ c) i j) := fun i j _ _ => by
  rw [strE_app]
  exact .refl _
theorem size_app (b c : ByteArray) : (b ++ c).size = b.size + c.size := ByteArray.size_append
theorem bytes_strE (b : ByteArray) : Bytes b.size (strE b) := ⟨fun i hi => ⟨_, rfl⟩⟩
theorem bytesOf_strE (b : ByteArray) : bytesOf b.size (strE b) = b := by
  have h : bytesOf b.size (strE b) = bytesOf (bsN b).length (elE u8C (bsN b)) := by
    rw [bsN_len]
    refine bytesOf_eq fun i hi => ?_
    show AV.i .u8 ((b.data.getD i 0).toNat : Int) = _
    rw [← bsN_at]
    rfl
  rw [h, bytesOf_u8, baN_bs]
theorem arr_str {r : List Nat} {n : Nat} {b b' : ByteArray} (e : b' = b) : ArrP r n ⟨1, b'.size, strE b', .arr⟩ ⟨1, b.size, strE b, .arr⟩ := by
  subst e
  exact ⟨rfl, rfl, rfl, fun i j hi hj => rfl, fun i j _ _ => rfl⟩
structure StS where
  k : Nat
  b : ByteArray
structure BbI (l : List Ins) (y : StS) : Prop where
  hk : y.k ≤ l.length
  hb : y.b = baN (lebL l.length ++ (l.take y.k).flatMap Ins.by)
theorem fm_take {α : Type} [Inhabited α] {f : α → List Nat} {l : List α} {k : Nat} (h : k < l.length) : (l.take (k + 1)).flatMap f = (l.take k).flatMap f ++ f (l.getD k default) := by
  rw [List.take_add_one, List.getElem?_eq_getElem h, List.flatMap_append, List.getD_eq_getElem?_getD, List.getElem?_eq_getElem h]
  simp
theorem BbI.zero (l : List Ins) : BbI l ⟨0, baN (lebL l.length)⟩ := ⟨Nat.zero_le _, by simp⟩
theorem BbI.next {l : List Ins} {y : StS} (h : BbI l y) (hk : y.k < l.length) : BbI l ⟨y.k + 1, y.b ++ baN (l.getD y.k default).by⟩ := ⟨hk, by
  dsimp only
  rw [h.hb, baN_app, fm_take hk, List.append_assoc]⟩
theorem BbI.size {l : List Ins} {y : StS} (h : BbI l y) (hl : l.length ≤ 120) : y.b.size ≤ 2000 := by
  have h1 := fm_len (f := Ins.by) (k := 11) (l := l.take y.k) fun x _ => x.by_len
  have h2 := lb_small (n := l.length) (by omega)
  rw [List.length_take] at h1
  rw [h.hb, baN_size, List.length_append]
  omega
theorem BbI.last {l : List Ins} {y : StS} (h : BbI l y) (hk : ¬ (y.k : Int) < (l.length : Int)) : y.b = baN (bodyN l) := by
  have := h.hk
  rw [h.hb, show y.k = l.length by omega, List.take_length]
  rfl
theorem by_size (i : Ins) : (baN i.by).size ≤ 2000 := by
  rw [baN_size]
  have := i.by_len
  omega
theorem ap_cap {a b : Nat} (h : a ≤ 2000) (h' : b ≤ 2000) : (a + b) * 1 ≤ 140737488355328 := by omega
theorem ap_len {a b : Nat} (h : a ≤ 2000) (h' : b ≤ 2000) : a + b ≤ 9223372036854775807 := by omega
set_option maxHeartbeats 4000000 in
theorem bodyM_spec (l : List Ins) (hl : l.length ≤ 120) (hg : CodeTo l l.length) : RetM env.P 29 [] [slL 2 Ins.cs l] (fun r H => r = .s (baN (bodyN l)) ∧ H = []) := by
  have hP : Ret env.P 53 [.i .i64 (l.length : Int)] (fun r => r = .s (baN (lebL l.length))) := (putLeb_spec l.length (by omega)).toRet
  have hO : ∀ k, k < l.length → Ret env.P 54 [.agg (l.getD k default).cs] (fun r => r = .b true) := fun k hk => by
    have := insOk_spec (l.getD k default)
    rwa [hg.h k hk] at this
  refine ret_ofPM (nt := 33) (rvs := [.tmp 2]) Try.func29 rfl rfl rfl rfl (fun X hX => ?_)
  refine pw_cut 3 (fun _ : Unit => True) (fun _ => [(0, slL 2 Ins.cs l), (3, .row 0 (baN (lebL l.length)).size)]) (fun _ => [some ⟨1, (baN (lebL l.length)).size, strE (baN (lebL l.length)), .arr⟩]) ?_ (fun _ _ => ?_)
  · repeat' (first | omega | (with_reducible show (_ : Int) < _; dsimp only; omega) | (with_reducible show (_ : Nat) ≤ _; dsimp only; omega) | ((with_reducible show SrcOk _ _ _) <;> (first | exact srcOk_1 rfl | exact srcOk_L (fun _ => ⟨rfl, rfl⟩) | exact srcOk_E (fun _ => ⟨rfl, rfl⟩))) | ((conv => whnf) <;> (first | refine And.intro ?_ ?_ | (intro _h; first | contradiction | (try simp only [dd] at _h)) | (refine dt_go ?_) | exact rfl | exact True.intro | exact dkk | exact dks | ((first | refine .inl ⟨_, hP, ?_⟩ | refine ⟨_, hP, ?_⟩); (try rintro _ rfl)) | (refine wrap_succ ?_; omega))))
    all_goals (first | (exfalso; omega) | skip)
    conv => whnf
    refine cut_turn (turn_eq (id := 0) (x := ⟨1, (baN (lebL l.length)).size, strE (baN (lebL l.length)), .arr⟩) rfl rfl rfl rfl rfl (fun i j _ _ => .refl _)) ?_
    exact cut_go () trivial (by repeat' (first | exact trivial | refine And.intro rfl ?_)) (by repeat' (first | exact trivial | refine And.intro (.inl rfl) ?_ | refine And.intro (.inr rfl) ?_ | refine And.intro rfl ?_))
  refine wpc_ok _ _ _ _ ?_
  (try dsimp only)
  conv => whnf
  refine loopFT (fun y : StS => [(4, .i .i64 (y.k : Int)), (3, .row 0 y.b.size)]) (fun y => [some (.arr ⟨1, y.b.size, strE y.b, .arr⟩)]) (fun y => BbI l y) (fun y => l.length - y.k) ⟨0, baN (lebL l.length)⟩ ⟨.zero l, ?_⟩
  repeat' (first | omega | (with_reducible show (_ : Int) < _; dsimp only; omega) | (with_reducible show (_ : Nat) ≤ _; dsimp only; omega) | ((with_reducible show SrcOk _ _ _) <;> (first | exact srcOk_1 rfl | exact srcOk_L (fun _ => ⟨rfl, rfl⟩) | exact srcOk_E (fun _ => ⟨rfl, rfl⟩))) | ((conv => whnf) <;> (first | exact arr_str rfl | exact ap_cap ((‹BbI l _›).size hl) (by_size _) | exact ap_len ((‹BbI l _›).size hl) (by_size _) | exact bytes_strE _ | refine And.intro ?_ ?_ | (intro _h; first | contradiction | (try simp only [dd] at _h)) | (refine dt_go ?_) | exact rfl | exact True.intro | exact dkk | exact dks | ((first | refine .inl ⟨_, hO _ (by omega), ?_⟩ | refine ⟨_, hO _ (by omega), ?_⟩); (try rintro _ rfl)) | ((first | refine .inl ⟨_, insBytes_spec _, ?_⟩ | refine ⟨_, insBytes_spec _, ?_⟩); (try rintro _ rfl)) | (refine wrap_succ ?_; omega))))
  · rename_i y hy _
    conv => whnf
    refine roundET_turn (turn_eq (id := 1) (x := ⟨1, (y.b ++ baN (l.getD y.k default).by).size, strE (y.b ++ baN (l.getD y.k default).by), .arr⟩) rfl rfl (size_app _ _) rfl rfl (strE_appO _ _)) ?_
    refine roundET_end ?_
    refine ⟨⟨y.k + 1, y.b ++ baN (l.getD y.k default).by⟩, [1], hy.next (by omega), ?_, ?_⟩
    · dsimp only; omega
    repeat' (first | omega | (with_reducible show (_ : Int) < _; dsimp only; omega) | (with_reducible show (_ : Nat) ≤ _; dsimp only; omega) | ((with_reducible show SrcOk _ _ _) <;> (first | exact srcOk_1 rfl | exact srcOk_L (fun _ => ⟨rfl, rfl⟩) | exact srcOk_E (fun _ => ⟨rfl, rfl⟩))) | ((conv => whnf) <;> (first | exact arr_str rfl | exact (size_app _ _).symm | (have := ‹BbI l _›.hk; exact wrap_in (by omega) (by omega)) | exact lbz_rho hX ‹_› | refine And.intro ?_ ?_ | (intro _h; first | contradiction | (try simp only [dd] at _h)) | (refine dt_go ?_) | exact rfl | exact True.intro | exact dkk | exact dks | (refine wrap_succ ?_; omega))))
  · rename_i y hy
    conv => whnf
    exact endM_pick [] [] (.s _) (view_of rfl .nil) rfl rfl (fun k hk => by rw [hX] at hk; exact absurd hk (Nat.not_lt_zero _)) ⟨congrArg AV.s ((bytesOf_strE _).trans (hy.last _h)), rfl⟩
end
end Go.Proofs.Ytdeledeopippfaa
