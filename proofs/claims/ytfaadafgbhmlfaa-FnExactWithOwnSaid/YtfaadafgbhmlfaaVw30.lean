/- Texts for VWithOwnP. -/
import Derived.Test.YtfaadafgbhmlfaaVw29
namespace Go.Proofs.Ytfaadafgbhmlfaa
open Go Go.RowKit
set_option linter.unusedVariables false
set_option linter.unusedSimpArgs false
section
attribute [local irreducible] IntKind.wrap
def secB (s : ByteArray) : Int := ((s.data.getD 0 0).toNat : Int)
def secG (s : ByteArray) : ByteArray × Int × Bool := gbB (s.extract 1 s.size)
def secX (s : ByteArray) : Section := if secB s = 0 then ⟨secB s, (gbB (secG s).1).1, (secG s).1.extract (gbB (secG s).1).2.1.toNat (secG s).1.size⟩ else ⟨secB s, ⟨#[]⟩, (secG s).1⟩
structure secF (s : ByteArray) : Prop where
  g : (secG s).2.2 = true
  h : secB s = 0 → (gbB (secG s).1).2.2 = true
  ok : okSec (secX s)
def secT (s : ByteArray) : ByteArray := s.extract (1 + (secG s).2.1).toNat s.size
open Classical in
noncomputable def secs : Nat → ByteArray → List Section → Option (List Section)
  | 0, s, acc => if s.size = 0 then some acc else none
  | n + 1, s, acc => if s.size = 0 then some acc else if secF s then secs n (secT s) (acc ++ [secX s]) else none
theorem gbB_rng (s : ByteArray) : 0 ≤ (gbB s).2.1 ∧ (gbB s).2.1 ≤ s.size ∧ (gbB s).1.size ≤ s.size := by
  obtain ⟨r1, r2, r3, r4⟩ := getL_rng s
  by_cases h : (getL s).2.2 = true ∧ (getL s).1 ≤ (s.size : Int) - (getL s).2.1
  · rw [gb_ok h.1 h.2]
    refine ⟨by show 0 ≤ (getL s).2.1 + (getL s).1; omega, by show (getL s).2.1 + (getL s).1 ≤ _; omega, ?_⟩
    show (s.extract _ _).size ≤ _
    rw [ByteArray.size_extract]
    omega
  · rw [gb_no h]
    exact ⟨Int.le_refl _, by show (0 : Int) ≤ s.size; omega, Nat.zero_le _⟩
theorem secG_rng {s : ByteArray} (h : 1 ≤ s.size) : 0 ≤ (secG s).2.1 ∧ (secG s).2.1 + 1 ≤ s.size ∧ (secG s).1.size + 1 ≤ s.size := by
  obtain ⟨h1, h2, h3⟩ := gbB_rng (s.extract 1 s.size)
  rw [ByteArray.size_extract] at h2 h3
  unfold secG
  omega
theorem secX_0 {s : ByteArray} (h : secB s = 0) : secX s = ⟨secB s, (gbB (secG s).1).1, (secG s).1.extract (gbB (secG s).1).2.1.toNat (secG s).1.size⟩ := if_pos h
theorem secX_1 {s : ByteArray} (h : ¬ secB s = 0) : secX s = ⟨secB s, ⟨#[]⟩, (secG s).1⟩ := if_neg h
def secV (x : Section) (n : Int) (b : Bool) : AV := .tup [.agg x.cs, .i .i64 n, .b b]
def secK (s c d : ByteArray) (m : Int) : Section := if secB s = 0 then ⟨secB s, d, c.extract m.toNat c.size⟩ else ⟨secB s, ⟨#[]⟩, c⟩
section
attribute [local irreducible] gbB secG okSec
set_option maxRecDepth 8000 in
set_option maxHeartbeats 2000000 in
theorem l17Read_w (s : ByteArray) (hs : s.size ≤ 1048576) (h0 : 1 ≤ s.size) (c : ByteArray) (n : Int) (ok : Bool) (hG : Ret env.P 30 [.s (s.extract 1 s.size)] (fun r => r = gbR (c, n, ok))) (q1 : 0 ≤ n) (q2 : n ≤ 1048576) (d : ByteArray) (m : Int) (fine : Bool) (hH : Ret env.P 30 [.s c] (fun r => r = gbR (d, m, fine))) (p1 : 0 ≤ m) (p2 : m ≤ c.size) :
    Ret env.P 16 [.s s] (fun r => r = bif pb (ok = true ∧ (secB s = 0 → fine = true) ∧ okSec (secK s c d m)) then secV (secK s c d m) (1 + n) true else secV default 0 false) := by
  have hz : ¬ s = ⟨#[]⟩ := fun e => by rw [e] at h0; exact absurd h0 (by decide)
  have hw : IntKind.i64.wrap (1 + n) = 1 + n := wr64 (by omega) (by omega)
  have hS := fun x => l17Section_ok x
  have hlt := UInt8.toNat_lt (s.data.getD 0 0)
  have hq : IntKind.i64.wrap ((s.data.getD (Int.toNat 0) 0).toNat : Int) = secB s := wr64 (by show _ ≤ ((s.data.getD 0 0).toNat : Int); omega) (by show ((s.data.getD 0 0).toNat : Int) < _; omega)
  by_cases hb : secB s = 0
  · have hK : secK s c d m = ⟨secB s, d, c.extract m.toNat c.size⟩ := if_pos hb
    rw [hK]
    cases ok
    · rw [pb_f.mpr (fun q => nomatch q.1)]
      refine ret_of (nt := 59) (rvs := [.cell 2 31, .tmp 3, .tmp 4]) Try.func16 rfl rfl rfl rfl (fun X => ?_)
      repeat' (first | omega | (with_reducible show (_ : Int) < _; dsimp only; omega) | (with_reducible show (_ : Nat) ≤ _; dsimp only; omega) | ((with_reducible show SrcOk _ _ _) <;> (first | exact srcOk_1 rfl | exact srcOk_L (fun _ => ⟨rfl, rfl⟩) | exact srcOk_E (fun _ => ⟨rfl, rfl⟩))) | ((conv => whnf) <;> (first | (exact absurd ‹s = _› hz) | (exact absurd hb ‹_›) | (exact absurd ‹secB s = 0› hb) | rw [hq] | rw [hw] | refine And.intro ?_ ?_ | (intro _h; first | contradiction | (try simp only [dd] at _h)) | (refine dt_go ?_) | exact rfl | exact True.intro | exact dkk | exact dks | ((first | refine .inl ⟨_, hG, ?_⟩ | refine ⟨_, hG, ?_⟩); (try rintro _ rfl)) | ((first | refine .inl ⟨_, hH, ?_⟩ | refine ⟨_, hH, ?_⟩); (try rintro _ rfl)) | ((first | refine .inl ⟨_, hS ⟨secB s, d, c.extract m.toNat c.size⟩, ?_⟩ | refine ⟨_, hS ⟨secB s, d, c.extract m.toNat c.size⟩, ?_⟩); (try rintro _ rfl)) | (refine wrap_succ ?_; omega))))
    cases fine
    · rw [pb_f.mpr (fun q => nomatch q.2.1 hb)]
      refine ret_of (nt := 59) (rvs := [.cell 2 31, .tmp 3, .tmp 4]) Try.func16 rfl rfl rfl rfl (fun X => ?_)
      repeat' (first | omega | (with_reducible show (_ : Int) < _; dsimp only; omega) | (with_reducible show (_ : Nat) ≤ _; dsimp only; omega) | ((with_reducible show SrcOk _ _ _) <;> (first | exact srcOk_1 rfl | exact srcOk_L (fun _ => ⟨rfl, rfl⟩) | exact srcOk_E (fun _ => ⟨rfl, rfl⟩))) | ((conv => whnf) <;> (first | (exact absurd ‹s = _› hz) | (exact absurd hb ‹_›) | (exact absurd ‹secB s = 0› hb) | rw [hq] | rw [hw] | refine And.intro ?_ ?_ | (intro _h; first | contradiction | (try simp only [dd] at _h)) | (refine dt_go ?_) | exact rfl | exact True.intro | exact dkk | exact dks | ((first | refine .inl ⟨_, hG, ?_⟩ | refine ⟨_, hG, ?_⟩); (try rintro _ rfl)) | ((first | refine .inl ⟨_, hH, ?_⟩ | refine ⟨_, hH, ?_⟩); (try rintro _ rfl)) | ((first | refine .inl ⟨_, hS ⟨secB s, d, c.extract m.toNat c.size⟩, ?_⟩ | refine ⟨_, hS ⟨secB s, d, c.extract m.toNat c.size⟩, ?_⟩); (try rintro _ rfl)) | (refine wrap_succ ?_; omega))))
    by_cases ho : okSec ⟨secB s, d, c.extract m.toNat c.size⟩
    · rw [pb_t.mpr ⟨rfl, fun _ => rfl, ho⟩]
      have hS' := hS ⟨secB s, d, c.extract m.toNat c.size⟩
      rw [pb_t.mpr ho] at hS'
      refine ret_of (nt := 59) (rvs := [.cell 2 31, .tmp 3, .tmp 4]) Try.func16 rfl rfl rfl rfl (fun X => ?_)
      repeat' (first | omega | (with_reducible show (_ : Int) < _; dsimp only; omega) | (with_reducible show (_ : Nat) ≤ _; dsimp only; omega) | ((with_reducible show SrcOk _ _ _) <;> (first | exact srcOk_1 rfl | exact srcOk_L (fun _ => ⟨rfl, rfl⟩) | exact srcOk_E (fun _ => ⟨rfl, rfl⟩))) | ((conv => whnf) <;> (first | (exact absurd ‹s = _› hz) | (exact absurd hb ‹_›) | (exact absurd ‹secB s = 0› hb) | rw [hq] | rw [hw] | refine And.intro ?_ ?_ | (intro _h; first | contradiction | (try simp only [dd] at _h)) | (refine dt_go ?_) | exact rfl | exact True.intro | exact dkk | exact dks | ((first | refine .inl ⟨_, hG, ?_⟩ | refine ⟨_, hG, ?_⟩); (try rintro _ rfl)) | ((first | refine .inl ⟨_, hH, ?_⟩ | refine ⟨_, hH, ?_⟩); (try rintro _ rfl)) | ((first | refine .inl ⟨_, hS', ?_⟩ | refine ⟨_, hS', ?_⟩); (try rintro _ rfl)) | (refine wrap_succ ?_; omega))))
    · rw [pb_f.mpr (fun q => ho q.2.2)]
      have hS' := hS ⟨secB s, d, c.extract m.toNat c.size⟩
      rw [pb_f.mpr ho] at hS'
      refine ret_of (nt := 59) (rvs := [.cell 2 31, .tmp 3, .tmp 4]) Try.func16 rfl rfl rfl rfl (fun X => ?_)
      repeat' (first | omega | (with_reducible show (_ : Int) < _; dsimp only; omega) | (with_reducible show (_ : Nat) ≤ _; dsimp only; omega) | ((with_reducible show SrcOk _ _ _) <;> (first | exact srcOk_1 rfl | exact srcOk_L (fun _ => ⟨rfl, rfl⟩) | exact srcOk_E (fun _ => ⟨rfl, rfl⟩))) | ((conv => whnf) <;> (first | (exact absurd ‹s = _› hz) | (exact absurd hb ‹_›) | (exact absurd ‹secB s = 0› hb) | rw [hq] | rw [hw] | refine And.intro ?_ ?_ | (intro _h; first | contradiction | (try simp only [dd] at _h)) | (refine dt_go ?_) | exact rfl | exact True.intro | exact dkk | exact dks | ((first | refine .inl ⟨_, hG, ?_⟩ | refine ⟨_, hG, ?_⟩); (try rintro _ rfl)) | ((first | refine .inl ⟨_, hH, ?_⟩ | refine ⟨_, hH, ?_⟩); (try rintro _ rfl)) | ((first | refine .inl ⟨_, hS', ?_⟩ | refine ⟨_, hS', ?_⟩); (try rintro _ rfl)) | (refine wrap_succ ?_; omega))))
  · have hK : secK s c d m = ⟨secB s, ⟨#[]⟩, c⟩ := if_neg hb
    rw [hK]
    cases ok
    · rw [pb_f.mpr (fun q => nomatch q.1)]
      refine ret_of (nt := 59) (rvs := [.cell 2 31, .tmp 3, .tmp 4]) Try.func16 rfl rfl rfl rfl (fun X => ?_)
      repeat' (first | omega | (with_reducible show (_ : Int) < _; dsimp only; omega) | (with_reducible show (_ : Nat) ≤ _; dsimp only; omega) | ((with_reducible show SrcOk _ _ _) <;> (first | exact srcOk_1 rfl | exact srcOk_L (fun _ => ⟨rfl, rfl⟩) | exact srcOk_E (fun _ => ⟨rfl, rfl⟩))) | ((conv => whnf) <;> (first | (exact absurd ‹s = _› hz) | (exact absurd hb ‹_›) | (exact absurd ‹secB s = 0› hb) | rw [hq] | rw [hw] | refine And.intro ?_ ?_ | (intro _h; first | contradiction | (try simp only [dd] at _h)) | (refine dt_go ?_) | exact rfl | exact True.intro | exact dkk | exact dks | ((first | refine .inl ⟨_, hG, ?_⟩ | refine ⟨_, hG, ?_⟩); (try rintro _ rfl)) | ((first | refine .inl ⟨_, hH, ?_⟩ | refine ⟨_, hH, ?_⟩); (try rintro _ rfl)) | ((first | refine .inl ⟨_, hS ⟨secB s, ⟨#[]⟩, c⟩, ?_⟩ | refine ⟨_, hS ⟨secB s, ⟨#[]⟩, c⟩, ?_⟩); (try rintro _ rfl)) | (refine wrap_succ ?_; omega))))
    by_cases ho : okSec ⟨secB s, ⟨#[]⟩, c⟩
    · rw [pb_t.mpr ⟨rfl, fun q => absurd q hb, ho⟩]
      have hS' := hS ⟨secB s, ⟨#[]⟩, c⟩
      rw [pb_t.mpr ho] at hS'
      refine ret_of (nt := 59) (rvs := [.cell 2 31, .tmp 3, .tmp 4]) Try.func16 rfl rfl rfl rfl (fun X => ?_)
      repeat' (first | omega | (with_reducible show (_ : Int) < _; dsimp only; omega) | (with_reducible show (_ : Nat) ≤ _; dsimp only; omega) | ((with_reducible show SrcOk _ _ _) <;> (first | exact srcOk_1 rfl | exact srcOk_L (fun _ => ⟨rfl, rfl⟩) | exact srcOk_E (fun _ => ⟨rfl, rfl⟩))) | ((conv => whnf) <;> (first | (exact absurd ‹s = _› hz) | (exact absurd hb ‹_›) | (exact absurd ‹secB s = 0› hb) | rw [hq] | rw [hw] | refine And.intro ?_ ?_ | (intro _h; first | contradiction | (try simp only [dd] at _h)) | (refine dt_go ?_) | exact rfl | exact True.intro | exact dkk | exact dks | ((first | refine .inl ⟨_, hG, ?_⟩ | refine ⟨_, hG, ?_⟩); (try rintro _ rfl)) | ((first | refine .inl ⟨_, hH, ?_⟩ | refine ⟨_, hH, ?_⟩); (try rintro _ rfl)) | ((first | refine .inl ⟨_, hS', ?_⟩ | refine ⟨_, hS', ?_⟩); (try rintro _ rfl)) | (refine wrap_succ ?_; omega))))
    · rw [pb_f.mpr (fun q => ho q.2.2)]
      have hS' := hS ⟨secB s, ⟨#[]⟩, c⟩
      rw [pb_f.mpr ho] at hS'
      refine ret_of (nt := 59) (rvs := [.cell 2 31, .tmp 3, .tmp 4]) Try.func16 rfl rfl rfl rfl (fun X => ?_)
      repeat' (first | omega | (with_reducible show (_ : Int) < _; dsimp only; omega) | (with_reducible show (_ : Nat) ≤ _; dsimp only; omega) | ((with_reducible show SrcOk _ _ _) <;> (first | exact srcOk_1 rfl | exact srcOk_L (fun _ => ⟨rfl, rfl⟩) | exact srcOk_E (fun _ => ⟨rfl, rfl⟩))) | ((conv => whnf) <;> (first | (exact absurd ‹s = _› hz) | (exact absurd hb ‹_›) | (exact absurd ‹secB s = 0› hb) | rw [hq] | rw [hw] | refine And.intro ?_ ?_ | (intro _h; first | contradiction | (try simp only [dd] at _h)) | (refine dt_go ?_) | exact rfl | exact True.intro | exact dkk | exact dks | ((first | refine .inl ⟨_, hG, ?_⟩ | refine ⟨_, hG, ?_⟩); (try rintro _ rfl)) | ((first | refine .inl ⟨_, hH, ?_⟩ | refine ⟨_, hH, ?_⟩); (try rintro _ rfl)) | ((first | refine .inl ⟨_, hS', ?_⟩ | refine ⟨_, hS', ?_⟩); (try rintro _ rfl)) | (refine wrap_succ ?_; omega))))
end
end
end Go.Proofs.Ytfaadafgbhmlfaa
