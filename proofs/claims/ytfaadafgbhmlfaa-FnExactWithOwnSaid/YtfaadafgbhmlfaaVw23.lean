/- Texts for VWithOwnP. -/
import Derived.Test.YtfaadafgbhmlfaaVw19
namespace Go.Proofs.Ytfaadafgbhmlfaa
open Go Go.RowKit
set_option linter.unusedVariables false
set_option linter.unusedSimpArgs false
section
attribute [local irreducible] IntKind.wrap
theorem baN_appS (l : List Nat) (s : ByteArray) : baN l ++ s = baN (l ++ bsN s) := by
  rw [← baN_app, baN_bs]
theorem putB_baN (s : ByteArray) : baN (putB s) = baN (lebL s.size) ++ s := by
  unfold putB
  rw [baN_appS]
theorem putB_N {l : List Nat} (h : ∀ x ∈ l, x < 256) : putB (baN l) = putN l := by
  unfold putB putN
  rw [baN_size, bsN_ba h]
theorem le_of2 {a b : ByteArray} (h : a.size ≤ 1000000000) (h' : b.size ≤ 1000000000) : a.size + b.size ≤ maxLen := Nat.le_trans (show _ ≤ 2000000000 by omega) (by decide)
theorem lb_size {n : Nat} (h : n < 9223372036854775808) : (baN (lebL n)).size ≤ 1000000000 := by
  rw [baN_size]
  have := lb9 h
  omega
theorem putB_size {s : ByteArray} (h : s.size ≤ 100000000) : (baN (putB s)).size ≤ 1000000000 := by
  rw [putB_baN, size_app, baN_size]
  have := lb9 (n := s.size) (by omega)
  omega
theorem one_size (n : Nat) : (baN [n]).size ≤ 1000000000 := by
  rw [baN_size]
  show 1 ≤ _
  omega
theorem putBytes_spec (s : ByteArray) (h : s.size ≤ 100000000) : Ret env.P 33 [.s s] (fun r => r = .s (baN (putB s))) := by
  have hp : Ret env.P 41 [.i .i64 (s.size : Int)] (fun r => r = .s (baN (lebL s.size))) := (putLeb_spec s.size (by omega)).toRet
  rw [putB_baN]
  refine ret_of (nt := 8) (rvs := [.tmp 2]) Try.func33 rfl rfl rfl rfl (fun X => ?_)
  repeat' (first | omega | (with_reducible show (_ : Int) < _; dsimp only; omega) | (with_reducible show (_ : Nat) ≤ _; dsimp only; omega) | ((with_reducible show SrcOk _ _ _) <;> (first | exact srcOk_1 rfl | exact srcOk_L (fun _ => ⟨rfl, rfl⟩) | exact srcOk_E (fun _ => ⟨rfl, rfl⟩))) | ((conv => whnf) <;> (first | exact le_of2 (lb_size (by omega)) (by omega) | refine And.intro ?_ ?_ | (intro _h; first | contradiction | (try simp only [dd] at _h)) | (refine dt_go ?_) | exact rfl | exact True.intro | exact dkk | exact dks | ((first | refine .inl ⟨_, hp, ?_⟩ | refine ⟨_, hp, ?_⟩); (try rintro _ rfl)) | (refine wrap_succ ?_; omega))))
def Module.secs (m : Module) : List Section := [⟨1, ByteArray.empty, baN m.s1⟩, ⟨2, ByteArray.empty, baN m.s2⟩, ⟨3, ByteArray.empty, baN m.s3⟩, ⟨4, ByteArray.empty, baN m.s4⟩]
def Section.by (x : Section) : List Nat := if x.id = 0 then 0 :: putN (putB x.name ++ bsN x.bytes) else x.id.toNat :: putB x.bytes
structure Section.fit (x : Section) : Prop where
  id : 0 ≤ x.id ∧ x.id ≤ 255
  nm : x.name.size ≤ 10000000
  by_ : x.bytes.size ≤ 10000000
theorem fixN {n : Int} (h : 0 ≤ n ∧ n ≤ 255) : fixL n 1 = [n.toNat] := by
  show [(n / 1 % 256).toNat] = [n.toNat]
  congr 1
  omega
theorem fixN_spec {n : Int} (h : 0 ≤ n ∧ n ≤ 255) : Ret env.P 32 [.i .i64 n, .i .i64 1] (fun r => r = .s (baN [n.toNat])) := by
  have := putFix_spec n 1 ⟨by omega, by omega⟩ (by omega)
  rw [fixN h] at this
  exact this.toRet
theorem putB_all (s : ByteArray) : ∀ x ∈ putB s, x < 256 := by
  intro x hx
  unfold putB at hx
  rcases List.mem_append.1 hx with h | h
  · exact lebL_lt _ x h
  · exact bsN_lt x h
theorem Section.by0 {x : Section} (h : x.id = 0) : baN [x.id.toNat] ++ baN (putB (baN (putB x.name) ++ x.bytes)) = baN x.by := by
  unfold Section.by
  rw [if_pos h, h, baN_app, baN_appS, putB_N (fun y hy => by
    rcases List.mem_append.1 hy with h | h
    · exact putB_all _ y h
    · exact bsN_lt y h)]
  rfl
theorem Section.byN {x : Section} (h : ¬ x.id = 0) : baN [x.id.toNat] ++ baN (putB x.bytes) = baN x.by := by
  unfold Section.by
  rw [if_neg h, baN_app]
  rfl
theorem Section.in_size {x : Section} (h : x.fit) : (baN (putB x.name) ++ x.bytes).size ≤ 100000000 := by
  have := h.nm
  have := h.by_
  rw [size_app, putB_baN, size_app, baN_size]
  have := lb9 (n := x.name.size) (by omega)
  omega
set_option maxRecDepth 8000 in
set_option maxHeartbeats 1000000 in
theorem l17One_ok (x : Section) (h : x.fit) : Ret env.P 17 [.agg x.cs] (fun r => r = .s (baN x.by)) := by
  have hn := h.nm
  have hb := h.by_
  have hf := fixN_spec h.id
  have hi := Section.in_size h
  by_cases h0 : x.id = 0
  · rw [← Section.by0 h0]
    refine ret_of (nt := 24) (rvs := [.tmp 2]) Try.func17 rfl rfl rfl rfl (fun X => ?_)
    repeat' (first | omega | (with_reducible show (_ : Int) < _; dsimp only; omega) | (with_reducible show (_ : Nat) ≤ _; dsimp only; omega) | ((with_reducible show SrcOk _ _ _) <;> (first | exact srcOk_1 rfl | exact srcOk_L (fun _ => ⟨rfl, rfl⟩) | exact srcOk_E (fun _ => ⟨rfl, rfl⟩))) | ((conv => whnf) <;> (first | refine dt_goC [] ?_ | (exfalso; exact ‹¬ _› h0) | exact le_of2 (putB_size (by omega)) (by omega) | exact le_of2 (one_size _) (putB_size hi) | refine And.intro ?_ ?_ | (intro _h; first | contradiction | (try simp only [dd] at _h)) | (refine dt_go ?_) | exact rfl | exact True.intro | exact dkk | exact dks | ((first | refine .inl ⟨_, hf, ?_⟩ | refine ⟨_, hf, ?_⟩); (try rintro _ rfl)) | ((first | refine .inl ⟨_, putBytes_spec x.name (by omega), ?_⟩ | refine ⟨_, putBytes_spec x.name (by omega), ?_⟩); (try rintro _ rfl)) | ((first | refine .inl ⟨_, putBytes_spec _ hi, ?_⟩ | refine ⟨_, putBytes_spec _ hi, ?_⟩); (try rintro _ rfl)) | (refine wrap_succ ?_; omega))))
  · rw [← Section.byN h0]
    refine ret_of (nt := 24) (rvs := [.tmp 2]) Try.func17 rfl rfl rfl rfl (fun X => ?_)
    repeat' (first | omega | (with_reducible show (_ : Int) < _; dsimp only; omega) | (with_reducible show (_ : Nat) ≤ _; dsimp only; omega) | ((with_reducible show SrcOk _ _ _) <;> (first | exact srcOk_1 rfl | exact srcOk_L (fun _ => ⟨rfl, rfl⟩) | exact srcOk_E (fun _ => ⟨rfl, rfl⟩))) | ((conv => whnf) <;> (first | refine dt_goC [] ?_ | (exfalso; exact h0 ‹_›) | exact le_of2 (one_size _) (putB_size (by omega)) | refine And.intro ?_ ?_ | (intro _h; first | contradiction | (try simp only [dd] at _h)) | (refine dt_go ?_) | exact rfl | exact True.intro | exact dkk | exact dks | ((first | refine .inl ⟨_, hf, ?_⟩ | refine ⟨_, hf, ?_⟩); (try rintro _ rfl)) | ((first | refine .inl ⟨_, putBytes_spec x.bytes (by omega), ?_⟩ | refine ⟨_, putBytes_spec x.bytes (by omega), ?_⟩); (try rintro _ rfl)) | (refine wrap_succ ?_; omega))))
end
end Go.Proofs.Ytfaadafgbhmlfaa
