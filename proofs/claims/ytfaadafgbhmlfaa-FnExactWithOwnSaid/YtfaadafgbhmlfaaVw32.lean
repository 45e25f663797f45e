/- Texts for VWithOwnP. -/
import Derived.Test.YtfaadafgbhmlfaaVw23
namespace Go.Proofs.Ytfaadafgbhmlfaa
open Go Go.RowKit
set_option linter.unusedVariables false
set_option linter.unusedSimpArgs false
section
attribute [local irreducible] IntKind.wrap
instance : Shr 0 Section.cs Section.cs := shr_plain fun _ => rfl
def allN (l : List Section) (k : Nat) : List Nat := headN ++ (l.take k).flatMap Section.by
structure AlI (l : List Section) (y : StS) : Prop where
  hk : y.k ≤ l.length
  hb : y.b = baN (allN l y.k)
structure Fit (l : List Section) : Prop where
  len : l.length ≤ 100
  h : ∀ k, k < l.length → (l.getD k default).fit
theorem Section.by_len {x : Section} (h : x.fit) : x.by.length ≤ 100000000 := by
  have := h.nm
  have := h.by_
  have h1 := lb9 (n := x.name.size) (by omega)
  have h2 := lb9 (n := x.bytes.size) (by omega)
  unfold Section.by
  split
  · have h3 : (putB x.name ++ bsN x.bytes).length ≤ 10000009 + 10000000 := by
      unfold putB
      rw [List.length_append, List.length_append, bsN_len, bsN_len]
      omega
    have h4 := lb9 (n := (putB x.name ++ bsN x.bytes).length) (by omega)
    unfold putN
    rw [List.length_cons, List.length_append]
    omega
  · unfold putB
    rw [List.length_cons, List.length_append, bsN_len]
    omega
theorem Fit.mem {l : List Section} (h : Fit l) : ∀ x ∈ l, x.fit := fun x hx => by
  obtain ⟨j, hj, rfl⟩ := mem_getD hx
  exact h.h j hj
theorem AlI.zero (l : List Section) : AlI l ⟨0, baN headN⟩ := ⟨Nat.zero_le _, by simp [allN]⟩
theorem AlI.next {l : List Section} {y : StS} (h : AlI l y) (hk : y.k < l.length) : AlI l ⟨y.k + 1, y.b ++ baN (l.getD y.k default).by⟩ := ⟨hk, by
  dsimp only
  rw [h.hb, baN_app]
  unfold allN
  rw [fm_take hk, List.append_assoc]⟩
theorem AlI.size {l : List Section} {y : StS} (h : AlI l y) (hf : Fit l) : y.b.size ≤ 10000000100 := by
  have h1 := fm_len (f := Section.by) (k := 100000000) (l := l.take y.k) fun x hx => Section.by_len (hf.mem x (List.mem_of_mem_take hx))
  have := hf.len
  rw [List.length_take] at h1
  rw [h.hb, baN_size]
  unfold allN
  rw [List.length_append]
  show 5 + _ ≤ _
  omega
theorem AlI.last {l : List Section} {y : StS} (h : AlI l y) (hk : ¬ (y.k : Int) < (l.length : Int)) : y.b = baN (allN l l.length) := by
  have := h.hk
  rw [h.hb, show y.k = l.length by omega]
theorem al_cap {a b : Nat} (h : a ≤ 10000000100) (h' : b ≤ 100000000) : (a + b) * 1 ≤ 140737488355328 := by omega
theorem al_len {a b : Nat} (h : a ≤ 10000000100) (h' : b ≤ 100000000) : a + b ≤ 9223372036854775807 := by omega
theorem secby_size {l : List Section} (hf : Fit l) {k : Nat} (hk : k < l.length) : (baN (l.getD k default).by).size ≤ 100000000 := by
  rw [baN_size]
  exact Section.by_len (hf.h k hk)
set_option maxRecDepth 8000 in
set_option maxHeartbeats 4000000 in
theorem allM_spec (l : List Section) (hf : Fit l) : RetM env.P 9 [] [slL 3 Section.cs l] (fun r H => r = .s (baN (allN l l.length)) ∧ H = []) := by
  have hl := hf.len
  have hO : ∀ k, k < l.length → Ret env.P 17 [.agg (l.getD k default).cs] (fun r => r = .s (baN (l.getD k default).by)) := fun k hk => l17One_ok _ (hf.h k hk)
  refine ret_ofPM (nt := 22) (rvs := [.tmp 2]) Try.func9 rfl rfl rfl rfl (fun X hX => ?_)
  refine pw_cut 2 (fun _ : Unit => True) (fun _ => [(0, slL 3 Section.cs l), (3, .row 1 (baN headN).size)]) (fun _ => [none, some ⟨1, (baN headN).size, strE (baN headN), .arr⟩]) ?_ (fun _ _ => ?_)
  · repeat' (first | omega | (with_reducible show (_ : Int) < _; dsimp only; omega) | (with_reducible show (_ : Nat) ≤ _; dsimp only; omega) | ((with_reducible show SrcOk _ _ _) <;> (first | exact srcOk_1 rfl | exact srcOk_L (fun _ => ⟨rfl, rfl⟩) | exact srcOk_E (fun _ => ⟨rfl, rfl⟩))) | ((conv => whnf) <;> (first | refine And.intro ?_ ?_ | (intro _h; first | contradiction | (try simp only [dd] at _h)) | (refine dt_go ?_) | exact rfl | exact True.intro | exact dkk | exact dks | (refine wrap_succ ?_; omega))))
    conv => whnf
    refine cut_turn (turn_eq (id := 1) (x := ⟨1, (baN headN).size, strE (baN headN), .arr⟩) rfl rfl rfl rfl rfl (fun i j hi hj => ?_)) ?_
    · have hi5 : i < 5 := hi
      obtain rfl : j = 0 := Nat.lt_one_iff.1 hj
      rcases (show i = 0 ∨ i = 1 ∨ i = 2 ∨ i = 3 ∨ i = 4 by omega) with rfl | rfl | rfl | rfl | rfl <;> exact .refl _
    exact cut_go () trivial (by repeat' (first | exact trivial | refine And.intro rfl ?_)) (by repeat' (first | exact trivial | refine And.intro (.inl rfl) ?_ | refine And.intro (.inr rfl) ?_ | refine And.intro rfl ?_))
  refine wpc_ok _ _ _ _ ?_
  (try dsimp only)
  conv => whnf
  refine loopFT (fun y : StS => [(4, .i .i64 (y.k : Int)), (3, .row 1 y.b.size)]) (fun y => [none, some (.arr ⟨1, y.b.size, strE y.b, .arr⟩)]) (fun y => AlI l y) (fun y => l.length - y.k) ⟨0, baN headN⟩ ⟨.zero l, ?_⟩
  repeat' (first | omega | (with_reducible show (_ : Int) < _; dsimp only; omega) | (with_reducible show (_ : Nat) ≤ _; dsimp only; omega) | ((with_reducible show SrcOk _ _ _) <;> (first | exact srcOk_1 rfl | exact srcOk_L (fun _ => ⟨rfl, rfl⟩) | exact srcOk_E (fun _ => ⟨rfl, rfl⟩))) | ((conv => whnf) <;> (first | exact arr_str rfl | exact al_cap (‹AlI l _›.size hf) (secby_size hf (by omega)) | exact al_len (‹AlI l _›.size hf) (secby_size hf (by omega)) | exact bytes_strE _ | refine And.intro ?_ ?_ | (intro _h; first | contradiction | (try simp only [dd] at _h)) | (refine dt_go ?_) | exact rfl | exact True.intro | exact dkk | exact dks | ((first | refine .inl ⟨_, hO _ (by omega), ?_⟩ | refine ⟨_, hO _ (by omega), ?_⟩); (try rintro _ rfl)) | (refine wrap_succ ?_; omega))))
  · rename_i y hy
    conv => whnf
    refine roundET_turn (turn_eq (id := 2) (x := ⟨1, (y.b ++ baN (l.getD y.k default).by).size, strE (y.b ++ baN (l.getD y.k default).by), .arr⟩) rfl rfl (size_app _ _) rfl rfl (strE_appO _ _)) ?_
    refine roundET_end ?_
    refine ⟨⟨y.k + 1, y.b ++ baN (l.getD y.k default).by⟩, [0, 2], hy.next (by omega), ?_, ?_⟩
    · dsimp only; omega
    repeat' (first | omega | (with_reducible show (_ : Int) < _; dsimp only; omega) | (with_reducible show (_ : Nat) ≤ _; dsimp only; omega) | ((with_reducible show SrcOk _ _ _) <;> (first | exact srcOk_1 rfl | exact srcOk_L (fun _ => ⟨rfl, rfl⟩) | exact srcOk_E (fun _ => ⟨rfl, rfl⟩))) | ((conv => whnf) <;> (first | exact arr_str rfl | exact (size_app _ _).symm | (have := ‹AlI l _›.hk; exact wrap_in (by omega) (by omega)) | exact lbz_rho hX ‹_› | refine And.intro ?_ ?_ | (intro _h; first | contradiction | (try simp only [dd] at _h)) | (refine dt_go ?_) | exact rfl | exact True.intro | exact dkk | exact dks | (refine wrap_succ ?_; omega))))
  · rename_i y hy
    conv => whnf
    exact endM_pick [] [] (.s _) (view_of rfl .nil) rfl rfl (fun k hk => by rw [hX] at hk; exact absurd hk (Nat.not_lt_zero _)) ⟨congrArg AV.s ((bytesOf_strE _).trans (hy.last _h)), rfl⟩
noncomputable def Module.out (m : Module) : ByteArray := bif pb m.good then baN m.by else ByteArray.empty
end
end Go.Proofs.Ytfaadafgbhmlfaa
