/-
  Streams of numbers: which are valid.
-/
import Derived.Test.YtjepdbkphfemmaaDoorVFuB
namespace Go.Proofs.YtjepdbkphfemmaaDoor
open Go Go.RowKit
set_option linter.unusedVariables false
set_option linter.unusedSimpArgs false

/-- Numbers all. -/
structure NumL (l : List Int) : Prop where
  len : l.length ≤ 8
  h : ∀ k, k < l.length → n64 (l.getD k default)
set_option maxRecDepth 8000 in
theorem indexV_t (g : Nat) {fv} (hg : env.F.get g = some fv) (c : List AV) (l : List Int) (hl : l.length ≤ 8) (hp : ∀ k, k < l.length → Ret env.P g [.agg (vC (l.getD k default)), rfL c] (fun r => r = .b false)) :
    Ret env.P 31 [slL 4 vC l, .fn g [rfL c]] (fun r => r = .i .i64 (-1)) := by
  refine ret_of (nt := 19) (rvs := [.tmp 4]) Tryd.func31 rfl rfl rfl rfl (fun X => ?_)
  repeat' (first | exact aa | ((conv => whnf) <;> (first | rw [hg] | refine loopN l.length (fun k => [(8, .i .i64 k)]) (fun k => []) (fun k => True) ⟨trivial, ?_⟩ | refine And.intro ?_ ?_ | (intro _h; first | contradiction | (try simp only [dd] at _h)) | (refine dt_go ?_) | exact rfl | exact True.intro | exact dkk | exact dks | ((first | refine .inl ⟨_, hp _ (by omega), ?_⟩ | refine ⟨_, hp _ (by omega), ?_⟩); (try rintro _ rfl)) | (refine wrap_succ ?_; omega))))
set_option maxRecDepth 8000 in
theorem containsV_t (g : Nat) {fv} (hg : env.F.get g = some fv) (c : List AV) (l : List Int) (hl : l.length ≤ 8) (hp : ∀ k, k < l.length → Ret env.P g [.agg (vC (l.getD k default)), rfL c] (fun r => r = .b false)) :
    Ret env.P 16 [slL 4 vC l, .fn g [rfL c]] (fun r => r = .b false) := by
  refine ret_of (nt := 9) (rvs := [.tmp 4]) Tryd.func16 rfl rfl rfl rfl (fun X => ?_)
  repeat' (first | exact aa | ((conv => whnf) <;> (first | refine And.intro ?_ ?_ | (intro _h; first | contradiction | (try simp only [dd] at _h)) | (refine dt_go ?_) | exact rfl | exact True.intro | exact dkk | exact dks | ((first | refine .inl ⟨_, indexV_t g hg c l hl hp, ?_⟩ | refine ⟨_, indexV_t g hg c l hl hp, ?_⟩); (try rintro _ rfl)) | (refine wrap_succ ?_; omega))))
set_option maxRecDepth 8000 in
theorem sizeV_t (l : List Int) (hl : l.length ≤ 8) : Ret env.P 28 [slL 4 vC l] (fun r => r = .i .i64 l.length) := by
  refine ret_of (nt := 5) (rvs := [.tmp 2]) Tryd.func28 rfl rfl rfl rfl (fun X => ?_)
  repeat' (first | exact aa | ((conv => whnf) <;> (first | refine And.intro ?_ ?_ | (intro _h; first | contradiction | (try simp only [dd] at _h)) | (refine dt_go ?_) | exact rfl | exact True.intro | exact dkk | exact dks | (refine wrap_succ ?_; omega))))
set_option maxRecDepth 8000 in
theorem mostOf_t (l : List Int) (put got : Int) (shut : Bool) : Ret env.P 30 [.agg (fuC l put got shut)] (fun r => r = .i .i64 1) := by
  refine ret_of (nt := 5) (rvs := [.tmp 2]) Tryd.func30 rfl rfl rfl rfl (fun X => ?_)
  repeat' (first | exact aa | ((conv => whnf) <;> (first | refine And.intro ?_ ?_ | (intro _h; first | contradiction | (try simp only [dd] at _h)) | (refine dt_go ?_) | exact rfl | exact True.intro | exact dkk | exact dks | (refine wrap_succ ?_; omega))))
/-- A valid stream. -/
structure FuOk (l : List Int) (put got : Int) (shut : Bool) : Prop where
  hl : NumL l
  h1 : l.length ≤ 1
  hg : 0 ≤ got ∧ got ≤ put ∧ put ≤ 1
  hs : put - got = l.length
  hp : shut = true → put = 1
set_option maxRecDepth 8000 in
set_option maxHeartbeats 4000000 in
theorem streamOk_t (l : List Int) (put got : Int) (shut : Bool) (h : FuOk l put got shut) : Ret env.P 15 [.agg (fuC l put got shut)] (fun r => r = .b true) := by
  obtain ⟨hl, h1, hg, hs, hp⟩ := h
  have hw1 : Ret env.P 27 [.i .i64 1, .i .i64 1, .i .i64 6] (fun r => r = .b true) := within_t (by omega)
  have hw2 := within_t (x := put) (lo := got) (hi := 1) (by omega)
  have hc := containsV_t 29 rfl (fuC l put got shut) l hl.len (fun k hk => streamOk1_t _ (hl.h k hk) l put got shut)
  have hw3 : IntKind.i64.wrap (put - got) = (l.length : Int) := (wrap_in (by omega) (by omega)).trans hs
  cases shut with
  | true =>
    have hp1 := hp rfl
    refine ret_of (nt := 90) (rvs := [.tmp 2]) Tryd.func15 rfl rfl rfl rfl (fun X => ?_)
    repeat' (first | exact aa | ((conv => whnf) <;> (first | (exfalso; exact ‹¬True› trivial) | (exfalso; exact ‹¬IntKind.i64.wrap (put - got) = _› hw3) | refine And.intro ?_ ?_ | (intro _h; first | contradiction | (try simp only [dd] at _h)) | (refine dt_go ?_) | exact rfl | exact True.intro | exact dkk | exact dks | ((first | refine .inl ⟨_, streamable_t, ?_⟩ | refine ⟨_, streamable_t, ?_⟩); (try rintro _ rfl)) | ((first | refine .inl ⟨_, hw1, ?_⟩ | refine ⟨_, hw1, ?_⟩); (try rintro _ rfl)) | ((first | refine .inl ⟨_, hw2, ?_⟩ | refine ⟨_, hw2, ?_⟩); (try rintro _ rfl)) | ((first | refine .inl ⟨_, Ret.wka (hc), ?_⟩ | refine ⟨_, Ret.wka (hc), ?_⟩); (try rintro _ rfl)) | ((first | refine .inl ⟨_, sizeV_t l hl.len, ?_⟩ | refine ⟨_, sizeV_t l hl.len, ?_⟩); (try rintro _ rfl)) | ((first | refine .inl ⟨_, mostOf_t l put got true, ?_⟩ | refine ⟨_, mostOf_t l put got true, ?_⟩); (try rintro _ rfl)) | (refine wrap_succ ?_; omega))))
  | false =>
    refine ret_of (nt := 90) (rvs := [.tmp 2]) Tryd.func15 rfl rfl rfl rfl (fun X => ?_)
    repeat' (first | exact aa | ((conv => whnf) <;> (first | (exfalso; exact ‹¬True› trivial) | (exfalso; exact ‹¬IntKind.i64.wrap (put - got) = _› hw3) | refine And.intro ?_ ?_ | (intro _h; first | contradiction | (try simp only [dd] at _h)) | (refine dt_go ?_) | exact rfl | exact True.intro | exact dkk | exact dks | ((first | refine .inl ⟨_, streamable_t, ?_⟩ | refine ⟨_, streamable_t, ?_⟩); (try rintro _ rfl)) | ((first | refine .inl ⟨_, hw1, ?_⟩ | refine ⟨_, hw1, ?_⟩); (try rintro _ rfl)) | ((first | refine .inl ⟨_, hw2, ?_⟩ | refine ⟨_, hw2, ?_⟩); (try rintro _ rfl)) | ((first | refine .inl ⟨_, Ret.wka (hc), ?_⟩ | refine ⟨_, Ret.wka (hc), ?_⟩); (try rintro _ rfl)) | ((first | refine .inl ⟨_, sizeV_t l hl.len, ?_⟩ | refine ⟨_, sizeV_t l hl.len, ?_⟩); (try rintro _ rfl)) | ((first | refine .inl ⟨_, mostOf_t l put got false, ?_⟩ | refine ⟨_, mostOf_t l put got false, ?_⟩); (try rintro _ rfl)) | (refine wrap_succ ?_; omega))))
end Go.Proofs.YtjepdbkphfemmaaDoor
