/-
  New streams and futures, on both sides; the laws' marks on them.
-/
import Derived.Test.YtgjihfinbaopcaaVToD
import Derived.Test.YtgjihfinbaopcaaVToG
import Derived.Test.YtgjihfinbaopcaaVTStream
namespace Go.Proofs.Ytgjihfinbaopcaa
open Go Go.RowKit
set_option linter.unusedVariables false
set_option linter.unusedSimpArgs false

/-- A new stream's cells: held alone, and frozen. -/
def stO (a : Typ) (room : Int) (fu : Bool) : List AV := [.i .i64 a.kind, .s a.name, .row 0 a.labels.length, .row 1 a.kids.length, .i .i64 room, .kb fu, .nils, .i .i64 0, .i .i64 0, .kb false, .kb false]
def stB (a : Typ) (room : Int) (fu : Bool) : List AV := [.i .i64 a.kind, .s a.name, .row 0 a.labels.length, .row 1 a.kids.length, .i .i64 room, .b fu, .nils, .i .i64 0, .i .i64 0, .b false, .b false]
noncomputable def stF (m : Nat) (a : Typ) (room : Int) (fu : Bool) : List AV := [.i .i64 a.kind, .s a.name, slL 1 strC a.labels, slL 4 (Typ.pN m) a.kids, .i .i64 room, .b fu, .nils, .i .i64 0, .i .i64 0, .b false, .b false]
def stZ : List AV := [.i .i64 0, .s ByteArray.empty, .nils, .nils, .i .i64 0, .b false, .nils, .i .i64 0, .i .i64 0, .b false, .b false]
def stV (a : Typ) (room : Int) (fu : Bool) : Stream := ⟨a, room, fu, [], 0, 0, false, false⟩

set_option maxRecDepth 8000 in
theorem markValueS_nil (k : Int) : Ret env.P 29 [.nils, .i .i64 k] (fun r => r = .i .i64 k) := by
  refine ret_of (nt := 42) (rvs := [.tmp 4]) Try.func29 rfl rfl rfl rfl (fun X => ?_)
  repeat' (first | exact aa | ((conv => whnf) <;> (first | refine loopN 0 (fun i => [(5, .i .i64 i), (1, .i .i64 k)]) (fun i => []) (fun i => True) ⟨trivial, ?_⟩ | refine And.intro ?_ ?_ | (intro _h; first | contradiction | (try simp only [dd] at _h)) | (refine dt_go ?_) | exact rfl | exact True.intro | exact dkk | exact dks | (refine wrap_succ ?_; omega))))
  all_goals first | rfl | omega
set_option maxRecDepth 8000 in
theorem heldValueS_nil (k : Int) : Ret env.P 31 [.nils, .i .i64 k] (fun r => r = .i .i64 k) := by
  refine ret_of (nt := 50) (rvs := [.tmp 4]) Try.func31 rfl rfl rfl rfl (fun X => ?_)
  repeat' (first | exact aa | ((conv => whnf) <;> (first | refine loopN 0 (fun i => [(5, .i .i64 i), (1, .i .i64 k)]) (fun i => []) (fun i => True) ⟨trivial, ?_⟩ | refine And.intro ?_ ?_ | (intro _h; first | contradiction | (try simp only [dd] at _h)) | (refine dt_go ?_) | exact rfl | exact True.intro | exact dkk | exact dks | (refine wrap_succ ?_; omega))))
  all_goals first | rfl | omega
set_option maxRecDepth 8000 in
theorem heldStringS_nil (k : Int) : Ret env.P 43 [.nils, .i .i64 k] (fun r => r = .i .i64 k) := by
  refine ret_of (nt := 22) (rvs := [.tmp 4]) Try.func43 rfl rfl rfl rfl (fun X => ?_)
  repeat' (first | exact aa | ((conv => whnf) <;> (first | refine loopN 0 (fun i => [(5, .i .i64 i), (1, .i .i64 k)]) (fun i => []) (fun i => True) ⟨trivial, ?_⟩ | refine And.intro ?_ ?_ | (intro _h; first | contradiction | (try simp only [dd] at _h)) | (refine dt_go ?_) | exact rfl | exact True.intro | exact dkk | exact dks | (refine wrap_succ ?_; omega))))
  all_goals first | rfl | omega
set_option maxRecDepth 8000 in
theorem heldTypeS_nil (k : Int) : Ret env.P 44 [.nils, .i .i64 k] (fun r => r = .i .i64 k) := by
  refine ret_of (nt := 50) (rvs := [.tmp 4]) Try.func44 rfl rfl rfl rfl (fun X => ?_)
  repeat' (first | exact aa | ((conv => whnf) <;> (first | refine loopN 0 (fun i => [(5, .i .i64 i), (1, .i .i64 k)]) (fun i => []) (fun i => True) ⟨trivial, ?_⟩ | refine And.intro ?_ ?_ | (intro _h; first | contradiction | (try simp only [dd] at _h)) | (refine dt_go ?_) | exact rfl | exact True.intro | exact dkk | exact dks | (refine wrap_succ ?_; omega))))
  all_goals first | rfl | omega
set_option maxRecDepth 8000 in
theorem heldType_nil (kd : Int) (nm : ByteArray) (k : Int) (h0 : 0 ≤ k) : Ret env.P 30 [.agg [AV.i .i64 kd, AV.s nm, AV.nils, AV.nils], .i .i64 k] (fun r => r = .i .i64 k) := by
  refine ret_of (nt := 18) (rvs := [.tmp 4]) Try.func30 rfl rfl rfl rfl (fun X => ?_)
  repeat' (first | exact aa | ((conv => whnf) <;> (first | refine And.intro ?_ ?_ | (intro _h; first | contradiction | (try simp only [dd] at _h)) | (refine dt_go ?_) | exact rfl | exact True.intro | exact dkk | exact dks | ((first | refine .inl ⟨_, heldStringS_nil k, ?_⟩ | refine ⟨_, heldStringS_nil k, ?_⟩); (try rintro _ rfl)) | ((first | refine .inl ⟨_, heldTypeS_nil k, ?_⟩ | refine ⟨_, heldTypeS_nil k, ?_⟩); (try rintro _ rfl)) | (refine wrap_succ ?_; omega))))
  all_goals first | rfl | omega
set_option maxRecDepth 8000 in
theorem markStreamO (n : Nat) (a : Typ) (room : Int) (fu : Bool) (k : Int) (h0 : 0 ≤ k) (hk : (Typ.mk_ n a k).2 ≤ 4611686018427387904) (h : Typ.oN (n + 1) a) : RetM env.P 12 (Typ.rowsO n a) [.agg (stB a room fu), .i .i64 k] (fun r H => r = .i .i64 (Typ.mk_ n a k).2 ∧ H = Typ.rowsO n (Typ.mk_ n a k).1) := by
  refine ret_ofM (nt := 14) (rvs := [.tmp 4]) Try.func12 rfl rfl rfl rfl (fun X hX => ?_)
  repeat' (first | exact aa | ((conv => whnf) <;> (first | (refine .inr (.inl (.inl ⟨[0, 1], _, _, _, markType_m n a k h0 hk h, viewT, ⟨rfl, rfl⟩, ?_⟩)); rintro _ _ ⟨rfl, rfl⟩; refine ⟨rfl, _, lokT, ?_⟩) | refine And.intro ?_ ?_ | (intro _h; first | contradiction | (try simp only [dd] at _h)) | (refine dt_go ?_) | exact rfl | exact True.intro | exact dkk | exact dks | ((first | refine .inl ⟨_, markValueS_nil _, ?_⟩ | refine ⟨_, markValueS_nil _, ?_⟩); (try rintro _ rfl)) | (refine wrap_succ ?_; omega))))
  exact endM_pick [0, 1] (Typ.rowsO n (Typ.mk_ n a k).1) (.i .i64 (Typ.mk_ n a k).2) viewT rfl rfl (by rw [hX]; exact keepK (n := 2) rfl rfl) ⟨rfl, rfl⟩
set_option maxRecDepth 8000 in
theorem markStreamZ (k : Int) : Ret env.P 12 [.agg stZ, .i .i64 k] (fun r => r = .i .i64 k) := by
  refine ret_of (nt := 14) (rvs := [.tmp 4]) Try.func12 rfl rfl rfl rfl (fun X => ?_)
  repeat' (first | exact aa | ((conv => whnf) <;> (first | refine And.intro ?_ ?_ | (intro _h; first | contradiction | (try simp only [dd] at _h)) | (refine dt_go ?_) | exact rfl | exact True.intro | exact dkk | exact dks | ((first | refine .inl ⟨_, markType_nil _ _ k, ?_⟩ | refine ⟨_, markType_nil _ _ k, ?_⟩); (try rintro _ rfl)) | ((first | refine .inl ⟨_, markValueS_nil k, ?_⟩ | refine ⟨_, markValueS_nil k, ?_⟩); (try rintro _ rfl)) | (refine wrap_succ ?_; omega))))
  all_goals rfl
set_option maxRecDepth 8000 in
theorem heldStreamO (n : Nat) (a : Typ) (room : Int) (fu : Bool) (k : Int) (h0 : 0 ≤ k) (hk : (Typ.mk_ n a k).2 ≤ 4611686018427387904) (h : Typ.oN (n + 1) a) : Ret env.P 13 [.agg (stF n (Typ.mk_ n a k).1 room fu), .i .i64 k] (fun r => r = .i .i64 (Typ.mk_ n a k).2) := by
  have h1 : Ret env.P 30 [.agg (Typ.pN (n + 1) (Typ.mk_ n a k).1), .i .i64 k] (fun r => r = .i .i64 (Typ.mk_ n a k).2) := by
    have := heldType_m n (Typ.mk_ n a k).1 k h0 (by rw [Typ.mk_idem]; exact hk) (Typ.mk_ok n a k h)
    rw [Typ.mk_idem, heldI_eq rfl] at this
    exact this
  have h2 := Typ.mk_mono n a k
  refine ret_of (nt := 18) (rvs := [.tmp 4]) Try.func13 rfl rfl rfl rfl (fun X => ?_)
  repeat' (first | exact aa | ((conv => whnf) <;> (first | refine And.intro ?_ ?_ | (intro _h; first | contradiction | (try simp only [dd] at _h)) | (refine dt_go ?_) | exact rfl | exact True.intro | exact dkk | exact dks | ((first | refine .inl ⟨_, h1, ?_⟩ | refine ⟨_, h1, ?_⟩); (try rintro _ rfl)) | ((first | refine .inl ⟨_, heldValueS_nil _, ?_⟩ | refine ⟨_, heldValueS_nil _, ?_⟩); (try rintro _ rfl)) | (refine wrap_succ ?_; omega))))
  all_goals first | rfl | omega
set_option maxRecDepth 8000 in
theorem heldStreamZ (k : Int) (h0 : 0 ≤ k) : Ret env.P 13 [.agg stZ, .i .i64 k] (fun r => r = .i .i64 k) := by
  refine ret_of (nt := 18) (rvs := [.tmp 4]) Try.func13 rfl rfl rfl rfl (fun X => ?_)
  repeat' (first | exact aa | ((conv => whnf) <;> (first | refine And.intro ?_ ?_ | (intro _h; first | contradiction | (try simp only [dd] at _h)) | (refine dt_go ?_) | exact rfl | exact True.intro | exact dkk | exact dks | ((first | refine .inl ⟨_, heldType_nil _ _ k h0, ?_⟩ | refine ⟨_, heldType_nil _ _ k h0, ?_⟩); (try rintro _ rfl)) | ((first | refine .inl ⟨_, heldValueS_nil _, ?_⟩ | refine ⟨_, heldValueS_nil _, ?_⟩); (try rintro _ rfl)) | (refine wrap_succ ?_; omega))))
  all_goals first | rfl | omega
theorem Ret.sayd {P : Program} {g : FuncId} {av cs ds : List AV} (h : Ret P g av (fun r => r = .agg cs)) (hw : WkL cs ds) : Ret P g av (fun r => r = .agg ds) := .mk fun w S us hS hc => by
  refine (h.h w S us hS hc).mono ?_
  rintro e w' ⟨r, u, he, rfl, hcu, hb⟩
  exact ⟨.agg ds, u, he, rfl, (Wk.agg hw).c _ _ _ hcu, hb⟩
theorem l03Own_ok (a : Typ) (h : Typ.ok a) (hp : a.np ≤ 1000) : Ret env.P 19 [.agg (Typ.pN (a.kd + 1) a)] (fun r => r = .agg (Typ.pN (a.kd + 1) a)) :=
  Ret.sayd (Ret.wk (.cons (Typ.lift h) .nil) (l03Own_m a.kd a h hp)) (Typ.conv _ _ a (Typ.fN_kd _ a (by omega)) (Typ.fN_self a))
theorem inS_t {x lo hi : Int} (h : lo ≤ x ∧ x ≤ hi) : Ret env.P 32 [.i .i64 x, .i .i64 lo, .i .i64 hi] (fun r => r = .b true) := (l00In_ok x lo hi).mono fun r e => by rw [e, decide_eq_true h]
theorem inS_f {x lo hi : Int} (h : ¬ (lo ≤ x ∧ x ≤ hi)) : Ret env.P 32 [.i .i64 x, .i .i64 lo, .i .i64 hi] (fun r => r = .b false) := (l00In_ok x lo hi).mono fun r e => by rw [e, decide_eq_false h]
theorem inI_t {x lo hi : Int} (h : lo ≤ x ∧ x ≤ hi) : Ret env.P 33 [.i .i64 x, .i .i64 lo, .i .i64 hi] (fun r => r = .b true) := (within_ok x lo hi).mono fun r e => by rw [e, decide_eq_true h]
theorem inI_f {x lo hi : Int} (h : ¬ (lo ≤ x ∧ x ≤ hi)) : Ret env.P 33 [.i .i64 x, .i .i64 lo, .i .i64 hi] (fun r => r = .b false) := (within_ok x lo hi).mono fun r e => by rw [e, decide_eq_false h]
theorem strmS_t {a : Typ} (h : Typ.ok a) (hs : a.strm) : Ret env.P 18 [.agg (Typ.pN (a.kd + 1) a)] (fun r => r = .b true) := (strm_spec (n := a.kd) h).mono fun r e => by rw [e, pb_t.mpr hs]
theorem strmS_f {a : Typ} (h : Typ.ok a) (hs : ¬ a.strm) : Ret env.P 18 [.agg (Typ.pN (a.kd + 1) a)] (fun r => r = .b false) := (strm_spec (n := a.kd) h).mono fun r e => by rw [e, pb_f.mpr hs]
theorem strmI_t {a : Typ} (h : Typ.ok a) (hp : a.np ≤ 1000000000000000) (hs : a.strm) : Ret env.P 22 [.agg (Typ.pN (a.kd + 1) a)] (fun r => r = .b true) := (strm_impl (n := a.kd) h hp).mono fun r e => by rw [e, pb_t.mpr hs]
theorem strmI_f {a : Typ} (h : Typ.ok a) (hp : a.np ≤ 1000000000000000) (hs : ¬ a.strm) : Ret env.P 22 [.agg (Typ.pN (a.kd + 1) a)] (fun r => r = .b false) := (strm_impl (n := a.kd) h hp).mono fun r e => by rw [e, pb_f.mpr hs]
theorem Typ.strm.le {a : Typ} (h : a.strm) : a.np ≤ 1000 := Nat.le_trans h.1.2.1 (by decide)
set_option maxRecDepth 8000 in
theorem nsS_ok (a : Typ) (h : Typ.ok a) (room : Int) (hs : a.strm) (hr : 1 ≤ room ∧ room ≤ 6) : Ret env.P 14 [.agg (Typ.pN (a.kd + 1) a), .i .i64 room] (fun r => r = .tup [.agg (stF a.kd a room false), .i .i64 0]) := by
  refine ret_of (nt := 18) (rvs := [.cell 4 32, .tmp 5]) Try.func14 rfl rfl rfl rfl (fun X => ?_)
  repeat' (first | exact aa | ((conv => whnf) <;> (first | refine And.intro ?_ ?_ | (intro _h; first | contradiction | (try simp only [dd] at _h)) | (refine dt_go ?_) | exact rfl | exact True.intro | exact dkk | exact dks | ((first | refine .inl ⟨_, strmS_t h hs, ?_⟩ | refine ⟨_, strmS_t h hs, ?_⟩); (try rintro _ rfl)) | ((first | refine .inl ⟨_, l03Own_ok a h hs.le, ?_⟩ | refine ⟨_, l03Own_ok a h hs.le, ?_⟩); (try rintro _ rfl)) | ((first | refine .inl ⟨_, inS_t hr, ?_⟩ | refine ⟨_, inS_t hr, ?_⟩); (try rintro _ rfl)) | (refine wrap_succ ?_; omega))))
  all_goals exact rfl
set_option maxRecDepth 8000 in
theorem nsS_rng (a : Typ) (h : Typ.ok a) (room : Int) (hs : a.strm) (hr : ¬ (1 ≤ room ∧ room ≤ 6)) : Ret env.P 14 [.agg (Typ.pN (a.kd + 1) a), .i .i64 room] (fun r => r = .tup [.agg stZ, .i .i64 2]) := by
  refine ret_of (nt := 18) (rvs := [.cell 4 32, .tmp 5]) Try.func14 rfl rfl rfl rfl (fun X => ?_)
  repeat' (first | exact aa | ((conv => whnf) <;> (first | refine And.intro ?_ ?_ | (intro _h; first | contradiction | (try simp only [dd] at _h)) | (refine dt_go ?_) | exact rfl | exact True.intro | exact dkk | exact dks | ((first | refine .inl ⟨_, strmS_t h hs, ?_⟩ | refine ⟨_, strmS_t h hs, ?_⟩); (try rintro _ rfl)) | ((first | refine .inl ⟨_, inS_f hr, ?_⟩ | refine ⟨_, inS_f hr, ?_⟩); (try rintro _ rfl)) | (refine wrap_succ ?_; omega))))
  all_goals exact rfl
set_option maxRecDepth 8000 in
theorem nsS_bad (a : Typ) (h : Typ.ok a) (room : Int) (hs : ¬ a.strm) : Ret env.P 14 [.agg (Typ.pN (a.kd + 1) a), .i .i64 room] (fun r => r = .tup [.agg stZ, .i .i64 7]) := by
  refine ret_of (nt := 18) (rvs := [.cell 4 32, .tmp 5]) Try.func14 rfl rfl rfl rfl (fun X => ?_)
  repeat' (first | exact aa | ((conv => whnf) <;> (first | refine And.intro ?_ ?_ | (intro _h; first | contradiction | (try simp only [dd] at _h)) | (refine dt_go ?_) | exact rfl | exact True.intro | exact dkk | exact dks | ((first | refine .inl ⟨_, strmS_f h hs, ?_⟩ | refine ⟨_, strmS_f h hs, ?_⟩); (try rintro _ rfl)) | (refine wrap_succ ?_; omega))))
  all_goals exact rfl
set_option maxRecDepth 8000 in
theorem nsI_ok (a : Typ) (h : Typ.ok a) (room : Int) (hs : a.strm) (hr : 1 ≤ room ∧ room ≤ 6) : RetM env.P 15 [] [.agg (Typ.pN (a.kd + 1) a), .i .i64 room] (fun r H => r = .tup [.agg (stO a room false), .i .i64 0] ∧ H = Typ.rowsO a.kd a) := by
  have hC := copyTypeO_m a.kd a h hs.le
  refine ret_ofM (nt := 20) (rvs := [.cell 4 32, .tmp 5]) Try.func15 rfl rfl rfl rfl (fun X hX => ?_)
  repeat' (first | exact aa | ((conv => whnf) <;> (first | (refine .inr (.inl (.inl ⟨[], _, _, _, hC, viewT, ⟨rfl, rfl⟩, ?_⟩)); rintro _ _ ⟨rfl, rfl⟩; refine ⟨rfl, _, lokT, ?_⟩) | refine And.intro ?_ ?_ | (intro _h; first | contradiction | (try simp only [dd] at _h)) | (refine dt_go ?_) | exact rfl | exact True.intro | exact dkk | exact dks | ((first | refine .inl ⟨_, strmI_t h (Nat.le_trans hs.le (by decide)) hs, ?_⟩ | refine ⟨_, strmI_t h (Nat.le_trans hs.le (by decide)) hs, ?_⟩); (try rintro _ rfl)) | ((first | refine .inl ⟨_, inI_t hr, ?_⟩ | refine ⟨_, inI_t hr, ?_⟩); (try rintro _ rfl)) | (refine wrap_succ ?_; omega))))
  exact endM_pick [2, 3] (Typ.rowsO a.kd a) (.tup [.agg (stO a room false), .i .i64 0]) viewT rfl rfl (fun k hk => by rw [hX] at hk; exact absurd hk (Nat.not_lt_zero _)) ⟨rfl, rfl⟩
set_option maxRecDepth 8000 in
theorem nsI_rng (a : Typ) (h : Typ.ok a) (room : Int) (hs : a.strm) (hr : ¬ (1 ≤ room ∧ room ≤ 6)) : Ret env.P 15 [.agg (Typ.pN (a.kd + 1) a), .i .i64 room] (fun r => r = .tup [.agg stZ, .i .i64 2]) := by
  refine ret_of (nt := 20) (rvs := [.cell 4 32, .tmp 5]) Try.func15 rfl rfl rfl rfl (fun X => ?_)
  repeat' (first | exact aa | ((conv => whnf) <;> (first | refine And.intro ?_ ?_ | (intro _h; first | contradiction | (try simp only [dd] at _h)) | (refine dt_go ?_) | exact rfl | exact True.intro | exact dkk | exact dks | ((first | refine .inl ⟨_, strmI_t h (Nat.le_trans hs.le (by decide)) hs, ?_⟩ | refine ⟨_, strmI_t h (Nat.le_trans hs.le (by decide)) hs, ?_⟩); (try rintro _ rfl)) | ((first | refine .inl ⟨_, inI_f hr, ?_⟩ | refine ⟨_, inI_f hr, ?_⟩); (try rintro _ rfl)) | (refine wrap_succ ?_; omega))))
  all_goals exact rfl
set_option maxRecDepth 8000 in
theorem nsI_bad (a : Typ) (h : Typ.ok a) (room : Int) (hp : a.np ≤ 1000000000000000) (hs : ¬ a.strm) : Ret env.P 15 [.agg (Typ.pN (a.kd + 1) a), .i .i64 room] (fun r => r = .tup [.agg stZ, .i .i64 7]) := by
  refine ret_of (nt := 20) (rvs := [.cell 4 32, .tmp 5]) Try.func15 rfl rfl rfl rfl (fun X => ?_)
  repeat' (first | exact aa | ((conv => whnf) <;> (first | refine And.intro ?_ ?_ | (intro _h; first | contradiction | (try simp only [dd] at _h)) | (refine dt_go ?_) | exact rfl | exact True.intro | exact dkk | exact dks | ((first | refine .inl ⟨_, strmI_f h hp hs, ?_⟩ | refine ⟨_, strmI_f h hp hs, ?_⟩); (try rintro _ rfl)) | (refine wrap_succ ?_; omega))))
  all_goals exact rfl
set_option maxRecDepth 8000 in
theorem nfS_ok (a : Typ) (h : Typ.ok a) (hs : a.strm) : Ret env.P 6 [.agg (Typ.pN (a.kd + 1) a)] (fun r => r = .tup [.agg (stF a.kd a 1 true), .i .i64 0]) := by
  refine ret_of (nt := 11) (rvs := [.cell 2 32, .tmp 3]) Try.func6 rfl rfl rfl rfl (fun X => ?_)
  repeat' (first | exact aa | ((conv => whnf) <;> (first | refine And.intro ?_ ?_ | (intro _h; first | contradiction | (try simp only [dd] at _h)) | (refine dt_go ?_) | exact rfl | exact True.intro | exact dkk | exact dks | ((first | refine .inl ⟨_, strmS_t h hs, ?_⟩ | refine ⟨_, strmS_t h hs, ?_⟩); (try rintro _ rfl)) | ((first | refine .inl ⟨_, l03Own_ok a h hs.le, ?_⟩ | refine ⟨_, l03Own_ok a h hs.le, ?_⟩); (try rintro _ rfl)) | (refine wrap_succ ?_; omega))))
  all_goals exact rfl
set_option maxRecDepth 8000 in
theorem nfS_bad (a : Typ) (h : Typ.ok a) (hs : ¬ a.strm) : Ret env.P 6 [.agg (Typ.pN (a.kd + 1) a)] (fun r => r = .tup [.agg stZ, .i .i64 7]) := by
  refine ret_of (nt := 11) (rvs := [.cell 2 32, .tmp 3]) Try.func6 rfl rfl rfl rfl (fun X => ?_)
  repeat' (first | exact aa | ((conv => whnf) <;> (first | refine And.intro ?_ ?_ | (intro _h; first | contradiction | (try simp only [dd] at _h)) | (refine dt_go ?_) | exact rfl | exact True.intro | exact dkk | exact dks | ((first | refine .inl ⟨_, strmS_f h hs, ?_⟩ | refine ⟨_, strmS_f h hs, ?_⟩); (try rintro _ rfl)) | (refine wrap_succ ?_; omega))))
  all_goals exact rfl
set_option maxRecDepth 8000 in
theorem nfI_ok (a : Typ) (h : Typ.ok a) (hs : a.strm) : RetM env.P 8 [] [.agg (Typ.pN (a.kd + 1) a)] (fun r H => r = .tup [.agg (stO a 1 true), .i .i64 0] ∧ H = Typ.rowsO a.kd a) := by
  have hC := copyTypeO_m a.kd a h hs.le
  refine ret_ofM (nt := 11) (rvs := [.cell 2 32, .tmp 3]) Try.func8 rfl rfl rfl rfl (fun X hX => ?_)
  repeat' (first | exact aa | ((conv => whnf) <;> (first | (refine .inr (.inl (.inl ⟨[], _, _, _, hC, viewT, ⟨rfl, rfl⟩, ?_⟩)); rintro _ _ ⟨rfl, rfl⟩; refine ⟨rfl, _, lokT, ?_⟩) | refine And.intro ?_ ?_ | (intro _h; first | contradiction | (try simp only [dd] at _h)) | (refine dt_go ?_) | exact rfl | exact True.intro | exact dkk | exact dks | ((first | refine .inl ⟨_, strmI_t h (Nat.le_trans hs.le (by decide)) hs, ?_⟩ | refine ⟨_, strmI_t h (Nat.le_trans hs.le (by decide)) hs, ?_⟩); (try rintro _ rfl)) | (refine wrap_succ ?_; omega))))
  exact endM_pick [2, 3] (Typ.rowsO a.kd a) (.tup [.agg (stO a 1 true), .i .i64 0]) viewT rfl rfl (fun k hk => by rw [hX] at hk; exact absurd hk (Nat.not_lt_zero _)) ⟨rfl, rfl⟩
set_option maxRecDepth 8000 in
theorem nfI_bad (a : Typ) (h : Typ.ok a) (hp : a.np ≤ 1000000000000000) (hs : ¬ a.strm) : Ret env.P 8 [.agg (Typ.pN (a.kd + 1) a)] (fun r => r = .tup [.agg stZ, .i .i64 7]) := by
  refine ret_of (nt := 11) (rvs := [.cell 2 32, .tmp 3]) Try.func8 rfl rfl rfl rfl (fun X => ?_)
  repeat' (first | exact aa | ((conv => whnf) <;> (first | refine And.intro ?_ ?_ | (intro _h; first | contradiction | (try simp only [dd] at _h)) | (refine dt_go ?_) | exact rfl | exact True.intro | exact dkk | exact dks | ((first | refine .inl ⟨_, strmI_f h hp hs, ?_⟩ | refine ⟨_, strmI_f h hp hs, ?_⟩); (try rintro _ rfl)) | (refine wrap_succ ?_; omega))))
  all_goals exact rfl
end Go.Proofs.Ytgjihfinbaopcaa
