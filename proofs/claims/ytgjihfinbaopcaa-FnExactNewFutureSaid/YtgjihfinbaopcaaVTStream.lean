/-
  Stream: what the laws' functions for it do. Printed by fam.py.
-/
import Derived.Test.YtgjihfinbaopcaaVU
import Derived.Test.YtgjihfinbaopcaaVTBase
import Derived.Test.YtgjihfinbaopcaaVTType
import Derived.Test.YtgjihfinbaopcaaVTValue
namespace Go.Proofs.Ytgjihfinbaopcaa
open Go Go.RowKit
set_option linter.unusedVariables false
set_option linter.unusedSimpArgs false

structure Stream where
  type_ : Typ
  room : Int
  future : Bool
  buffer : List Value
  put : Int
  got : Int
  shut : Bool
  gone : Bool
  deriving Inhabited
noncomputable instance : DecidableEq Stream := fun a b => Classical.propDecidable (a = b)
noncomputable def Stream.cs (a : Stream) : List AV := [.i .i64 a.type_.kind, .s a.type_.name, slL 1 strC a.type_.labels, slL 4 (Typ.pN a.type_.kd) a.type_.kids, .i .i64 a.room, .b a.future, slL 4 Value.cs a.buffer, .i .i64 a.put, .i .i64 a.got, .b a.shut, .b a.gone]
theorem Stream.low (a : Stream) : a.cs.all (low1 0) = true := rfl
theorem Stream.eta {a b : Stream} (h0 : a.type_ = b.type_) (h1 : a.room = b.room) (h2 : a.future = b.future) (h3 : a.buffer = b.buffer) (h4 : a.put = b.put) (h5 : a.got = b.got) (h6 : a.shut = b.shut) (h7 : a.gone = b.gone) : a = b := by cases a; cases b; simp_all
theorem Stream.etaC {a b : Stream} (h : a.type_ = b.type_ ∧ a.room = b.room ∧ a.future = b.future ∧ a.buffer = b.buffer ∧ a.put = b.put ∧ a.got = b.got ∧ a.shut = b.shut ∧ a.gone = b.gone) : a = b := by cases a; cases b; simp_all
def Stream.ok (a : Stream) : Prop := Typ.ok a.type_ ∧ (okL Value.ok) a.buffer

set_option maxRecDepth 8000 in
theorem eqStream_ok (a b : Stream) (h : Stream.ok a) : Ret env.P 9 [.agg a.cs, .agg b.cs] (fun r => r = .b (decide (a = b))) := by
  obtain ⟨a0, a1, a2, a3, a4, a5, a6, a7⟩ := a
  obtain ⟨b0, b1, b2, b3, b4, b5, b6, b7⟩ := b
  refine ret_of (nt := 47) (rvs := [.tmp 4]) Try.func9 rfl rfl rfl rfl (fun X => ?_)
  repeat' (first | exact aa | ((conv => whnf) <;> (first | refine And.intro ?_ ?_ | (intro _h; first | contradiction | (try simp only [dd] at _h)) | (refine dt_go ?_) | exact rfl | exact True.intro | exact dkk | exact dks | ((first | refine .inl ⟨_, eqType_ok _ _ h.1, ?_⟩ | refine ⟨_, eqType_ok _ _ h.1, ?_⟩); (try rintro _ rfl)) | ((first | refine .inl ⟨_, eqValueS_ok _ _ h.2, ?_⟩ | refine ⟨_, eqValueS_ok _ _ h.2, ?_⟩); (try rintro _ rfl)) | (refine wrap_succ ?_; omega))))
  all_goals (clear h; refine leaf_b ?_; simp_all)

noncomputable def Stream.sz (a : Stream) (left : Int) : Int :=
  if (Typ.sz a.type_ left) < 0 then -1 else if ((szLs Value.sz) a.buffer (Typ.sz a.type_ left)) < 0 then -1 else ((szLs Value.sz) a.buffer (Typ.sz a.type_ left))
theorem Stream.sz_le (a : Stream) (left : Int) (h1 : left ≤ 1048576) : Stream.sz a left ≤ 1048576 := by
  have b1 : (Typ.sz a.type_ left) ≤ 1048576 := Typ.sz_le _ _ h1
  have b2 : ((szLs Value.sz) a.buffer (Typ.sz a.type_ left)) ≤ 1048576 := szLs_le (fun a v h => Value.sz_le a v h) b1
  unfold Stream.sz
  repeat' split
  all_goals omega
theorem Stream.sz_ok (a : Stream) (left : Int) (h0 : 0 ≤ left) (h1 : left ≤ 1048576) (hn : ¬ Stream.sz a left < 0) : Stream.ok a := by
  have b1 : (Typ.sz a.type_ left) ≤ 1048576 := Typ.sz_le _ _ h1
  have b2 : ((szLs Value.sz) a.buffer (Typ.sz a.type_ left)) ≤ 1048576 := szLs_le (fun a v h => Value.sz_le a v h) b1
  unfold Stream.sz at hn
  by_cases c1 : (Typ.sz a.type_ left) < 0
  · rw [if_pos c1] at hn; omega
  rw [if_neg c1] at hn
  by_cases c2 : ((szLs Value.sz) a.buffer (Typ.sz a.type_ left)) < 0
  · rw [if_pos c2] at hn; omega
  rw [if_neg c2] at hn
  exact ⟨Typ.sz_ok _ _ h0 h1 c1, szLs_ok (fun a v h => Value.sz_le a v h) (fun a v h0 h1 hn => Value.sz_ok a v h0 h1 hn) (by omega) b1 c2⟩

end Go.Proofs.Ytgjihfinbaopcaa
