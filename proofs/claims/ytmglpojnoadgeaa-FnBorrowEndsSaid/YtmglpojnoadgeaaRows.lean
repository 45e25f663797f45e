/-
  No cell of these rows narrows 'for every input' (looked for: loops, veiled, ifaces, maps, wideKeys, modest, calm, conditions, laid).
  DERIVED. THE GIVEN ROWS OF THIS SEAT. 2 by the template 'for every input the law returns true; each argument reads behind the call as it read before'; 0 by the template 'total and deterministic' (their statements: YtmglpojnoadgeaaTotals.lean).
  GIVEN WITH THE SEED: the statements are not yours to turn. If you find one false, say at which input.
  Laid BY PROGRAM, IN A SANDBOX (cutbox-rows.mjs): the forced cells as the released guide's own fill.sh prints them over the translation fbded2425efdc675… (all of the seat's roots in one cut). By AI agents, Wed Nov 11 2026. No macro, syntax, notation, axiom, sorry.
-/
import Derived.Test.YtmglpojnoadgeaaChecked
import GoSem.Claim
import GoSem.ClaimJoined
import GoSem.ClaimMapViews
import Derived.JoinedTies
import Derived.KernelRfl
namespace Go.Proofs.Ytmglpojnoadgeaa
/- THE CELL 'sum', in the pinned program and in every row, IS THE sha256 OF THE DUMP (.gsa) THAT YtmglpojnoadgeaaProg.lean LOADS. Nothing in Lean hashes anything: it is a label: what it is worth is what the hold of that sum in a sandbox is worth. -/
noncomputable def Try.pinned : Pinned := { name := "ytmglpojnoadgeaa", sum := "fbded2425efdc675002c7016871664cba2268ab654f2db0bd998dbfb11de4341", checked := Try.checked }
namespace Rows
def none {H : Type} : Left H := { results := [], args := [] }

/-- 'laws.FnBorrowEnds': WHATEVER THE INPUT: true; the input reads as it did. -/
def fnBorrowEndsSpec : ChangeSpec := { name := "fnBorrowEnds", fn := fun _ => fun
  | [d] => { results := [.lit (.bool true)], args := [d] }
  | _ => none }
def fnBorrowEndsRow : OpenClaim := { program := "ytmglpojnoadgeaa", sum := "fbded2425efdc675002c7016871664cba2268ab654f2db0bd998dbfb11de4341", func := "loop.example/g00901/laws.FnBorrowEnds", spec := "fnBorrowEnds", unfollowed := true, recurses := true, plainKeys := false, apart := false }
def FnBorrowEndsSaid : Prop := fnBorrowEndsRow.holds Try.pinned (OpenSpec.ofChange fnBorrowEndsSpec)

/-- ITS FALSE NEIGHBOUR: 'it returns false'. Refute it at one input. -/
def fnBorrowEndsWrong : ChangeSpec := { name := "fnBorrowEnds", fn := fun _ => fun
  | [d] => { results := [.lit (.bool false)], args := [d] }
  | _ => none }
def FnBorrowEndsWrongFalsely : Prop := fnBorrowEndsRow.holds Try.pinned (OpenSpec.ofChange fnBorrowEndsWrong)

/-- 'laws.FnHandlesMoved': WHATEVER THE INPUT: true; the input reads as it did. -/
def fnHandlesMovedSpec : ChangeSpec := { name := "fnHandlesMoved", fn := fun _ => fun
  | [d] => { results := [.lit (.bool true)], args := [d] }
  | _ => none }
def fnHandlesMovedRow : OpenClaim := { program := "ytmglpojnoadgeaa", sum := "fbded2425efdc675002c7016871664cba2268ab654f2db0bd998dbfb11de4341", func := "loop.example/g00901/laws.FnHandlesMoved", spec := "fnHandlesMoved", unfollowed := true, recurses := true, plainKeys := false, apart := false }
def FnHandlesMovedSaid : Prop := fnHandlesMovedRow.holds Try.pinned (OpenSpec.ofChange fnHandlesMovedSpec)

/-- ITS FALSE NEIGHBOUR: 'it returns false'. Refute it at one input. -/
def fnHandlesMovedWrong : ChangeSpec := { name := "fnHandlesMoved", fn := fun _ => fun
  | [d] => { results := [.lit (.bool false)], args := [d] }
  | _ => none }
def FnHandlesMovedWrongFalsely : Prop := fnHandlesMovedRow.holds Try.pinned (OpenSpec.ofChange fnHandlesMovedWrong)

/- THE SECOND FORM. 'bulk': how many values and letters a reading holds, each counted each time it is reached (what is shared counts as often as it is met; a slice's spare places count too). A statement '..UptoSaid' is the law's where the arguments, and the package variables that the reading takes, are together of bulk at most 1048576: NARROWER than '..Said'. Prove '..Said' where nothing that the law and all that it calls make is longer than what came in: it says more and counts as full. Else prove '..UptoSaid'. A law counts once. -/
mutual
def uptoBulk {H : Type} : DataW H → Nat
  | .lit (.string bytes) => bytes.length + 1
  | .lit _ => 1
  | .nil => 1
  | .ptr d => uptoBulk d + 1
  | .slice elems spare => uptoBulkAll elems + uptoBulkAll spare + 1
  | .agg parts => uptoBulkAll parts + 1
  | .iface _ d => uptoBulk d + 1
  | .map entries => uptoBulkEntries entries + 1
  | .held _ => 1
def uptoBulkAll {H : Type} : List (DataW H) → Nat
  | [] => 0
  | d :: r => uptoBulk d + uptoBulkAll r
def uptoBulkEntries {H : Type} : List (Lit × DataW H) → Nat
  | [] => 0
  | x :: r => uptoBulkEntry x + uptoBulkEntries r
def uptoBulkEntry {H : Type} : Lit × DataW H → Nat
  | (.string bytes, d) => bytes.length + uptoBulk d + 1
  | (_, d) => uptoBulk d + 1
 end
def uptoSmall : (H : Type) → List (DataW H) → Bool := fun _ ds => decide (uptoBulkAll ds ≤ 1048576)
def OpenSpec.upto (s : _root_.Go.ChangeSpec) : _root_.Go.OpenSpec := { _root_.Go.OpenSpec.ofChange s with cond := some uptoSmall }

/-- 'laws.FnBorrowEnds', WHERE WHAT IT READS IS OF BULK AT MOST 1048576: true; the input reads as it did. -/
def fnBorrowEndsUptoRow : OpenClaim := { program := "ytmglpojnoadgeaa", sum := "fbded2425efdc675002c7016871664cba2268ab654f2db0bd998dbfb11de4341", func := "loop.example/g00901/laws.FnBorrowEnds", spec := "fnBorrowEnds", unfollowed := true, recurses := true, plainKeys := false, apart := false, narrowed := true }
def FnBorrowEndsUptoSaid : Prop := fnBorrowEndsUptoRow.holds Try.pinned (OpenSpec.upto fnBorrowEndsSpec)

/-- 'laws.FnHandlesMoved', WHERE WHAT IT READS IS OF BULK AT MOST 1048576: true; the input reads as it did. -/
def fnHandlesMovedUptoRow : OpenClaim := { program := "ytmglpojnoadgeaa", sum := "fbded2425efdc675002c7016871664cba2268ab654f2db0bd998dbfb11de4341", func := "loop.example/g00901/laws.FnHandlesMoved", spec := "fnHandlesMoved", unfollowed := true, recurses := true, plainKeys := false, apart := false, narrowed := true }
def FnHandlesMovedUptoSaid : Prop := fnHandlesMovedUptoRow.holds Try.pinned (OpenSpec.upto fnHandlesMovedSpec)

end Rows
end Go.Proofs.Ytmglpojnoadgeaa
