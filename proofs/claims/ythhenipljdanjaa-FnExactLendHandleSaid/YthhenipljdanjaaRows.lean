/-
  No cell of these rows narrows 'for every input' (looked for: loops, veiled, ifaces, maps, wideKeys, modest, calm, conditions, laid).
  DERIVED. THE GIVEN ROWS OF THIS SEAT. 10 by the template 'for every input the law returns true; each argument reads behind the call as it read before'; 0 by the template 'total and deterministic' (their statements: YthhenipljdanjaaTotals.lean).
  GIVEN WITH THE SEED: the statements are not yours to turn. If you find one false, say at which input.
  Laid BY PROGRAM, IN A SANDBOX (cutbox-rows.mjs): the forced cells as the released guide's own fill.sh prints them over the translation 2724a74325802004… (all of the seat's roots in one cut). By AI agents, Wed Nov 11 2026. No macro, syntax, notation, axiom, sorry.
-/
import Derived.Test.YthhenipljdanjaaChecked
import GoSem.Claim
import GoSem.ClaimJoined
import GoSem.ClaimMapViews
import Derived.JoinedTies
import Derived.KernelRfl
namespace Go.Proofs.Ythhenipljdanjaa
/- THE CELL 'sum', in the pinned program and in every row, IS THE sha256 OF THE DUMP (.gsa) THAT YthhenipljdanjaaProg.lean LOADS. Nothing in Lean hashes anything: it is a label: what it is worth is what the hold of that sum in a sandbox is worth. -/
noncomputable def Try.pinned : Pinned := { name := "ythhenipljdanjaa", sum := "2724a74325802004dd6c83124b4bd43c778af15fa07ef5ea914037cc00cabee0", checked := Try.checked }
namespace Rows
def none {H : Type} : Left H := { results := [], args := [] }

/-- 'laws.FnExactOnStack': WHATEVER THE INPUT: true; the input reads as it did. -/
def fnExactOnStackSpec : ChangeSpec := { name := "fnExactOnStack", fn := fun _ => fun
  | [d1, d2] => { results := [.lit (.bool true)], args := [d1, d2] }
  | _ => none }
def fnExactOnStackRow : OpenClaim := { program := "ythhenipljdanjaa", sum := "2724a74325802004dd6c83124b4bd43c778af15fa07ef5ea914037cc00cabee0", func := "loop.example/g00901/laws.FnExactOnStack", spec := "fnExactOnStack", unfollowed := true, recurses := true, plainKeys := false, apart := false }
def FnExactOnStackSaid : Prop := fnExactOnStackRow.holds Try.pinned (OpenSpec.ofChange fnExactOnStackSpec)

/-- ITS FALSE NEIGHBOUR: 'it returns false'. Refute it at one input. -/
def fnExactOnStackWrong : ChangeSpec := { name := "fnExactOnStack", fn := fun _ => fun
  | [d1, d2] => { results := [.lit (.bool false)], args := [d1, d2] }
  | _ => none }
def FnExactOnStackWrongFalsely : Prop := fnExactOnStackRow.holds Try.pinned (OpenSpec.ofChange fnExactOnStackWrong)

/-- 'laws.FnExactTopOf': WHATEVER THE INPUT: true; the input reads as it did. -/
def fnExactTopOfSpec : ChangeSpec := { name := "fnExactTopOf", fn := fun _ => fun
  | [d] => { results := [.lit (.bool true)], args := [d] }
  | _ => none }
def fnExactTopOfRow : OpenClaim := { program := "ythhenipljdanjaa", sum := "2724a74325802004dd6c83124b4bd43c778af15fa07ef5ea914037cc00cabee0", func := "loop.example/g00901/laws.FnExactTopOf", spec := "fnExactTopOf", unfollowed := true, recurses := true, plainKeys := false, apart := false }
def FnExactTopOfSaid : Prop := fnExactTopOfRow.holds Try.pinned (OpenSpec.ofChange fnExactTopOfSpec)

/-- ITS FALSE NEIGHBOUR: 'it returns false'. Refute it at one input. -/
def fnExactTopOfWrong : ChangeSpec := { name := "fnExactTopOf", fn := fun _ => fun
  | [d] => { results := [.lit (.bool false)], args := [d] }
  | _ => none }
def FnExactTopOfWrongFalsely : Prop := fnExactTopOfRow.holds Try.pinned (OpenSpec.ofChange fnExactTopOfWrong)

/-- 'laws.FnExactMayEnter': WHATEVER THE INPUT: true; the input reads as it did. -/
def fnExactMayEnterSpec : ChangeSpec := { name := "fnExactMayEnter", fn := fun _ => fun
  | [d1, d2] => { results := [.lit (.bool true)], args := [d1, d2] }
  | _ => none }
def fnExactMayEnterRow : OpenClaim := { program := "ythhenipljdanjaa", sum := "2724a74325802004dd6c83124b4bd43c778af15fa07ef5ea914037cc00cabee0", func := "loop.example/g00901/laws.FnExactMayEnter", spec := "fnExactMayEnter", unfollowed := true, recurses := true, plainKeys := false, apart := false }
def FnExactMayEnterSaid : Prop := fnExactMayEnterRow.holds Try.pinned (OpenSpec.ofChange fnExactMayEnterSpec)

/-- ITS FALSE NEIGHBOUR: 'it returns false'. Refute it at one input. -/
def fnExactMayEnterWrong : ChangeSpec := { name := "fnExactMayEnter", fn := fun _ => fun
  | [d1, d2] => { results := [.lit (.bool false)], args := [d1, d2] }
  | _ => none }
def FnExactMayEnterWrongFalsely : Prop := fnExactMayEnterRow.holds Try.pinned (OpenSpec.ofChange fnExactMayEnterWrong)

/-- 'laws.FnExactNewShelf': WHATEVER THE INPUT: true; the input reads as it did. -/
def fnExactNewShelfSpec : ChangeSpec := { name := "fnExactNewShelf", fn := fun _ => fun
  | [d] => { results := [.lit (.bool true)], args := [d] }
  | _ => none }
def fnExactNewShelfRow : OpenClaim := { program := "ythhenipljdanjaa", sum := "2724a74325802004dd6c83124b4bd43c778af15fa07ef5ea914037cc00cabee0", func := "loop.example/g00901/laws.FnExactNewShelf", spec := "fnExactNewShelf", plainKeys := false, apart := false }
def FnExactNewShelfSaid : Prop := fnExactNewShelfRow.holds Try.pinned (OpenSpec.ofChange fnExactNewShelfSpec)

/-- ITS FALSE NEIGHBOUR: 'it returns false'. Refute it at one input. -/
def fnExactNewShelfWrong : ChangeSpec := { name := "fnExactNewShelf", fn := fun _ => fun
  | [d] => { results := [.lit (.bool false)], args := [d] }
  | _ => none }
def FnExactNewShelfWrongFalsely : Prop := fnExactNewShelfRow.holds Try.pinned (OpenSpec.ofChange fnExactNewShelfWrong)

/-- 'laws.FnExactNewYard': WHATEVER THE INPUT: true; the input reads as it did. -/
def fnExactNewYardSpec : ChangeSpec := { name := "fnExactNewYard", fn := fun _ => fun
  | [d] => { results := [.lit (.bool true)], args := [d] }
  | _ => none }
def fnExactNewYardRow : OpenClaim := { program := "ythhenipljdanjaa", sum := "2724a74325802004dd6c83124b4bd43c778af15fa07ef5ea914037cc00cabee0", func := "loop.example/g00901/laws.FnExactNewYard", spec := "fnExactNewYard", plainKeys := false, apart := false }
def FnExactNewYardSaid : Prop := fnExactNewYardRow.holds Try.pinned (OpenSpec.ofChange fnExactNewYardSpec)

/-- ITS FALSE NEIGHBOUR: 'it returns false'. Refute it at one input. -/
def fnExactNewYardWrong : ChangeSpec := { name := "fnExactNewYard", fn := fun _ => fun
  | [d] => { results := [.lit (.bool false)], args := [d] }
  | _ => none }
def FnExactNewYardWrongFalsely : Prop := fnExactNewYardRow.holds Try.pinned (OpenSpec.ofChange fnExactNewYardWrong)

/-- 'laws.FnExactMakeHandle': WHATEVER THE INPUT: true; the input reads as it did. -/
def fnExactMakeHandleSpec : ChangeSpec := { name := "fnExactMakeHandle", fn := fun _ => fun
  | [d1, d2, d3, d4] => { results := [.lit (.bool true)], args := [d1, d2, d3, d4] }
  | _ => none }
def fnExactMakeHandleRow : OpenClaim := { program := "ythhenipljdanjaa", sum := "2724a74325802004dd6c83124b4bd43c778af15fa07ef5ea914037cc00cabee0", func := "loop.example/g00901/laws.FnExactMakeHandle", spec := "fnExactMakeHandle", unfollowed := true, recurses := true, plainKeys := false, apart := false }
def FnExactMakeHandleSaid : Prop := fnExactMakeHandleRow.holds Try.pinned (OpenSpec.ofChange fnExactMakeHandleSpec)

/-- ITS FALSE NEIGHBOUR: 'it returns false'. Refute it at one input. -/
def fnExactMakeHandleWrong : ChangeSpec := { name := "fnExactMakeHandle", fn := fun _ => fun
  | [d1, d2, d3, d4] => { results := [.lit (.bool false)], args := [d1, d2, d3, d4] }
  | _ => none }
def FnExactMakeHandleWrongFalsely : Prop := fnExactMakeHandleRow.holds Try.pinned (OpenSpec.ofChange fnExactMakeHandleWrong)

/-- 'laws.FnExactLendHandle': WHATEVER THE INPUT: true; the input reads as it did. -/
def fnExactLendHandleSpec : ChangeSpec := { name := "fnExactLendHandle", fn := fun _ => fun
  | [d1, d2, d3, d4, d5, d6] => { results := [.lit (.bool true)], args := [d1, d2, d3, d4, d5, d6] }
  | _ => none }
def fnExactLendHandleRow : OpenClaim := { program := "ythhenipljdanjaa", sum := "2724a74325802004dd6c83124b4bd43c778af15fa07ef5ea914037cc00cabee0", func := "loop.example/g00901/laws.FnExactLendHandle", spec := "fnExactLendHandle", unfollowed := true, recurses := true, plainKeys := false, apart := false }
def FnExactLendHandleSaid : Prop := fnExactLendHandleRow.holds Try.pinned (OpenSpec.ofChange fnExactLendHandleSpec)

/-- ITS FALSE NEIGHBOUR: 'it returns false'. Refute it at one input. -/
def fnExactLendHandleWrong : ChangeSpec := { name := "fnExactLendHandle", fn := fun _ => fun
  | [d1, d2, d3, d4, d5, d6] => { results := [.lit (.bool false)], args := [d1, d2, d3, d4, d5, d6] }
  | _ => none }
def FnExactLendHandleWrongFalsely : Prop := fnExactLendHandleRow.holds Try.pinned (OpenSpec.ofChange fnExactLendHandleWrong)

/-- 'laws.FnExactMoveHandle': WHATEVER THE INPUT: true; the input reads as it did. -/
def fnExactMoveHandleSpec : ChangeSpec := { name := "fnExactMoveHandle", fn := fun _ => fun
  | [d1, d2, d3, d4, d5] => { results := [.lit (.bool true)], args := [d1, d2, d3, d4, d5] }
  | _ => none }
def fnExactMoveHandleRow : OpenClaim := { program := "ythhenipljdanjaa", sum := "2724a74325802004dd6c83124b4bd43c778af15fa07ef5ea914037cc00cabee0", func := "loop.example/g00901/laws.FnExactMoveHandle", spec := "fnExactMoveHandle", unfollowed := true, recurses := true, plainKeys := false, apart := false }
def FnExactMoveHandleSaid : Prop := fnExactMoveHandleRow.holds Try.pinned (OpenSpec.ofChange fnExactMoveHandleSpec)

/-- ITS FALSE NEIGHBOUR: 'it returns false'. Refute it at one input. -/
def fnExactMoveHandleWrong : ChangeSpec := { name := "fnExactMoveHandle", fn := fun _ => fun
  | [d1, d2, d3, d4, d5] => { results := [.lit (.bool false)], args := [d1, d2, d3, d4, d5] }
  | _ => none }
def FnExactMoveHandleWrongFalsely : Prop := fnExactMoveHandleRow.holds Try.pinned (OpenSpec.ofChange fnExactMoveHandleWrong)

/-- 'laws.FnExactDropHandle': WHATEVER THE INPUT: true; the input reads as it did. -/
def fnExactDropHandleSpec : ChangeSpec := { name := "fnExactDropHandle", fn := fun _ => fun
  | [d1, d2, d3] => { results := [.lit (.bool true)], args := [d1, d2, d3] }
  | _ => none }
def fnExactDropHandleRow : OpenClaim := { program := "ythhenipljdanjaa", sum := "2724a74325802004dd6c83124b4bd43c778af15fa07ef5ea914037cc00cabee0", func := "loop.example/g00901/laws.FnExactDropHandle", spec := "fnExactDropHandle", unfollowed := true, recurses := true, plainKeys := false, apart := false }
def FnExactDropHandleSaid : Prop := fnExactDropHandleRow.holds Try.pinned (OpenSpec.ofChange fnExactDropHandleSpec)

/-- ITS FALSE NEIGHBOUR: 'it returns false'. Refute it at one input. -/
def fnExactDropHandleWrong : ChangeSpec := { name := "fnExactDropHandle", fn := fun _ => fun
  | [d1, d2, d3] => { results := [.lit (.bool false)], args := [d1, d2, d3] }
  | _ => none }
def FnExactDropHandleWrongFalsely : Prop := fnExactDropHandleRow.holds Try.pinned (OpenSpec.ofChange fnExactDropHandleWrong)

/-- 'laws.FnHandlesMoved': WHATEVER THE INPUT: true; the input reads as it did. -/
def fnHandlesMovedSpec : ChangeSpec := { name := "fnHandlesMoved", fn := fun _ => fun
  | [d] => { results := [.lit (.bool true)], args := [d] }
  | _ => none }
def fnHandlesMovedRow : OpenClaim := { program := "ythhenipljdanjaa", sum := "2724a74325802004dd6c83124b4bd43c778af15fa07ef5ea914037cc00cabee0", func := "loop.example/g00901/laws.FnHandlesMoved", spec := "fnHandlesMoved", unfollowed := true, recurses := true, plainKeys := false, apart := false }
def FnHandlesMovedSaid : Prop := fnHandlesMovedRow.holds Try.pinned (OpenSpec.ofChange fnHandlesMovedSpec)

/-- ITS FALSE NEIGHBOUR: 'it returns false'. Refute it at one input. -/
def fnHandlesMovedWrong : ChangeSpec := { name := "fnHandlesMoved", fn := fun _ => fun
  | [d] => { results := [.lit (.bool false)], args := [d] }
  | _ => none }
def FnHandlesMovedWrongFalsely : Prop := fnHandlesMovedRow.holds Try.pinned (OpenSpec.ofChange fnHandlesMovedWrong)

/- THE SECOND FORM. 'bulk': how many values and letters a reading holds, each counted each time it is reached (what is shared counts as often as it is met; a slice's spare places count too). A statement '..UptoSaid' is the law's where the arguments, and the package variables that the reading takes, are together of bulk at most 1048576: NARROWER than '..Said'. Prove '..Said' where nothing that the law and all that it calls make is longer than what came in: it says more and counts as full. Else prove '..UptoSaid'. A law counts once. -/
mutual
def uptoBulk {H : Type} : DataW H → Nat
  | .lit (.string bytes) => bytes.length + 1
  | .lit _ => 1
  | .nil => 1
  | .ptr d => uptoBulk d + 1
  | .slice elems spare => uptoBulkAll elems + uptoBulkAll spare + 1
  | .agg parts => uptoBulkAll parts + 1
  | .iface _ d => uptoBulk d + 1
  | .map entries => uptoBulkEntries entries + 1
  | .held _ => 1
def uptoBulkAll {H : Type} : List (DataW H) → Nat
  | [] => 0
  | d :: r => uptoBulk d + uptoBulkAll r
def uptoBulkEntries {H : Type} : List (Lit × DataW H) → Nat
  | [] => 0
  | x :: r => uptoBulkEntry x + uptoBulkEntries r
def uptoBulkEntry {H : Type} : Lit × DataW H → Nat
  | (.string bytes, d) => bytes.length + uptoBulk d + 1
  | (_, d) => uptoBulk d + 1
 end
def uptoSmall : (H : Type) → List (DataW H) → Bool := fun _ ds => decide (uptoBulkAll ds ≤ 1048576)
def OpenSpec.upto (s : _root_.Go.ChangeSpec) : _root_.Go.OpenSpec := { _root_.Go.OpenSpec.ofChange s with cond := some uptoSmall }

/-- 'laws.FnExactOnStack', WHERE WHAT IT READS IS OF BULK AT MOST 1048576: true; the input reads as it did. -/
def fnExactOnStackUptoRow : OpenClaim := { program := "ythhenipljdanjaa", sum := "2724a74325802004dd6c83124b4bd43c778af15fa07ef5ea914037cc00cabee0", func := "loop.example/g00901/laws.FnExactOnStack", spec := "fnExactOnStack", unfollowed := true, recurses := true, plainKeys := false, apart := false, narrowed := true }
def FnExactOnStackUptoSaid : Prop := fnExactOnStackUptoRow.holds Try.pinned (OpenSpec.upto fnExactOnStackSpec)

/-- 'laws.FnExactTopOf', WHERE WHAT IT READS IS OF BULK AT MOST 1048576: true; the input reads as it did. -/
def fnExactTopOfUptoRow : OpenClaim := { program := "ythhenipljdanjaa", sum := "2724a74325802004dd6c83124b4bd43c778af15fa07ef5ea914037cc00cabee0", func := "loop.example/g00901/laws.FnExactTopOf", spec := "fnExactTopOf", unfollowed := true, recurses := true, plainKeys := false, apart := false, narrowed := true }
def FnExactTopOfUptoSaid : Prop := fnExactTopOfUptoRow.holds Try.pinned (OpenSpec.upto fnExactTopOfSpec)

/-- 'laws.FnExactMayEnter', WHERE WHAT IT READS IS OF BULK AT MOST 1048576: true; the input reads as it did. -/
def fnExactMayEnterUptoRow : OpenClaim := { program := "ythhenipljdanjaa", sum := "2724a74325802004dd6c83124b4bd43c778af15fa07ef5ea914037cc00cabee0", func := "loop.example/g00901/laws.FnExactMayEnter", spec := "fnExactMayEnter", unfollowed := true, recurses := true, plainKeys := false, apart := false, narrowed := true }
def FnExactMayEnterUptoSaid : Prop := fnExactMayEnterUptoRow.holds Try.pinned (OpenSpec.upto fnExactMayEnterSpec)

/-- 'laws.FnExactNewShelf', WHERE WHAT IT READS IS OF BULK AT MOST 1048576: true; the input reads as it did. -/
def fnExactNewShelfUptoRow : OpenClaim := { program := "ythhenipljdanjaa", sum := "2724a74325802004dd6c83124b4bd43c778af15fa07ef5ea914037cc00cabee0", func := "loop.example/g00901/laws.FnExactNewShelf", spec := "fnExactNewShelf", plainKeys := false, apart := false, narrowed := true }
def FnExactNewShelfUptoSaid : Prop := fnExactNewShelfUptoRow.holds Try.pinned (OpenSpec.upto fnExactNewShelfSpec)

/-- 'laws.FnExactNewYard', WHERE WHAT IT READS IS OF BULK AT MOST 1048576: true; the input reads as it did. -/
def fnExactNewYardUptoRow : OpenClaim := { program := "ythhenipljdanjaa", sum := "2724a74325802004dd6c83124b4bd43c778af15fa07ef5ea914037cc00cabee0", func := "loop.example/g00901/laws.FnExactNewYard", spec := "fnExactNewYard", plainKeys := false, apart := false, narrowed := true }
def FnExactNewYardUptoSaid : Prop := fnExactNewYardUptoRow.holds Try.pinned (OpenSpec.upto fnExactNewYardSpec)

/-- 'laws.FnExactMakeHandle', WHERE WHAT IT READS IS OF BULK AT MOST 1048576: true; the input reads as it did. -/
def fnExactMakeHandleUptoRow : OpenClaim := { program := "ythhenipljdanjaa", sum := "2724a74325802004dd6c83124b4bd43c778af15fa07ef5ea914037cc00cabee0", func := "loop.example/g00901/laws.FnExactMakeHandle", spec := "fnExactMakeHandle", unfollowed := true, recurses := true, plainKeys := false, apart := false, narrowed := true }
def FnExactMakeHandleUptoSaid : Prop := fnExactMakeHandleUptoRow.holds Try.pinned (OpenSpec.upto fnExactMakeHandleSpec)

/-- 'laws.FnExactLendHandle', WHERE WHAT IT READS IS OF BULK AT MOST 1048576: true; the input reads as it did. -/
def fnExactLendHandleUptoRow : OpenClaim := { program := "ythhenipljdanjaa", sum := "2724a74325802004dd6c83124b4bd43c778af15fa07ef5ea914037cc00cabee0", func := "loop.example/g00901/laws.FnExactLendHandle", spec := "fnExactLendHandle", unfollowed := true, recurses := true, plainKeys := false, apart := false, narrowed := true }
def FnExactLendHandleUptoSaid : Prop := fnExactLendHandleUptoRow.holds Try.pinned (OpenSpec.upto fnExactLendHandleSpec)

/-- 'laws.FnExactMoveHandle', WHERE WHAT IT READS IS OF BULK AT MOST 1048576: true; the input reads as it did. -/
def fnExactMoveHandleUptoRow : OpenClaim := { program := "ythhenipljdanjaa", sum := "2724a74325802004dd6c83124b4bd43c778af15fa07ef5ea914037cc00cabee0", func := "loop.example/g00901/laws.FnExactMoveHandle", spec := "fnExactMoveHandle", unfollowed := true, recurses := true, plainKeys := false, apart := false, narrowed := true }
def FnExactMoveHandleUptoSaid : Prop := fnExactMoveHandleUptoRow.holds Try.pinned (OpenSpec.upto fnExactMoveHandleSpec)

/-- 'laws.FnExactDropHandle', WHERE WHAT IT READS IS OF BULK AT MOST 1048576: true; the input reads as it did. -/
def fnExactDropHandleUptoRow : OpenClaim := { program := "ythhenipljdanjaa", sum := "2724a74325802004dd6c83124b4bd43c778af15fa07ef5ea914037cc00cabee0", func := "loop.example/g00901/laws.FnExactDropHandle", spec := "fnExactDropHandle", unfollowed := true, recurses := true, plainKeys := false, apart := false, narrowed := true }
def FnExactDropHandleUptoSaid : Prop := fnExactDropHandleUptoRow.holds Try.pinned (OpenSpec.upto fnExactDropHandleSpec)

/-- 'laws.FnHandlesMoved', WHERE WHAT IT READS IS OF BULK AT MOST 1048576: true; the input reads as it did. -/
def fnHandlesMovedUptoRow : OpenClaim := { program := "ythhenipljdanjaa", sum := "2724a74325802004dd6c83124b4bd43c778af15fa07ef5ea914037cc00cabee0", func := "loop.example/g00901/laws.FnHandlesMoved", spec := "fnHandlesMoved", unfollowed := true, recurses := true, plainKeys := false, apart := false, narrowed := true }
def FnHandlesMovedUptoSaid : Prop := fnHandlesMovedUptoRow.holds Try.pinned (OpenSpec.upto fnHandlesMovedSpec)

end Rows
end Go.Proofs.Ythhenipljdanjaa
