/-
  NARROWER THAN 'FOR EVERY INPUT', by the rows' own cells (each row's printed sentence says how): FnExactSameStream: loops.
  DERIVED. THE GIVEN ROWS OF THIS SEAT. 12 by the template 'for every input the law returns true; each argument reads behind the call as it read before'; 0 by the template 'total and deterministic' (their statements: YtficddfiehjhbaaTotals.lean).
  GIVEN WITH THE SEED: the statements are not yours to turn. If you find one false, say at which input.
  Laid BY PROGRAM, IN A SANDBOX (cutbox-rows.mjs): the forced cells as the released guide's own fill.sh prints them over the translation 58b82516aa1e2857… (all of the seat's roots in one cut). By AI agents, Wed Nov 11 2026. No macro, syntax, notation, axiom, sorry.
-/
import Derived.Test.YtficddfiehjhbaaChecked
import GoSem.Claim
import GoSem.ClaimJoined
import GoSem.ClaimMapViews
import Derived.JoinedTies
import Derived.KernelRfl
namespace Go.Proofs.Ytficddfiehjhbaa
/- THE CELL 'sum', in the pinned program and in every row, IS THE sha256 OF THE DUMP (.gsa) THAT YtficddfiehjhbaaProg.lean LOADS. Nothing in Lean hashes anything: it is a label: what it is worth is what the hold of that sum in a sandbox is worth. -/
noncomputable def Try.pinned : Pinned := { name := "ytficddfiehjhbaa", sum := "58b82516aa1e2857b32a106fd87bbddf324070f4f45e80af27a898e069500ba1", checked := Try.checked }
namespace Rows
def none {H : Type} : Left H := { results := [], args := [] }

/-- 'laws.FnExactReadMem': WHATEVER THE INPUT: true; the input reads as it did. -/
def fnExactReadMemSpec : ChangeSpec := { name := "fnExactReadMem", fn := fun _ => fun
  | [d1, d2, d3] => { results := [.lit (.bool true)], args := [d1, d2, d3] }
  | _ => none }
def fnExactReadMemRow : OpenClaim := { program := "ytficddfiehjhbaa", sum := "58b82516aa1e2857b32a106fd87bbddf324070f4f45e80af27a898e069500ba1", func := "loop.example/g00901/laws.FnExactReadMem", spec := "fnExactReadMem", plainKeys := false, apart := false }
def FnExactReadMemSaid : Prop := fnExactReadMemRow.holds Try.pinned (OpenSpec.ofChange fnExactReadMemSpec)

/-- ITS FALSE NEIGHBOUR: 'it returns false'. Refute it at one input. -/
def fnExactReadMemWrong : ChangeSpec := { name := "fnExactReadMem", fn := fun _ => fun
  | [d1, d2, d3] => { results := [.lit (.bool false)], args := [d1, d2, d3] }
  | _ => none }
def FnExactReadMemWrongFalsely : Prop := fnExactReadMemRow.holds Try.pinned (OpenSpec.ofChange fnExactReadMemWrong)

/-- 'laws.FnExactWriteMem': WHATEVER THE INPUT: true; the input reads as it did. -/
def fnExactWriteMemSpec : ChangeSpec := { name := "fnExactWriteMem", fn := fun _ => fun
  | [d1, d2, d3] => { results := [.lit (.bool true)], args := [d1, d2, d3] }
  | _ => none }
def fnExactWriteMemRow : OpenClaim := { program := "ytficddfiehjhbaa", sum := "58b82516aa1e2857b32a106fd87bbddf324070f4f45e80af27a898e069500ba1", func := "loop.example/g00901/laws.FnExactWriteMem", spec := "fnExactWriteMem", plainKeys := false, apart := false }
def FnExactWriteMemSaid : Prop := fnExactWriteMemRow.holds Try.pinned (OpenSpec.ofChange fnExactWriteMemSpec)

/-- ITS FALSE NEIGHBOUR: 'it returns false'. Refute it at one input. -/
def fnExactWriteMemWrong : ChangeSpec := { name := "fnExactWriteMem", fn := fun _ => fun
  | [d1, d2, d3] => { results := [.lit (.bool false)], args := [d1, d2, d3] }
  | _ => none }
def FnExactWriteMemWrongFalsely : Prop := fnExactWriteMemRow.holds Try.pinned (OpenSpec.ofChange fnExactWriteMemWrong)

/-- 'laws.FnExactNewShelf': WHATEVER THE INPUT: true; the input reads as it did. -/
def fnExactNewShelfSpec : ChangeSpec := { name := "fnExactNewShelf", fn := fun _ => fun
  | [d] => { results := [.lit (.bool true)], args := [d] }
  | _ => none }
def fnExactNewShelfRow : OpenClaim := { program := "ytficddfiehjhbaa", sum := "58b82516aa1e2857b32a106fd87bbddf324070f4f45e80af27a898e069500ba1", func := "loop.example/g00901/laws.FnExactNewShelf", spec := "fnExactNewShelf", plainKeys := false, apart := false }
def FnExactNewShelfSaid : Prop := fnExactNewShelfRow.holds Try.pinned (OpenSpec.ofChange fnExactNewShelfSpec)

/-- ITS FALSE NEIGHBOUR: 'it returns false'. Refute it at one input. -/
def fnExactNewShelfWrong : ChangeSpec := { name := "fnExactNewShelf", fn := fun _ => fun
  | [d] => { results := [.lit (.bool false)], args := [d] }
  | _ => none }
def FnExactNewShelfWrongFalsely : Prop := fnExactNewShelfRow.holds Try.pinned (OpenSpec.ofChange fnExactNewShelfWrong)

/-- 'laws.FnExactSameStream': WHATEVER THE INPUT: true; the input reads as it did. -/
def fnExactSameStreamSpec : ChangeSpec := { name := "fnExactSameStream", fn := fun _ => fun
  | [d1, d2] => { results := [.lit (.bool true)], args := [d1, d2] }
  | _ => none }
def fnExactSameStreamRow : OpenClaim := { program := "ytficddfiehjhbaa", sum := "58b82516aa1e2857b32a106fd87bbddf324070f4f45e80af27a898e069500ba1", func := "loop.example/g00901/laws.FnExactSameStream", spec := "fnExactSameStream", unfollowed := true, recurses := true, loops := true, plainKeys := false, apart := false }
def FnExactSameStreamSaid : Prop := fnExactSameStreamRow.holds Try.pinned (OpenSpec.ofChange fnExactSameStreamSpec)

/-- ITS FALSE NEIGHBOUR: 'it returns false'. Refute it at one input. -/
def fnExactSameStreamWrong : ChangeSpec := { name := "fnExactSameStream", fn := fun _ => fun
  | [d1, d2] => { results := [.lit (.bool false)], args := [d1, d2] }
  | _ => none }
def FnExactSameStreamWrongFalsely : Prop := fnExactSameStreamRow.holds Try.pinned (OpenSpec.ofChange fnExactSameStreamWrong)

/-- 'laws.FnExactShelfOk': WHATEVER THE INPUT: true; the input reads as it did. -/
def fnExactShelfOkSpec : ChangeSpec := { name := "fnExactShelfOk", fn := fun _ => fun
  | [d] => { results := [.lit (.bool true)], args := [d] }
  | _ => none }
def fnExactShelfOkRow : OpenClaim := { program := "ytficddfiehjhbaa", sum := "58b82516aa1e2857b32a106fd87bbddf324070f4f45e80af27a898e069500ba1", func := "loop.example/g00901/laws.FnExactShelfOk", spec := "fnExactShelfOk", unfollowed := true, recurses := true, plainKeys := false, apart := false }
def FnExactShelfOkSaid : Prop := fnExactShelfOkRow.holds Try.pinned (OpenSpec.ofChange fnExactShelfOkSpec)

/-- ITS FALSE NEIGHBOUR: 'it returns false'. Refute it at one input. -/
def fnExactShelfOkWrong : ChangeSpec := { name := "fnExactShelfOk", fn := fun _ => fun
  | [d] => { results := [.lit (.bool false)], args := [d] }
  | _ => none }
def FnExactShelfOkWrongFalsely : Prop := fnExactShelfOkRow.holds Try.pinned (OpenSpec.ofChange fnExactShelfOkWrong)

/-- 'laws.FnExactWithOwn': WHATEVER THE INPUT: true; the input reads as it did. -/
def fnExactWithOwnSpec : ChangeSpec := { name := "fnExactWithOwn", fn := fun _ => fun
  | [d1, d2, d3, d4] => { results := [.lit (.bool true)], args := [d1, d2, d3, d4] }
  | _ => none }
def fnExactWithOwnRow : OpenClaim := { program := "ytficddfiehjhbaa", sum := "58b82516aa1e2857b32a106fd87bbddf324070f4f45e80af27a898e069500ba1", func := "loop.example/g00901/laws.FnExactWithOwn", spec := "fnExactWithOwn", inPlace := ["slices.overlaps[loop.example/g00901/impl.Section]", "internal/abi.NoEscape"], unfollowed := true, recurses := true, plainKeys := false, apart := false }
def FnExactWithOwnSaid : Prop := fnExactWithOwnRow.holds Try.pinned (OpenSpec.ofChange fnExactWithOwnSpec)

/-- ITS FALSE NEIGHBOUR: 'it returns false'. Refute it at one input. -/
def fnExactWithOwnWrong : ChangeSpec := { name := "fnExactWithOwn", fn := fun _ => fun
  | [d1, d2, d3, d4] => { results := [.lit (.bool false)], args := [d1, d2, d3, d4] }
  | _ => none }
def FnExactWithOwnWrongFalsely : Prop := fnExactWithOwnRow.holds Try.pinned (OpenSpec.ofChange fnExactWithOwnWrong)

/-- 'laws.FnExactNewYard': WHATEVER THE INPUT: true; the input reads as it did. -/
def fnExactNewYardSpec : ChangeSpec := { name := "fnExactNewYard", fn := fun _ => fun
  | [d] => { results := [.lit (.bool true)], args := [d] }
  | _ => none }
def fnExactNewYardRow : OpenClaim := { program := "ytficddfiehjhbaa", sum := "58b82516aa1e2857b32a106fd87bbddf324070f4f45e80af27a898e069500ba1", func := "loop.example/g00901/laws.FnExactNewYard", spec := "fnExactNewYard", plainKeys := false, apart := false }
def FnExactNewYardSaid : Prop := fnExactNewYardRow.holds Try.pinned (OpenSpec.ofChange fnExactNewYardSpec)

/-- ITS FALSE NEIGHBOUR: 'it returns false'. Refute it at one input. -/
def fnExactNewYardWrong : ChangeSpec := { name := "fnExactNewYard", fn := fun _ => fun
  | [d] => { results := [.lit (.bool false)], args := [d] }
  | _ => none }
def FnExactNewYardWrongFalsely : Prop := fnExactNewYardRow.holds Try.pinned (OpenSpec.ofChange fnExactNewYardWrong)

/-- 'laws.FnExactEntryAt': WHATEVER THE INPUT: true; the input reads as it did. -/
def fnExactEntryAtSpec : ChangeSpec := { name := "fnExactEntryAt", fn := fun _ => fun
  | [d1, d2, d3] => { results := [.lit (.bool true)], args := [d1, d2, d3] }
  | _ => none }
def fnExactEntryAtRow : OpenClaim := { program := "ytficddfiehjhbaa", sum := "58b82516aa1e2857b32a106fd87bbddf324070f4f45e80af27a898e069500ba1", func := "loop.example/g00901/laws.FnExactEntryAt", spec := "fnExactEntryAt", unfollowed := true, recurses := true, plainKeys := false, apart := false }
def FnExactEntryAtSaid : Prop := fnExactEntryAtRow.holds Try.pinned (OpenSpec.ofChange fnExactEntryAtSpec)

/-- ITS FALSE NEIGHBOUR: 'it returns false'. Refute it at one input. -/
def fnExactEntryAtWrong : ChangeSpec := { name := "fnExactEntryAt", fn := fun _ => fun
  | [d1, d2, d3] => { results := [.lit (.bool false)], args := [d1, d2, d3] }
  | _ => none }
def FnExactEntryAtWrongFalsely : Prop := fnExactEntryAtRow.holds Try.pinned (OpenSpec.ofChange fnExactEntryAtWrong)

/-- 'laws.FnExactOwnerOf': WHATEVER THE INPUT: true; the input reads as it did. -/
def fnExactOwnerOfSpec : ChangeSpec := { name := "fnExactOwnerOf", fn := fun _ => fun
  | [d1, d2] => { results := [.lit (.bool true)], args := [d1, d2] }
  | _ => none }
def fnExactOwnerOfRow : OpenClaim := { program := "ytficddfiehjhbaa", sum := "58b82516aa1e2857b32a106fd87bbddf324070f4f45e80af27a898e069500ba1", func := "loop.example/g00901/laws.FnExactOwnerOf", spec := "fnExactOwnerOf", unfollowed := true, recurses := true, plainKeys := false, apart := false }
def FnExactOwnerOfSaid : Prop := fnExactOwnerOfRow.holds Try.pinned (OpenSpec.ofChange fnExactOwnerOfSpec)

/-- ITS FALSE NEIGHBOUR: 'it returns false'. Refute it at one input. -/
def fnExactOwnerOfWrong : ChangeSpec := { name := "fnExactOwnerOf", fn := fun _ => fun
  | [d1, d2] => { results := [.lit (.bool false)], args := [d1, d2] }
  | _ => none }
def FnExactOwnerOfWrongFalsely : Prop := fnExactOwnerOfRow.holds Try.pinned (OpenSpec.ofChange fnExactOwnerOfWrong)

/-- 'laws.FnExactBorrowsIn': WHATEVER THE INPUT: true; the input reads as it did. -/
def fnExactBorrowsInSpec : ChangeSpec := { name := "fnExactBorrowsIn", fn := fun _ => fun
  | [d1, d2] => { results := [.lit (.bool true)], args := [d1, d2] }
  | _ => none }
def fnExactBorrowsInRow : OpenClaim := { program := "ytficddfiehjhbaa", sum := "58b82516aa1e2857b32a106fd87bbddf324070f4f45e80af27a898e069500ba1", func := "loop.example/g00901/laws.FnExactBorrowsIn", spec := "fnExactBorrowsIn", unfollowed := true, recurses := true, plainKeys := false, apart := false }
def FnExactBorrowsInSaid : Prop := fnExactBorrowsInRow.holds Try.pinned (OpenSpec.ofChange fnExactBorrowsInSpec)

/-- ITS FALSE NEIGHBOUR: 'it returns false'. Refute it at one input. -/
def fnExactBorrowsInWrong : ChangeSpec := { name := "fnExactBorrowsIn", fn := fun _ => fun
  | [d1, d2] => { results := [.lit (.bool false)], args := [d1, d2] }
  | _ => none }
def FnExactBorrowsInWrongFalsely : Prop := fnExactBorrowsInRow.holds Try.pinned (OpenSpec.ofChange fnExactBorrowsInWrong)

/-- 'laws.FnExactRepAt': WHATEVER THE INPUT: true; the input reads as it did. -/
def fnExactRepAtSpec : ChangeSpec := { name := "fnExactRepAt", fn := fun _ => fun
  | [d1, d2, d3, d4] => { results := [.lit (.bool true)], args := [d1, d2, d3, d4] }
  | _ => none }
def fnExactRepAtRow : OpenClaim := { program := "ytficddfiehjhbaa", sum := "58b82516aa1e2857b32a106fd87bbddf324070f4f45e80af27a898e069500ba1", func := "loop.example/g00901/laws.FnExactRepAt", spec := "fnExactRepAt", unfollowed := true, recurses := true, plainKeys := false, apart := false }
def FnExactRepAtSaid : Prop := fnExactRepAtRow.holds Try.pinned (OpenSpec.ofChange fnExactRepAtSpec)

/-- ITS FALSE NEIGHBOUR: 'it returns false'. Refute it at one input. -/
def fnExactRepAtWrong : ChangeSpec := { name := "fnExactRepAt", fn := fun _ => fun
  | [d1, d2, d3, d4] => { results := [.lit (.bool false)], args := [d1, d2, d3, d4] }
  | _ => none }
def FnExactRepAtWrongFalsely : Prop := fnExactRepAtRow.holds Try.pinned (OpenSpec.ofChange fnExactRepAtWrong)

/-- 'laws.FnExactYardOk': WHATEVER THE INPUT: true; the input reads as it did. -/
def fnExactYardOkSpec : ChangeSpec := { name := "fnExactYardOk", fn := fun _ => fun
  | [d] => { results := [.lit (.bool true)], args := [d] }
  | _ => none }
def fnExactYardOkRow : OpenClaim := { program := "ytficddfiehjhbaa", sum := "58b82516aa1e2857b32a106fd87bbddf324070f4f45e80af27a898e069500ba1", func := "loop.example/g00901/laws.FnExactYardOk", spec := "fnExactYardOk", unfollowed := true, recurses := true, plainKeys := false, apart := false }
def FnExactYardOkSaid : Prop := fnExactYardOkRow.holds Try.pinned (OpenSpec.ofChange fnExactYardOkSpec)

/-- ITS FALSE NEIGHBOUR: 'it returns false'. Refute it at one input. -/
def fnExactYardOkWrong : ChangeSpec := { name := "fnExactYardOk", fn := fun _ => fun
  | [d] => { results := [.lit (.bool false)], args := [d] }
  | _ => none }
def FnExactYardOkWrongFalsely : Prop := fnExactYardOkRow.holds Try.pinned (OpenSpec.ofChange fnExactYardOkWrong)

/- THE SECOND FORM. 'bulk': how many values and letters a reading holds, each counted each time it is reached (what is shared counts as often as it is met; a slice's spare places count too). A statement '..UptoSaid' is the law's where the arguments, and the package variables that the reading takes, are together of bulk at most 1048576: NARROWER than '..Said'. Prove '..Said' where nothing that the law and all that it calls make is longer than what came in: it says more and counts as full. Else prove '..UptoSaid'. A law counts once. -/
mutual
def uptoBulk {H : Type} : DataW H → Nat
  | .lit (.string bytes) => bytes.length + 1
  | .lit _ => 1
  | .nil => 1
  | .ptr d => uptoBulk d + 1
  | .slice elems spare => uptoBulkAll elems + uptoBulkAll spare + 1
  | .agg parts => uptoBulkAll parts + 1
  | .iface _ d => uptoBulk d + 1
  | .map entries => uptoBulkEntries entries + 1
  | .held _ => 1
def uptoBulkAll {H : Type} : List (DataW H) → Nat
  | [] => 0
  | d :: r => uptoBulk d + uptoBulkAll r
def uptoBulkEntries {H : Type} : List (Lit × DataW H) → Nat
  | [] => 0
  | x :: r => uptoBulkEntry x + uptoBulkEntries r
def uptoBulkEntry {H : Type} : Lit × DataW H → Nat
  | (.string bytes, d) => bytes.length + uptoBulk d + 1
  | (_, d) => uptoBulk d + 1
 end
def uptoSmall : (H : Type) → List (DataW H) → Bool := fun _ ds => decide (uptoBulkAll ds ≤ 1048576)
def OpenSpec.upto (s : _root_.Go.ChangeSpec) : _root_.Go.OpenSpec := { _root_.Go.OpenSpec.ofChange s with cond := some uptoSmall }

/-- 'laws.FnExactReadMem', WHERE WHAT IT READS IS OF BULK AT MOST 1048576: true; the input reads as it did. -/
def fnExactReadMemUptoRow : OpenClaim := { program := "ytficddfiehjhbaa", sum := "58b82516aa1e2857b32a106fd87bbddf324070f4f45e80af27a898e069500ba1", func := "loop.example/g00901/laws.FnExactReadMem", spec := "fnExactReadMem", plainKeys := false, apart := false, narrowed := true }
def FnExactReadMemUptoSaid : Prop := fnExactReadMemUptoRow.holds Try.pinned (OpenSpec.upto fnExactReadMemSpec)

/-- 'laws.FnExactWriteMem', WHERE WHAT IT READS IS OF BULK AT MOST 1048576: true; the input reads as it did. -/
def fnExactWriteMemUptoRow : OpenClaim := { program := "ytficddfiehjhbaa", sum := "58b82516aa1e2857b32a106fd87bbddf324070f4f45e80af27a898e069500ba1", func := "loop.example/g00901/laws.FnExactWriteMem", spec := "fnExactWriteMem", plainKeys := false, apart := false, narrowed := true }
def FnExactWriteMemUptoSaid : Prop := fnExactWriteMemUptoRow.holds Try.pinned (OpenSpec.upto fnExactWriteMemSpec)

/-- 'laws.FnExactNewShelf', WHERE WHAT IT READS IS OF BULK AT MOST 1048576: true; the input reads as it did. -/
def fnExactNewShelfUptoRow : OpenClaim := { program := "ytficddfiehjhbaa", sum := "58b82516aa1e2857b32a106fd87bbddf324070f4f45e80af27a898e069500ba1", func := "loop.example/g00901/laws.FnExactNewShelf", spec := "fnExactNewShelf", plainKeys := false, apart := false, narrowed := true }
def FnExactNewShelfUptoSaid : Prop := fnExactNewShelfUptoRow.holds Try.pinned (OpenSpec.upto fnExactNewShelfSpec)

/-- 'laws.FnExactSameStream', WHERE WHAT IT READS IS OF BULK AT MOST 1048576: true; the input reads as it did. -/
def fnExactSameStreamUptoRow : OpenClaim := { program := "ytficddfiehjhbaa", sum := "58b82516aa1e2857b32a106fd87bbddf324070f4f45e80af27a898e069500ba1", func := "loop.example/g00901/laws.FnExactSameStream", spec := "fnExactSameStream", unfollowed := true, recurses := true, loops := true, plainKeys := false, apart := false, narrowed := true }
def FnExactSameStreamUptoSaid : Prop := fnExactSameStreamUptoRow.holds Try.pinned (OpenSpec.upto fnExactSameStreamSpec)

/-- 'laws.FnExactShelfOk', WHERE WHAT IT READS IS OF BULK AT MOST 1048576: true; the input reads as it did. -/
def fnExactShelfOkUptoRow : OpenClaim := { program := "ytficddfiehjhbaa", sum := "58b82516aa1e2857b32a106fd87bbddf324070f4f45e80af27a898e069500ba1", func := "loop.example/g00901/laws.FnExactShelfOk", spec := "fnExactShelfOk", unfollowed := true, recurses := true, plainKeys := false, apart := false, narrowed := true }
def FnExactShelfOkUptoSaid : Prop := fnExactShelfOkUptoRow.holds Try.pinned (OpenSpec.upto fnExactShelfOkSpec)

/-- 'laws.FnExactWithOwn', WHERE WHAT IT READS IS OF BULK AT MOST 1048576: true; the input reads as it did. -/
def fnExactWithOwnUptoRow : OpenClaim := { program := "ytficddfiehjhbaa", sum := "58b82516aa1e2857b32a106fd87bbddf324070f4f45e80af27a898e069500ba1", func := "loop.example/g00901/laws.FnExactWithOwn", spec := "fnExactWithOwn", inPlace := ["slices.overlaps[loop.example/g00901/impl.Section]", "internal/abi.NoEscape"], unfollowed := true, recurses := true, plainKeys := false, apart := false, narrowed := true }
def FnExactWithOwnUptoSaid : Prop := fnExactWithOwnUptoRow.holds Try.pinned (OpenSpec.upto fnExactWithOwnSpec)

/-- 'laws.FnExactNewYard', WHERE WHAT IT READS IS OF BULK AT MOST 1048576: true; the input reads as it did. -/
def fnExactNewYardUptoRow : OpenClaim := { program := "ytficddfiehjhbaa", sum := "58b82516aa1e2857b32a106fd87bbddf324070f4f45e80af27a898e069500ba1", func := "loop.example/g00901/laws.FnExactNewYard", spec := "fnExactNewYard", plainKeys := false, apart := false, narrowed := true }
def FnExactNewYardUptoSaid : Prop := fnExactNewYardUptoRow.holds Try.pinned (OpenSpec.upto fnExactNewYardSpec)

/-- 'laws.FnExactEntryAt', WHERE WHAT IT READS IS OF BULK AT MOST 1048576: true; the input reads as it did. -/
def fnExactEntryAtUptoRow : OpenClaim := { program := "ytficddfiehjhbaa", sum := "58b82516aa1e2857b32a106fd87bbddf324070f4f45e80af27a898e069500ba1", func := "loop.example/g00901/laws.FnExactEntryAt", spec := "fnExactEntryAt", unfollowed := true, recurses := true, plainKeys := false, apart := false, narrowed := true }
def FnExactEntryAtUptoSaid : Prop := fnExactEntryAtUptoRow.holds Try.pinned (OpenSpec.upto fnExactEntryAtSpec)

/-- 'laws.FnExactOwnerOf', WHERE WHAT IT READS IS OF BULK AT MOST 1048576: true; the input reads as it did. -/
def fnExactOwnerOfUptoRow : OpenClaim := { program := "ytficddfiehjhbaa", sum := "58b82516aa1e2857b32a106fd87bbddf324070f4f45e80af27a898e069500ba1", func := "loop.example/g00901/laws.FnExactOwnerOf", spec := "fnExactOwnerOf", unfollowed := true, recurses := true, plainKeys := false, apart := false, narrowed := true }
def FnExactOwnerOfUptoSaid : Prop := fnExactOwnerOfUptoRow.holds Try.pinned (OpenSpec.upto fnExactOwnerOfSpec)

/-- 'laws.FnExactBorrowsIn', WHERE WHAT IT READS IS OF BULK AT MOST 1048576: true; the input reads as it did. -/
def fnExactBorrowsInUptoRow : OpenClaim := { program := "ytficddfiehjhbaa", sum := "58b82516aa1e2857b32a106fd87bbddf324070f4f45e80af27a898e069500ba1", func := "loop.example/g00901/laws.FnExactBorrowsIn", spec := "fnExactBorrowsIn", unfollowed := true, recurses := true, plainKeys := false, apart := false, narrowed := true }
def FnExactBorrowsInUptoSaid : Prop := fnExactBorrowsInUptoRow.holds Try.pinned (OpenSpec.upto fnExactBorrowsInSpec)

/-- 'laws.FnExactRepAt', WHERE WHAT IT READS IS OF BULK AT MOST 1048576: true; the input reads as it did. -/
def fnExactRepAtUptoRow : OpenClaim := { program := "ytficddfiehjhbaa", sum := "58b82516aa1e2857b32a106fd87bbddf324070f4f45e80af27a898e069500ba1", func := "loop.example/g00901/laws.FnExactRepAt", spec := "fnExactRepAt", unfollowed := true, recurses := true, plainKeys := false, apart := false, narrowed := true }
def FnExactRepAtUptoSaid : Prop := fnExactRepAtUptoRow.holds Try.pinned (OpenSpec.upto fnExactRepAtSpec)

/-- 'laws.FnExactYardOk', WHERE WHAT IT READS IS OF BULK AT MOST 1048576: true; the input reads as it did. -/
def fnExactYardOkUptoRow : OpenClaim := { program := "ytficddfiehjhbaa", sum := "58b82516aa1e2857b32a106fd87bbddf324070f4f45e80af27a898e069500ba1", func := "loop.example/g00901/laws.FnExactYardOk", spec := "fnExactYardOk", unfollowed := true, recurses := true, plainKeys := false, apart := false, narrowed := true }
def FnExactYardOkUptoSaid : Prop := fnExactYardOkUptoRow.holds Try.pinned (OpenSpec.upto fnExactYardOkSpec)

end Rows
end Go.Proofs.Ytficddfiehjhbaa
