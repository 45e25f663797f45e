/-
  NARROWER THAN 'FOR EVERY INPUT', by the rows' own cells (each row's printed sentence says how): FnExactTermOk: loops · FnExactSameTerm: loops · FnExactTermText: loops.
  DERIVED. THE GIVEN ROWS OF THIS SEAT. 4 by the template 'for every input the law returns true; each argument reads behind the call as it read before'; 0 by the template 'total and deterministic' (their statements: YtllcemegnggpfaaTotals.lean).
  GIVEN WITH THE SEED: the statements are not yours to turn. If you find one false, say at which input.
  Laid BY PROGRAM, IN A SANDBOX (cutbox-rows.mjs): the forced cells as the released guide's own fill.sh prints them over the translation 3a66ad9f9c1a1d19… (all of the seat's roots in one cut). By AI agents, Wed Nov 11 2026. No macro, syntax, notation, axiom, sorry.
-/
import Derived.Test.YtllcemegnggpfaaChecked
import GoSem.Claim
import GoSem.ClaimJoined
import GoSem.ClaimMapViews
import Derived.JoinedTies
import Derived.KernelRfl
namespace Go.Proofs.Ytllcemegnggpfaa
/- THE CELL 'sum', in the pinned program and in every row, IS THE sha256 OF THE DUMP (.gsa) THAT YtllcemegnggpfaaProg.lean LOADS. Nothing in Lean hashes anything: it is a label: what it is worth is what the hold of that sum in a sandbox is worth. -/
noncomputable def Try.pinned : Pinned := { name := "ytllcemegnggpfaa", sum := "3a66ad9f9c1a1d19c37075b9ae48ed49648e81223c7355b6a869f1601f1629c5", checked := Try.checked }
namespace Rows
def none {H : Type} : Left H := { results := [], args := [] }

/-- 'laws.FnExactReadTerm': WHATEVER THE INPUT: true; the input reads as it did. -/
def fnExactReadTermSpec : ChangeSpec := { name := "fnExactReadTerm", fn := fun _ => fun
  | [d] => { results := [.lit (.bool true)], args := [d] }
  | _ => none }
def fnExactReadTermRow : OpenClaim := { program := "ytllcemegnggpfaa", sum := "3a66ad9f9c1a1d19c37075b9ae48ed49648e81223c7355b6a869f1601f1629c5", func := "loop.example/g00901/laws.FnExactReadTerm", spec := "fnExactReadTerm", inPlace := ["internal/bytealg.IndexByteString"], unfollowed := true, recurses := true, apart := false }
def FnExactReadTermSaid : Prop := fnExactReadTermRow.holds Try.pinned (OpenSpec.ofChange fnExactReadTermSpec)

/-- ITS FALSE NEIGHBOUR: 'it returns false'. Refute it at one input. -/
def fnExactReadTermWrong : ChangeSpec := { name := "fnExactReadTerm", fn := fun _ => fun
  | [d] => { results := [.lit (.bool false)], args := [d] }
  | _ => none }
def FnExactReadTermWrongFalsely : Prop := fnExactReadTermRow.holds Try.pinned (OpenSpec.ofChange fnExactReadTermWrong)

/-- 'laws.FnExactTermOk': WHATEVER THE INPUT: true; the input reads as it did. -/
def fnExactTermOkSpec : ChangeSpec := { name := "fnExactTermOk", fn := fun _ => fun
  | [d] => { results := [.lit (.bool true)], args := [d] }
  | _ => none }
def fnExactTermOkRow : OpenClaim := { program := "ytllcemegnggpfaa", sum := "3a66ad9f9c1a1d19c37075b9ae48ed49648e81223c7355b6a869f1601f1629c5", func := "loop.example/g00901/laws.FnExactTermOk", spec := "fnExactTermOk", inPlace := ["internal/abi.NoEscape", "internal/bytealg.MakeNoZero", "internal/bytealg.IndexByteString"], unfollowed := true, recurses := true, loops := true, apart := false }
def FnExactTermOkSaid : Prop := fnExactTermOkRow.holds Try.pinned (OpenSpec.ofChange fnExactTermOkSpec)

/-- ITS FALSE NEIGHBOUR: 'it returns false'. Refute it at one input. -/
def fnExactTermOkWrong : ChangeSpec := { name := "fnExactTermOk", fn := fun _ => fun
  | [d] => { results := [.lit (.bool false)], args := [d] }
  | _ => none }
def FnExactTermOkWrongFalsely : Prop := fnExactTermOkRow.holds Try.pinned (OpenSpec.ofChange fnExactTermOkWrong)

/-- 'laws.FnExactSameTerm': WHATEVER THE INPUT: true; the input reads as it did. -/
def fnExactSameTermSpec : ChangeSpec := { name := "fnExactSameTerm", fn := fun _ => fun
  | [d1, d2] => { results := [.lit (.bool true)], args := [d1, d2] }
  | _ => none }
def fnExactSameTermRow : OpenClaim := { program := "ytllcemegnggpfaa", sum := "3a66ad9f9c1a1d19c37075b9ae48ed49648e81223c7355b6a869f1601f1629c5", func := "loop.example/g00901/laws.FnExactSameTerm", spec := "fnExactSameTerm", inPlace := ["internal/abi.NoEscape", "internal/bytealg.MakeNoZero", "internal/bytealg.IndexByteString"], unfollowed := true, recurses := true, loops := true, apart := false }
def FnExactSameTermSaid : Prop := fnExactSameTermRow.holds Try.pinned (OpenSpec.ofChange fnExactSameTermSpec)

/-- ITS FALSE NEIGHBOUR: 'it returns false'. Refute it at one input. -/
def fnExactSameTermWrong : ChangeSpec := { name := "fnExactSameTerm", fn := fun _ => fun
  | [d1, d2] => { results := [.lit (.bool false)], args := [d1, d2] }
  | _ => none }
def FnExactSameTermWrongFalsely : Prop := fnExactSameTermRow.holds Try.pinned (OpenSpec.ofChange fnExactSameTermWrong)

/-- 'laws.FnExactTermText': WHATEVER THE INPUT: true; the input reads as it did. -/
def fnExactTermTextSpec : ChangeSpec := { name := "fnExactTermText", fn := fun _ => fun
  | [d] => { results := [.lit (.bool true)], args := [d] }
  | _ => none }
def fnExactTermTextRow : OpenClaim := { program := "ytllcemegnggpfaa", sum := "3a66ad9f9c1a1d19c37075b9ae48ed49648e81223c7355b6a869f1601f1629c5", func := "loop.example/g00901/laws.FnExactTermText", spec := "fnExactTermText", inPlace := ["internal/abi.NoEscape", "internal/bytealg.MakeNoZero", "internal/bytealg.IndexByteString"], unfollowed := true, recurses := true, loops := true, apart := false }
def FnExactTermTextSaid : Prop := fnExactTermTextRow.holds Try.pinned (OpenSpec.ofChange fnExactTermTextSpec)

/-- ITS FALSE NEIGHBOUR: 'it returns false'. Refute it at one input. -/
def fnExactTermTextWrong : ChangeSpec := { name := "fnExactTermText", fn := fun _ => fun
  | [d] => { results := [.lit (.bool false)], args := [d] }
  | _ => none }
def FnExactTermTextWrongFalsely : Prop := fnExactTermTextRow.holds Try.pinned (OpenSpec.ofChange fnExactTermTextWrong)

/- THE SECOND FORM. 'bulk': how many values and letters a reading holds, each counted each time it is reached (what is shared counts as often as it is met; a slice's spare places count too). A statement '..UptoSaid' is the law's where the arguments, and the package variables that the reading takes, are together of bulk at most 1048576: NARROWER than '..Said'. Prove '..Said' where nothing that the law and all that it calls make is longer than what came in: it says more and counts as full. Else prove '..UptoSaid'. A law counts once. -/
mutual
def uptoBulk {H : Type} : DataW H → Nat
  | .lit (.string bytes) => bytes.length + 1
  | .lit _ => 1
  | .nil => 1
  | .ptr d => uptoBulk d + 1
  | .slice elems spare => uptoBulkAll elems + uptoBulkAll spare + 1
  | .agg parts => uptoBulkAll parts + 1
  | .iface _ d => uptoBulk d + 1
  | .map entries => uptoBulkEntries entries + 1
  | .held _ => 1
def uptoBulkAll {H : Type} : List (DataW H) → Nat
  | [] => 0
  | d :: r => uptoBulk d + uptoBulkAll r
def uptoBulkEntries {H : Type} : List (Lit × DataW H) → Nat
  | [] => 0
  | x :: r => uptoBulkEntry x + uptoBulkEntries r
def uptoBulkEntry {H : Type} : Lit × DataW H → Nat
  | (.string bytes, d) => bytes.length + uptoBulk d + 1
  | (_, d) => uptoBulk d + 1
 end
def uptoSmall : (H : Type) → List (DataW H) → Bool := fun _ ds => decide (uptoBulkAll ds ≤ 1048576)
def OpenSpec.upto (s : _root_.Go.ChangeSpec) : _root_.Go.OpenSpec := { _root_.Go.OpenSpec.ofChange s with cond := some uptoSmall }

/-- 'laws.FnExactReadTerm', WHERE WHAT IT READS IS OF BULK AT MOST 1048576: true; the input reads as it did. -/
def fnExactReadTermUptoRow : OpenClaim := { program := "ytllcemegnggpfaa", sum := "3a66ad9f9c1a1d19c37075b9ae48ed49648e81223c7355b6a869f1601f1629c5", func := "loop.example/g00901/laws.FnExactReadTerm", spec := "fnExactReadTerm", inPlace := ["internal/bytealg.IndexByteString"], unfollowed := true, recurses := true, apart := false, narrowed := true }
def FnExactReadTermUptoSaid : Prop := fnExactReadTermUptoRow.holds Try.pinned (OpenSpec.upto fnExactReadTermSpec)

/-- 'laws.FnExactTermOk', WHERE WHAT IT READS IS OF BULK AT MOST 1048576: true; the input reads as it did. -/
def fnExactTermOkUptoRow : OpenClaim := { program := "ytllcemegnggpfaa", sum := "3a66ad9f9c1a1d19c37075b9ae48ed49648e81223c7355b6a869f1601f1629c5", func := "loop.example/g00901/laws.FnExactTermOk", spec := "fnExactTermOk", inPlace := ["internal/abi.NoEscape", "internal/bytealg.MakeNoZero", "internal/bytealg.IndexByteString"], unfollowed := true, recurses := true, loops := true, apart := false, narrowed := true }
def FnExactTermOkUptoSaid : Prop := fnExactTermOkUptoRow.holds Try.pinned (OpenSpec.upto fnExactTermOkSpec)

/-- 'laws.FnExactSameTerm', WHERE WHAT IT READS IS OF BULK AT MOST 1048576: true; the input reads as it did. -/
def fnExactSameTermUptoRow : OpenClaim := { program := "ytllcemegnggpfaa", sum := "3a66ad9f9c1a1d19c37075b9ae48ed49648e81223c7355b6a869f1601f1629c5", func := "loop.example/g00901/laws.FnExactSameTerm", spec := "fnExactSameTerm", inPlace := ["internal/abi.NoEscape", "internal/bytealg.MakeNoZero", "internal/bytealg.IndexByteString"], unfollowed := true, recurses := true, loops := true, apart := false, narrowed := true }
def FnExactSameTermUptoSaid : Prop := fnExactSameTermUptoRow.holds Try.pinned (OpenSpec.upto fnExactSameTermSpec)

/-- 'laws.FnExactTermText', WHERE WHAT IT READS IS OF BULK AT MOST 1048576: true; the input reads as it did. -/
def fnExactTermTextUptoRow : OpenClaim := { program := "ytllcemegnggpfaa", sum := "3a66ad9f9c1a1d19c37075b9ae48ed49648e81223c7355b6a869f1601f1629c5", func := "loop.example/g00901/laws.FnExactTermText", spec := "fnExactTermText", inPlace := ["internal/abi.NoEscape", "internal/bytealg.MakeNoZero", "internal/bytealg.IndexByteString"], unfollowed := true, recurses := true, loops := true, apart := false, narrowed := true }
def FnExactTermTextUptoSaid : Prop := fnExactTermTextUptoRow.holds Try.pinned (OpenSpec.upto fnExactTermTextSpec)

end Rows
end Go.Proofs.Ytllcemegnggpfaa
