/-
  No cell of these rows narrows 'for every input' (looked for: loops, veiled, ifaces, maps, wideKeys, modest, calm, conditions, laid).
  DERIVED. THE GIVEN ROWS OF THIS SEAT. 3 by the template 'for every input the law returns true; each argument reads behind the call as it read before'; 0 by the template 'total and deterministic' (their statements: YtfjciadhanfhpaaTotals.lean).
  GIVEN WITH THE SEED: the statements are not yours to turn. If you find one false, say at which input.
  Laid BY PROGRAM, IN A SANDBOX (cutbox-rows.mjs): the forced cells as the released guide's own fill.sh prints them over the translation f93652b9aa1497ea… (all of the seat's roots in one cut). By AI agents, Wed Nov 11 2026. No macro, syntax, notation, axiom, sorry.
-/
import Derived.Test.YtfjciadhanfhpaaChecked
import GoSem.Claim
import GoSem.ClaimJoined
import GoSem.ClaimMapViews
import Derived.JoinedTies
import Derived.KernelRfl
namespace Go.Proofs.Ytfjciadhanfhpaa
/- THE CELL 'sum', in the pinned program and in every row, IS THE sha256 OF THE DUMP (.gsa) THAT YtfjciadhanfhpaaProg.lean LOADS. Nothing in Lean hashes anything: it is a label: what it is worth is what the hold of that sum in a sandbox is worth. -/
noncomputable def Try.pinned : Pinned := { name := "ytfjciadhanfhpaa", sum := "f93652b9aa1497eac55895c55c38b792c258e994516855700dbf773089a61340", checked := Try.checked }
namespace Rows
def none {H : Type} : Left H := { results := [], args := [] }

/-- 'laws.FnExactNewShelf': WHATEVER THE INPUT: true; the input reads as it did. -/
def fnExactNewShelfSpec : ChangeSpec := { name := "fnExactNewShelf", fn := fun _ => fun
  | [d] => { results := [.lit (.bool true)], args := [d] }
  | _ => none }
def fnExactNewShelfRow : OpenClaim := { program := "ytfjciadhanfhpaa", sum := "f93652b9aa1497eac55895c55c38b792c258e994516855700dbf773089a61340", func := "loop.example/g00901/laws.FnExactNewShelf", spec := "fnExactNewShelf", plainKeys := false, apart := false }
def FnExactNewShelfSaid : Prop := fnExactNewShelfRow.holds Try.pinned (OpenSpec.ofChange fnExactNewShelfSpec)

/-- ITS FALSE NEIGHBOUR: 'it returns false'. Refute it at one input. -/
def fnExactNewShelfWrong : ChangeSpec := { name := "fnExactNewShelf", fn := fun _ => fun
  | [d] => { results := [.lit (.bool false)], args := [d] }
  | _ => none }
def FnExactNewShelfWrongFalsely : Prop := fnExactNewShelfRow.holds Try.pinned (OpenSpec.ofChange fnExactNewShelfWrong)

/-- 'laws.FnExactNewYard': WHATEVER THE INPUT: true; the input reads as it did. -/
def fnExactNewYardSpec : ChangeSpec := { name := "fnExactNewYard", fn := fun _ => fun
  | [d] => { results := [.lit (.bool true)], args := [d] }
  | _ => none }
def fnExactNewYardRow : OpenClaim := { program := "ytfjciadhanfhpaa", sum := "f93652b9aa1497eac55895c55c38b792c258e994516855700dbf773089a61340", func := "loop.example/g00901/laws.FnExactNewYard", spec := "fnExactNewYard", plainKeys := false, apart := false }
def FnExactNewYardSaid : Prop := fnExactNewYardRow.holds Try.pinned (OpenSpec.ofChange fnExactNewYardSpec)

/-- ITS FALSE NEIGHBOUR: 'it returns false'. Refute it at one input. -/
def fnExactNewYardWrong : ChangeSpec := { name := "fnExactNewYard", fn := fun _ => fun
  | [d] => { results := [.lit (.bool false)], args := [d] }
  | _ => none }
def FnExactNewYardWrongFalsely : Prop := fnExactNewYardRow.holds Try.pinned (OpenSpec.ofChange fnExactNewYardWrong)

/-- 'laws.FnExactEndScope': WHATEVER THE INPUT: true; the input reads as it did. -/
def fnExactEndScopeSpec : ChangeSpec := { name := "fnExactEndScope", fn := fun _ => fun
  | [d1, d2] => { results := [.lit (.bool true)], args := [d1, d2] }
  | _ => none }
def fnExactEndScopeRow : OpenClaim := { program := "ytfjciadhanfhpaa", sum := "f93652b9aa1497eac55895c55c38b792c258e994516855700dbf773089a61340", func := "loop.example/g00901/laws.FnExactEndScope", spec := "fnExactEndScope", unfollowed := true, recurses := true, plainKeys := false, apart := false }
def FnExactEndScopeSaid : Prop := fnExactEndScopeRow.holds Try.pinned (OpenSpec.ofChange fnExactEndScopeSpec)

/-- ITS FALSE NEIGHBOUR: 'it returns false'. Refute it at one input. -/
def fnExactEndScopeWrong : ChangeSpec := { name := "fnExactEndScope", fn := fun _ => fun
  | [d1, d2] => { results := [.lit (.bool false)], args := [d1, d2] }
  | _ => none }
def FnExactEndScopeWrongFalsely : Prop := fnExactEndScopeRow.holds Try.pinned (OpenSpec.ofChange fnExactEndScopeWrong)

/- THE SECOND FORM. 'bulk': how many values and letters a reading holds, each counted each time it is reached (what is shared counts as often as it is met; a slice's spare places count too). A statement '..UptoSaid' is the law's where the arguments, and the package variables that the reading takes, are together of bulk at most 1048576: NARROWER than '..Said'. Prove '..Said' where nothing that the law and all that it calls make is longer than what came in: it says more and counts as full. Else prove '..UptoSaid'. A law counts once. -/
mutual
def uptoBulk {H : Type} : DataW H → Nat
  | .lit (.string bytes) => bytes.length + 1
  | .lit _ => 1
  | .nil => 1
  | .ptr d => uptoBulk d + 1
  | .slice elems spare => uptoBulkAll elems + uptoBulkAll spare + 1
  | .agg parts => uptoBulkAll parts + 1
  | .iface _ d => uptoBulk d + 1
  | .map entries => uptoBulkEntries entries + 1
  | .held _ => 1
def uptoBulkAll {H : Type} : List (DataW H) → Nat
  | [] => 0
  | d :: r => uptoBulk d + uptoBulkAll r
def uptoBulkEntries {H : Type} : List (Lit × DataW H) → Nat
  | [] => 0
  | x :: r => uptoBulkEntry x + uptoBulkEntries r
def uptoBulkEntry {H : Type} : Lit × DataW H → Nat
  | (.string bytes, d) => bytes.length + uptoBulk d + 1
  | (_, d) => uptoBulk d + 1
 end
def uptoSmall : (H : Type) → List (DataW H) → Bool := fun _ ds => decide (uptoBulkAll ds ≤ 1048576)
def OpenSpec.upto (s : _root_.Go.ChangeSpec) : _root_.Go.OpenSpec := { _root_.Go.OpenSpec.ofChange s with cond := some uptoSmall }

/-- 'laws.FnExactNewShelf', WHERE WHAT IT READS IS OF BULK AT MOST 1048576: true; the input reads as it did. -/
def fnExactNewShelfUptoRow : OpenClaim := { program := "ytfjciadhanfhpaa", sum := "f93652b9aa1497eac55895c55c38b792c258e994516855700dbf773089a61340", func := "loop.example/g00901/laws.FnExactNewShelf", spec := "fnExactNewShelf", plainKeys := false, apart := false, narrowed := true }
def FnExactNewShelfUptoSaid : Prop := fnExactNewShelfUptoRow.holds Try.pinned (OpenSpec.upto fnExactNewShelfSpec)

/-- 'laws.FnExactNewYard', WHERE WHAT IT READS IS OF BULK AT MOST 1048576: true; the input reads as it did. -/
def fnExactNewYardUptoRow : OpenClaim := { program := "ytfjciadhanfhpaa", sum := "f93652b9aa1497eac55895c55c38b792c258e994516855700dbf773089a61340", func := "loop.example/g00901/laws.FnExactNewYard", spec := "fnExactNewYard", plainKeys := false, apart := false, narrowed := true }
def FnExactNewYardUptoSaid : Prop := fnExactNewYardUptoRow.holds Try.pinned (OpenSpec.upto fnExactNewYardSpec)

/-- 'laws.FnExactEndScope', WHERE WHAT IT READS IS OF BULK AT MOST 1048576: true; the input reads as it did. -/
def fnExactEndScopeUptoRow : OpenClaim := { program := "ytfjciadhanfhpaa", sum := "f93652b9aa1497eac55895c55c38b792c258e994516855700dbf773089a61340", func := "loop.example/g00901/laws.FnExactEndScope", spec := "fnExactEndScope", unfollowed := true, recurses := true, plainKeys := false, apart := false, narrowed := true }
def FnExactEndScopeUptoSaid : Prop := fnExactEndScopeUptoRow.holds Try.pinned (OpenSpec.upto fnExactEndScopeSpec)

end Rows
end Go.Proofs.Ytfjciadhanfhpaa
