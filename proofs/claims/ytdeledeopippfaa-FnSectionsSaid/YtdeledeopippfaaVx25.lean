/- Texts for VSectionsP. -/
import Derived.Test.YtdeledeopippfaaVx19
namespace Go.Proofs.Ytdeledeopippfaa
open Go Go.RowKit
set_option linter.unusedVariables false
set_option linter.unusedSimpArgs false
structure Import where
  name : ByteArray
  params : Int
  result : Bool
  deriving DecidableEq, Inhabited
def Import.cs (a : Import) : List AV := [.s a.name, .i .i64 a.params, .b a.result]
theorem Import.low (a : Import) : a.cs.all (low1 0) = true := rfl
def Import.ok (a : Import) : Prop := okS a.name
def Import.sz (a : Import) (left : Int) : Int :=
  if (szSt a.name left) < 0 then -1 else (szSt a.name left)
structure Core where
  name : ByteArray
  params : Int
  locals : Int
  result : Bool
  code : List Ins
  deriving DecidableEq, Inhabited
def Core.cs (a : Core) : List AV := [.s a.name, .i .i64 a.params, .i .i64 a.locals, .b a.result, slL 2 Ins.cs a.code]
theorem Core.low (a : Core) : a.cs.all (low1 0) = true := rfl
def Core.ok (a : Core) : Prop := okS a.name ∧ (okL Ins.ok) a.code
def Core.sz (a : Core) (left : Int) : Int :=
  if (szSt a.name left) < 0 then -1 else if (szFl a.code (szSt a.name left)) < 0 then -1 else (szFl a.code (szSt a.name left))
structure Module where
  pages : Int
  imports : List Import
  cores : List Core
  deriving DecidableEq, Inhabited
def Module.cs (a : Module) : List AV := [.i .i64 a.pages, slL 3 Import.cs a.imports, slL 5 Core.cs a.cores]
theorem Module.low (a : Module) : a.cs.all (low1 0) = true := rfl
def Module.ok (a : Module) : Prop := (okL Import.ok) a.imports ∧ (okL Core.ok) a.cores
def Module.sz (a : Module) (left : Int) : Int :=
  if ((szLs Import.sz) a.imports left) < 0 then -1 else if ((szLs Core.sz) a.cores ((szLs Import.sz) a.imports left)) < 0 then -1 else ((szLs Core.sz) a.cores ((szLs Import.sz) a.imports left))
end Go.Proofs.Ytdeledeopippfaa
