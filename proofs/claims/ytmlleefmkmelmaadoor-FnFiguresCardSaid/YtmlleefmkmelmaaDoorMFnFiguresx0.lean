-- Written by a program of this session for this claim; Lean checks it.
import Derived.Test.YtmlleefmkmelmaaDoorProg
import Derived.Below
import Derived.Deep.Draws
import Derived.Deep.AppendLies
import Derived.Maps.AppendAt
import Derived.OwnWalk
import Derived.Laws.BytesArg
import Derived.Laws.MakeOwn
import Derived.Laws.OwnMore
import Derived.Deep.OwnRows
import Derived.Tactics
import Derived.Lib.ConvBytes
import Derived.Laws.Slices
import Derived.WalkKit
import Derived.KernelRfl
import Derived.RowKit3
import Derived.Deep.LoopGhost
import Derived.Deep.QuietTactic
import Derived.BigQuiet
import Derived.WideLaws
import Derived.Deep.DeepCutAuto
import Derived.Deep.CutBlock
import Derived.Deep.RegionHeld3
import Derived.Laws.Rows
import Derived.Lib.AppendStr
import Derived.ArgAppend
import Derived.Laws.IdiomCopy
import Derived.OrdersHeld
import Derived.Laws.BitsLemmas
import Derived.RowKit
import Derived.BigQuiet
import Derived.Test.YtmlleefmkmelmaaDoorLaidT
import Derived.Test.YtmlleefmkmelmaaDoorWWords
import Derived.Test.YtmlleefmkmelmaaDoorWLast
import Derived.Test.YtmlleefmkmelmaaDoorWTab
import Derived.Test.YtmlleefmkmelmaaDoorWFour
import Derived.Test.YtmlleefmkmelmaaDoorWQPut
import Derived.Test.YtmlleefmkmelmaaDoorWApart
import Derived.Test.YtmlleefmkmelmaaDoorWArr
import Derived.Test.YtmlleefmkmelmaaDoorWZeros
import Derived.Test.YtmlleefmkmelmaaDoorWFoot
import Derived.Test.YtmlleefmkmelmaaDoorWKept
import Derived.Test.YtmlleefmkmelmaaDoorWShare
import Derived.Test.YtmlleefmkmelmaaDoorWN
import Derived.Test.YtmlleefmkmelmaaDoorWFootNe
import Derived.Test.YtmlleefmkmelmaaDoorWAt
import Derived.Test.YtmlleefmkmelmaaDoorWEqStruct
import Derived.Test.YtmlleefmkmelmaaDoorWRepsOne
import Derived.Test.YtmlleefmkmelmaaDoorWInv
import Derived.Test.YtmlleefmkmelmaaDoorWInvWords
import Derived.Test.YtmlleefmkmelmaaDoorWGuard
import Derived.Test.YtmlleefmkmelmaaDoorWNEv
import Derived.Test.YtmlleefmkmelmaaDoorWMore
namespace Go.Proofs.YtmlleefmkmelmaaDoor.PFnFigures
open Go.RowKit Go.Proofs.YtmlleefmkmelmaaDoorW.PrintWords Go.Proofs.YtmlleefmkmelmaaDoorW.PrintLast Go.Proofs.YtmlleefmkmelmaaDoorW.PrintMore
attribute [local go_sem] max2_int min2_int max_two min_two max_three min_three max_four min_four   -- for this text's walks alone
set_option linter.unusedVariables false
set_option linter.unusedSimpArgs false



def errW : Option Int → Value
  | none => .nilIface
  | some c => .iface 65 (.int .i64 c)
theorem errW_none : errW none = .nilIface := rfl
theorem errW_some (c : Int) : errW (some c) = .iface 65 (.int .i64 c) := rfl

theorem info3 : (Tryd.prog.info? 3).map (fun i => (i.zero, i.size, i.bytes)) = some (some (.int .i64 0), 1, 8) := by kernel_rfl
theorem info5 : (Tryd.prog.info? 5).map (fun i => (i.zero, i.size, i.bytes)) = some (some (.int .u8 0), 1, 1) := by kernel_rfl
-- the values' own types

end Go.Proofs.YtmlleefmkmelmaaDoor.PFnFigures
