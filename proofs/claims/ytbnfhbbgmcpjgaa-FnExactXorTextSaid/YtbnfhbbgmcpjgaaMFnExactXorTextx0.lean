-- Written by a program of this session for this claim; Lean checks it.
import Derived.Test.YtbnfhbbgmcpjgaaProg
import Derived.Below
import Derived.Deep.Draws
import Derived.Deep.AppendLies
import Derived.Maps.AppendAt
import Derived.OwnWalk
import Derived.Laws.BytesArg
import Derived.Laws.MakeOwn
import Derived.Laws.OwnMore
import Derived.Deep.OwnRows
import Derived.Tactics
import Derived.Lib.ConvBytes
import Derived.Laws.Slices
import Derived.WalkKit
import Derived.KernelRfl
import Derived.RowKit3
import Derived.Deep.LoopGhost
import Derived.Deep.QuietTactic
import Derived.BigQuiet
import Derived.WideLaws
import Derived.Deep.DeepCutAuto
import Derived.Deep.CutBlock
import Derived.Deep.RegionHeld3
import Derived.Laws.Rows
import Derived.Lib.AppendStr
import Derived.ArgAppend
import Derived.Laws.IdiomCopy
import Derived.OrdersHeld
import Derived.Laws.BitsLemmas
import Derived.RowKit
import Derived.Test.YtbnfhbbgmcpjgaaWWords
import Derived.Test.YtbnfhbbgmcpjgaaWLast
import Derived.Test.YtbnfhbbgmcpjgaaWTab
import Derived.Test.YtbnfhbbgmcpjgaaWFour
import Derived.Test.YtbnfhbbgmcpjgaaWQPut
import Derived.Test.YtbnfhbbgmcpjgaaWApart
import Derived.Test.YtbnfhbbgmcpjgaaWArr
import Derived.Test.YtbnfhbbgmcpjgaaWZeros
import Derived.Test.YtbnfhbbgmcpjgaaWFoot
import Derived.Test.YtbnfhbbgmcpjgaaWKept
import Derived.Test.YtbnfhbbgmcpjgaaWShare
import Derived.Test.YtbnfhbbgmcpjgaaWN
import Derived.Test.YtbnfhbbgmcpjgaaWFootNe
import Derived.Test.YtbnfhbbgmcpjgaaWAt
import Derived.Test.YtbnfhbbgmcpjgaaWEqStruct
import Derived.Test.YtbnfhbbgmcpjgaaWRepsOne
import Derived.Test.YtbnfhbbgmcpjgaaWInv
import Derived.Test.YtbnfhbbgmcpjgaaWInvWords
import Derived.Test.YtbnfhbbgmcpjgaaWGuard
import Derived.Test.YtbnfhbbgmcpjgaaWNEv
import Derived.Test.YtbnfhbbgmcpjgaaWMore
namespace Go.Proofs.Ytbnfhbbgmcpjgaa.PFnExactXorText
open Go.RowKit Go.Proofs.YtbnfhbbgmcpjgaaW.PrintWords Go.Proofs.YtbnfhbbgmcpjgaaW.PrintLast Go.Proofs.YtbnfhbbgmcpjgaaW.PrintMore
attribute [local go_sem] max2_int min2_int max_two min_two max_three min_three max_four min_four   -- for this text's walks alone
set_option linter.unusedVariables false
set_option linter.unusedSimpArgs false



def errW : Option Int → Value
  | none => .nilIface
  | some c => .iface 0 (.int .i64 c)
theorem errW_none : errW none = .nilIface := rfl
theorem errW_some (c : Int) : errW (some c) = .iface 0 (.int .i64 c) := rfl

theorem info5 : (Try.prog.info? 5).map (fun i => (i.zero, i.size, i.bytes)) = some (some (.int .u8 0), 1, 1) := by kernel_rfl
-- the values' own types

end Go.Proofs.Ytbnfhbbgmcpjgaa.PFnExactXorText
