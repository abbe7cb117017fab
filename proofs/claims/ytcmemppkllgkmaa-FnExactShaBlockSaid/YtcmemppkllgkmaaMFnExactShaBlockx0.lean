-- Written by a program of this session for this claim; Lean checks it.
import Derived.Test.YtcmemppkllgkmaaProg
import Derived.Below
import Derived.Deep.Draws
import Derived.Deep.AppendLies
import Derived.Maps.AppendAt
import Derived.OwnWalk
import Derived.Laws.BytesArg
import Derived.Laws.MakeOwn
import Derived.Laws.OwnMore
import Derived.Deep.OwnRows
import Derived.Tactics
import Derived.Lib.ConvBytes
import Derived.Laws.Slices
import Derived.WalkKit
import Derived.KernelRfl
import Derived.RowKit3
import Derived.Deep.LoopGhost
import Derived.Deep.QuietTactic
import Derived.BigQuiet
import Derived.WideLaws
import Derived.Deep.DeepCutAuto
import Derived.Deep.CutBlock
import Derived.Deep.RegionHeld3
import Derived.Laws.Rows
import Derived.Lib.AppendStr
import Derived.ArgAppend
import Derived.Laws.IdiomCopy
import Derived.OrdersHeld
import Derived.Laws.BitsLemmas
import Derived.RowKit
import Derived.Deep.WholeRow
import Derived.Deep.RegionHeld3
import Derived.BigQuiet
import Derived.StillTailTactics
import Derived.IntWalk
import Derived.Deep.AppendLies
import Derived.Lib.ConvBytes
import Derived.Lib.FrozenHead
import Derived.Laws.AppendOwn
import Derived.Lib.LazyBuf
import Derived.Test.YtcmemppkllgkmaaLibBE
import Derived.Test.YtcmemppkllgkmaaWWords
import Derived.Test.YtcmemppkllgkmaaWLast
import Derived.Test.YtcmemppkllgkmaaWTab
import Derived.Test.YtcmemppkllgkmaaWFour
import Derived.Test.YtcmemppkllgkmaaWQPut
import Derived.Test.YtcmemppkllgkmaaWApart
import Derived.Test.YtcmemppkllgkmaaWArr
import Derived.Test.YtcmemppkllgkmaaWZeros
import Derived.Test.YtcmemppkllgkmaaWFoot
import Derived.Test.YtcmemppkllgkmaaWKept
import Derived.Test.YtcmemppkllgkmaaWShare
import Derived.Test.YtcmemppkllgkmaaWN
import Derived.Test.YtcmemppkllgkmaaWFootNe
import Derived.Test.YtcmemppkllgkmaaWAt
import Derived.Test.YtcmemppkllgkmaaWEqStruct
import Derived.Test.YtcmemppkllgkmaaWRepsOne
import Derived.Test.YtcmemppkllgkmaaWInv
import Derived.Test.YtcmemppkllgkmaaWInvWords
import Derived.Test.YtcmemppkllgkmaaWGuard
import Derived.Test.YtcmemppkllgkmaaWNEv
import Derived.Test.YtcmemppkllgkmaaWMore
namespace Go.Proofs.Ytcmemppkllgkmaa.PFnExactShaBlock
open Go.RowKit Go.Proofs.YtcmemppkllgkmaaW.PrintWords Go.Proofs.YtcmemppkllgkmaaW.PrintLast Go.Proofs.YtcmemppkllgkmaaW.PrintMore
attribute [local go_sem] max2_int min2_int max_two min_two max_three min_three max_four min_four   -- for this text's walks alone
set_option linter.unusedVariables false
set_option linter.unusedSimpArgs false



def errW : Option Int → Value
  | none => .nilIface
  | some c => .iface 0 (.int .i64 c)
theorem errW_none : errW none = .nilIface := rfl
theorem errW_some (c : Int) : errW (some c) = .iface 0 (.int .i64 c) := rfl

theorem info3 : (Try.prog.info? 3).map (fun i => (i.zero, i.size, i.bytes)) = some (some (.int .i64 0), 1, 8) := by kernel_rfl
-- the values' own types

end Go.Proofs.Ytcmemppkllgkmaa.PFnExactShaBlock
