-- Written by a program of this session for this claim; Lean checks it.
import Derived.Test.YtkkadcpgjniojaaProg
import Derived.Below
import Derived.Deep.Draws
import Derived.Deep.AppendLies
import Derived.Maps.AppendAt
import Derived.OwnWalk
import Derived.Laws.BytesArg
import Derived.Laws.MakeOwn
import Derived.Laws.OwnMore
import Derived.Deep.OwnRows
import Derived.Tactics
import Derived.Lib.ConvBytes
import Derived.Laws.Slices
import Derived.WalkKit
import Derived.KernelRfl
import Derived.RowKit3
import Derived.Deep.LoopGhost
import Derived.Deep.QuietTactic
import Derived.BigQuiet
import Derived.WideLaws
import Derived.Deep.DeepCutAuto
import Derived.Deep.CutBlock
import Derived.Deep.RegionHeld3
import Derived.Laws.Rows
import Derived.Lib.AppendStr
import Derived.ArgAppend
import Derived.Laws.IdiomCopy
import Derived.OrdersHeld
import Derived.Laws.BitsLemmas
import Derived.RowKit
import Derived.Lib.ConvBytes
import Derived.Lib.FrozenHead
import Derived.Laws.AppendOwn
import Derived.Lib.LazyBuf
import Derived.Test.YtkkadcpgjniojaaLibPad
import Derived.Test.YtkkadcpgjniojaaWWords
import Derived.Test.YtkkadcpgjniojaaWLast
import Derived.Test.YtkkadcpgjniojaaWTab
import Derived.Test.YtkkadcpgjniojaaWFour
import Derived.Test.YtkkadcpgjniojaaWQPut
import Derived.Test.YtkkadcpgjniojaaWApart
import Derived.Test.YtkkadcpgjniojaaWArr
import Derived.Test.YtkkadcpgjniojaaWZeros
import Derived.Test.YtkkadcpgjniojaaWFoot
import Derived.Test.YtkkadcpgjniojaaWKept
import Derived.Test.YtkkadcpgjniojaaWShare
import Derived.Test.YtkkadcpgjniojaaWN
import Derived.Test.YtkkadcpgjniojaaWFootNe
import Derived.Test.YtkkadcpgjniojaaWAt
import Derived.Test.YtkkadcpgjniojaaWEqStruct
import Derived.Test.YtkkadcpgjniojaaWRepsOne
import Derived.Test.YtkkadcpgjniojaaWInv
import Derived.Test.YtkkadcpgjniojaaWInvWords
import Derived.Test.YtkkadcpgjniojaaWGuard
import Derived.Test.YtkkadcpgjniojaaWNEv
import Derived.Test.YtkkadcpgjniojaaWMore
namespace Go.Proofs.Ytkkadcpgjniojaa.PFnExactPadText
open Go.RowKit Go.Proofs.YtkkadcpgjniojaaW.PrintWords Go.Proofs.YtkkadcpgjniojaaW.PrintLast Go.Proofs.YtkkadcpgjniojaaW.PrintMore
attribute [local go_sem] max2_int min2_int max_two min_two max_three min_three max_four min_four   -- for this text's walks alone
set_option linter.unusedVariables false
set_option linter.unusedSimpArgs false



def errW : Option Int → Value
  | none => .nilIface
  | some c => .iface 0 (.int .i64 c)
theorem errW_none : errW none = .nilIface := rfl
theorem errW_some (c : Int) : errW (some c) = .iface 0 (.int .i64 c) := rfl

-- the values' own types

end Go.Proofs.Ytkkadcpgjniojaa.PFnExactPadText
