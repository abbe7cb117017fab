-- Written for this claim; Lean checks it. What the listed variables give (internal/strconv.uint64pow10), and how it stays.
import Derived.Test.YtkkadcpgjniojaaDoorProg
import Derived.Test.YtkkadcpgjniojaaDoorLibItoa
import Derived.Test.YtkkadcpgjniojaaDoorWWords
import Derived.Below
import Derived.Lib.LaidTab
import Derived.Lib.SmallJoins
import Derived.Lib.AppendIntMem
import Derived.Lib.ItoaNum
namespace Go.Proofs.YtkkadcpgjniojaaDoorW.LaidT
open Go.RowKit
theorem gPow : Tryd.prog.globalNamed "internal/strconv.uint64pow10" = some 0 := by kernel_rfl
structure LaidT (W : World) : Prop where
  tab : Lib.TabIs Tryd.prog W "internal/strconv.uint64pow10" .u64 Lib.pow10Tab
theorem LaidT.below {B : Nat} {W W' : World} (h : LaidT W) (hb : Below B W W') (hB : W.heap.size ≤ B) : LaidT W' := ⟨Go.Joins.tab_stays gPow h.tab hb hB⟩
end Go.Proofs.YtkkadcpgjniojaaDoorW.LaidT
