-- Written for this claim; Lean checks it. What the listed variables give (strings.asciiSpace), and how it stays.
import Derived.Test.YtmlleefmkmelmaaDoorProg
import Derived.Test.YtmlleefmkmelmaaDoorLibFields
import Derived.Test.YtmlleefmkmelmaaDoorWWords
import Derived.Below
import Derived.Lib.LaidTab
import Derived.Lib.SmallJoins
import Derived.Lib.Fields
import Derived.Lib.Space
namespace Go.Proofs.YtmlleefmkmelmaaDoorW.LaidF
open Go.RowKit
theorem gSpace : Tryd.prog.globalNamed "strings.asciiSpace" = some 0 := by kernel_rfl
structure LaidF (W : World) : Prop where
  tab : Lib.TabIs Tryd.prog W "strings.asciiSpace" .u8 Lib.asciiSpaceTab
theorem LaidF.below {B : Nat} {W W' : World} (h : LaidF W) (hb : Below B W W') (hB : W.heap.size ≤ B) : LaidF W' := ⟨Go.Joins.tab_stays gSpace h.tab hb hB⟩
end Go.Proofs.YtmlleefmkmelmaaDoorW.LaidF
