-- Written for this claim; Lean checks it. What the listed variables give, and how it stays.
import Derived.Test.YtmlleefmkmelmaaDoorProg
import Derived.Test.YtmlleefmkmelmaaDoorLibUnhex
import Derived.Test.YtmlleefmkmelmaaDoorLibAtoi
import Derived.Test.YtmlleefmkmelmaaDoorWWords
import Derived.Test.YtmlleefmkmelmaaDoorWMore
import Derived.Below
import Derived.WalkKit
import Derived.Lib.LaidTab
import Derived.Lib.SmallJoins
import Derived.Lib.AppendIntMem
import Derived.Lib.ItoaNum
import Derived.Lib.AtoiAll
import Derived.Lib.HexFns2
import Derived.Tactics
namespace Go.Proofs.YtmlleefmkmelmaaDoorW.LaidT
open Go.RowKit Go.Proofs.YtmlleefmkmelmaaDoorW.PrintWords
theorem gPow : Tryd.prog.globalNamed "internal/strconv.uint64pow10" = some 5 := by kernel_rfl
theorem gSyn : Tryd.prog.globalNamed "strconv.ErrSyntax" = some 3 := by kernel_rfl
theorem gRan : Tryd.prog.globalNamed "strconv.ErrRange" = some 4 := by kernel_rfl
theorem gErr : Tryd.prog.globalNamed "encoding/hex.ErrLength" = some 1 := by kernel_rfl
structure LaidT (W : World) : Prop where
  tab : Lib.TabIs Tryd.prog W "internal/strconv.uint64pow10" .u64 Lib.pow10Tab
  syn : ∃ (tp : TypeId) (p : Value), W.var? Tryd.prog "strconv.ErrSyntax" = some #[.iface tp p]
  ran : ∃ (tp : TypeId) (p : Value), W.var? Tryd.prog "strconv.ErrRange" = some #[.iface tp p]
  err : ∃ (tp : TypeId) (p : Addr), W.var? Tryd.prog "encoding/hex.ErrLength" = some #[.iface tp (.pointer (some p))]
theorem LaidT.below {B : Nat} {W W' : World} (h : LaidT W) (hb : Below B W W') (hB : W.heap.size ≤ B) : LaidT W' := by
  obtain ⟨h1, ⟨t2, p2, h2⟩, ⟨t3, p3, h3⟩, ⟨t4, p4, h4⟩⟩ := h
  exact ⟨Go.Joins.tab_stays gPow h1 hb hB, ⟨t2, p2, Go.Joins.var_stays gSyn h2 hb hB⟩, ⟨t3, p3, Go.Joins.var_stays gRan h3 hb hB⟩, ⟨t4, p4, Go.Joins.var_stays gErr h4 hb hB⟩⟩
end Go.Proofs.YtmlleefmkmelmaaDoorW.LaidT
