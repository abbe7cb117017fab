/-
  No cell of these rows narrows 'for every input' (looked for: loops, veiled, ifaces, maps, wideKeys, modest, calm, conditions, laid).
  DERIVED. THE GIVEN ROWS OF THIS SEAT. 10 by the template 'for every input the law returns true; each argument reads behind the call as it read before'; 0 by the template 'total and deterministic' (their statements: YtngdfchpknglhaaTotals.lean).
  GIVEN WITH THE SEED: the statements are not yours to turn. If you find one false, say at which input.
  Laid BY PROGRAM, IN A SANDBOX (cutbox-rows.mjs): the forced cells as the released guide's own fill.sh prints them over the translation dbcdd4df2743c0c2… (all of the seat's roots in one cut). By AI agents, Wed Nov 11 2026. No macro, syntax, notation, axiom, sorry.
-/
import Derived.Test.YtngdfchpknglhaaChecked
import GoSem.Claim
import GoSem.ClaimJoined
import GoSem.ClaimMapViews
import Derived.JoinedTies
import Derived.KernelRfl
namespace Go.Proofs.Ytngdfchpknglhaa
/- THE CELL 'sum', in the pinned program and in every row, IS THE sha256 OF THE DUMP (.gsa) THAT YtngdfchpknglhaaProg.lean LOADS. Nothing in Lean hashes anything: it is a label: what it is worth is what the hold of that sum in a sandbox is worth. -/
noncomputable def Try.pinned : Pinned := { name := "ytngdfchpknglhaa", sum := "dbcdd4df2743c0c2dc084f6d13dbf7c039309a8519985e0104eb1cc82d9dffe6", checked := Try.checked }
namespace Rows
def none {H : Type} : Left H := { results := [], args := [] }

/-- 'laws.FnExactFieldMul': WHATEVER THE INPUT: true; the input reads as it did. -/
def fnExactFieldMulSpec : ChangeSpec := { name := "fnExactFieldMul", fn := fun _ => fun
  | [d1, d2] => { results := [.lit (.bool true)], args := [d1, d2] }
  | _ => none }
def fnExactFieldMulRow : OpenClaim := { program := "ytngdfchpknglhaa", sum := "dbcdd4df2743c0c2dc084f6d13dbf7c039309a8519985e0104eb1cc82d9dffe6", func := "loop.example/g00969/laws.FnExactFieldMul", spec := "fnExactFieldMul", apart := false }
def FnExactFieldMulSaid : Prop := fnExactFieldMulRow.holds Try.pinned (OpenSpec.ofChange fnExactFieldMulSpec)

/-- ITS FALSE NEIGHBOUR: 'it returns false'. Refute it at one input. -/
def fnExactFieldMulWrong : ChangeSpec := { name := "fnExactFieldMul", fn := fun _ => fun
  | [d1, d2] => { results := [.lit (.bool false)], args := [d1, d2] }
  | _ => none }
def FnExactFieldMulWrongFalsely : Prop := fnExactFieldMulRow.holds Try.pinned (OpenSpec.ofChange fnExactFieldMulWrong)

/-- 'laws.FnExactFieldPow': WHATEVER THE INPUT: true; the input reads as it did. -/
def fnExactFieldPowSpec : ChangeSpec := { name := "fnExactFieldPow", fn := fun _ => fun
  | [d1, d2] => { results := [.lit (.bool true)], args := [d1, d2] }
  | _ => none }
def fnExactFieldPowRow : OpenClaim := { program := "ytngdfchpknglhaa", sum := "dbcdd4df2743c0c2dc084f6d13dbf7c039309a8519985e0104eb1cc82d9dffe6", func := "loop.example/g00969/laws.FnExactFieldPow", spec := "fnExactFieldPow", apart := false }
def FnExactFieldPowSaid : Prop := fnExactFieldPowRow.holds Try.pinned (OpenSpec.ofChange fnExactFieldPowSpec)

/-- ITS FALSE NEIGHBOUR: 'it returns false'. Refute it at one input. -/
def fnExactFieldPowWrong : ChangeSpec := { name := "fnExactFieldPow", fn := fun _ => fun
  | [d1, d2] => { results := [.lit (.bool false)], args := [d1, d2] }
  | _ => none }
def FnExactFieldPowWrongFalsely : Prop := fnExactFieldPowRow.holds Try.pinned (OpenSpec.ofChange fnExactFieldPowWrong)

/-- 'laws.FnField': WHATEVER THE INPUT: true; the input reads as it did. -/
def fnFieldSpec : ChangeSpec := { name := "fnField", fn := fun _ => fun
  | [d] => { results := [.lit (.bool true)], args := [d] }
  | _ => none }
def fnFieldRow : OpenClaim := { program := "ytngdfchpknglhaa", sum := "dbcdd4df2743c0c2dc084f6d13dbf7c039309a8519985e0104eb1cc82d9dffe6", func := "loop.example/g00969/laws.FnField", spec := "fnField", apart := false }
def FnFieldSaid : Prop := fnFieldRow.holds Try.pinned (OpenSpec.ofChange fnFieldSpec)

/-- ITS FALSE NEIGHBOUR: 'it returns false'. Refute it at one input. -/
def fnFieldWrong : ChangeSpec := { name := "fnField", fn := fun _ => fun
  | [d] => { results := [.lit (.bool false)], args := [d] }
  | _ => none }
def FnFieldWrongFalsely : Prop := fnFieldRow.holds Try.pinned (OpenSpec.ofChange fnFieldWrong)

/-- 'laws.FnExactFieldInverse': WHATEVER THE INPUT: true; the input reads as it did. -/
def fnExactFieldInverseSpec : ChangeSpec := { name := "fnExactFieldInverse", fn := fun _ => fun
  | [d] => { results := [.lit (.bool true)], args := [d] }
  | _ => none }
def fnExactFieldInverseRow : OpenClaim := { program := "ytngdfchpknglhaa", sum := "dbcdd4df2743c0c2dc084f6d13dbf7c039309a8519985e0104eb1cc82d9dffe6", func := "loop.example/g00969/laws.FnExactFieldInverse", spec := "fnExactFieldInverse", apart := false }
def FnExactFieldInverseSaid : Prop := fnExactFieldInverseRow.holds Try.pinned (OpenSpec.ofChange fnExactFieldInverseSpec)

/-- ITS FALSE NEIGHBOUR: 'it returns false'. Refute it at one input. -/
def fnExactFieldInverseWrong : ChangeSpec := { name := "fnExactFieldInverse", fn := fun _ => fun
  | [d] => { results := [.lit (.bool false)], args := [d] }
  | _ => none }
def FnExactFieldInverseWrongFalsely : Prop := fnExactFieldInverseRow.holds Try.pinned (OpenSpec.ofChange fnExactFieldInverseWrong)

/-- 'laws.FnExactBoxOf': WHATEVER THE INPUT: true; the input reads as it did. -/
def fnExactBoxOfSpec : ChangeSpec := { name := "fnExactBoxOf", fn := fun _ => fun
  | [d] => { results := [.lit (.bool true)], args := [d] }
  | _ => none }
def fnExactBoxOfRow : OpenClaim := { program := "ytngdfchpknglhaa", sum := "dbcdd4df2743c0c2dc084f6d13dbf7c039309a8519985e0104eb1cc82d9dffe6", func := "loop.example/g00969/laws.FnExactBoxOf", spec := "fnExactBoxOf", apart := false }
def FnExactBoxOfSaid : Prop := fnExactBoxOfRow.holds Try.pinned (OpenSpec.ofChange fnExactBoxOfSpec)

/-- ITS FALSE NEIGHBOUR: 'it returns false'. Refute it at one input. -/
def fnExactBoxOfWrong : ChangeSpec := { name := "fnExactBoxOf", fn := fun _ => fun
  | [d] => { results := [.lit (.bool false)], args := [d] }
  | _ => none }
def FnExactBoxOfWrongFalsely : Prop := fnExactBoxOfRow.holds Try.pinned (OpenSpec.ofChange fnExactBoxOfWrong)

/-- 'laws.FnExactBoxText': WHATEVER THE INPUT: true; the input reads as it did. -/
def fnExactBoxTextSpec : ChangeSpec := { name := "fnExactBoxText", fn := fun _ => fun
  | [d] => { results := [.lit (.bool true)], args := [d] }
  | _ => none }
def fnExactBoxTextRow : OpenClaim := { program := "ytngdfchpknglhaa", sum := "dbcdd4df2743c0c2dc084f6d13dbf7c039309a8519985e0104eb1cc82d9dffe6", func := "loop.example/g00969/laws.FnExactBoxText", spec := "fnExactBoxText", apart := false }
def FnExactBoxTextSaid : Prop := fnExactBoxTextRow.holds Try.pinned (OpenSpec.ofChange fnExactBoxTextSpec)

/-- ITS FALSE NEIGHBOUR: 'it returns false'. Refute it at one input. -/
def fnExactBoxTextWrong : ChangeSpec := { name := "fnExactBoxText", fn := fun _ => fun
  | [d] => { results := [.lit (.bool false)], args := [d] }
  | _ => none }
def FnExactBoxTextWrongFalsely : Prop := fnExactBoxTextRow.holds Try.pinned (OpenSpec.ofChange fnExactBoxTextWrong)

/-- 'laws.FnBoxes': WHATEVER THE INPUT: true; the input reads as it did. -/
def fnBoxesSpec : ChangeSpec := { name := "fnBoxes", fn := fun _ => fun
  | [d] => { results := [.lit (.bool true)], args := [d] }
  | _ => none }
def fnBoxesRow : OpenClaim := { program := "ytngdfchpknglhaa", sum := "dbcdd4df2743c0c2dc084f6d13dbf7c039309a8519985e0104eb1cc82d9dffe6", func := "loop.example/g00969/laws.FnBoxes", spec := "fnBoxes", apart := false }
def FnBoxesSaid : Prop := fnBoxesRow.holds Try.pinned (OpenSpec.ofChange fnBoxesSpec)

/-- ITS FALSE NEIGHBOUR: 'it returns false'. Refute it at one input. -/
def fnBoxesWrong : ChangeSpec := { name := "fnBoxes", fn := fun _ => fun
  | [d] => { results := [.lit (.bool false)], args := [d] }
  | _ => none }
def FnBoxesWrongFalsely : Prop := fnBoxesRow.holds Try.pinned (OpenSpec.ofChange fnBoxesWrong)

/-- 'laws.FnExactMixColumns': WHATEVER THE INPUT: true; the input reads as it did. -/
def fnExactMixColumnsSpec : ChangeSpec := { name := "fnExactMixColumns", fn := fun _ => fun
  | [d] => { results := [.lit (.bool true)], args := [d] }
  | _ => none }
def fnExactMixColumnsRow : OpenClaim := { program := "ytngdfchpknglhaa", sum := "dbcdd4df2743c0c2dc084f6d13dbf7c039309a8519985e0104eb1cc82d9dffe6", func := "loop.example/g00969/laws.FnExactMixColumns", spec := "fnExactMixColumns", unfollowed := true, recurses := true, apart := false }
def FnExactMixColumnsSaid : Prop := fnExactMixColumnsRow.holds Try.pinned (OpenSpec.ofChange fnExactMixColumnsSpec)

/-- ITS FALSE NEIGHBOUR: 'it returns false'. Refute it at one input. -/
def fnExactMixColumnsWrong : ChangeSpec := { name := "fnExactMixColumns", fn := fun _ => fun
  | [d] => { results := [.lit (.bool false)], args := [d] }
  | _ => none }
def FnExactMixColumnsWrongFalsely : Prop := fnExactMixColumnsRow.holds Try.pinned (OpenSpec.ofChange fnExactMixColumnsWrong)

/-- 'laws.FnColumns': WHATEVER THE INPUT: true; the input reads as it did. -/
def fnColumnsSpec : ChangeSpec := { name := "fnColumns", fn := fun _ => fun
  | [d] => { results := [.lit (.bool true)], args := [d] }
  | _ => none }
def fnColumnsRow : OpenClaim := { program := "ytngdfchpknglhaa", sum := "dbcdd4df2743c0c2dc084f6d13dbf7c039309a8519985e0104eb1cc82d9dffe6", func := "loop.example/g00969/laws.FnColumns", spec := "fnColumns", unfollowed := true, recurses := true, apart := false }
def FnColumnsSaid : Prop := fnColumnsRow.holds Try.pinned (OpenSpec.ofChange fnColumnsSpec)

/-- ITS FALSE NEIGHBOUR: 'it returns false'. Refute it at one input. -/
def fnColumnsWrong : ChangeSpec := { name := "fnColumns", fn := fun _ => fun
  | [d] => { results := [.lit (.bool false)], args := [d] }
  | _ => none }
def FnColumnsWrongFalsely : Prop := fnColumnsRow.holds Try.pinned (OpenSpec.ofChange fnColumnsWrong)

/-- 'laws.FnExactRoundKeys': WHATEVER THE INPUT: true; the input reads as it did. -/
def fnExactRoundKeysSpec : ChangeSpec := { name := "fnExactRoundKeys", fn := fun _ => fun
  | [d] => { results := [.lit (.bool true)], args := [d] }
  | _ => none }
def fnExactRoundKeysRow : OpenClaim := { program := "ytngdfchpknglhaa", sum := "dbcdd4df2743c0c2dc084f6d13dbf7c039309a8519985e0104eb1cc82d9dffe6", func := "loop.example/g00969/laws.FnExactRoundKeys", spec := "fnExactRoundKeys", apart := false }
def FnExactRoundKeysSaid : Prop := fnExactRoundKeysRow.holds Try.pinned (OpenSpec.ofChange fnExactRoundKeysSpec)

/-- ITS FALSE NEIGHBOUR: 'it returns false'. Refute it at one input. -/
def fnExactRoundKeysWrong : ChangeSpec := { name := "fnExactRoundKeys", fn := fun _ => fun
  | [d] => { results := [.lit (.bool false)], args := [d] }
  | _ => none }
def FnExactRoundKeysWrongFalsely : Prop := fnExactRoundKeysRow.holds Try.pinned (OpenSpec.ofChange fnExactRoundKeysWrong)

/- THE SECOND FORM. 'bulk': how many values and letters a reading holds, each counted each time it is reached (what is shared counts as often as it is met; a slice's spare places count too). A statement '..UptoSaid' is the law's where the arguments, and the package variables that the reading takes, are together of bulk at most 1048576: NARROWER than '..Said'. Prove '..Said' where nothing that the law and all that it calls make is longer than what came in: it says more and counts as full. Else prove '..UptoSaid'. A law counts once. -/
mutual
def uptoBulk {H : Type} : DataW H → Nat
  | .lit (.string bytes) => bytes.length + 1
  | .lit _ => 1
  | .nil => 1
  | .ptr d => uptoBulk d + 1
  | .slice elems spare => uptoBulkAll elems + uptoBulkAll spare + 1
  | .agg parts => uptoBulkAll parts + 1
  | .iface _ d => uptoBulk d + 1
  | .map entries => uptoBulkEntries entries + 1
  | .held _ => 1
def uptoBulkAll {H : Type} : List (DataW H) → Nat
  | [] => 0
  | d :: r => uptoBulk d + uptoBulkAll r
def uptoBulkEntries {H : Type} : List (Lit × DataW H) → Nat
  | [] => 0
  | x :: r => uptoBulkEntry x + uptoBulkEntries r
def uptoBulkEntry {H : Type} : Lit × DataW H → Nat
  | (.string bytes, d) => bytes.length + uptoBulk d + 1
  | (_, d) => uptoBulk d + 1
 end
def uptoSmall : (H : Type) → List (DataW H) → Bool := fun _ ds => decide (uptoBulkAll ds ≤ 1048576)
def OpenSpec.upto (s : _root_.Go.ChangeSpec) : _root_.Go.OpenSpec := { _root_.Go.OpenSpec.ofChange s with cond := some uptoSmall }

/-- 'laws.FnExactFieldMul', WHERE WHAT IT READS IS OF BULK AT MOST 1048576: true; the input reads as it did. -/
def fnExactFieldMulUptoRow : OpenClaim := { program := "ytngdfchpknglhaa", sum := "dbcdd4df2743c0c2dc084f6d13dbf7c039309a8519985e0104eb1cc82d9dffe6", func := "loop.example/g00969/laws.FnExactFieldMul", spec := "fnExactFieldMul", apart := false, narrowed := true }
def FnExactFieldMulUptoSaid : Prop := fnExactFieldMulUptoRow.holds Try.pinned (OpenSpec.upto fnExactFieldMulSpec)

/-- 'laws.FnExactFieldPow', WHERE WHAT IT READS IS OF BULK AT MOST 1048576: true; the input reads as it did. -/
def fnExactFieldPowUptoRow : OpenClaim := { program := "ytngdfchpknglhaa", sum := "dbcdd4df2743c0c2dc084f6d13dbf7c039309a8519985e0104eb1cc82d9dffe6", func := "loop.example/g00969/laws.FnExactFieldPow", spec := "fnExactFieldPow", apart := false, narrowed := true }
def FnExactFieldPowUptoSaid : Prop := fnExactFieldPowUptoRow.holds Try.pinned (OpenSpec.upto fnExactFieldPowSpec)

/-- 'laws.FnField', WHERE WHAT IT READS IS OF BULK AT MOST 1048576: true; the input reads as it did. -/
def fnFieldUptoRow : OpenClaim := { program := "ytngdfchpknglhaa", sum := "dbcdd4df2743c0c2dc084f6d13dbf7c039309a8519985e0104eb1cc82d9dffe6", func := "loop.example/g00969/laws.FnField", spec := "fnField", apart := false, narrowed := true }
def FnFieldUptoSaid : Prop := fnFieldUptoRow.holds Try.pinned (OpenSpec.upto fnFieldSpec)

/-- 'laws.FnExactFieldInverse', WHERE WHAT IT READS IS OF BULK AT MOST 1048576: true; the input reads as it did. -/
def fnExactFieldInverseUptoRow : OpenClaim := { program := "ytngdfchpknglhaa", sum := "dbcdd4df2743c0c2dc084f6d13dbf7c039309a8519985e0104eb1cc82d9dffe6", func := "loop.example/g00969/laws.FnExactFieldInverse", spec := "fnExactFieldInverse", apart := false, narrowed := true }
def FnExactFieldInverseUptoSaid : Prop := fnExactFieldInverseUptoRow.holds Try.pinned (OpenSpec.upto fnExactFieldInverseSpec)

/-- 'laws.FnExactBoxOf', WHERE WHAT IT READS IS OF BULK AT MOST 1048576: true; the input reads as it did. -/
def fnExactBoxOfUptoRow : OpenClaim := { program := "ytngdfchpknglhaa", sum := "dbcdd4df2743c0c2dc084f6d13dbf7c039309a8519985e0104eb1cc82d9dffe6", func := "loop.example/g00969/laws.FnExactBoxOf", spec := "fnExactBoxOf", apart := false, narrowed := true }
def FnExactBoxOfUptoSaid : Prop := fnExactBoxOfUptoRow.holds Try.pinned (OpenSpec.upto fnExactBoxOfSpec)

/-- 'laws.FnExactBoxText', WHERE WHAT IT READS IS OF BULK AT MOST 1048576: true; the input reads as it did. -/
def fnExactBoxTextUptoRow : OpenClaim := { program := "ytngdfchpknglhaa", sum := "dbcdd4df2743c0c2dc084f6d13dbf7c039309a8519985e0104eb1cc82d9dffe6", func := "loop.example/g00969/laws.FnExactBoxText", spec := "fnExactBoxText", apart := false, narrowed := true }
def FnExactBoxTextUptoSaid : Prop := fnExactBoxTextUptoRow.holds Try.pinned (OpenSpec.upto fnExactBoxTextSpec)

/-- 'laws.FnBoxes', WHERE WHAT IT READS IS OF BULK AT MOST 1048576: true; the input reads as it did. -/
def fnBoxesUptoRow : OpenClaim := { program := "ytngdfchpknglhaa", sum := "dbcdd4df2743c0c2dc084f6d13dbf7c039309a8519985e0104eb1cc82d9dffe6", func := "loop.example/g00969/laws.FnBoxes", spec := "fnBoxes", apart := false, narrowed := true }
def FnBoxesUptoSaid : Prop := fnBoxesUptoRow.holds Try.pinned (OpenSpec.upto fnBoxesSpec)

/-- 'laws.FnExactMixColumns', WHERE WHAT IT READS IS OF BULK AT MOST 1048576: true; the input reads as it did. -/
def fnExactMixColumnsUptoRow : OpenClaim := { program := "ytngdfchpknglhaa", sum := "dbcdd4df2743c0c2dc084f6d13dbf7c039309a8519985e0104eb1cc82d9dffe6", func := "loop.example/g00969/laws.FnExactMixColumns", spec := "fnExactMixColumns", unfollowed := true, recurses := true, apart := false, narrowed := true }
def FnExactMixColumnsUptoSaid : Prop := fnExactMixColumnsUptoRow.holds Try.pinned (OpenSpec.upto fnExactMixColumnsSpec)

/-- 'laws.FnColumns', WHERE WHAT IT READS IS OF BULK AT MOST 1048576: true; the input reads as it did. -/
def fnColumnsUptoRow : OpenClaim := { program := "ytngdfchpknglhaa", sum := "dbcdd4df2743c0c2dc084f6d13dbf7c039309a8519985e0104eb1cc82d9dffe6", func := "loop.example/g00969/laws.FnColumns", spec := "fnColumns", unfollowed := true, recurses := true, apart := false, narrowed := true }
def FnColumnsUptoSaid : Prop := fnColumnsUptoRow.holds Try.pinned (OpenSpec.upto fnColumnsSpec)

/-- 'laws.FnExactRoundKeys', WHERE WHAT IT READS IS OF BULK AT MOST 1048576: true; the input reads as it did. -/
def fnExactRoundKeysUptoRow : OpenClaim := { program := "ytngdfchpknglhaa", sum := "dbcdd4df2743c0c2dc084f6d13dbf7c039309a8519985e0104eb1cc82d9dffe6", func := "loop.example/g00969/laws.FnExactRoundKeys", spec := "fnExactRoundKeys", apart := false, narrowed := true }
def FnExactRoundKeysUptoSaid : Prop := fnExactRoundKeysUptoRow.holds Try.pinned (OpenSpec.upto fnExactRoundKeysSpec)

end Rows
end Go.Proofs.Ytngdfchpknglhaa
