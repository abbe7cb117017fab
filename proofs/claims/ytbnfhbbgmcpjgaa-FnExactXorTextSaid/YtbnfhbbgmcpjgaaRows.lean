/-
  No cell of these rows narrows 'for every input' (looked for: loops, veiled, ifaces, maps, wideKeys, modest, calm, conditions, laid).
  DERIVED. THE GIVEN ROWS OF THIS SEAT. 12 by the template 'for every input the law returns true; each argument reads behind the call as it read before'; 0 by the template 'total and deterministic' (their statements: YtbnfhbbgmcpjgaaTotals.lean).
  GIVEN WITH THE SEED: the statements are not yours to turn. If you find one false, say at which input.
  Laid BY PROGRAM, IN A SANDBOX (cutbox-rows.mjs): the forced cells as the released guide's own fill.sh prints them over the translation 01a5292079bf85ad… (all of the seat's roots in one cut). By AI agents, Wed Nov 11 2026. No macro, syntax, notation, axiom, sorry.
-/
import Derived.Test.YtbnfhbbgmcpjgaaChecked
import GoSem.Claim
import GoSem.ClaimJoined
import GoSem.ClaimMapViews
import Derived.JoinedTies
import Derived.KernelRfl
namespace Go.Proofs.Ytbnfhbbgmcpjgaa
/- THE CELL 'sum', in the pinned program and in every row, IS THE sha256 OF THE DUMP (.gsa) THAT YtbnfhbbgmcpjgaaProg.lean LOADS. Nothing in Lean hashes anything: it is a label: what it is worth is what the hold of that sum in a sandbox is worth. -/
noncomputable def Try.pinned : Pinned := { name := "ytbnfhbbgmcpjgaa", sum := "01a5292079bf85ad678e305ab9e99927c8138434876adf3aef416bc235374f7f", checked := Try.checked }
namespace Rows
def none {H : Type} : Left H := { results := [], args := [] }

/-- 'laws.FnExactConstants': WHATEVER THE INPUT: true; the input reads as it did. -/
def fnExactConstantsSpec : ChangeSpec := { name := "fnExactConstants", fn := fun _ => fun
  | [] => { results := [.lit (.bool true)], args := [] }
  | _ => none }
def fnExactConstantsRow : OpenClaim := { program := "ytbnfhbbgmcpjgaa", sum := "01a5292079bf85ad678e305ab9e99927c8138434876adf3aef416bc235374f7f", func := "loop.example/g00969/laws.FnExactConstants", spec := "fnExactConstants", apart := false }
def FnExactConstantsSaid : Prop := fnExactConstantsRow.holds Try.pinned (OpenSpec.ofChange fnExactConstantsSpec)

/-- ITS FALSE NEIGHBOUR: 'it returns false'. Refute it at one input. -/
def fnExactConstantsWrong : ChangeSpec := { name := "fnExactConstants", fn := fun _ => fun
  | [] => { results := [.lit (.bool false)], args := [] }
  | _ => none }
def FnExactConstantsWrongFalsely : Prop := fnExactConstantsRow.holds Try.pinned (OpenSpec.ofChange fnExactConstantsWrong)

/-- 'laws.FnExactSameBytes': WHATEVER THE INPUT: true; the input reads as it did. -/
def fnExactSameBytesSpec : ChangeSpec := { name := "fnExactSameBytes", fn := fun _ => fun
  | [d1, d2] => { results := [.lit (.bool true)], args := [d1, d2] }
  | _ => none }
def fnExactSameBytesRow : OpenClaim := { program := "ytbnfhbbgmcpjgaa", sum := "01a5292079bf85ad678e305ab9e99927c8138434876adf3aef416bc235374f7f", func := "loop.example/g00969/laws.FnExactSameBytes", spec := "fnExactSameBytes", apart := false }
def FnExactSameBytesSaid : Prop := fnExactSameBytesRow.holds Try.pinned (OpenSpec.ofChange fnExactSameBytesSpec)

/-- ITS FALSE NEIGHBOUR: 'it returns false'. Refute it at one input. -/
def fnExactSameBytesWrong : ChangeSpec := { name := "fnExactSameBytes", fn := fun _ => fun
  | [d1, d2] => { results := [.lit (.bool false)], args := [d1, d2] }
  | _ => none }
def FnExactSameBytesWrongFalsely : Prop := fnExactSameBytesRow.holds Try.pinned (OpenSpec.ofChange fnExactSameBytesWrong)

/-- 'laws.FnExactBrought': WHATEVER THE INPUT: true; the input reads as it did. -/
def fnExactBroughtSpec : ChangeSpec := { name := "fnExactBrought", fn := fun _ => fun
  | [d1, d2, d3] => { results := [.lit (.bool true)], args := [d1, d2, d3] }
  | _ => none }
def fnExactBroughtRow : OpenClaim := { program := "ytbnfhbbgmcpjgaa", sum := "01a5292079bf85ad678e305ab9e99927c8138434876adf3aef416bc235374f7f", func := "loop.example/g00969/laws.FnExactBrought", spec := "fnExactBrought", apart := false }
def FnExactBroughtSaid : Prop := fnExactBroughtRow.holds Try.pinned (OpenSpec.ofChange fnExactBroughtSpec)

/-- ITS FALSE NEIGHBOUR: 'it returns false'. Refute it at one input. -/
def fnExactBroughtWrong : ChangeSpec := { name := "fnExactBrought", fn := fun _ => fun
  | [d1, d2, d3] => { results := [.lit (.bool false)], args := [d1, d2, d3] }
  | _ => none }
def FnExactBroughtWrongFalsely : Prop := fnExactBroughtRow.holds Try.pinned (OpenSpec.ofChange fnExactBroughtWrong)

/-- 'laws.FnExactPagesFor': WHATEVER THE INPUT: true; the input reads as it did. -/
def fnExactPagesForSpec : ChangeSpec := { name := "fnExactPagesFor", fn := fun _ => fun
  | [d] => { results := [.lit (.bool true)], args := [d] }
  | _ => none }
def fnExactPagesForRow : OpenClaim := { program := "ytbnfhbbgmcpjgaa", sum := "01a5292079bf85ad678e305ab9e99927c8138434876adf3aef416bc235374f7f", func := "loop.example/g00969/laws.FnExactPagesFor", spec := "fnExactPagesFor", apart := false }
def FnExactPagesForSaid : Prop := fnExactPagesForRow.holds Try.pinned (OpenSpec.ofChange fnExactPagesForSpec)

/-- ITS FALSE NEIGHBOUR: 'it returns false'. Refute it at one input. -/
def fnExactPagesForWrong : ChangeSpec := { name := "fnExactPagesFor", fn := fun _ => fun
  | [d] => { results := [.lit (.bool false)], args := [d] }
  | _ => none }
def FnExactPagesForWrongFalsely : Prop := fnExactPagesForRow.holds Try.pinned (OpenSpec.ofChange fnExactPagesForWrong)

/-- 'laws.FnExactGeoOk': WHATEVER THE INPUT: true; the input reads as it did. -/
def fnExactGeoOkSpec : ChangeSpec := { name := "fnExactGeoOk", fn := fun _ => fun
  | [d] => { results := [.lit (.bool true)], args := [d] }
  | _ => none }
def fnExactGeoOkRow : OpenClaim := { program := "ytbnfhbbgmcpjgaa", sum := "01a5292079bf85ad678e305ab9e99927c8138434876adf3aef416bc235374f7f", func := "loop.example/g00969/laws.FnExactGeoOk", spec := "fnExactGeoOk", apart := false }
def FnExactGeoOkSaid : Prop := fnExactGeoOkRow.holds Try.pinned (OpenSpec.ofChange fnExactGeoOkSpec)

/-- ITS FALSE NEIGHBOUR: 'it returns false'. Refute it at one input. -/
def fnExactGeoOkWrong : ChangeSpec := { name := "fnExactGeoOk", fn := fun _ => fun
  | [d] => { results := [.lit (.bool false)], args := [d] }
  | _ => none }
def FnExactGeoOkWrongFalsely : Prop := fnExactGeoOkRow.holds Try.pinned (OpenSpec.ofChange fnExactGeoOkWrong)

/-- 'laws.FnExactNameOk': WHATEVER THE INPUT: true; the input reads as it did. -/
def fnExactNameOkSpec : ChangeSpec := { name := "fnExactNameOk", fn := fun _ => fun
  | [d] => { results := [.lit (.bool true)], args := [d] }
  | _ => none }
def fnExactNameOkRow : OpenClaim := { program := "ytbnfhbbgmcpjgaa", sum := "01a5292079bf85ad678e305ab9e99927c8138434876adf3aef416bc235374f7f", func := "loop.example/g00969/laws.FnExactNameOk", spec := "fnExactNameOk", apart := false }
def FnExactNameOkSaid : Prop := fnExactNameOkRow.holds Try.pinned (OpenSpec.ofChange fnExactNameOkSpec)

/-- ITS FALSE NEIGHBOUR: 'it returns false'. Refute it at one input. -/
def fnExactNameOkWrong : ChangeSpec := { name := "fnExactNameOk", fn := fun _ => fun
  | [d] => { results := [.lit (.bool false)], args := [d] }
  | _ => none }
def FnExactNameOkWrongFalsely : Prop := fnExactNameOkRow.holds Try.pinned (OpenSpec.ofChange fnExactNameOkWrong)

/-- 'laws.FnExactXorText': WHATEVER THE INPUT: true; the input reads as it did. -/
def fnExactXorTextSpec : ChangeSpec := { name := "fnExactXorText", fn := fun _ => fun
  | [d1, d2] => { results := [.lit (.bool true)], args := [d1, d2] }
  | _ => none }
def fnExactXorTextRow : OpenClaim := { program := "ytbnfhbbgmcpjgaa", sum := "01a5292079bf85ad678e305ab9e99927c8138434876adf3aef416bc235374f7f", func := "loop.example/g00969/laws.FnExactXorText", spec := "fnExactXorText", apart := false }
def FnExactXorTextSaid : Prop := fnExactXorTextRow.holds Try.pinned (OpenSpec.ofChange fnExactXorTextSpec)

/-- ITS FALSE NEIGHBOUR: 'it returns false'. Refute it at one input. -/
def fnExactXorTextWrong : ChangeSpec := { name := "fnExactXorText", fn := fun _ => fun
  | [d1, d2] => { results := [.lit (.bool false)], args := [d1, d2] }
  | _ => none }
def FnExactXorTextWrongFalsely : Prop := fnExactXorTextRow.holds Try.pinned (OpenSpec.ofChange fnExactXorTextWrong)

/-- 'laws.FnExactNumAt': WHATEVER THE INPUT: true; the input reads as it did. -/
def fnExactNumAtSpec : ChangeSpec := { name := "fnExactNumAt", fn := fun _ => fun
  | [d1, d2, d3] => { results := [.lit (.bool true)], args := [d1, d2, d3] }
  | _ => none }
def fnExactNumAtRow : OpenClaim := { program := "ytbnfhbbgmcpjgaa", sum := "01a5292079bf85ad678e305ab9e99927c8138434876adf3aef416bc235374f7f", func := "loop.example/g00969/laws.FnExactNumAt", spec := "fnExactNumAt", apart := false }
def FnExactNumAtSaid : Prop := fnExactNumAtRow.holds Try.pinned (OpenSpec.ofChange fnExactNumAtSpec)

/-- ITS FALSE NEIGHBOUR: 'it returns false'. Refute it at one input. -/
def fnExactNumAtWrong : ChangeSpec := { name := "fnExactNumAt", fn := fun _ => fun
  | [d1, d2, d3] => { results := [.lit (.bool false)], args := [d1, d2, d3] }
  | _ => none }
def FnExactNumAtWrongFalsely : Prop := fnExactNumAtRow.holds Try.pinned (OpenSpec.ofChange fnExactNumAtWrong)

/-- 'laws.FnExactNumText': WHATEVER THE INPUT: true; the input reads as it did. -/
def fnExactNumTextSpec : ChangeSpec := { name := "fnExactNumText", fn := fun _ => fun
  | [d1, d2] => { results := [.lit (.bool true)], args := [d1, d2] }
  | _ => none }
def fnExactNumTextRow : OpenClaim := { program := "ytbnfhbbgmcpjgaa", sum := "01a5292079bf85ad678e305ab9e99927c8138434876adf3aef416bc235374f7f", func := "loop.example/g00969/laws.FnExactNumText", spec := "fnExactNumText", apart := false }
def FnExactNumTextSaid : Prop := fnExactNumTextRow.holds Try.pinned (OpenSpec.ofChange fnExactNumTextSpec)

/-- ITS FALSE NEIGHBOUR: 'it returns false'. Refute it at one input. -/
def fnExactNumTextWrong : ChangeSpec := { name := "fnExactNumText", fn := fun _ => fun
  | [d1, d2] => { results := [.lit (.bool false)], args := [d1, d2] }
  | _ => none }
def FnExactNumTextWrongFalsely : Prop := fnExactNumTextRow.holds Try.pinned (OpenSpec.ofChange fnExactNumTextWrong)

/-- 'laws.FnExactShiftRows': WHATEVER THE INPUT: true; the input reads as it did. -/
def fnExactShiftRowsSpec : ChangeSpec := { name := "fnExactShiftRows", fn := fun _ => fun
  | [d] => { results := [.lit (.bool true)], args := [d] }
  | _ => none }
def fnExactShiftRowsRow : OpenClaim := { program := "ytbnfhbbgmcpjgaa", sum := "01a5292079bf85ad678e305ab9e99927c8138434876adf3aef416bc235374f7f", func := "loop.example/g00969/laws.FnExactShiftRows", spec := "fnExactShiftRows", apart := false }
def FnExactShiftRowsSaid : Prop := fnExactShiftRowsRow.holds Try.pinned (OpenSpec.ofChange fnExactShiftRowsSpec)

/-- ITS FALSE NEIGHBOUR: 'it returns false'. Refute it at one input. -/
def fnExactShiftRowsWrong : ChangeSpec := { name := "fnExactShiftRows", fn := fun _ => fun
  | [d] => { results := [.lit (.bool false)], args := [d] }
  | _ => none }
def FnExactShiftRowsWrongFalsely : Prop := fnExactShiftRowsRow.holds Try.pinned (OpenSpec.ofChange fnExactShiftRowsWrong)

/-- 'laws.FnExactFieldDouble': WHATEVER THE INPUT: true; the input reads as it did. -/
def fnExactFieldDoubleSpec : ChangeSpec := { name := "fnExactFieldDouble", fn := fun _ => fun
  | [d] => { results := [.lit (.bool true)], args := [d] }
  | _ => none }
def fnExactFieldDoubleRow : OpenClaim := { program := "ytbnfhbbgmcpjgaa", sum := "01a5292079bf85ad678e305ab9e99927c8138434876adf3aef416bc235374f7f", func := "loop.example/g00969/laws.FnExactFieldDouble", spec := "fnExactFieldDouble", apart := false }
def FnExactFieldDoubleSaid : Prop := fnExactFieldDoubleRow.holds Try.pinned (OpenSpec.ofChange fnExactFieldDoubleSpec)

/-- ITS FALSE NEIGHBOUR: 'it returns false'. Refute it at one input. -/
def fnExactFieldDoubleWrong : ChangeSpec := { name := "fnExactFieldDouble", fn := fun _ => fun
  | [d] => { results := [.lit (.bool false)], args := [d] }
  | _ => none }
def FnExactFieldDoubleWrongFalsely : Prop := fnExactFieldDoubleRow.holds Try.pinned (OpenSpec.ofChange fnExactFieldDoubleWrong)

/-- 'laws.FnExactPartWords': WHATEVER THE INPUT: true; the input reads as it did. -/
def fnExactPartWordsSpec : ChangeSpec := { name := "fnExactPartWords", fn := fun _ => fun
  | [d] => { results := [.lit (.bool true)], args := [d] }
  | _ => none }
def fnExactPartWordsRow : OpenClaim := { program := "ytbnfhbbgmcpjgaa", sum := "01a5292079bf85ad678e305ab9e99927c8138434876adf3aef416bc235374f7f", func := "loop.example/g00969/laws.FnExactPartWords", spec := "fnExactPartWords", apart := false }
def FnExactPartWordsSaid : Prop := fnExactPartWordsRow.holds Try.pinned (OpenSpec.ofChange fnExactPartWordsSpec)

/-- ITS FALSE NEIGHBOUR: 'it returns false'. Refute it at one input. -/
def fnExactPartWordsWrong : ChangeSpec := { name := "fnExactPartWords", fn := fun _ => fun
  | [d] => { results := [.lit (.bool false)], args := [d] }
  | _ => none }
def FnExactPartWordsWrongFalsely : Prop := fnExactPartWordsRow.holds Try.pinned (OpenSpec.ofChange fnExactPartWordsWrong)

/- THE SECOND FORM. 'bulk': how many values and letters a reading holds, each counted each time it is reached (what is shared counts as often as it is met; a slice's spare places count too). A statement '..UptoSaid' is the law's where the arguments, and the package variables that the reading takes, are together of bulk at most 1048576: NARROWER than '..Said'. Prove '..Said' where nothing that the law and all that it calls make is longer than what came in: it says more and counts as full. Else prove '..UptoSaid'. A law counts once. -/
mutual
def uptoBulk {H : Type} : DataW H → Nat
  | .lit (.string bytes) => bytes.length + 1
  | .lit _ => 1
  | .nil => 1
  | .ptr d => uptoBulk d + 1
  | .slice elems spare => uptoBulkAll elems + uptoBulkAll spare + 1
  | .agg parts => uptoBulkAll parts + 1
  | .iface _ d => uptoBulk d + 1
  | .map entries => uptoBulkEntries entries + 1
  | .held _ => 1
def uptoBulkAll {H : Type} : List (DataW H) → Nat
  | [] => 0
  | d :: r => uptoBulk d + uptoBulkAll r
def uptoBulkEntries {H : Type} : List (Lit × DataW H) → Nat
  | [] => 0
  | x :: r => uptoBulkEntry x + uptoBulkEntries r
def uptoBulkEntry {H : Type} : Lit × DataW H → Nat
  | (.string bytes, d) => bytes.length + uptoBulk d + 1
  | (_, d) => uptoBulk d + 1
 end
def uptoSmall : (H : Type) → List (DataW H) → Bool := fun _ ds => decide (uptoBulkAll ds ≤ 1048576)
def OpenSpec.upto (s : _root_.Go.ChangeSpec) : _root_.Go.OpenSpec := { _root_.Go.OpenSpec.ofChange s with cond := some uptoSmall }

/-- 'laws.FnExactConstants', WHERE WHAT IT READS IS OF BULK AT MOST 1048576: true; the input reads as it did. -/
def fnExactConstantsUptoRow : OpenClaim := { program := "ytbnfhbbgmcpjgaa", sum := "01a5292079bf85ad678e305ab9e99927c8138434876adf3aef416bc235374f7f", func := "loop.example/g00969/laws.FnExactConstants", spec := "fnExactConstants", apart := false, narrowed := true }
def FnExactConstantsUptoSaid : Prop := fnExactConstantsUptoRow.holds Try.pinned (OpenSpec.upto fnExactConstantsSpec)

/-- 'laws.FnExactSameBytes', WHERE WHAT IT READS IS OF BULK AT MOST 1048576: true; the input reads as it did. -/
def fnExactSameBytesUptoRow : OpenClaim := { program := "ytbnfhbbgmcpjgaa", sum := "01a5292079bf85ad678e305ab9e99927c8138434876adf3aef416bc235374f7f", func := "loop.example/g00969/laws.FnExactSameBytes", spec := "fnExactSameBytes", apart := false, narrowed := true }
def FnExactSameBytesUptoSaid : Prop := fnExactSameBytesUptoRow.holds Try.pinned (OpenSpec.upto fnExactSameBytesSpec)

/-- 'laws.FnExactBrought', WHERE WHAT IT READS IS OF BULK AT MOST 1048576: true; the input reads as it did. -/
def fnExactBroughtUptoRow : OpenClaim := { program := "ytbnfhbbgmcpjgaa", sum := "01a5292079bf85ad678e305ab9e99927c8138434876adf3aef416bc235374f7f", func := "loop.example/g00969/laws.FnExactBrought", spec := "fnExactBrought", apart := false, narrowed := true }
def FnExactBroughtUptoSaid : Prop := fnExactBroughtUptoRow.holds Try.pinned (OpenSpec.upto fnExactBroughtSpec)

/-- 'laws.FnExactPagesFor', WHERE WHAT IT READS IS OF BULK AT MOST 1048576: true; the input reads as it did. -/
def fnExactPagesForUptoRow : OpenClaim := { program := "ytbnfhbbgmcpjgaa", sum := "01a5292079bf85ad678e305ab9e99927c8138434876adf3aef416bc235374f7f", func := "loop.example/g00969/laws.FnExactPagesFor", spec := "fnExactPagesFor", apart := false, narrowed := true }
def FnExactPagesForUptoSaid : Prop := fnExactPagesForUptoRow.holds Try.pinned (OpenSpec.upto fnExactPagesForSpec)

/-- 'laws.FnExactGeoOk', WHERE WHAT IT READS IS OF BULK AT MOST 1048576: true; the input reads as it did. -/
def fnExactGeoOkUptoRow : OpenClaim := { program := "ytbnfhbbgmcpjgaa", sum := "01a5292079bf85ad678e305ab9e99927c8138434876adf3aef416bc235374f7f", func := "loop.example/g00969/laws.FnExactGeoOk", spec := "fnExactGeoOk", apart := false, narrowed := true }
def FnExactGeoOkUptoSaid : Prop := fnExactGeoOkUptoRow.holds Try.pinned (OpenSpec.upto fnExactGeoOkSpec)

/-- 'laws.FnExactNameOk', WHERE WHAT IT READS IS OF BULK AT MOST 1048576: true; the input reads as it did. -/
def fnExactNameOkUptoRow : OpenClaim := { program := "ytbnfhbbgmcpjgaa", sum := "01a5292079bf85ad678e305ab9e99927c8138434876adf3aef416bc235374f7f", func := "loop.example/g00969/laws.FnExactNameOk", spec := "fnExactNameOk", apart := false, narrowed := true }
def FnExactNameOkUptoSaid : Prop := fnExactNameOkUptoRow.holds Try.pinned (OpenSpec.upto fnExactNameOkSpec)

/-- 'laws.FnExactXorText', WHERE WHAT IT READS IS OF BULK AT MOST 1048576: true; the input reads as it did. -/
def fnExactXorTextUptoRow : OpenClaim := { program := "ytbnfhbbgmcpjgaa", sum := "01a5292079bf85ad678e305ab9e99927c8138434876adf3aef416bc235374f7f", func := "loop.example/g00969/laws.FnExactXorText", spec := "fnExactXorText", apart := false, narrowed := true }
def FnExactXorTextUptoSaid : Prop := fnExactXorTextUptoRow.holds Try.pinned (OpenSpec.upto fnExactXorTextSpec)

/-- 'laws.FnExactNumAt', WHERE WHAT IT READS IS OF BULK AT MOST 1048576: true; the input reads as it did. -/
def fnExactNumAtUptoRow : OpenClaim := { program := "ytbnfhbbgmcpjgaa", sum := "01a5292079bf85ad678e305ab9e99927c8138434876adf3aef416bc235374f7f", func := "loop.example/g00969/laws.FnExactNumAt", spec := "fnExactNumAt", apart := false, narrowed := true }
def FnExactNumAtUptoSaid : Prop := fnExactNumAtUptoRow.holds Try.pinned (OpenSpec.upto fnExactNumAtSpec)

/-- 'laws.FnExactNumText', WHERE WHAT IT READS IS OF BULK AT MOST 1048576: true; the input reads as it did. -/
def fnExactNumTextUptoRow : OpenClaim := { program := "ytbnfhbbgmcpjgaa", sum := "01a5292079bf85ad678e305ab9e99927c8138434876adf3aef416bc235374f7f", func := "loop.example/g00969/laws.FnExactNumText", spec := "fnExactNumText", apart := false, narrowed := true }
def FnExactNumTextUptoSaid : Prop := fnExactNumTextUptoRow.holds Try.pinned (OpenSpec.upto fnExactNumTextSpec)

/-- 'laws.FnExactShiftRows', WHERE WHAT IT READS IS OF BULK AT MOST 1048576: true; the input reads as it did. -/
def fnExactShiftRowsUptoRow : OpenClaim := { program := "ytbnfhbbgmcpjgaa", sum := "01a5292079bf85ad678e305ab9e99927c8138434876adf3aef416bc235374f7f", func := "loop.example/g00969/laws.FnExactShiftRows", spec := "fnExactShiftRows", apart := false, narrowed := true }
def FnExactShiftRowsUptoSaid : Prop := fnExactShiftRowsUptoRow.holds Try.pinned (OpenSpec.upto fnExactShiftRowsSpec)

/-- 'laws.FnExactFieldDouble', WHERE WHAT IT READS IS OF BULK AT MOST 1048576: true; the input reads as it did. -/
def fnExactFieldDoubleUptoRow : OpenClaim := { program := "ytbnfhbbgmcpjgaa", sum := "01a5292079bf85ad678e305ab9e99927c8138434876adf3aef416bc235374f7f", func := "loop.example/g00969/laws.FnExactFieldDouble", spec := "fnExactFieldDouble", apart := false, narrowed := true }
def FnExactFieldDoubleUptoSaid : Prop := fnExactFieldDoubleUptoRow.holds Try.pinned (OpenSpec.upto fnExactFieldDoubleSpec)

/-- 'laws.FnExactPartWords', WHERE WHAT IT READS IS OF BULK AT MOST 1048576: true; the input reads as it did. -/
def fnExactPartWordsUptoRow : OpenClaim := { program := "ytbnfhbbgmcpjgaa", sum := "01a5292079bf85ad678e305ab9e99927c8138434876adf3aef416bc235374f7f", func := "loop.example/g00969/laws.FnExactPartWords", spec := "fnExactPartWords", apart := false, narrowed := true }
def FnExactPartWordsUptoSaid : Prop := fnExactPartWordsUptoRow.holds Try.pinned (OpenSpec.upto fnExactPartWordsSpec)

end Rows
end Go.Proofs.Ytbnfhbbgmcpjgaa
