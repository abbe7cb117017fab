/-
  No cell of these rows narrows 'for every input' (looked for: loops, veiled, ifaces, maps, wideKeys, modest, calm, conditions, laid).
  DERIVED. THE GIVEN ROWS OF THIS SEAT. 8 by the template 'for every input the law returns true; each argument reads behind the call as it read before'; 0 by the template 'total and deterministic' (their statements: YtkkadcpgjniojaaTotals.lean).
  GIVEN WITH THE SEED: the statements are not yours to turn. If you find one false, say at which input.
  Laid BY PROGRAM, IN A SANDBOX (cutbox-rows.mjs): the forced cells as the released guide's own fill.sh prints them over the translation 7403cc0406ecf13b… (all of the seat's roots in one cut). By AI agents, Wed Nov 11 2026. No macro, syntax, notation, axiom, sorry.
-/
import Derived.Test.YtkkadcpgjniojaaChecked
import GoSem.Claim
import GoSem.ClaimJoined
import GoSem.ClaimMapViews
import Derived.JoinedTies
import Derived.KernelRfl
namespace Go.Proofs.Ytkkadcpgjniojaa
/- THE CELL 'sum', in the pinned program and in every row, IS THE sha256 OF THE DUMP (.gsa) THAT YtkkadcpgjniojaaProg.lean LOADS. Nothing in Lean hashes anything: it is a label: what it is worth is what the hold of that sum in a sandbox is worth. -/
noncomputable def Try.pinned : Pinned := { name := "ytkkadcpgjniojaa", sum := "7403cc0406ecf13b3c2157ce7b8ac8e68ebb27cc2b174abced31359a100638ee", checked := Try.checked }
namespace Rows
def none {H : Type} : Left H := { results := [], args := [] }

/-- 'laws.FnExactZeroText': WHATEVER THE INPUT: true; the input reads as it did. -/
def fnExactZeroTextSpec : ChangeSpec := { name := "fnExactZeroText", fn := fun _ => fun
  | [d] => { results := [.lit (.bool true)], args := [d] }
  | _ => none }
def fnExactZeroTextRow : OpenClaim := { program := "ytkkadcpgjniojaa", sum := "7403cc0406ecf13b3c2157ce7b8ac8e68ebb27cc2b174abced31359a100638ee", func := "loop.example/g00969/laws.FnExactZeroText", spec := "fnExactZeroText", inPlace := ["internal/abi.NoEscape", "internal/bytealg.MakeNoZero"], apart := false }
def FnExactZeroTextSaid : Prop := fnExactZeroTextRow.holds Try.pinned (OpenSpec.ofChange fnExactZeroTextSpec)

/-- ITS FALSE NEIGHBOUR: 'it returns false'. Refute it at one input. -/
def fnExactZeroTextWrong : ChangeSpec := { name := "fnExactZeroText", fn := fun _ => fun
  | [d] => { results := [.lit (.bool false)], args := [d] }
  | _ => none }
def FnExactZeroTextWrongFalsely : Prop := fnExactZeroTextRow.holds Try.pinned (OpenSpec.ofChange fnExactZeroTextWrong)

/-- 'laws.FnExactWordText': WHATEVER THE INPUT: true; the input reads as it did. -/
def fnExactWordTextSpec : ChangeSpec := { name := "fnExactWordText", fn := fun _ => fun
  | [d] => { results := [.lit (.bool true)], args := [d] }
  | _ => none }
def fnExactWordTextRow : OpenClaim := { program := "ytkkadcpgjniojaa", sum := "7403cc0406ecf13b3c2157ce7b8ac8e68ebb27cc2b174abced31359a100638ee", func := "loop.example/g00969/laws.FnExactWordText", spec := "fnExactWordText", inPlace := ["internal/abi.NoEscape", "internal/bytealg.MakeNoZero"], apart := false }
def FnExactWordTextSaid : Prop := fnExactWordTextRow.holds Try.pinned (OpenSpec.ofChange fnExactWordTextSpec)

/-- ITS FALSE NEIGHBOUR: 'it returns false'. Refute it at one input. -/
def fnExactWordTextWrong : ChangeSpec := { name := "fnExactWordText", fn := fun _ => fun
  | [d] => { results := [.lit (.bool false)], args := [d] }
  | _ => none }
def FnExactWordTextWrongFalsely : Prop := fnExactWordTextRow.holds Try.pinned (OpenSpec.ofChange fnExactWordTextWrong)

/-- 'laws.FnExactPadText': WHATEVER THE INPUT: true; the input reads as it did. -/
def fnExactPadTextSpec : ChangeSpec := { name := "fnExactPadText", fn := fun _ => fun
  | [d] => { results := [.lit (.bool true)], args := [d] }
  | _ => none }
def fnExactPadTextRow : OpenClaim := { program := "ytkkadcpgjniojaa", sum := "7403cc0406ecf13b3c2157ce7b8ac8e68ebb27cc2b174abced31359a100638ee", func := "loop.example/g00969/laws.FnExactPadText", spec := "fnExactPadText", inPlace := ["internal/abi.NoEscape", "internal/bytealg.MakeNoZero"], named := ["encoding/binary.BigEndian"], apart := false }
def FnExactPadTextSaid : Prop := fnExactPadTextRow.holds Try.pinned (OpenSpec.ofChange fnExactPadTextSpec)

/-- ITS FALSE NEIGHBOUR: 'it returns false'. Refute it at one input. -/
def fnExactPadTextWrong : ChangeSpec := { name := "fnExactPadText", fn := fun _ => fun
  | [d] => { results := [.lit (.bool false)], args := [d] }
  | _ => none }
def FnExactPadTextWrongFalsely : Prop := fnExactPadTextRow.holds Try.pinned (OpenSpec.ofChange fnExactPadTextWrong)

/-- 'laws.FnExactWordsOf': WHATEVER THE INPUT: true; the input reads as it did. -/
def fnExactWordsOfSpec : ChangeSpec := { name := "fnExactWordsOf", fn := fun _ => fun
  | [d] => { results := [.lit (.bool true)], args := [d] }
  | _ => none }
def fnExactWordsOfRow : OpenClaim := { program := "ytkkadcpgjniojaa", sum := "7403cc0406ecf13b3c2157ce7b8ac8e68ebb27cc2b174abced31359a100638ee", func := "loop.example/g00969/laws.FnExactWordsOf", spec := "fnExactWordsOf", inPlace := ["internal/abi.NoEscape", "internal/bytealg.MakeNoZero"], apart := false }
def FnExactWordsOfSaid : Prop := fnExactWordsOfRow.holds Try.pinned (OpenSpec.ofChange fnExactWordsOfSpec)

/-- ITS FALSE NEIGHBOUR: 'it returns false'. Refute it at one input. -/
def fnExactWordsOfWrong : ChangeSpec := { name := "fnExactWordsOf", fn := fun _ => fun
  | [d] => { results := [.lit (.bool false)], args := [d] }
  | _ => none }
def FnExactWordsOfWrongFalsely : Prop := fnExactWordsOfRow.holds Try.pinned (OpenSpec.ofChange fnExactWordsOfWrong)

/-- 'laws.FnExactEntryWord': WHATEVER THE INPUT: true; the input reads as it did. -/
def fnExactEntryWordSpec : ChangeSpec := { name := "fnExactEntryWord", fn := fun _ => fun
  | [d] => { results := [.lit (.bool true)], args := [d] }
  | _ => none }
def fnExactEntryWordRow : OpenClaim := { program := "ytkkadcpgjniojaa", sum := "7403cc0406ecf13b3c2157ce7b8ac8e68ebb27cc2b174abced31359a100638ee", func := "loop.example/g00969/laws.FnExactEntryWord", spec := "fnExactEntryWord", inPlace := ["internal/abi.NoEscape", "internal/bytealg.MakeNoZero"], apart := false }
def FnExactEntryWordSaid : Prop := fnExactEntryWordRow.holds Try.pinned (OpenSpec.ofChange fnExactEntryWordSpec)

/-- ITS FALSE NEIGHBOUR: 'it returns false'. Refute it at one input. -/
def fnExactEntryWordWrong : ChangeSpec := { name := "fnExactEntryWord", fn := fun _ => fun
  | [d] => { results := [.lit (.bool false)], args := [d] }
  | _ => none }
def FnExactEntryWordWrongFalsely : Prop := fnExactEntryWordRow.holds Try.pinned (OpenSpec.ofChange fnExactEntryWordWrong)

/-- 'laws.FnExactMemoryNew': WHATEVER THE INPUT: true; the input reads as it did. -/
def fnExactMemoryNewSpec : ChangeSpec := { name := "fnExactMemoryNew", fn := fun _ => fun
  | [d] => { results := [.lit (.bool true)], args := [d] }
  | _ => none }
def fnExactMemoryNewRow : OpenClaim := { program := "ytkkadcpgjniojaa", sum := "7403cc0406ecf13b3c2157ce7b8ac8e68ebb27cc2b174abced31359a100638ee", func := "loop.example/g00969/laws.FnExactMemoryNew", spec := "fnExactMemoryNew", inPlace := ["internal/abi.NoEscape", "internal/bytealg.MakeNoZero"], apart := false }
def FnExactMemoryNewSaid : Prop := fnExactMemoryNewRow.holds Try.pinned (OpenSpec.ofChange fnExactMemoryNewSpec)

/-- ITS FALSE NEIGHBOUR: 'it returns false'. Refute it at one input. -/
def fnExactMemoryNewWrong : ChangeSpec := { name := "fnExactMemoryNew", fn := fun _ => fun
  | [d] => { results := [.lit (.bool false)], args := [d] }
  | _ => none }
def FnExactMemoryNewWrongFalsely : Prop := fnExactMemoryNewRow.holds Try.pinned (OpenSpec.ofChange fnExactMemoryNewWrong)

/-- 'laws.FnXor': WHATEVER THE INPUT: true; the input reads as it did. -/
def fnXorSpec : ChangeSpec := { name := "fnXor", fn := fun _ => fun
  | [d] => { results := [.lit (.bool true)], args := [d] }
  | _ => none }
def fnXorRow : OpenClaim := { program := "ytkkadcpgjniojaa", sum := "7403cc0406ecf13b3c2157ce7b8ac8e68ebb27cc2b174abced31359a100638ee", func := "loop.example/g00969/laws.FnXor", spec := "fnXor", inPlace := ["internal/abi.NoEscape", "internal/bytealg.MakeNoZero"], apart := false }
def FnXorSaid : Prop := fnXorRow.holds Try.pinned (OpenSpec.ofChange fnXorSpec)

/-- ITS FALSE NEIGHBOUR: 'it returns false'. Refute it at one input. -/
def fnXorWrong : ChangeSpec := { name := "fnXor", fn := fun _ => fun
  | [d] => { results := [.lit (.bool false)], args := [d] }
  | _ => none }
def FnXorWrongFalsely : Prop := fnXorRow.holds Try.pinned (OpenSpec.ofChange fnXorWrong)

/-- 'laws.FnExactInodeOk': WHATEVER THE INPUT: true; the input reads as it did. -/
def fnExactInodeOkSpec : ChangeSpec := { name := "fnExactInodeOk", fn := fun _ => fun
  | [d] => { results := [.lit (.bool true)], args := [d] }
  | _ => none }
def fnExactInodeOkRow : OpenClaim := { program := "ytkkadcpgjniojaa", sum := "7403cc0406ecf13b3c2157ce7b8ac8e68ebb27cc2b174abced31359a100638ee", func := "loop.example/g00969/laws.FnExactInodeOk", spec := "fnExactInodeOk", inPlace := ["internal/abi.NoEscape", "internal/bytealg.MakeNoZero"], unfollowed := true, recurses := true, apart := false }
def FnExactInodeOkSaid : Prop := fnExactInodeOkRow.holds Try.pinned (OpenSpec.ofChange fnExactInodeOkSpec)

/-- ITS FALSE NEIGHBOUR: 'it returns false'. Refute it at one input. -/
def fnExactInodeOkWrong : ChangeSpec := { name := "fnExactInodeOk", fn := fun _ => fun
  | [d] => { results := [.lit (.bool false)], args := [d] }
  | _ => none }
def FnExactInodeOkWrongFalsely : Prop := fnExactInodeOkRow.holds Try.pinned (OpenSpec.ofChange fnExactInodeOkWrong)

/- THE SECOND FORM. 'bulk': how many values and letters a reading holds, each counted each time it is reached (what is shared counts as often as it is met; a slice's spare places count too). A statement '..UptoSaid' is the law's where the arguments, and the package variables that the reading takes, are together of bulk at most 1048576: NARROWER than '..Said'. Prove '..Said' where nothing that the law and all that it calls make is longer than what came in: it says more and counts as full. Else prove '..UptoSaid'. A law counts once. -/
mutual
def uptoBulk {H : Type} : DataW H → Nat
  | .lit (.string bytes) => bytes.length + 1
  | .lit _ => 1
  | .nil => 1
  | .ptr d => uptoBulk d + 1
  | .slice elems spare => uptoBulkAll elems + uptoBulkAll spare + 1
  | .agg parts => uptoBulkAll parts + 1
  | .iface _ d => uptoBulk d + 1
  | .map entries => uptoBulkEntries entries + 1
  | .held _ => 1
def uptoBulkAll {H : Type} : List (DataW H) → Nat
  | [] => 0
  | d :: r => uptoBulk d + uptoBulkAll r
def uptoBulkEntries {H : Type} : List (Lit × DataW H) → Nat
  | [] => 0
  | x :: r => uptoBulkEntry x + uptoBulkEntries r
def uptoBulkEntry {H : Type} : Lit × DataW H → Nat
  | (.string bytes, d) => bytes.length + uptoBulk d + 1
  | (_, d) => uptoBulk d + 1
 end
def uptoSmall : (H : Type) → List (DataW H) → Bool := fun _ ds => decide (uptoBulkAll ds ≤ 1048576)
def OpenSpec.upto (s : _root_.Go.ChangeSpec) : _root_.Go.OpenSpec := { _root_.Go.OpenSpec.ofChange s with cond := some uptoSmall }

/-- 'laws.FnExactZeroText', WHERE WHAT IT READS IS OF BULK AT MOST 1048576: true; the input reads as it did. -/
def fnExactZeroTextUptoRow : OpenClaim := { program := "ytkkadcpgjniojaa", sum := "7403cc0406ecf13b3c2157ce7b8ac8e68ebb27cc2b174abced31359a100638ee", func := "loop.example/g00969/laws.FnExactZeroText", spec := "fnExactZeroText", inPlace := ["internal/abi.NoEscape", "internal/bytealg.MakeNoZero"], apart := false, narrowed := true }
def FnExactZeroTextUptoSaid : Prop := fnExactZeroTextUptoRow.holds Try.pinned (OpenSpec.upto fnExactZeroTextSpec)

/-- 'laws.FnExactWordText', WHERE WHAT IT READS IS OF BULK AT MOST 1048576: true; the input reads as it did. -/
def fnExactWordTextUptoRow : OpenClaim := { program := "ytkkadcpgjniojaa", sum := "7403cc0406ecf13b3c2157ce7b8ac8e68ebb27cc2b174abced31359a100638ee", func := "loop.example/g00969/laws.FnExactWordText", spec := "fnExactWordText", inPlace := ["internal/abi.NoEscape", "internal/bytealg.MakeNoZero"], apart := false, narrowed := true }
def FnExactWordTextUptoSaid : Prop := fnExactWordTextUptoRow.holds Try.pinned (OpenSpec.upto fnExactWordTextSpec)

/-- 'laws.FnExactPadText', WHERE WHAT IT READS IS OF BULK AT MOST 1048576: true; the input reads as it did. -/
def fnExactPadTextUptoRow : OpenClaim := { program := "ytkkadcpgjniojaa", sum := "7403cc0406ecf13b3c2157ce7b8ac8e68ebb27cc2b174abced31359a100638ee", func := "loop.example/g00969/laws.FnExactPadText", spec := "fnExactPadText", inPlace := ["internal/abi.NoEscape", "internal/bytealg.MakeNoZero"], named := ["encoding/binary.BigEndian"], apart := false, narrowed := true }
def FnExactPadTextUptoSaid : Prop := fnExactPadTextUptoRow.holds Try.pinned (OpenSpec.upto fnExactPadTextSpec)

/-- 'laws.FnExactWordsOf', WHERE WHAT IT READS IS OF BULK AT MOST 1048576: true; the input reads as it did. -/
def fnExactWordsOfUptoRow : OpenClaim := { program := "ytkkadcpgjniojaa", sum := "7403cc0406ecf13b3c2157ce7b8ac8e68ebb27cc2b174abced31359a100638ee", func := "loop.example/g00969/laws.FnExactWordsOf", spec := "fnExactWordsOf", inPlace := ["internal/abi.NoEscape", "internal/bytealg.MakeNoZero"], apart := false, narrowed := true }
def FnExactWordsOfUptoSaid : Prop := fnExactWordsOfUptoRow.holds Try.pinned (OpenSpec.upto fnExactWordsOfSpec)

/-- 'laws.FnExactEntryWord', WHERE WHAT IT READS IS OF BULK AT MOST 1048576: true; the input reads as it did. -/
def fnExactEntryWordUptoRow : OpenClaim := { program := "ytkkadcpgjniojaa", sum := "7403cc0406ecf13b3c2157ce7b8ac8e68ebb27cc2b174abced31359a100638ee", func := "loop.example/g00969/laws.FnExactEntryWord", spec := "fnExactEntryWord", inPlace := ["internal/abi.NoEscape", "internal/bytealg.MakeNoZero"], apart := false, narrowed := true }
def FnExactEntryWordUptoSaid : Prop := fnExactEntryWordUptoRow.holds Try.pinned (OpenSpec.upto fnExactEntryWordSpec)

/-- 'laws.FnExactMemoryNew', WHERE WHAT IT READS IS OF BULK AT MOST 1048576: true; the input reads as it did. -/
def fnExactMemoryNewUptoRow : OpenClaim := { program := "ytkkadcpgjniojaa", sum := "7403cc0406ecf13b3c2157ce7b8ac8e68ebb27cc2b174abced31359a100638ee", func := "loop.example/g00969/laws.FnExactMemoryNew", spec := "fnExactMemoryNew", inPlace := ["internal/abi.NoEscape", "internal/bytealg.MakeNoZero"], apart := false, narrowed := true }
def FnExactMemoryNewUptoSaid : Prop := fnExactMemoryNewUptoRow.holds Try.pinned (OpenSpec.upto fnExactMemoryNewSpec)

/-- 'laws.FnXor', WHERE WHAT IT READS IS OF BULK AT MOST 1048576: true; the input reads as it did. -/
def fnXorUptoRow : OpenClaim := { program := "ytkkadcpgjniojaa", sum := "7403cc0406ecf13b3c2157ce7b8ac8e68ebb27cc2b174abced31359a100638ee", func := "loop.example/g00969/laws.FnXor", spec := "fnXor", inPlace := ["internal/abi.NoEscape", "internal/bytealg.MakeNoZero"], apart := false, narrowed := true }
def FnXorUptoSaid : Prop := fnXorUptoRow.holds Try.pinned (OpenSpec.upto fnXorSpec)

/-- 'laws.FnExactInodeOk', WHERE WHAT IT READS IS OF BULK AT MOST 1048576: true; the input reads as it did. -/
def fnExactInodeOkUptoRow : OpenClaim := { program := "ytkkadcpgjniojaa", sum := "7403cc0406ecf13b3c2157ce7b8ac8e68ebb27cc2b174abced31359a100638ee", func := "loop.example/g00969/laws.FnExactInodeOk", spec := "fnExactInodeOk", inPlace := ["internal/abi.NoEscape", "internal/bytealg.MakeNoZero"], unfollowed := true, recurses := true, apart := false, narrowed := true }
def FnExactInodeOkUptoSaid : Prop := fnExactInodeOkUptoRow.holds Try.pinned (OpenSpec.upto fnExactInodeOkSpec)

end Rows
end Go.Proofs.Ytkkadcpgjniojaa
