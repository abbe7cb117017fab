/-
  No cell of these rows narrows 'for every input' (looked for: loops, veiled, ifaces, maps, wideKeys, modest, calm, conditions, laid).
  DERIVED. THE GIVEN ROWS OF THIS SEAT. 12 by the template 'for every input the law returns true; each argument reads behind the call as it read before'; 0 by the template 'total and deterministic' (their statements: YtenhfhkaemiohaaTotals.lean).
  GIVEN WITH THE SEED: the statements are not yours to turn. If you find one false, say at which input.
  Laid BY PROGRAM, IN A SANDBOX (cutbox-rows.mjs): the forced cells as the released guide's own fill.sh prints them over the translation 5a0b3773fa48bff2… (all of the seat's roots in one cut). By AI agents, Wed Nov 11 2026. No macro, syntax, notation, axiom, sorry.
-/
import Derived.Test.YtenhfhkaemiohaaChecked
import GoSem.Claim
import GoSem.ClaimJoined
import GoSem.ClaimMapViews
import Derived.JoinedTies
import Derived.KernelRfl
namespace Go.Proofs.Ytenhfhkaemiohaa
/- THE CELL 'sum', in the pinned program and in every row, IS THE sha256 OF THE DUMP (.gsa) THAT YtenhfhkaemiohaaProg.lean LOADS. Nothing in Lean hashes anything: it is a label: what it is worth is what the hold of that sum in a sandbox is worth. -/
noncomputable def Try.pinned : Pinned := { name := "ytenhfhkaemiohaa", sum := "5a0b3773fa48bff2db10fe5492f4b9d088d1fd0170591753c854338ab9e1af8c", checked := Try.checked }
namespace Rows
def none {H : Type} : Left H := { results := [], args := [] }

/-- 'laws.FnExactLinesIn': WHATEVER THE INPUT: true; the input reads as it did. -/
def fnExactLinesInSpec : ChangeSpec := { name := "fnExactLinesIn", fn := fun _ => fun
  | [d] => { results := [.lit (.bool true)], args := [d] }
  | _ => none }
def fnExactLinesInRow : OpenClaim := { program := "ytenhfhkaemiohaa", sum := "5a0b3773fa48bff2db10fe5492f4b9d088d1fd0170591753c854338ab9e1af8c", func := "loop.example/g00969/laws.FnExactLinesIn", spec := "fnExactLinesIn", apart := false }
def FnExactLinesInSaid : Prop := fnExactLinesInRow.holds Try.pinned (OpenSpec.ofChange fnExactLinesInSpec)

/-- ITS FALSE NEIGHBOUR: 'it returns false'. Refute it at one input. -/
def fnExactLinesInWrong : ChangeSpec := { name := "fnExactLinesIn", fn := fun _ => fun
  | [d] => { results := [.lit (.bool false)], args := [d] }
  | _ => none }
def FnExactLinesInWrongFalsely : Prop := fnExactLinesInRow.holds Try.pinned (OpenSpec.ofChange fnExactLinesInWrong)

/-- 'laws.FnExactCommitAt': WHATEVER THE INPUT: true; the input reads as it did. -/
def fnExactCommitAtSpec : ChangeSpec := { name := "fnExactCommitAt", fn := fun _ => fun
  | [d1, d2] => { results := [.lit (.bool true)], args := [d1, d2] }
  | _ => none }
def fnExactCommitAtRow : OpenClaim := { program := "ytenhfhkaemiohaa", sum := "5a0b3773fa48bff2db10fe5492f4b9d088d1fd0170591753c854338ab9e1af8c", func := "loop.example/g00969/laws.FnExactCommitAt", spec := "fnExactCommitAt", apart := false }
def FnExactCommitAtSaid : Prop := fnExactCommitAtRow.holds Try.pinned (OpenSpec.ofChange fnExactCommitAtSpec)

/-- ITS FALSE NEIGHBOUR: 'it returns false'. Refute it at one input. -/
def fnExactCommitAtWrong : ChangeSpec := { name := "fnExactCommitAt", fn := fun _ => fun
  | [d1, d2] => { results := [.lit (.bool false)], args := [d1, d2] }
  | _ => none }
def FnExactCommitAtWrongFalsely : Prop := fnExactCommitAtRow.holds Try.pinned (OpenSpec.ofChange fnExactCommitAtWrong)

/-- 'laws.FnExactSerialAt': WHATEVER THE INPUT: true; the input reads as it did. -/
def fnExactSerialAtSpec : ChangeSpec := { name := "fnExactSerialAt", fn := fun _ => fun
  | [d1, d2] => { results := [.lit (.bool true)], args := [d1, d2] }
  | _ => none }
def fnExactSerialAtRow : OpenClaim := { program := "ytenhfhkaemiohaa", sum := "5a0b3773fa48bff2db10fe5492f4b9d088d1fd0170591753c854338ab9e1af8c", func := "loop.example/g00969/laws.FnExactSerialAt", spec := "fnExactSerialAt", apart := false }
def FnExactSerialAtSaid : Prop := fnExactSerialAtRow.holds Try.pinned (OpenSpec.ofChange fnExactSerialAtSpec)

/-- ITS FALSE NEIGHBOUR: 'it returns false'. Refute it at one input. -/
def fnExactSerialAtWrong : ChangeSpec := { name := "fnExactSerialAt", fn := fun _ => fun
  | [d1, d2] => { results := [.lit (.bool false)], args := [d1, d2] }
  | _ => none }
def FnExactSerialAtWrongFalsely : Prop := fnExactSerialAtRow.holds Try.pinned (OpenSpec.ofChange fnExactSerialAtWrong)

/-- 'laws.FnExactInodeAt': WHATEVER THE INPUT: true; the input reads as it did. -/
def fnExactInodeAtSpec : ChangeSpec := { name := "fnExactInodeAt", fn := fun _ => fun
  | [d1, d2, d3] => { results := [.lit (.bool true)], args := [d1, d2, d3] }
  | _ => none }
def fnExactInodeAtRow : OpenClaim := { program := "ytenhfhkaemiohaa", sum := "5a0b3773fa48bff2db10fe5492f4b9d088d1fd0170591753c854338ab9e1af8c", func := "loop.example/g00969/laws.FnExactInodeAt", spec := "fnExactInodeAt", apart := false }
def FnExactInodeAtSaid : Prop := fnExactInodeAtRow.holds Try.pinned (OpenSpec.ofChange fnExactInodeAtSpec)

/-- ITS FALSE NEIGHBOUR: 'it returns false'. Refute it at one input. -/
def fnExactInodeAtWrong : ChangeSpec := { name := "fnExactInodeAt", fn := fun _ => fun
  | [d1, d2, d3] => { results := [.lit (.bool false)], args := [d1, d2, d3] }
  | _ => none }
def FnExactInodeAtWrongFalsely : Prop := fnExactInodeAtRow.holds Try.pinned (OpenSpec.ofChange fnExactInodeAtWrong)

/-- 'laws.FnExactJournalAt': WHATEVER THE INPUT: true; the input reads as it did. -/
def fnExactJournalAtSpec : ChangeSpec := { name := "fnExactJournalAt", fn := fun _ => fun
  | [d1, d2, d3] => { results := [.lit (.bool true)], args := [d1, d2, d3] }
  | _ => none }
def fnExactJournalAtRow : OpenClaim := { program := "ytenhfhkaemiohaa", sum := "5a0b3773fa48bff2db10fe5492f4b9d088d1fd0170591753c854338ab9e1af8c", func := "loop.example/g00969/laws.FnExactJournalAt", spec := "fnExactJournalAt", apart := false }
def FnExactJournalAtSaid : Prop := fnExactJournalAtRow.holds Try.pinned (OpenSpec.ofChange fnExactJournalAtSpec)

/-- ITS FALSE NEIGHBOUR: 'it returns false'. Refute it at one input. -/
def fnExactJournalAtWrong : ChangeSpec := { name := "fnExactJournalAt", fn := fun _ => fun
  | [d1, d2, d3] => { results := [.lit (.bool false)], args := [d1, d2, d3] }
  | _ => none }
def FnExactJournalAtWrongFalsely : Prop := fnExactJournalAtRow.holds Try.pinned (OpenSpec.ofChange fnExactJournalAtWrong)

/-- 'laws.FnExactPageAt': WHATEVER THE INPUT: true; the input reads as it did. -/
def fnExactPageAtSpec : ChangeSpec := { name := "fnExactPageAt", fn := fun _ => fun
  | [d1, d2, d3] => { results := [.lit (.bool true)], args := [d1, d2, d3] }
  | _ => none }
def fnExactPageAtRow : OpenClaim := { program := "ytenhfhkaemiohaa", sum := "5a0b3773fa48bff2db10fe5492f4b9d088d1fd0170591753c854338ab9e1af8c", func := "loop.example/g00969/laws.FnExactPageAt", spec := "fnExactPageAt", apart := false }
def FnExactPageAtSaid : Prop := fnExactPageAtRow.holds Try.pinned (OpenSpec.ofChange fnExactPageAtSpec)

/-- ITS FALSE NEIGHBOUR: 'it returns false'. Refute it at one input. -/
def fnExactPageAtWrong : ChangeSpec := { name := "fnExactPageAt", fn := fun _ => fun
  | [d1, d2, d3] => { results := [.lit (.bool false)], args := [d1, d2, d3] }
  | _ => none }
def FnExactPageAtWrongFalsely : Prop := fnExactPageAtRow.holds Try.pinned (OpenSpec.ofChange fnExactPageAtWrong)

/-- 'laws.FnExactPartAt': WHATEVER THE INPUT: true; the input reads as it did. -/
def fnExactPartAtSpec : ChangeSpec := { name := "fnExactPartAt", fn := fun _ => fun
  | [d1, d2] => { results := [.lit (.bool true)], args := [d1, d2] }
  | _ => none }
def fnExactPartAtRow : OpenClaim := { program := "ytenhfhkaemiohaa", sum := "5a0b3773fa48bff2db10fe5492f4b9d088d1fd0170591753c854338ab9e1af8c", func := "loop.example/g00969/laws.FnExactPartAt", spec := "fnExactPartAt", apart := false }
def FnExactPartAtSaid : Prop := fnExactPartAtRow.holds Try.pinned (OpenSpec.ofChange fnExactPartAtSpec)

/-- ITS FALSE NEIGHBOUR: 'it returns false'. Refute it at one input. -/
def fnExactPartAtWrong : ChangeSpec := { name := "fnExactPartAt", fn := fun _ => fun
  | [d1, d2] => { results := [.lit (.bool false)], args := [d1, d2] }
  | _ => none }
def FnExactPartAtWrongFalsely : Prop := fnExactPartAtRow.holds Try.pinned (OpenSpec.ofChange fnExactPartAtWrong)

/-- 'laws.FnExactNonceOf': WHATEVER THE INPUT: true; the input reads as it did. -/
def fnExactNonceOfSpec : ChangeSpec := { name := "fnExactNonceOf", fn := fun _ => fun
  | [d1, d2, d3] => { results := [.lit (.bool true)], args := [d1, d2, d3] }
  | _ => none }
def fnExactNonceOfRow : OpenClaim := { program := "ytenhfhkaemiohaa", sum := "5a0b3773fa48bff2db10fe5492f4b9d088d1fd0170591753c854338ab9e1af8c", func := "loop.example/g00969/laws.FnExactNonceOf", spec := "fnExactNonceOf", apart := false }
def FnExactNonceOfSaid : Prop := fnExactNonceOfRow.holds Try.pinned (OpenSpec.ofChange fnExactNonceOfSpec)

/-- ITS FALSE NEIGHBOUR: 'it returns false'. Refute it at one input. -/
def fnExactNonceOfWrong : ChangeSpec := { name := "fnExactNonceOf", fn := fun _ => fun
  | [d1, d2, d3] => { results := [.lit (.bool false)], args := [d1, d2, d3] }
  | _ => none }
def FnExactNonceOfWrongFalsely : Prop := fnExactNonceOfRow.holds Try.pinned (OpenSpec.ofChange fnExactNonceOfWrong)

/-- 'laws.FnExactRecWord': WHATEVER THE INPUT: true; the input reads as it did. -/
def fnExactRecWordSpec : ChangeSpec := { name := "fnExactRecWord", fn := fun _ => fun
  | [d] => { results := [.lit (.bool true)], args := [d] }
  | _ => none }
def fnExactRecWordRow : OpenClaim := { program := "ytenhfhkaemiohaa", sum := "5a0b3773fa48bff2db10fe5492f4b9d088d1fd0170591753c854338ab9e1af8c", func := "loop.example/g00969/laws.FnExactRecWord", spec := "fnExactRecWord", apart := false }
def FnExactRecWordSaid : Prop := fnExactRecWordRow.holds Try.pinned (OpenSpec.ofChange fnExactRecWordSpec)

/-- ITS FALSE NEIGHBOUR: 'it returns false'. Refute it at one input. -/
def fnExactRecWordWrong : ChangeSpec := { name := "fnExactRecWord", fn := fun _ => fun
  | [d] => { results := [.lit (.bool false)], args := [d] }
  | _ => none }
def FnExactRecWordWrongFalsely : Prop := fnExactRecWordRow.holds Try.pinned (OpenSpec.ofChange fnExactRecWordWrong)

/-- 'laws.FnExactReadRec': WHATEVER THE INPUT: true; the input reads as it did. -/
def fnExactReadRecSpec : ChangeSpec := { name := "fnExactReadRec", fn := fun _ => fun
  | [d] => { results := [.lit (.bool true)], args := [d] }
  | _ => none }
def fnExactReadRecRow : OpenClaim := { program := "ytenhfhkaemiohaa", sum := "5a0b3773fa48bff2db10fe5492f4b9d088d1fd0170591753c854338ab9e1af8c", func := "loop.example/g00969/laws.FnExactReadRec", spec := "fnExactReadRec", apart := false }
def FnExactReadRecSaid : Prop := fnExactReadRecRow.holds Try.pinned (OpenSpec.ofChange fnExactReadRecSpec)

/-- ITS FALSE NEIGHBOUR: 'it returns false'. Refute it at one input. -/
def fnExactReadRecWrong : ChangeSpec := { name := "fnExactReadRec", fn := fun _ => fun
  | [d] => { results := [.lit (.bool false)], args := [d] }
  | _ => none }
def FnExactReadRecWrongFalsely : Prop := fnExactReadRecRow.holds Try.pinned (OpenSpec.ofChange fnExactReadRecWrong)

/-- 'laws.FnExactShaStart': WHATEVER THE INPUT: true; the input reads as it did. -/
def fnExactShaStartSpec : ChangeSpec := { name := "fnExactShaStart", fn := fun _ => fun
  | [] => { results := [.lit (.bool true)], args := [] }
  | _ => none }
def fnExactShaStartRow : OpenClaim := { program := "ytenhfhkaemiohaa", sum := "5a0b3773fa48bff2db10fe5492f4b9d088d1fd0170591753c854338ab9e1af8c", func := "loop.example/g00969/laws.FnExactShaStart", spec := "fnExactShaStart", apart := false }
def FnExactShaStartSaid : Prop := fnExactShaStartRow.holds Try.pinned (OpenSpec.ofChange fnExactShaStartSpec)

/-- ITS FALSE NEIGHBOUR: 'it returns false'. Refute it at one input. -/
def fnExactShaStartWrong : ChangeSpec := { name := "fnExactShaStart", fn := fun _ => fun
  | [] => { results := [.lit (.bool false)], args := [] }
  | _ => none }
def FnExactShaStartWrongFalsely : Prop := fnExactShaStartRow.holds Try.pinned (OpenSpec.ofChange fnExactShaStartWrong)

/-- 'laws.FnPlaces': WHATEVER THE INPUT: true; the input reads as it did. -/
def fnPlacesSpec : ChangeSpec := { name := "fnPlaces", fn := fun _ => fun
  | [d] => { results := [.lit (.bool true)], args := [d] }
  | _ => none }
def fnPlacesRow : OpenClaim := { program := "ytenhfhkaemiohaa", sum := "5a0b3773fa48bff2db10fe5492f4b9d088d1fd0170591753c854338ab9e1af8c", func := "loop.example/g00969/laws.FnPlaces", spec := "fnPlaces", apart := false }
def FnPlacesSaid : Prop := fnPlacesRow.holds Try.pinned (OpenSpec.ofChange fnPlacesSpec)

/-- ITS FALSE NEIGHBOUR: 'it returns false'. Refute it at one input. -/
def fnPlacesWrong : ChangeSpec := { name := "fnPlaces", fn := fun _ => fun
  | [d] => { results := [.lit (.bool false)], args := [d] }
  | _ => none }
def FnPlacesWrongFalsely : Prop := fnPlacesRow.holds Try.pinned (OpenSpec.ofChange fnPlacesWrong)

/- THE SECOND FORM. 'bulk': how many values and letters a reading holds, each counted each time it is reached (what is shared counts as often as it is met; a slice's spare places count too). A statement '..UptoSaid' is the law's where the arguments, and the package variables that the reading takes, are together of bulk at most 1048576: NARROWER than '..Said'. Prove '..Said' where nothing that the law and all that it calls make is longer than what came in: it says more and counts as full. Else prove '..UptoSaid'. A law counts once. -/
mutual
def uptoBulk {H : Type} : DataW H → Nat
  | .lit (.string bytes) => bytes.length + 1
  | .lit _ => 1
  | .nil => 1
  | .ptr d => uptoBulk d + 1
  | .slice elems spare => uptoBulkAll elems + uptoBulkAll spare + 1
  | .agg parts => uptoBulkAll parts + 1
  | .iface _ d => uptoBulk d + 1
  | .map entries => uptoBulkEntries entries + 1
  | .held _ => 1
def uptoBulkAll {H : Type} : List (DataW H) → Nat
  | [] => 0
  | d :: r => uptoBulk d + uptoBulkAll r
def uptoBulkEntries {H : Type} : List (Lit × DataW H) → Nat
  | [] => 0
  | x :: r => uptoBulkEntry x + uptoBulkEntries r
def uptoBulkEntry {H : Type} : Lit × DataW H → Nat
  | (.string bytes, d) => bytes.length + uptoBulk d + 1
  | (_, d) => uptoBulk d + 1
 end
def uptoSmall : (H : Type) → List (DataW H) → Bool := fun _ ds => decide (uptoBulkAll ds ≤ 1048576)
def OpenSpec.upto (s : _root_.Go.ChangeSpec) : _root_.Go.OpenSpec := { _root_.Go.OpenSpec.ofChange s with cond := some uptoSmall }

/-- 'laws.FnExactLinesIn', WHERE WHAT IT READS IS OF BULK AT MOST 1048576: true; the input reads as it did. -/
def fnExactLinesInUptoRow : OpenClaim := { program := "ytenhfhkaemiohaa", sum := "5a0b3773fa48bff2db10fe5492f4b9d088d1fd0170591753c854338ab9e1af8c", func := "loop.example/g00969/laws.FnExactLinesIn", spec := "fnExactLinesIn", apart := false, narrowed := true }
def FnExactLinesInUptoSaid : Prop := fnExactLinesInUptoRow.holds Try.pinned (OpenSpec.upto fnExactLinesInSpec)

/-- 'laws.FnExactCommitAt', WHERE WHAT IT READS IS OF BULK AT MOST 1048576: true; the input reads as it did. -/
def fnExactCommitAtUptoRow : OpenClaim := { program := "ytenhfhkaemiohaa", sum := "5a0b3773fa48bff2db10fe5492f4b9d088d1fd0170591753c854338ab9e1af8c", func := "loop.example/g00969/laws.FnExactCommitAt", spec := "fnExactCommitAt", apart := false, narrowed := true }
def FnExactCommitAtUptoSaid : Prop := fnExactCommitAtUptoRow.holds Try.pinned (OpenSpec.upto fnExactCommitAtSpec)

/-- 'laws.FnExactSerialAt', WHERE WHAT IT READS IS OF BULK AT MOST 1048576: true; the input reads as it did. -/
def fnExactSerialAtUptoRow : OpenClaim := { program := "ytenhfhkaemiohaa", sum := "5a0b3773fa48bff2db10fe5492f4b9d088d1fd0170591753c854338ab9e1af8c", func := "loop.example/g00969/laws.FnExactSerialAt", spec := "fnExactSerialAt", apart := false, narrowed := true }
def FnExactSerialAtUptoSaid : Prop := fnExactSerialAtUptoRow.holds Try.pinned (OpenSpec.upto fnExactSerialAtSpec)

/-- 'laws.FnExactInodeAt', WHERE WHAT IT READS IS OF BULK AT MOST 1048576: true; the input reads as it did. -/
def fnExactInodeAtUptoRow : OpenClaim := { program := "ytenhfhkaemiohaa", sum := "5a0b3773fa48bff2db10fe5492f4b9d088d1fd0170591753c854338ab9e1af8c", func := "loop.example/g00969/laws.FnExactInodeAt", spec := "fnExactInodeAt", apart := false, narrowed := true }
def FnExactInodeAtUptoSaid : Prop := fnExactInodeAtUptoRow.holds Try.pinned (OpenSpec.upto fnExactInodeAtSpec)

/-- 'laws.FnExactJournalAt', WHERE WHAT IT READS IS OF BULK AT MOST 1048576: true; the input reads as it did. -/
def fnExactJournalAtUptoRow : OpenClaim := { program := "ytenhfhkaemiohaa", sum := "5a0b3773fa48bff2db10fe5492f4b9d088d1fd0170591753c854338ab9e1af8c", func := "loop.example/g00969/laws.FnExactJournalAt", spec := "fnExactJournalAt", apart := false, narrowed := true }
def FnExactJournalAtUptoSaid : Prop := fnExactJournalAtUptoRow.holds Try.pinned (OpenSpec.upto fnExactJournalAtSpec)

/-- 'laws.FnExactPageAt', WHERE WHAT IT READS IS OF BULK AT MOST 1048576: true; the input reads as it did. -/
def fnExactPageAtUptoRow : OpenClaim := { program := "ytenhfhkaemiohaa", sum := "5a0b3773fa48bff2db10fe5492f4b9d088d1fd0170591753c854338ab9e1af8c", func := "loop.example/g00969/laws.FnExactPageAt", spec := "fnExactPageAt", apart := false, narrowed := true }
def FnExactPageAtUptoSaid : Prop := fnExactPageAtUptoRow.holds Try.pinned (OpenSpec.upto fnExactPageAtSpec)

/-- 'laws.FnExactPartAt', WHERE WHAT IT READS IS OF BULK AT MOST 1048576: true; the input reads as it did. -/
def fnExactPartAtUptoRow : OpenClaim := { program := "ytenhfhkaemiohaa", sum := "5a0b3773fa48bff2db10fe5492f4b9d088d1fd0170591753c854338ab9e1af8c", func := "loop.example/g00969/laws.FnExactPartAt", spec := "fnExactPartAt", apart := false, narrowed := true }
def FnExactPartAtUptoSaid : Prop := fnExactPartAtUptoRow.holds Try.pinned (OpenSpec.upto fnExactPartAtSpec)

/-- 'laws.FnExactNonceOf', WHERE WHAT IT READS IS OF BULK AT MOST 1048576: true; the input reads as it did. -/
def fnExactNonceOfUptoRow : OpenClaim := { program := "ytenhfhkaemiohaa", sum := "5a0b3773fa48bff2db10fe5492f4b9d088d1fd0170591753c854338ab9e1af8c", func := "loop.example/g00969/laws.FnExactNonceOf", spec := "fnExactNonceOf", apart := false, narrowed := true }
def FnExactNonceOfUptoSaid : Prop := fnExactNonceOfUptoRow.holds Try.pinned (OpenSpec.upto fnExactNonceOfSpec)

/-- 'laws.FnExactRecWord', WHERE WHAT IT READS IS OF BULK AT MOST 1048576: true; the input reads as it did. -/
def fnExactRecWordUptoRow : OpenClaim := { program := "ytenhfhkaemiohaa", sum := "5a0b3773fa48bff2db10fe5492f4b9d088d1fd0170591753c854338ab9e1af8c", func := "loop.example/g00969/laws.FnExactRecWord", spec := "fnExactRecWord", apart := false, narrowed := true }
def FnExactRecWordUptoSaid : Prop := fnExactRecWordUptoRow.holds Try.pinned (OpenSpec.upto fnExactRecWordSpec)

/-- 'laws.FnExactReadRec', WHERE WHAT IT READS IS OF BULK AT MOST 1048576: true; the input reads as it did. -/
def fnExactReadRecUptoRow : OpenClaim := { program := "ytenhfhkaemiohaa", sum := "5a0b3773fa48bff2db10fe5492f4b9d088d1fd0170591753c854338ab9e1af8c", func := "loop.example/g00969/laws.FnExactReadRec", spec := "fnExactReadRec", apart := false, narrowed := true }
def FnExactReadRecUptoSaid : Prop := fnExactReadRecUptoRow.holds Try.pinned (OpenSpec.upto fnExactReadRecSpec)

/-- 'laws.FnExactShaStart', WHERE WHAT IT READS IS OF BULK AT MOST 1048576: true; the input reads as it did. -/
def fnExactShaStartUptoRow : OpenClaim := { program := "ytenhfhkaemiohaa", sum := "5a0b3773fa48bff2db10fe5492f4b9d088d1fd0170591753c854338ab9e1af8c", func := "loop.example/g00969/laws.FnExactShaStart", spec := "fnExactShaStart", apart := false, narrowed := true }
def FnExactShaStartUptoSaid : Prop := fnExactShaStartUptoRow.holds Try.pinned (OpenSpec.upto fnExactShaStartSpec)

/-- 'laws.FnPlaces', WHERE WHAT IT READS IS OF BULK AT MOST 1048576: true; the input reads as it did. -/
def fnPlacesUptoRow : OpenClaim := { program := "ytenhfhkaemiohaa", sum := "5a0b3773fa48bff2db10fe5492f4b9d088d1fd0170591753c854338ab9e1af8c", func := "loop.example/g00969/laws.FnPlaces", spec := "fnPlaces", apart := false, narrowed := true }
def FnPlacesUptoSaid : Prop := fnPlacesUptoRow.holds Try.pinned (OpenSpec.upto fnPlacesSpec)

end Rows
end Go.Proofs.Ytenhfhkaemiohaa
