/-
  No cell of these rows narrows 'for every input' (looked for: loops, veiled, ifaces, maps, wideKeys, modest, calm, conditions, laid).
  DERIVED. THE GIVEN ROWS OF THIS SEAT. 4 by the template 'for every input the law returns true; each argument reads behind the call as it read before'; 0 by the template 'total and deterministic' (their statements: YtcmemppkllgkmaaTotals.lean).
  GIVEN WITH THE SEED: the statements are not yours to turn. If you find one false, say at which input.
  Laid BY PROGRAM, IN A SANDBOX (cutbox-rows.mjs): the forced cells as the released guide's own fill.sh prints them over the translation f301bf14d331be98… (all of the seat's roots in one cut). By AI agents, Wed Nov 11 2026. No macro, syntax, notation, axiom, sorry.
-/
import Derived.Test.YtcmemppkllgkmaaChecked
import GoSem.Claim
import GoSem.ClaimJoined
import GoSem.ClaimMapViews
import Derived.JoinedTies
import Derived.KernelRfl
namespace Go.Proofs.Ytcmemppkllgkmaa
/- THE CELL 'sum', in the pinned program and in every row, IS THE sha256 OF THE DUMP (.gsa) THAT YtcmemppkllgkmaaProg.lean LOADS. Nothing in Lean hashes anything: it is a label: what it is worth is what the hold of that sum in a sandbox is worth. -/
noncomputable def Try.pinned : Pinned := { name := "ytcmemppkllgkmaa", sum := "f301bf14d331be9830513c00ba77803a974dc404f2bc7eec235f94b2af8712fb", checked := Try.checked }
namespace Rows
def none {H : Type} : Left H := { results := [], args := [] }

/-- 'laws.FnExactSealedTwice': WHATEVER THE INPUT: true; the input reads as it did. -/
def fnExactSealedTwiceSpec : ChangeSpec := { name := "fnExactSealedTwice", fn := fun _ => fun
  | [d] => { results := [.lit (.bool true)], args := [d] }
  | _ => none }
def fnExactSealedTwiceRow : OpenClaim := { program := "ytcmemppkllgkmaa", sum := "f301bf14d331be9830513c00ba77803a974dc404f2bc7eec235f94b2af8712fb", func := "loop.example/g00969/laws.FnExactSealedTwice", spec := "fnExactSealedTwice", plainKeys := false, apart := false }
def FnExactSealedTwiceSaid : Prop := fnExactSealedTwiceRow.holds Try.pinned (OpenSpec.ofChange fnExactSealedTwiceSpec)

/-- ITS FALSE NEIGHBOUR: 'it returns false'. Refute it at one input. -/
def fnExactSealedTwiceWrong : ChangeSpec := { name := "fnExactSealedTwice", fn := fun _ => fun
  | [d] => { results := [.lit (.bool false)], args := [d] }
  | _ => none }
def FnExactSealedTwiceWrongFalsely : Prop := fnExactSealedTwiceRow.holds Try.pinned (OpenSpec.ofChange fnExactSealedTwiceWrong)

/-- 'laws.FnExactNoncesOf': WHATEVER THE INPUT: true; the input reads as it did. -/
def fnExactNoncesOfSpec : ChangeSpec := { name := "fnExactNoncesOf", fn := fun _ => fun
  | [d] => { results := [.lit (.bool true)], args := [d] }
  | _ => none }
def fnExactNoncesOfRow : OpenClaim := { program := "ytcmemppkllgkmaa", sum := "f301bf14d331be9830513c00ba77803a974dc404f2bc7eec235f94b2af8712fb", func := "loop.example/g00969/laws.FnExactNoncesOf", spec := "fnExactNoncesOf", plainKeys := false, apart := false }
def FnExactNoncesOfSaid : Prop := fnExactNoncesOfRow.holds Try.pinned (OpenSpec.ofChange fnExactNoncesOfSpec)

/-- ITS FALSE NEIGHBOUR: 'it returns false'. Refute it at one input. -/
def fnExactNoncesOfWrong : ChangeSpec := { name := "fnExactNoncesOf", fn := fun _ => fun
  | [d] => { results := [.lit (.bool false)], args := [d] }
  | _ => none }
def FnExactNoncesOfWrongFalsely : Prop := fnExactNoncesOfRow.holds Try.pinned (OpenSpec.ofChange fnExactNoncesOfWrong)

/-- 'laws.FnTwice': WHATEVER THE INPUT: true; the input reads as it did. -/
def fnTwiceSpec : ChangeSpec := { name := "fnTwice", fn := fun _ => fun
  | [d] => { results := [.lit (.bool true)], args := [d] }
  | _ => none }
def fnTwiceRow : OpenClaim := { program := "ytcmemppkllgkmaa", sum := "f301bf14d331be9830513c00ba77803a974dc404f2bc7eec235f94b2af8712fb", func := "loop.example/g00969/laws.FnTwice", spec := "fnTwice", plainKeys := false, apart := false }
def FnTwiceSaid : Prop := fnTwiceRow.holds Try.pinned (OpenSpec.ofChange fnTwiceSpec)

/-- ITS FALSE NEIGHBOUR: 'it returns false'. Refute it at one input. -/
def fnTwiceWrong : ChangeSpec := { name := "fnTwice", fn := fun _ => fun
  | [d] => { results := [.lit (.bool false)], args := [d] }
  | _ => none }
def FnTwiceWrongFalsely : Prop := fnTwiceRow.holds Try.pinned (OpenSpec.ofChange fnTwiceWrong)

/-- 'laws.FnExactShaBlock': WHATEVER THE INPUT: true; the input reads as it did. -/
def fnExactShaBlockSpec : ChangeSpec := { name := "fnExactShaBlock", fn := fun _ => fun
  | [d1, d2] => { results := [.lit (.bool true)], args := [d1, d2] }
  | _ => none }
def fnExactShaBlockRow : OpenClaim := { program := "ytcmemppkllgkmaa", sum := "f301bf14d331be9830513c00ba77803a974dc404f2bc7eec235f94b2af8712fb", func := "loop.example/g00969/laws.FnExactShaBlock", spec := "fnExactShaBlock", named := ["encoding/binary.BigEndian"], plainKeys := false, apart := false }
def FnExactShaBlockSaid : Prop := fnExactShaBlockRow.holds Try.pinned (OpenSpec.ofChange fnExactShaBlockSpec)

/-- ITS FALSE NEIGHBOUR: 'it returns false'. Refute it at one input. -/
def fnExactShaBlockWrong : ChangeSpec := { name := "fnExactShaBlock", fn := fun _ => fun
  | [d1, d2] => { results := [.lit (.bool false)], args := [d1, d2] }
  | _ => none }
def FnExactShaBlockWrongFalsely : Prop := fnExactShaBlockRow.holds Try.pinned (OpenSpec.ofChange fnExactShaBlockWrong)

/- THE SECOND FORM. 'bulk': how many values and letters a reading holds, each counted each time it is reached (what is shared counts as often as it is met; a slice's spare places count too). A statement '..UptoSaid' is the law's where the arguments, and the package variables that the reading takes, are together of bulk at most 1048576: NARROWER than '..Said'. Prove '..Said' where nothing that the law and all that it calls make is longer than what came in: it says more and counts as full. Else prove '..UptoSaid'. A law counts once. -/
mutual
def uptoBulk {H : Type} : DataW H → Nat
  | .lit (.string bytes) => bytes.length + 1
  | .lit _ => 1
  | .nil => 1
  | .ptr d => uptoBulk d + 1
  | .slice elems spare => uptoBulkAll elems + uptoBulkAll spare + 1
  | .agg parts => uptoBulkAll parts + 1
  | .iface _ d => uptoBulk d + 1
  | .map entries => uptoBulkEntries entries + 1
  | .held _ => 1
def uptoBulkAll {H : Type} : List (DataW H) → Nat
  | [] => 0
  | d :: r => uptoBulk d + uptoBulkAll r
def uptoBulkEntries {H : Type} : List (Lit × DataW H) → Nat
  | [] => 0
  | x :: r => uptoBulkEntry x + uptoBulkEntries r
def uptoBulkEntry {H : Type} : Lit × DataW H → Nat
  | (.string bytes, d) => bytes.length + uptoBulk d + 1
  | (_, d) => uptoBulk d + 1
 end
def uptoSmall : (H : Type) → List (DataW H) → Bool := fun _ ds => decide (uptoBulkAll ds ≤ 1048576)
def OpenSpec.upto (s : _root_.Go.ChangeSpec) : _root_.Go.OpenSpec := { _root_.Go.OpenSpec.ofChange s with cond := some uptoSmall }

/-- 'laws.FnExactSealedTwice', WHERE WHAT IT READS IS OF BULK AT MOST 1048576: true; the input reads as it did. -/
def fnExactSealedTwiceUptoRow : OpenClaim := { program := "ytcmemppkllgkmaa", sum := "f301bf14d331be9830513c00ba77803a974dc404f2bc7eec235f94b2af8712fb", func := "loop.example/g00969/laws.FnExactSealedTwice", spec := "fnExactSealedTwice", plainKeys := false, apart := false, narrowed := true }
def FnExactSealedTwiceUptoSaid : Prop := fnExactSealedTwiceUptoRow.holds Try.pinned (OpenSpec.upto fnExactSealedTwiceSpec)

/-- 'laws.FnExactNoncesOf', WHERE WHAT IT READS IS OF BULK AT MOST 1048576: true; the input reads as it did. -/
def fnExactNoncesOfUptoRow : OpenClaim := { program := "ytcmemppkllgkmaa", sum := "f301bf14d331be9830513c00ba77803a974dc404f2bc7eec235f94b2af8712fb", func := "loop.example/g00969/laws.FnExactNoncesOf", spec := "fnExactNoncesOf", plainKeys := false, apart := false, narrowed := true }
def FnExactNoncesOfUptoSaid : Prop := fnExactNoncesOfUptoRow.holds Try.pinned (OpenSpec.upto fnExactNoncesOfSpec)

/-- 'laws.FnTwice', WHERE WHAT IT READS IS OF BULK AT MOST 1048576: true; the input reads as it did. -/
def fnTwiceUptoRow : OpenClaim := { program := "ytcmemppkllgkmaa", sum := "f301bf14d331be9830513c00ba77803a974dc404f2bc7eec235f94b2af8712fb", func := "loop.example/g00969/laws.FnTwice", spec := "fnTwice", plainKeys := false, apart := false, narrowed := true }
def FnTwiceUptoSaid : Prop := fnTwiceUptoRow.holds Try.pinned (OpenSpec.upto fnTwiceSpec)

/-- 'laws.FnExactShaBlock', WHERE WHAT IT READS IS OF BULK AT MOST 1048576: true; the input reads as it did. -/
def fnExactShaBlockUptoRow : OpenClaim := { program := "ytcmemppkllgkmaa", sum := "f301bf14d331be9830513c00ba77803a974dc404f2bc7eec235f94b2af8712fb", func := "loop.example/g00969/laws.FnExactShaBlock", spec := "fnExactShaBlock", named := ["encoding/binary.BigEndian"], plainKeys := false, apart := false, narrowed := true }
def FnExactShaBlockUptoSaid : Prop := fnExactShaBlockUptoRow.holds Try.pinned (OpenSpec.upto fnExactShaBlockSpec)

end Rows
end Go.Proofs.Ytcmemppkllgkmaa
