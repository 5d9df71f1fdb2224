/-
  No cell of these rows narrows 'for every input' (looked for: loops, veiled, ifaces, maps, wideKeys, modest, calm, conditions, laid).
  DERIVED. THE GIVEN ROWS OF THIS SEAT. 12 by the template 'for every input the law returns true; each argument reads behind the call as it read before'; 0 by the template 'total and deterministic' (their statements: YtlblehdenhpijaaTotals.lean).
  GIVEN WITH THE SEED: the statements are not yours to turn. If you find one false, say at which input.
  Laid BY PROGRAM, IN A SANDBOX (cutbox-rows.mjs): the forced cells as the released guide's own fill.sh prints them over the translation 37f120ef1b8e2096… (all of the seat's roots in one cut). By AI agents, Wed Nov 11 2026. No macro, syntax, notation, axiom, sorry.
-/
import Derived.Test.YtlblehdenhpijaaChecked
import GoSem.Claim
import GoSem.ClaimJoined
import GoSem.ClaimMapViews
import Derived.JoinedTies
import Derived.KernelRfl
namespace Go.Proofs.Ytlblehdenhpijaa
/- THE CELL 'sum', in the pinned program and in every row, IS THE sha256 OF THE DUMP (.gsa) THAT YtlblehdenhpijaaProg.lean LOADS. Nothing in Lean hashes anything: it is a label: what it is worth is what the hold of that sum in a sandbox is worth. -/
noncomputable def Try.pinned : Pinned := { name := "ytlblehdenhpijaa", sum := "37f120ef1b8e20963edf62eef4350b9e4cc5fe110d8f54b7e5c0858902074c13", checked := Try.checked }
namespace Rows
def none {H : Type} : Left H := { results := [], args := [] }

/-- 'laws.FnExactEventName': WHATEVER THE INPUT: true; the input reads as it did. -/
def fnExactEventNameSpec : ChangeSpec := { name := "fnExactEventName", fn := fun _ => fun
  | [d] => { results := [.lit (.bool true)], args := [d] }
  | _ => none }
def fnExactEventNameRow : OpenClaim := { program := "ytlblehdenhpijaa", sum := "37f120ef1b8e20963edf62eef4350b9e4cc5fe110d8f54b7e5c0858902074c13", func := "loop.example/g00594/laws.FnExactEventName", spec := "fnExactEventName", apart := false }
def FnExactEventNameSaid : Prop := fnExactEventNameRow.holds Try.pinned (OpenSpec.ofChange fnExactEventNameSpec)

/-- ITS FALSE NEIGHBOUR: 'it returns false'. Refute it at one input. -/
def fnExactEventNameWrong : ChangeSpec := { name := "fnExactEventName", fn := fun _ => fun
  | [d] => { results := [.lit (.bool false)], args := [d] }
  | _ => none }
def FnExactEventNameWrongFalsely : Prop := fnExactEventNameRow.holds Try.pinned (OpenSpec.ofChange fnExactEventNameWrong)

/-- 'laws.FnExactEntryInts': WHATEVER THE INPUT: true; the input reads as it did. -/
def fnExactEntryIntsSpec : ChangeSpec := { name := "fnExactEntryInts", fn := fun _ => fun
  | [d] => { results := [.lit (.bool true)], args := [d] }
  | _ => none }
def fnExactEntryIntsRow : OpenClaim := { program := "ytlblehdenhpijaa", sum := "37f120ef1b8e20963edf62eef4350b9e4cc5fe110d8f54b7e5c0858902074c13", func := "loop.example/g00594/laws.FnExactEntryInts", spec := "fnExactEntryInts", apart := false }
def FnExactEntryIntsSaid : Prop := fnExactEntryIntsRow.holds Try.pinned (OpenSpec.ofChange fnExactEntryIntsSpec)

/-- ITS FALSE NEIGHBOUR: 'it returns false'. Refute it at one input. -/
def fnExactEntryIntsWrong : ChangeSpec := { name := "fnExactEntryInts", fn := fun _ => fun
  | [d] => { results := [.lit (.bool false)], args := [d] }
  | _ => none }
def FnExactEntryIntsWrongFalsely : Prop := fnExactEntryIntsRow.holds Try.pinned (OpenSpec.ofChange fnExactEntryIntsWrong)

/-- 'laws.FnExactLastMark': WHATEVER THE INPUT: true; the input reads as it did. -/
def fnExactLastMarkSpec : ChangeSpec := { name := "fnExactLastMark", fn := fun _ => fun
  | [d] => { results := [.lit (.bool true)], args := [d] }
  | _ => none }
def fnExactLastMarkRow : OpenClaim := { program := "ytlblehdenhpijaa", sum := "37f120ef1b8e20963edf62eef4350b9e4cc5fe110d8f54b7e5c0858902074c13", func := "loop.example/g00594/laws.FnExactLastMark", spec := "fnExactLastMark", apart := false }
def FnExactLastMarkSaid : Prop := fnExactLastMarkRow.holds Try.pinned (OpenSpec.ofChange fnExactLastMarkSpec)

/-- ITS FALSE NEIGHBOUR: 'it returns false'. Refute it at one input. -/
def fnExactLastMarkWrong : ChangeSpec := { name := "fnExactLastMark", fn := fun _ => fun
  | [d] => { results := [.lit (.bool false)], args := [d] }
  | _ => none }
def FnExactLastMarkWrongFalsely : Prop := fnExactLastMarkRow.holds Try.pinned (OpenSpec.ofChange fnExactLastMarkWrong)

/-- 'laws.FnExactCountEntries': WHATEVER THE INPUT: true; the input reads as it did. -/
def fnExactCountEntriesSpec : ChangeSpec := { name := "fnExactCountEntries", fn := fun _ => fun
  | [d1, d2, d3] => { results := [.lit (.bool true)], args := [d1, d2, d3] }
  | _ => none }
def fnExactCountEntriesRow : OpenClaim := { program := "ytlblehdenhpijaa", sum := "37f120ef1b8e20963edf62eef4350b9e4cc5fe110d8f54b7e5c0858902074c13", func := "loop.example/g00594/laws.FnExactCountEntries", spec := "fnExactCountEntries", apart := false }
def FnExactCountEntriesSaid : Prop := fnExactCountEntriesRow.holds Try.pinned (OpenSpec.ofChange fnExactCountEntriesSpec)

/-- ITS FALSE NEIGHBOUR: 'it returns false'. Refute it at one input. -/
def fnExactCountEntriesWrong : ChangeSpec := { name := "fnExactCountEntries", fn := fun _ => fun
  | [d1, d2, d3] => { results := [.lit (.bool false)], args := [d1, d2, d3] }
  | _ => none }
def FnExactCountEntriesWrongFalsely : Prop := fnExactCountEntriesRow.holds Try.pinned (OpenSpec.ofChange fnExactCountEntriesWrong)

/-- 'laws.FnExactIsExtension': WHATEVER THE INPUT: true; the input reads as it did. -/
def fnExactIsExtensionSpec : ChangeSpec := { name := "fnExactIsExtension", fn := fun _ => fun
  | [d1, d2] => { results := [.lit (.bool true)], args := [d1, d2] }
  | _ => none }
def fnExactIsExtensionRow : OpenClaim := { program := "ytlblehdenhpijaa", sum := "37f120ef1b8e20963edf62eef4350b9e4cc5fe110d8f54b7e5c0858902074c13", func := "loop.example/g00594/laws.FnExactIsExtension", spec := "fnExactIsExtension", apart := false }
def FnExactIsExtensionSaid : Prop := fnExactIsExtensionRow.holds Try.pinned (OpenSpec.ofChange fnExactIsExtensionSpec)

/-- ITS FALSE NEIGHBOUR: 'it returns false'. Refute it at one input. -/
def fnExactIsExtensionWrong : ChangeSpec := { name := "fnExactIsExtension", fn := fun _ => fun
  | [d1, d2] => { results := [.lit (.bool false)], args := [d1, d2] }
  | _ => none }
def FnExactIsExtensionWrongFalsely : Prop := fnExactIsExtensionRow.holds Try.pinned (OpenSpec.ofChange fnExactIsExtensionWrong)

/-- 'laws.FnExactAreSessions': WHATEVER THE INPUT: true; the input reads as it did. -/
def fnExactAreSessionsSpec : ChangeSpec := { name := "fnExactAreSessions", fn := fun _ => fun
  | [d] => { results := [.lit (.bool true)], args := [d] }
  | _ => none }
def fnExactAreSessionsRow : OpenClaim := { program := "ytlblehdenhpijaa", sum := "37f120ef1b8e20963edf62eef4350b9e4cc5fe110d8f54b7e5c0858902074c13", func := "loop.example/g00594/laws.FnExactAreSessions", spec := "fnExactAreSessions", apart := false }
def FnExactAreSessionsSaid : Prop := fnExactAreSessionsRow.holds Try.pinned (OpenSpec.ofChange fnExactAreSessionsSpec)

/-- ITS FALSE NEIGHBOUR: 'it returns false'. Refute it at one input. -/
def fnExactAreSessionsWrong : ChangeSpec := { name := "fnExactAreSessions", fn := fun _ => fun
  | [d] => { results := [.lit (.bool false)], args := [d] }
  | _ => none }
def FnExactAreSessionsWrongFalsely : Prop := fnExactAreSessionsRow.holds Try.pinned (OpenSpec.ofChange fnExactAreSessionsWrong)

/-- 'laws.FnExactOpenOnes': WHATEVER THE INPUT: true; the input reads as it did. -/
def fnExactOpenOnesSpec : ChangeSpec := { name := "fnExactOpenOnes", fn := fun _ => fun
  | [d] => { results := [.lit (.bool true)], args := [d] }
  | _ => none }
def fnExactOpenOnesRow : OpenClaim := { program := "ytlblehdenhpijaa", sum := "37f120ef1b8e20963edf62eef4350b9e4cc5fe110d8f54b7e5c0858902074c13", func := "loop.example/g00594/laws.FnExactOpenOnes", spec := "fnExactOpenOnes", apart := false }
def FnExactOpenOnesSaid : Prop := fnExactOpenOnesRow.holds Try.pinned (OpenSpec.ofChange fnExactOpenOnesSpec)

/-- ITS FALSE NEIGHBOUR: 'it returns false'. Refute it at one input. -/
def fnExactOpenOnesWrong : ChangeSpec := { name := "fnExactOpenOnes", fn := fun _ => fun
  | [d] => { results := [.lit (.bool false)], args := [d] }
  | _ => none }
def FnExactOpenOnesWrongFalsely : Prop := fnExactOpenOnesRow.holds Try.pinned (OpenSpec.ofChange fnExactOpenOnesWrong)

/-- 'laws.FnExactJoinTrails': WHATEVER THE INPUT: true; the input reads as it did. -/
def fnExactJoinTrailsSpec : ChangeSpec := { name := "fnExactJoinTrails", fn := fun _ => fun
  | [d1, d2] => { results := [.lit (.bool true)], args := [d1, d2] }
  | _ => none }
def fnExactJoinTrailsRow : OpenClaim := { program := "ytlblehdenhpijaa", sum := "37f120ef1b8e20963edf62eef4350b9e4cc5fe110d8f54b7e5c0858902074c13", func := "loop.example/g00594/laws.FnExactJoinTrails", spec := "fnExactJoinTrails", apart := false }
def FnExactJoinTrailsSaid : Prop := fnExactJoinTrailsRow.holds Try.pinned (OpenSpec.ofChange fnExactJoinTrailsSpec)

/-- ITS FALSE NEIGHBOUR: 'it returns false'. Refute it at one input. -/
def fnExactJoinTrailsWrong : ChangeSpec := { name := "fnExactJoinTrails", fn := fun _ => fun
  | [d1, d2] => { results := [.lit (.bool false)], args := [d1, d2] }
  | _ => none }
def FnExactJoinTrailsWrongFalsely : Prop := fnExactJoinTrailsRow.holds Try.pinned (OpenSpec.ofChange fnExactJoinTrailsWrong)

/-- 'laws.FnExactIsTrail': WHATEVER THE INPUT: true; the input reads as it did. -/
def fnExactIsTrailSpec : ChangeSpec := { name := "fnExactIsTrail", fn := fun _ => fun
  | [d] => { results := [.lit (.bool true)], args := [d] }
  | _ => none }
def fnExactIsTrailRow : OpenClaim := { program := "ytlblehdenhpijaa", sum := "37f120ef1b8e20963edf62eef4350b9e4cc5fe110d8f54b7e5c0858902074c13", func := "loop.example/g00594/laws.FnExactIsTrail", spec := "fnExactIsTrail", apart := false }
def FnExactIsTrailSaid : Prop := fnExactIsTrailRow.holds Try.pinned (OpenSpec.ofChange fnExactIsTrailSpec)

/-- ITS FALSE NEIGHBOUR: 'it returns false'. Refute it at one input. -/
def fnExactIsTrailWrong : ChangeSpec := { name := "fnExactIsTrail", fn := fun _ => fun
  | [d] => { results := [.lit (.bool false)], args := [d] }
  | _ => none }
def FnExactIsTrailWrongFalsely : Prop := fnExactIsTrailRow.holds Try.pinned (OpenSpec.ofChange fnExactIsTrailWrong)

/-- 'laws.FnExactCloseSession': WHATEVER THE INPUT: true; the input reads as it did. -/
def fnExactCloseSessionSpec : ChangeSpec := { name := "fnExactCloseSession", fn := fun _ => fun
  | [d1, d2] => { results := [.lit (.bool true)], args := [d1, d2] }
  | _ => none }
def fnExactCloseSessionRow : OpenClaim := { program := "ytlblehdenhpijaa", sum := "37f120ef1b8e20963edf62eef4350b9e4cc5fe110d8f54b7e5c0858902074c13", func := "loop.example/g00594/laws.FnExactCloseSession", spec := "fnExactCloseSession", apart := false }
def FnExactCloseSessionSaid : Prop := fnExactCloseSessionRow.holds Try.pinned (OpenSpec.ofChange fnExactCloseSessionSpec)

/-- ITS FALSE NEIGHBOUR: 'it returns false'. Refute it at one input. -/
def fnExactCloseSessionWrong : ChangeSpec := { name := "fnExactCloseSession", fn := fun _ => fun
  | [d1, d2] => { results := [.lit (.bool false)], args := [d1, d2] }
  | _ => none }
def FnExactCloseSessionWrongFalsely : Prop := fnExactCloseSessionRow.holds Try.pinned (OpenSpec.ofChange fnExactCloseSessionWrong)

/-- 'laws.FnExactAppendEntry': WHATEVER THE INPUT: true; the input reads as it did. -/
def fnExactAppendEntrySpec : ChangeSpec := { name := "fnExactAppendEntry", fn := fun _ => fun
  | [d1, d2] => { results := [.lit (.bool true)], args := [d1, d2] }
  | _ => none }
def fnExactAppendEntryRow : OpenClaim := { program := "ytlblehdenhpijaa", sum := "37f120ef1b8e20963edf62eef4350b9e4cc5fe110d8f54b7e5c0858902074c13", func := "loop.example/g00594/laws.FnExactAppendEntry", spec := "fnExactAppendEntry", apart := false }
def FnExactAppendEntrySaid : Prop := fnExactAppendEntryRow.holds Try.pinned (OpenSpec.ofChange fnExactAppendEntrySpec)

/-- ITS FALSE NEIGHBOUR: 'it returns false'. Refute it at one input. -/
def fnExactAppendEntryWrong : ChangeSpec := { name := "fnExactAppendEntry", fn := fun _ => fun
  | [d1, d2] => { results := [.lit (.bool false)], args := [d1, d2] }
  | _ => none }
def FnExactAppendEntryWrongFalsely : Prop := fnExactAppendEntryRow.holds Try.pinned (OpenSpec.ofChange fnExactAppendEntryWrong)

/-- 'laws.FnTrails': WHATEVER THE INPUT: true; the input reads as it did. -/
def fnTrailsSpec : ChangeSpec := { name := "fnTrails", fn := fun _ => fun
  | [d] => { results := [.lit (.bool true)], args := [d] }
  | _ => none }
def fnTrailsRow : OpenClaim := { program := "ytlblehdenhpijaa", sum := "37f120ef1b8e20963edf62eef4350b9e4cc5fe110d8f54b7e5c0858902074c13", func := "loop.example/g00594/laws.FnTrails", spec := "fnTrails", apart := false }
def FnTrailsSaid : Prop := fnTrailsRow.holds Try.pinned (OpenSpec.ofChange fnTrailsSpec)

/-- ITS FALSE NEIGHBOUR: 'it returns false'. Refute it at one input. -/
def fnTrailsWrong : ChangeSpec := { name := "fnTrails", fn := fun _ => fun
  | [d] => { results := [.lit (.bool false)], args := [d] }
  | _ => none }
def FnTrailsWrongFalsely : Prop := fnTrailsRow.holds Try.pinned (OpenSpec.ofChange fnTrailsWrong)

/- THE SECOND FORM. 'bulk': how many values and letters a reading holds, each counted each time it is reached (what is shared counts as often as it is met; a slice's spare places count too). A statement '..UptoSaid' is the law's where the arguments, and the package variables that the reading takes, are together of bulk at most 1048576: NARROWER than '..Said'. Prove '..Said' where nothing that the law and all that it calls make is longer than what came in: it says more and counts as full. Else prove '..UptoSaid'. A law counts once. -/
mutual
def uptoBulk {H : Type} : DataW H → Nat
  | .lit (.string bytes) => bytes.length + 1
  | .lit _ => 1
  | .nil => 1
  | .ptr d => uptoBulk d + 1
  | .slice elems spare => uptoBulkAll elems + uptoBulkAll spare + 1
  | .agg parts => uptoBulkAll parts + 1
  | .iface _ d => uptoBulk d + 1
  | .map entries => uptoBulkEntries entries + 1
  | .held _ => 1
def uptoBulkAll {H : Type} : List (DataW H) → Nat
  | [] => 0
  | d :: r => uptoBulk d + uptoBulkAll r
def uptoBulkEntries {H : Type} : List (Lit × DataW H) → Nat
  | [] => 0
  | x :: r => uptoBulkEntry x + uptoBulkEntries r
def uptoBulkEntry {H : Type} : Lit × DataW H → Nat
  | (.string bytes, d) => bytes.length + uptoBulk d + 1
  | (_, d) => uptoBulk d + 1
 end
def uptoSmall : (H : Type) → List (DataW H) → Bool := fun _ ds => decide (uptoBulkAll ds ≤ 1048576)
def OpenSpec.upto (s : _root_.Go.ChangeSpec) : _root_.Go.OpenSpec := { _root_.Go.OpenSpec.ofChange s with cond := some uptoSmall }

/-- 'laws.FnExactEventName', WHERE WHAT IT READS IS OF BULK AT MOST 1048576: true; the input reads as it did. -/
def fnExactEventNameUptoRow : OpenClaim := { program := "ytlblehdenhpijaa", sum := "37f120ef1b8e20963edf62eef4350b9e4cc5fe110d8f54b7e5c0858902074c13", func := "loop.example/g00594/laws.FnExactEventName", spec := "fnExactEventName", apart := false, narrowed := true }
def FnExactEventNameUptoSaid : Prop := fnExactEventNameUptoRow.holds Try.pinned (OpenSpec.upto fnExactEventNameSpec)

/-- 'laws.FnExactEntryInts', WHERE WHAT IT READS IS OF BULK AT MOST 1048576: true; the input reads as it did. -/
def fnExactEntryIntsUptoRow : OpenClaim := { program := "ytlblehdenhpijaa", sum := "37f120ef1b8e20963edf62eef4350b9e4cc5fe110d8f54b7e5c0858902074c13", func := "loop.example/g00594/laws.FnExactEntryInts", spec := "fnExactEntryInts", apart := false, narrowed := true }
def FnExactEntryIntsUptoSaid : Prop := fnExactEntryIntsUptoRow.holds Try.pinned (OpenSpec.upto fnExactEntryIntsSpec)

/-- 'laws.FnExactLastMark', WHERE WHAT IT READS IS OF BULK AT MOST 1048576: true; the input reads as it did. -/
def fnExactLastMarkUptoRow : OpenClaim := { program := "ytlblehdenhpijaa", sum := "37f120ef1b8e20963edf62eef4350b9e4cc5fe110d8f54b7e5c0858902074c13", func := "loop.example/g00594/laws.FnExactLastMark", spec := "fnExactLastMark", apart := false, narrowed := true }
def FnExactLastMarkUptoSaid : Prop := fnExactLastMarkUptoRow.holds Try.pinned (OpenSpec.upto fnExactLastMarkSpec)

/-- 'laws.FnExactCountEntries', WHERE WHAT IT READS IS OF BULK AT MOST 1048576: true; the input reads as it did. -/
def fnExactCountEntriesUptoRow : OpenClaim := { program := "ytlblehdenhpijaa", sum := "37f120ef1b8e20963edf62eef4350b9e4cc5fe110d8f54b7e5c0858902074c13", func := "loop.example/g00594/laws.FnExactCountEntries", spec := "fnExactCountEntries", apart := false, narrowed := true }
def FnExactCountEntriesUptoSaid : Prop := fnExactCountEntriesUptoRow.holds Try.pinned (OpenSpec.upto fnExactCountEntriesSpec)

/-- 'laws.FnExactIsExtension', WHERE WHAT IT READS IS OF BULK AT MOST 1048576: true; the input reads as it did. -/
def fnExactIsExtensionUptoRow : OpenClaim := { program := "ytlblehdenhpijaa", sum := "37f120ef1b8e20963edf62eef4350b9e4cc5fe110d8f54b7e5c0858902074c13", func := "loop.example/g00594/laws.FnExactIsExtension", spec := "fnExactIsExtension", apart := false, narrowed := true }
def FnExactIsExtensionUptoSaid : Prop := fnExactIsExtensionUptoRow.holds Try.pinned (OpenSpec.upto fnExactIsExtensionSpec)

/-- 'laws.FnExactAreSessions', WHERE WHAT IT READS IS OF BULK AT MOST 1048576: true; the input reads as it did. -/
def fnExactAreSessionsUptoRow : OpenClaim := { program := "ytlblehdenhpijaa", sum := "37f120ef1b8e20963edf62eef4350b9e4cc5fe110d8f54b7e5c0858902074c13", func := "loop.example/g00594/laws.FnExactAreSessions", spec := "fnExactAreSessions", apart := false, narrowed := true }
def FnExactAreSessionsUptoSaid : Prop := fnExactAreSessionsUptoRow.holds Try.pinned (OpenSpec.upto fnExactAreSessionsSpec)

/-- 'laws.FnExactOpenOnes', WHERE WHAT IT READS IS OF BULK AT MOST 1048576: true; the input reads as it did. -/
def fnExactOpenOnesUptoRow : OpenClaim := { program := "ytlblehdenhpijaa", sum := "37f120ef1b8e20963edf62eef4350b9e4cc5fe110d8f54b7e5c0858902074c13", func := "loop.example/g00594/laws.FnExactOpenOnes", spec := "fnExactOpenOnes", apart := false, narrowed := true }
def FnExactOpenOnesUptoSaid : Prop := fnExactOpenOnesUptoRow.holds Try.pinned (OpenSpec.upto fnExactOpenOnesSpec)

/-- 'laws.FnExactJoinTrails', WHERE WHAT IT READS IS OF BULK AT MOST 1048576: true; the input reads as it did. -/
def fnExactJoinTrailsUptoRow : OpenClaim := { program := "ytlblehdenhpijaa", sum := "37f120ef1b8e20963edf62eef4350b9e4cc5fe110d8f54b7e5c0858902074c13", func := "loop.example/g00594/laws.FnExactJoinTrails", spec := "fnExactJoinTrails", apart := false, narrowed := true }
def FnExactJoinTrailsUptoSaid : Prop := fnExactJoinTrailsUptoRow.holds Try.pinned (OpenSpec.upto fnExactJoinTrailsSpec)

/-- 'laws.FnExactIsTrail', WHERE WHAT IT READS IS OF BULK AT MOST 1048576: true; the input reads as it did. -/
def fnExactIsTrailUptoRow : OpenClaim := { program := "ytlblehdenhpijaa", sum := "37f120ef1b8e20963edf62eef4350b9e4cc5fe110d8f54b7e5c0858902074c13", func := "loop.example/g00594/laws.FnExactIsTrail", spec := "fnExactIsTrail", apart := false, narrowed := true }
def FnExactIsTrailUptoSaid : Prop := fnExactIsTrailUptoRow.holds Try.pinned (OpenSpec.upto fnExactIsTrailSpec)

/-- 'laws.FnExactCloseSession', WHERE WHAT IT READS IS OF BULK AT MOST 1048576: true; the input reads as it did. -/
def fnExactCloseSessionUptoRow : OpenClaim := { program := "ytlblehdenhpijaa", sum := "37f120ef1b8e20963edf62eef4350b9e4cc5fe110d8f54b7e5c0858902074c13", func := "loop.example/g00594/laws.FnExactCloseSession", spec := "fnExactCloseSession", apart := false, narrowed := true }
def FnExactCloseSessionUptoSaid : Prop := fnExactCloseSessionUptoRow.holds Try.pinned (OpenSpec.upto fnExactCloseSessionSpec)

/-- 'laws.FnExactAppendEntry', WHERE WHAT IT READS IS OF BULK AT MOST 1048576: true; the input reads as it did. -/
def fnExactAppendEntryUptoRow : OpenClaim := { program := "ytlblehdenhpijaa", sum := "37f120ef1b8e20963edf62eef4350b9e4cc5fe110d8f54b7e5c0858902074c13", func := "loop.example/g00594/laws.FnExactAppendEntry", spec := "fnExactAppendEntry", apart := false, narrowed := true }
def FnExactAppendEntryUptoSaid : Prop := fnExactAppendEntryUptoRow.holds Try.pinned (OpenSpec.upto fnExactAppendEntrySpec)

/-- 'laws.FnTrails', WHERE WHAT IT READS IS OF BULK AT MOST 1048576: true; the input reads as it did. -/
def fnTrailsUptoRow : OpenClaim := { program := "ytlblehdenhpijaa", sum := "37f120ef1b8e20963edf62eef4350b9e4cc5fe110d8f54b7e5c0858902074c13", func := "loop.example/g00594/laws.FnTrails", spec := "fnTrails", apart := false, narrowed := true }
def FnTrailsUptoSaid : Prop := fnTrailsUptoRow.holds Try.pinned (OpenSpec.upto fnTrailsSpec)

end Rows
end Go.Proofs.Ytlblehdenhpijaa
