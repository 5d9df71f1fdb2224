/-
  NARROWER THAN 'FOR EVERY INPUT', by the rows' own cells (each row's printed sentence says how): FnExactIsStillGood: loops · FnExactStartSession: loops · FnExactReviewSessions: loops · FnExactSessionsKept: loops.
  DERIVED. THE GIVEN ROWS OF THIS SEAT. 5 by the template 'for every input the law returns true; each argument reads behind the call as it read before'; 0 by the template 'total and deterministic' (their statements: YtlknolcgdkhccaaGreatTotals.lean).
  GIVEN WITH THE SEED: the statements are not yours to turn. If you find one false, say at which input.
  Laid BY PROGRAM, IN A SANDBOX (cutbox-rows.mjs): the forced cells as the released guide's own fill.sh prints them over the translation 454a36961b7ced93… (all of the seat's roots in one cut). By AI agents, Wed Nov 11 2026. No macro, syntax, notation, axiom, sorry.
-/
import Derived.Test.YtlknolcgdkhccaaGreatChecked
import GoSem.Claim
import GoSem.ClaimJoined
import GoSem.ClaimMapViews
import Derived.JoinedTies
import Derived.KernelRfl
namespace Go.Proofs.YtlknolcgdkhccaaGreat
/- THE CELL 'sum', in the pinned program and in every row, IS THE sha256 OF THE DUMP (.gsa) THAT YtlknolcgdkhccaaGreatProg.lean LOADS. Nothing in Lean hashes anything: it is a label: what it is worth is what the hold of that sum in a sandbox is worth. -/
noncomputable def Tryz.pinned : Pinned := { name := "ytlknolcgdkhccaagreat", sum := "454a36961b7ced93d83e3d9fa579a455d539bd452a29fb0b4e31fc08ceb775a1", checked := Tryz.checked }
namespace Rows
def none {H : Type} : Left H := { results := [], args := [] }

/-- 'laws.FnExactNewWorld': WHATEVER THE INPUT: true; the input reads as it did. -/
def fnExactNewWorldSpec : ChangeSpec := { name := "fnExactNewWorld", fn := fun _ => fun
  | [d1, d2] => { results := [.lit (.bool true)], args := [d1, d2] }
  | _ => none }
def fnExactNewWorldRow : OpenClaim := { program := "ytlknolcgdkhccaagreat", sum := "454a36961b7ced93d83e3d9fa579a455d539bd452a29fb0b4e31fc08ceb775a1", func := "loop.example/g00594/laws.FnExactNewWorld", spec := "fnExactNewWorld", recurses := true, apart := false }
def FnExactNewWorldSaid : Prop := fnExactNewWorldRow.holds Tryz.pinned (OpenSpec.ofChange fnExactNewWorldSpec)

/-- ITS FALSE NEIGHBOUR: 'it returns false'. Refute it at one input. -/
def fnExactNewWorldWrong : ChangeSpec := { name := "fnExactNewWorld", fn := fun _ => fun
  | [d1, d2] => { results := [.lit (.bool false)], args := [d1, d2] }
  | _ => none }
def FnExactNewWorldWrongFalsely : Prop := fnExactNewWorldRow.holds Tryz.pinned (OpenSpec.ofChange fnExactNewWorldWrong)

/-- 'laws.FnExactIsStillGood': WHATEVER THE INPUT: true; the input reads as it did. -/
def fnExactIsStillGoodSpec : ChangeSpec := { name := "fnExactIsStillGood", fn := fun _ => fun
  | [d1, d2, d3, d4, d5] => { results := [.lit (.bool true)], args := [d1, d2, d3, d4, d5] }
  | _ => none }
def fnExactIsStillGoodRow : OpenClaim := { program := "ytlknolcgdkhccaagreat", sum := "454a36961b7ced93d83e3d9fa579a455d539bd452a29fb0b4e31fc08ceb775a1", func := "loop.example/g00594/laws.FnExactIsStillGood", spec := "fnExactIsStillGood", unfollowed := true, recurses := true, loops := true, apart := false }
def FnExactIsStillGoodSaid : Prop := fnExactIsStillGoodRow.holds Tryz.pinned (OpenSpec.ofChange fnExactIsStillGoodSpec)

/-- ITS FALSE NEIGHBOUR: 'it returns false'. Refute it at one input. -/
def fnExactIsStillGoodWrong : ChangeSpec := { name := "fnExactIsStillGood", fn := fun _ => fun
  | [d1, d2, d3, d4, d5] => { results := [.lit (.bool false)], args := [d1, d2, d3, d4, d5] }
  | _ => none }
def FnExactIsStillGoodWrongFalsely : Prop := fnExactIsStillGoodRow.holds Tryz.pinned (OpenSpec.ofChange fnExactIsStillGoodWrong)

/-- 'laws.FnExactStartSession': WHATEVER THE INPUT: true; the input reads as it did. -/
def fnExactStartSessionSpec : ChangeSpec := { name := "fnExactStartSession", fn := fun _ => fun
  | [d1, d2, d3, d4, d5] => { results := [.lit (.bool true)], args := [d1, d2, d3, d4, d5] }
  | _ => none }
def fnExactStartSessionRow : OpenClaim := { program := "ytlknolcgdkhccaagreat", sum := "454a36961b7ced93d83e3d9fa579a455d539bd452a29fb0b4e31fc08ceb775a1", func := "loop.example/g00594/laws.FnExactStartSession", spec := "fnExactStartSession", unfollowed := true, recurses := true, loops := true, apart := false }
def FnExactStartSessionSaid : Prop := fnExactStartSessionRow.holds Tryz.pinned (OpenSpec.ofChange fnExactStartSessionSpec)

/-- ITS FALSE NEIGHBOUR: 'it returns false'. Refute it at one input. -/
def fnExactStartSessionWrong : ChangeSpec := { name := "fnExactStartSession", fn := fun _ => fun
  | [d1, d2, d3, d4, d5] => { results := [.lit (.bool false)], args := [d1, d2, d3, d4, d5] }
  | _ => none }
def FnExactStartSessionWrongFalsely : Prop := fnExactStartSessionRow.holds Tryz.pinned (OpenSpec.ofChange fnExactStartSessionWrong)

/-- 'laws.FnExactReviewSessions': WHATEVER THE INPUT: true; the input reads as it did. -/
def fnExactReviewSessionsSpec : ChangeSpec := { name := "fnExactReviewSessions", fn := fun _ => fun
  | [d1, d2, d3, d4, d5] => { results := [.lit (.bool true)], args := [d1, d2, d3, d4, d5] }
  | _ => none }
def fnExactReviewSessionsRow : OpenClaim := { program := "ytlknolcgdkhccaagreat", sum := "454a36961b7ced93d83e3d9fa579a455d539bd452a29fb0b4e31fc08ceb775a1", func := "loop.example/g00594/laws.FnExactReviewSessions", spec := "fnExactReviewSessions", unfollowed := true, recurses := true, loops := true, apart := false }
def FnExactReviewSessionsSaid : Prop := fnExactReviewSessionsRow.holds Tryz.pinned (OpenSpec.ofChange fnExactReviewSessionsSpec)

/-- ITS FALSE NEIGHBOUR: 'it returns false'. Refute it at one input. -/
def fnExactReviewSessionsWrong : ChangeSpec := { name := "fnExactReviewSessions", fn := fun _ => fun
  | [d1, d2, d3, d4, d5] => { results := [.lit (.bool false)], args := [d1, d2, d3, d4, d5] }
  | _ => none }
def FnExactReviewSessionsWrongFalsely : Prop := fnExactReviewSessionsRow.holds Tryz.pinned (OpenSpec.ofChange fnExactReviewSessionsWrong)

/-- 'laws.FnExactSessionsKept': WHATEVER THE INPUT: true; the input reads as it did. -/
def fnExactSessionsKeptSpec : ChangeSpec := { name := "fnExactSessionsKept", fn := fun _ => fun
  | [d] => { results := [.lit (.bool true)], args := [d] }
  | _ => none }
def fnExactSessionsKeptRow : OpenClaim := { program := "ytlknolcgdkhccaagreat", sum := "454a36961b7ced93d83e3d9fa579a455d539bd452a29fb0b4e31fc08ceb775a1", func := "loop.example/g00594/laws.FnExactSessionsKept", spec := "fnExactSessionsKept", unfollowed := true, recurses := true, loops := true, apart := false }
def FnExactSessionsKeptSaid : Prop := fnExactSessionsKeptRow.holds Tryz.pinned (OpenSpec.ofChange fnExactSessionsKeptSpec)

/-- ITS FALSE NEIGHBOUR: 'it returns false'. Refute it at one input. -/
def fnExactSessionsKeptWrong : ChangeSpec := { name := "fnExactSessionsKept", fn := fun _ => fun
  | [d] => { results := [.lit (.bool false)], args := [d] }
  | _ => none }
def FnExactSessionsKeptWrongFalsely : Prop := fnExactSessionsKeptRow.holds Tryz.pinned (OpenSpec.ofChange fnExactSessionsKeptWrong)

/- THE SECOND FORM. 'bulk': how many values and letters a reading holds, each counted each time it is reached (what is shared counts as often as it is met; a slice's spare places count too). A statement '..UptoSaid' is the law's where the arguments, and the package variables that the reading takes, are together of bulk at most 1048576: NARROWER than '..Said'. Prove '..Said' where nothing that the law and all that it calls make is longer than what came in: it says more and counts as full. Else prove '..UptoSaid'. A law counts once. -/
mutual
def uptoBulk {H : Type} : DataW H → Nat
  | .lit (.string bytes) => bytes.length + 1
  | .lit _ => 1
  | .nil => 1
  | .ptr d => uptoBulk d + 1
  | .slice elems spare => uptoBulkAll elems + uptoBulkAll spare + 1
  | .agg parts => uptoBulkAll parts + 1
  | .iface _ d => uptoBulk d + 1
  | .map entries => uptoBulkEntries entries + 1
  | .held _ => 1
def uptoBulkAll {H : Type} : List (DataW H) → Nat
  | [] => 0
  | d :: r => uptoBulk d + uptoBulkAll r
def uptoBulkEntries {H : Type} : List (Lit × DataW H) → Nat
  | [] => 0
  | x :: r => uptoBulkEntry x + uptoBulkEntries r
def uptoBulkEntry {H : Type} : Lit × DataW H → Nat
  | (.string bytes, d) => bytes.length + uptoBulk d + 1
  | (_, d) => uptoBulk d + 1
 end
def uptoSmall : (H : Type) → List (DataW H) → Bool := fun _ ds => decide (uptoBulkAll ds ≤ 1048576)
def OpenSpec.upto (s : _root_.Go.ChangeSpec) : _root_.Go.OpenSpec := { _root_.Go.OpenSpec.ofChange s with cond := some uptoSmall }

/-- 'laws.FnExactNewWorld', WHERE WHAT IT READS IS OF BULK AT MOST 1048576: true; the input reads as it did. -/
def fnExactNewWorldUptoRow : OpenClaim := { program := "ytlknolcgdkhccaagreat", sum := "454a36961b7ced93d83e3d9fa579a455d539bd452a29fb0b4e31fc08ceb775a1", func := "loop.example/g00594/laws.FnExactNewWorld", spec := "fnExactNewWorld", recurses := true, apart := false, narrowed := true }
def FnExactNewWorldUptoSaid : Prop := fnExactNewWorldUptoRow.holds Tryz.pinned (OpenSpec.upto fnExactNewWorldSpec)

/-- 'laws.FnExactIsStillGood', WHERE WHAT IT READS IS OF BULK AT MOST 1048576: true; the input reads as it did. -/
def fnExactIsStillGoodUptoRow : OpenClaim := { program := "ytlknolcgdkhccaagreat", sum := "454a36961b7ced93d83e3d9fa579a455d539bd452a29fb0b4e31fc08ceb775a1", func := "loop.example/g00594/laws.FnExactIsStillGood", spec := "fnExactIsStillGood", unfollowed := true, recurses := true, loops := true, apart := false, narrowed := true }
def FnExactIsStillGoodUptoSaid : Prop := fnExactIsStillGoodUptoRow.holds Tryz.pinned (OpenSpec.upto fnExactIsStillGoodSpec)

/-- 'laws.FnExactStartSession', WHERE WHAT IT READS IS OF BULK AT MOST 1048576: true; the input reads as it did. -/
def fnExactStartSessionUptoRow : OpenClaim := { program := "ytlknolcgdkhccaagreat", sum := "454a36961b7ced93d83e3d9fa579a455d539bd452a29fb0b4e31fc08ceb775a1", func := "loop.example/g00594/laws.FnExactStartSession", spec := "fnExactStartSession", unfollowed := true, recurses := true, loops := true, apart := false, narrowed := true }
def FnExactStartSessionUptoSaid : Prop := fnExactStartSessionUptoRow.holds Tryz.pinned (OpenSpec.upto fnExactStartSessionSpec)

/-- 'laws.FnExactReviewSessions', WHERE WHAT IT READS IS OF BULK AT MOST 1048576: true; the input reads as it did. -/
def fnExactReviewSessionsUptoRow : OpenClaim := { program := "ytlknolcgdkhccaagreat", sum := "454a36961b7ced93d83e3d9fa579a455d539bd452a29fb0b4e31fc08ceb775a1", func := "loop.example/g00594/laws.FnExactReviewSessions", spec := "fnExactReviewSessions", unfollowed := true, recurses := true, loops := true, apart := false, narrowed := true }
def FnExactReviewSessionsUptoSaid : Prop := fnExactReviewSessionsUptoRow.holds Tryz.pinned (OpenSpec.upto fnExactReviewSessionsSpec)

/-- 'laws.FnExactSessionsKept', WHERE WHAT IT READS IS OF BULK AT MOST 1048576: true; the input reads as it did. -/
def fnExactSessionsKeptUptoRow : OpenClaim := { program := "ytlknolcgdkhccaagreat", sum := "454a36961b7ced93d83e3d9fa579a455d539bd452a29fb0b4e31fc08ceb775a1", func := "loop.example/g00594/laws.FnExactSessionsKept", spec := "fnExactSessionsKept", unfollowed := true, recurses := true, loops := true, apart := false, narrowed := true }
def FnExactSessionsKeptUptoSaid : Prop := fnExactSessionsKeptUptoRow.holds Tryz.pinned (OpenSpec.upto fnExactSessionsKeptSpec)

end Rows
end Go.Proofs.YtlknolcgdkhccaaGreat
