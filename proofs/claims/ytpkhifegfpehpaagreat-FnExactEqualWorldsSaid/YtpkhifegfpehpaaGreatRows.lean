/-
  NARROWER THAN 'FOR EVERY INPUT', by the rows' own cells (each row's printed sentence says how): FnExactSharesLeft: loops · FnExactCountAnswers: loops · FnExactCertOf: loops · FnExactPermitsBounded: loops · FnExactQuotaKept: loops · FnExactCasesKept: loops · FnExactUsesKept: loops · FnExactEqualWorlds: loops.
  DERIVED. THE GIVEN ROWS OF THIS SEAT. 8 by the template 'for every input the law returns true; each argument reads behind the call as it read before'; 0 by the template 'total and deterministic' (their statements: YtpkhifegfpehpaaGreatTotals.lean).
  GIVEN WITH THE SEED: the statements are not yours to turn. If you find one false, say at which input.
  Laid BY PROGRAM, IN A SANDBOX (cutbox-rows.mjs): the forced cells as the released guide's own fill.sh prints them over the translation c2e4185e45432441… (all of the seat's roots in one cut). By AI agents, Wed Nov 11 2026. No macro, syntax, notation, axiom, sorry.
-/
import Derived.Test.YtpkhifegfpehpaaGreatChecked
import GoSem.Claim
import GoSem.ClaimJoined
import GoSem.ClaimMapViews
import Derived.JoinedTies
import Derived.KernelRfl
namespace Go.Proofs.YtpkhifegfpehpaaGreat
/- THE CELL 'sum', in the pinned program and in every row, IS THE sha256 OF THE DUMP (.gsa) THAT YtpkhifegfpehpaaGreatProg.lean LOADS. Nothing in Lean hashes anything: it is a label: what it is worth is what the hold of that sum in a sandbox is worth. -/
noncomputable def Tryz.pinned : Pinned := { name := "ytpkhifegfpehpaagreat", sum := "c2e4185e4543244141e8088b0ccf45a798432c5feb52e7cc9d196a74103be990", checked := Tryz.checked }
namespace Rows
def none {H : Type} : Left H := { results := [], args := [] }

/-- 'laws.FnExactSharesLeft': WHATEVER THE INPUT: true; the input reads as it did. -/
def fnExactSharesLeftSpec : ChangeSpec := { name := "fnExactSharesLeft", fn := fun _ => fun
  | [d] => { results := [.lit (.bool true)], args := [d] }
  | _ => none }
def fnExactSharesLeftRow : OpenClaim := { program := "ytpkhifegfpehpaagreat", sum := "c2e4185e4543244141e8088b0ccf45a798432c5feb52e7cc9d196a74103be990", func := "loop.example/g00594/laws.FnExactSharesLeft", spec := "fnExactSharesLeft", recurses := true, loops := true, apart := false }
def FnExactSharesLeftSaid : Prop := fnExactSharesLeftRow.holds Tryz.pinned (OpenSpec.ofChange fnExactSharesLeftSpec)

/-- ITS FALSE NEIGHBOUR: 'it returns false'. Refute it at one input. -/
def fnExactSharesLeftWrong : ChangeSpec := { name := "fnExactSharesLeft", fn := fun _ => fun
  | [d] => { results := [.lit (.bool false)], args := [d] }
  | _ => none }
def FnExactSharesLeftWrongFalsely : Prop := fnExactSharesLeftRow.holds Tryz.pinned (OpenSpec.ofChange fnExactSharesLeftWrong)

/-- 'laws.FnExactCountAnswers': WHATEVER THE INPUT: true; the input reads as it did. -/
def fnExactCountAnswersSpec : ChangeSpec := { name := "fnExactCountAnswers", fn := fun _ => fun
  | [d1, d2] => { results := [.lit (.bool true)], args := [d1, d2] }
  | _ => none }
def fnExactCountAnswersRow : OpenClaim := { program := "ytpkhifegfpehpaagreat", sum := "c2e4185e4543244141e8088b0ccf45a798432c5feb52e7cc9d196a74103be990", func := "loop.example/g00594/laws.FnExactCountAnswers", spec := "fnExactCountAnswers", recurses := true, loops := true, apart := false }
def FnExactCountAnswersSaid : Prop := fnExactCountAnswersRow.holds Tryz.pinned (OpenSpec.ofChange fnExactCountAnswersSpec)

/-- ITS FALSE NEIGHBOUR: 'it returns false'. Refute it at one input. -/
def fnExactCountAnswersWrong : ChangeSpec := { name := "fnExactCountAnswers", fn := fun _ => fun
  | [d1, d2] => { results := [.lit (.bool false)], args := [d1, d2] }
  | _ => none }
def FnExactCountAnswersWrongFalsely : Prop := fnExactCountAnswersRow.holds Tryz.pinned (OpenSpec.ofChange fnExactCountAnswersWrong)

/-- 'laws.FnExactCertOf': WHATEVER THE INPUT: true; the input reads as it did. -/
def fnExactCertOfSpec : ChangeSpec := { name := "fnExactCertOf", fn := fun _ => fun
  | [d1, d2] => { results := [.lit (.bool true)], args := [d1, d2] }
  | _ => none }
def fnExactCertOfRow : OpenClaim := { program := "ytpkhifegfpehpaagreat", sum := "c2e4185e4543244141e8088b0ccf45a798432c5feb52e7cc9d196a74103be990", func := "loop.example/g00594/laws.FnExactCertOf", spec := "fnExactCertOf", unfollowed := true, recurses := true, loops := true, apart := false }
def FnExactCertOfSaid : Prop := fnExactCertOfRow.holds Tryz.pinned (OpenSpec.ofChange fnExactCertOfSpec)

/-- ITS FALSE NEIGHBOUR: 'it returns false'. Refute it at one input. -/
def fnExactCertOfWrong : ChangeSpec := { name := "fnExactCertOf", fn := fun _ => fun
  | [d1, d2] => { results := [.lit (.bool false)], args := [d1, d2] }
  | _ => none }
def FnExactCertOfWrongFalsely : Prop := fnExactCertOfRow.holds Tryz.pinned (OpenSpec.ofChange fnExactCertOfWrong)

/-- 'laws.FnExactPermitsBounded': WHATEVER THE INPUT: true; the input reads as it did. -/
def fnExactPermitsBoundedSpec : ChangeSpec := { name := "fnExactPermitsBounded", fn := fun _ => fun
  | [d] => { results := [.lit (.bool true)], args := [d] }
  | _ => none }
def fnExactPermitsBoundedRow : OpenClaim := { program := "ytpkhifegfpehpaagreat", sum := "c2e4185e4543244141e8088b0ccf45a798432c5feb52e7cc9d196a74103be990", func := "loop.example/g00594/laws.FnExactPermitsBounded", spec := "fnExactPermitsBounded", unfollowed := true, recurses := true, loops := true, apart := false }
def FnExactPermitsBoundedSaid : Prop := fnExactPermitsBoundedRow.holds Tryz.pinned (OpenSpec.ofChange fnExactPermitsBoundedSpec)

/-- ITS FALSE NEIGHBOUR: 'it returns false'. Refute it at one input. -/
def fnExactPermitsBoundedWrong : ChangeSpec := { name := "fnExactPermitsBounded", fn := fun _ => fun
  | [d] => { results := [.lit (.bool false)], args := [d] }
  | _ => none }
def FnExactPermitsBoundedWrongFalsely : Prop := fnExactPermitsBoundedRow.holds Tryz.pinned (OpenSpec.ofChange fnExactPermitsBoundedWrong)

/-- 'laws.FnExactQuotaKept': WHATEVER THE INPUT: true; the input reads as it did. -/
def fnExactQuotaKeptSpec : ChangeSpec := { name := "fnExactQuotaKept", fn := fun _ => fun
  | [d] => { results := [.lit (.bool true)], args := [d] }
  | _ => none }
def fnExactQuotaKeptRow : OpenClaim := { program := "ytpkhifegfpehpaagreat", sum := "c2e4185e4543244141e8088b0ccf45a798432c5feb52e7cc9d196a74103be990", func := "loop.example/g00594/laws.FnExactQuotaKept", spec := "fnExactQuotaKept", recurses := true, loops := true, apart := false }
def FnExactQuotaKeptSaid : Prop := fnExactQuotaKeptRow.holds Tryz.pinned (OpenSpec.ofChange fnExactQuotaKeptSpec)

/-- ITS FALSE NEIGHBOUR: 'it returns false'. Refute it at one input. -/
def fnExactQuotaKeptWrong : ChangeSpec := { name := "fnExactQuotaKept", fn := fun _ => fun
  | [d] => { results := [.lit (.bool false)], args := [d] }
  | _ => none }
def FnExactQuotaKeptWrongFalsely : Prop := fnExactQuotaKeptRow.holds Tryz.pinned (OpenSpec.ofChange fnExactQuotaKeptWrong)

/-- 'laws.FnExactCasesKept': WHATEVER THE INPUT: true; the input reads as it did. -/
def fnExactCasesKeptSpec : ChangeSpec := { name := "fnExactCasesKept", fn := fun _ => fun
  | [d] => { results := [.lit (.bool true)], args := [d] }
  | _ => none }
def fnExactCasesKeptRow : OpenClaim := { program := "ytpkhifegfpehpaagreat", sum := "c2e4185e4543244141e8088b0ccf45a798432c5feb52e7cc9d196a74103be990", func := "loop.example/g00594/laws.FnExactCasesKept", spec := "fnExactCasesKept", recurses := true, loops := true, apart := false }
def FnExactCasesKeptSaid : Prop := fnExactCasesKeptRow.holds Tryz.pinned (OpenSpec.ofChange fnExactCasesKeptSpec)

/-- ITS FALSE NEIGHBOUR: 'it returns false'. Refute it at one input. -/
def fnExactCasesKeptWrong : ChangeSpec := { name := "fnExactCasesKept", fn := fun _ => fun
  | [d] => { results := [.lit (.bool false)], args := [d] }
  | _ => none }
def FnExactCasesKeptWrongFalsely : Prop := fnExactCasesKeptRow.holds Tryz.pinned (OpenSpec.ofChange fnExactCasesKeptWrong)

/-- 'laws.FnExactUsesKept': WHATEVER THE INPUT: true; the input reads as it did. -/
def fnExactUsesKeptSpec : ChangeSpec := { name := "fnExactUsesKept", fn := fun _ => fun
  | [d] => { results := [.lit (.bool true)], args := [d] }
  | _ => none }
def fnExactUsesKeptRow : OpenClaim := { program := "ytpkhifegfpehpaagreat", sum := "c2e4185e4543244141e8088b0ccf45a798432c5feb52e7cc9d196a74103be990", func := "loop.example/g00594/laws.FnExactUsesKept", spec := "fnExactUsesKept", unfollowed := true, recurses := true, loops := true, apart := false }
def FnExactUsesKeptSaid : Prop := fnExactUsesKeptRow.holds Tryz.pinned (OpenSpec.ofChange fnExactUsesKeptSpec)

/-- ITS FALSE NEIGHBOUR: 'it returns false'. Refute it at one input. -/
def fnExactUsesKeptWrong : ChangeSpec := { name := "fnExactUsesKept", fn := fun _ => fun
  | [d] => { results := [.lit (.bool false)], args := [d] }
  | _ => none }
def FnExactUsesKeptWrongFalsely : Prop := fnExactUsesKeptRow.holds Tryz.pinned (OpenSpec.ofChange fnExactUsesKeptWrong)

/-- 'laws.FnExactEqualWorlds': WHATEVER THE INPUT: true; the input reads as it did. -/
def fnExactEqualWorldsSpec : ChangeSpec := { name := "fnExactEqualWorlds", fn := fun _ => fun
  | [d1, d2] => { results := [.lit (.bool true)], args := [d1, d2] }
  | _ => none }
def fnExactEqualWorldsRow : OpenClaim := { program := "ytpkhifegfpehpaagreat", sum := "c2e4185e4543244141e8088b0ccf45a798432c5feb52e7cc9d196a74103be990", func := "loop.example/g00594/laws.FnExactEqualWorlds", spec := "fnExactEqualWorlds", unfollowed := true, recurses := true, loops := true, apart := false }
def FnExactEqualWorldsSaid : Prop := fnExactEqualWorldsRow.holds Tryz.pinned (OpenSpec.ofChange fnExactEqualWorldsSpec)

/-- ITS FALSE NEIGHBOUR: 'it returns false'. Refute it at one input. -/
def fnExactEqualWorldsWrong : ChangeSpec := { name := "fnExactEqualWorlds", fn := fun _ => fun
  | [d1, d2] => { results := [.lit (.bool false)], args := [d1, d2] }
  | _ => none }
def FnExactEqualWorldsWrongFalsely : Prop := fnExactEqualWorldsRow.holds Tryz.pinned (OpenSpec.ofChange fnExactEqualWorldsWrong)

/- THE SECOND FORM. 'bulk': how many values and letters a reading holds, each counted each time it is reached (what is shared counts as often as it is met; a slice's spare places count too). A statement '..UptoSaid' is the law's where the arguments, and the package variables that the reading takes, are together of bulk at most 1048576: NARROWER than '..Said'. Prove '..Said' where nothing that the law and all that it calls make is longer than what came in: it says more and counts as full. Else prove '..UptoSaid'. A law counts once. -/
mutual
def uptoBulk {H : Type} : DataW H → Nat
  | .lit (.string bytes) => bytes.length + 1
  | .lit _ => 1
  | .nil => 1
  | .ptr d => uptoBulk d + 1
  | .slice elems spare => uptoBulkAll elems + uptoBulkAll spare + 1
  | .agg parts => uptoBulkAll parts + 1
  | .iface _ d => uptoBulk d + 1
  | .map entries => uptoBulkEntries entries + 1
  | .held _ => 1
def uptoBulkAll {H : Type} : List (DataW H) → Nat
  | [] => 0
  | d :: r => uptoBulk d + uptoBulkAll r
def uptoBulkEntries {H : Type} : List (Lit × DataW H) → Nat
  | [] => 0
  | x :: r => uptoBulkEntry x + uptoBulkEntries r
def uptoBulkEntry {H : Type} : Lit × DataW H → Nat
  | (.string bytes, d) => bytes.length + uptoBulk d + 1
  | (_, d) => uptoBulk d + 1
 end
def uptoSmall : (H : Type) → List (DataW H) → Bool := fun _ ds => decide (uptoBulkAll ds ≤ 1048576)
def OpenSpec.upto (s : _root_.Go.ChangeSpec) : _root_.Go.OpenSpec := { _root_.Go.OpenSpec.ofChange s with cond := some uptoSmall }

/-- 'laws.FnExactSharesLeft', WHERE WHAT IT READS IS OF BULK AT MOST 1048576: true; the input reads as it did. -/
def fnExactSharesLeftUptoRow : OpenClaim := { program := "ytpkhifegfpehpaagreat", sum := "c2e4185e4543244141e8088b0ccf45a798432c5feb52e7cc9d196a74103be990", func := "loop.example/g00594/laws.FnExactSharesLeft", spec := "fnExactSharesLeft", recurses := true, loops := true, apart := false, narrowed := true }
def FnExactSharesLeftUptoSaid : Prop := fnExactSharesLeftUptoRow.holds Tryz.pinned (OpenSpec.upto fnExactSharesLeftSpec)

/-- 'laws.FnExactCountAnswers', WHERE WHAT IT READS IS OF BULK AT MOST 1048576: true; the input reads as it did. -/
def fnExactCountAnswersUptoRow : OpenClaim := { program := "ytpkhifegfpehpaagreat", sum := "c2e4185e4543244141e8088b0ccf45a798432c5feb52e7cc9d196a74103be990", func := "loop.example/g00594/laws.FnExactCountAnswers", spec := "fnExactCountAnswers", recurses := true, loops := true, apart := false, narrowed := true }
def FnExactCountAnswersUptoSaid : Prop := fnExactCountAnswersUptoRow.holds Tryz.pinned (OpenSpec.upto fnExactCountAnswersSpec)

/-- 'laws.FnExactCertOf', WHERE WHAT IT READS IS OF BULK AT MOST 1048576: true; the input reads as it did. -/
def fnExactCertOfUptoRow : OpenClaim := { program := "ytpkhifegfpehpaagreat", sum := "c2e4185e4543244141e8088b0ccf45a798432c5feb52e7cc9d196a74103be990", func := "loop.example/g00594/laws.FnExactCertOf", spec := "fnExactCertOf", unfollowed := true, recurses := true, loops := true, apart := false, narrowed := true }
def FnExactCertOfUptoSaid : Prop := fnExactCertOfUptoRow.holds Tryz.pinned (OpenSpec.upto fnExactCertOfSpec)

/-- 'laws.FnExactPermitsBounded', WHERE WHAT IT READS IS OF BULK AT MOST 1048576: true; the input reads as it did. -/
def fnExactPermitsBoundedUptoRow : OpenClaim := { program := "ytpkhifegfpehpaagreat", sum := "c2e4185e4543244141e8088b0ccf45a798432c5feb52e7cc9d196a74103be990", func := "loop.example/g00594/laws.FnExactPermitsBounded", spec := "fnExactPermitsBounded", unfollowed := true, recurses := true, loops := true, apart := false, narrowed := true }
def FnExactPermitsBoundedUptoSaid : Prop := fnExactPermitsBoundedUptoRow.holds Tryz.pinned (OpenSpec.upto fnExactPermitsBoundedSpec)

/-- 'laws.FnExactQuotaKept', WHERE WHAT IT READS IS OF BULK AT MOST 1048576: true; the input reads as it did. -/
def fnExactQuotaKeptUptoRow : OpenClaim := { program := "ytpkhifegfpehpaagreat", sum := "c2e4185e4543244141e8088b0ccf45a798432c5feb52e7cc9d196a74103be990", func := "loop.example/g00594/laws.FnExactQuotaKept", spec := "fnExactQuotaKept", recurses := true, loops := true, apart := false, narrowed := true }
def FnExactQuotaKeptUptoSaid : Prop := fnExactQuotaKeptUptoRow.holds Tryz.pinned (OpenSpec.upto fnExactQuotaKeptSpec)

/-- 'laws.FnExactCasesKept', WHERE WHAT IT READS IS OF BULK AT MOST 1048576: true; the input reads as it did. -/
def fnExactCasesKeptUptoRow : OpenClaim := { program := "ytpkhifegfpehpaagreat", sum := "c2e4185e4543244141e8088b0ccf45a798432c5feb52e7cc9d196a74103be990", func := "loop.example/g00594/laws.FnExactCasesKept", spec := "fnExactCasesKept", recurses := true, loops := true, apart := false, narrowed := true }
def FnExactCasesKeptUptoSaid : Prop := fnExactCasesKeptUptoRow.holds Tryz.pinned (OpenSpec.upto fnExactCasesKeptSpec)

/-- 'laws.FnExactUsesKept', WHERE WHAT IT READS IS OF BULK AT MOST 1048576: true; the input reads as it did. -/
def fnExactUsesKeptUptoRow : OpenClaim := { program := "ytpkhifegfpehpaagreat", sum := "c2e4185e4543244141e8088b0ccf45a798432c5feb52e7cc9d196a74103be990", func := "loop.example/g00594/laws.FnExactUsesKept", spec := "fnExactUsesKept", unfollowed := true, recurses := true, loops := true, apart := false, narrowed := true }
def FnExactUsesKeptUptoSaid : Prop := fnExactUsesKeptUptoRow.holds Tryz.pinned (OpenSpec.upto fnExactUsesKeptSpec)

/-- 'laws.FnExactEqualWorlds', WHERE WHAT IT READS IS OF BULK AT MOST 1048576: true; the input reads as it did. -/
def fnExactEqualWorldsUptoRow : OpenClaim := { program := "ytpkhifegfpehpaagreat", sum := "c2e4185e4543244141e8088b0ccf45a798432c5feb52e7cc9d196a74103be990", func := "loop.example/g00594/laws.FnExactEqualWorlds", spec := "fnExactEqualWorlds", unfollowed := true, recurses := true, loops := true, apart := false, narrowed := true }
def FnExactEqualWorldsUptoSaid : Prop := fnExactEqualWorldsUptoRow.holds Tryz.pinned (OpenSpec.upto fnExactEqualWorldsSpec)

end Rows
end Go.Proofs.YtpkhifegfpehpaaGreat
