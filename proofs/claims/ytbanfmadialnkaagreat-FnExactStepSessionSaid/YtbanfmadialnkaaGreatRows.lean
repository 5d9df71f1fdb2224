/-
  NARROWER THAN 'FOR EVERY INPUT', by the rows' own cells (each row's printed sentence says how): FnExactFaultOf: loops · FnExactAuditAccess: loops · FnExactStepTick: loops · FnExactStepSession: loops.
  DERIVED. THE GIVEN ROWS OF THIS SEAT. 4 by the template 'for every input the law returns true; each argument reads behind the call as it read before'; 0 by the template 'total and deterministic' (their statements: YtbanfmadialnkaaGreatTotals.lean).
  GIVEN WITH THE SEED: the statements are not yours to turn. If you find one false, say at which input.
  Laid BY PROGRAM, IN A SANDBOX (cutbox-rows.mjs): the forced cells as the released guide's own fill.sh prints them over the translation 08a30aa792f571fe… (all of the seat's roots in one cut). By AI agents, Wed Nov 11 2026. No macro, syntax, notation, axiom, sorry.
-/
import Derived.Test.YtbanfmadialnkaaGreatChecked
import GoSem.Claim
import GoSem.ClaimJoined
import GoSem.ClaimMapViews
import Derived.JoinedTies
import Derived.KernelRfl
namespace Go.Proofs.YtbanfmadialnkaaGreat
/- THE CELL 'sum', in the pinned program and in every row, IS THE sha256 OF THE DUMP (.gsa) THAT YtbanfmadialnkaaGreatProg.lean LOADS. Nothing in Lean hashes anything: it is a label: what it is worth is what the hold of that sum in a sandbox is worth. -/
noncomputable def Tryz.pinned : Pinned := { name := "ytbanfmadialnkaagreat", sum := "08a30aa792f571fecd762e2bd4f4063ba6a5466fed82b03067c82e213cec216a", checked := Tryz.checked }
namespace Rows
def none {H : Type} : Left H := { results := [], args := [] }

/-- 'laws.FnExactFaultOf': WHATEVER THE INPUT: true; the input reads as it did. -/
def fnExactFaultOfSpec : ChangeSpec := { name := "fnExactFaultOf", fn := fun _ => fun
  | [d] => { results := [.lit (.bool true)], args := [d] }
  | _ => none }
def fnExactFaultOfRow : OpenClaim := { program := "ytbanfmadialnkaagreat", sum := "08a30aa792f571fecd762e2bd4f4063ba6a5466fed82b03067c82e213cec216a", func := "loop.example/g00594/laws.FnExactFaultOf", spec := "fnExactFaultOf", unfollowed := true, recurses := true, loops := true, apart := false }
def FnExactFaultOfSaid : Prop := fnExactFaultOfRow.holds Tryz.pinned (OpenSpec.ofChange fnExactFaultOfSpec)

/-- ITS FALSE NEIGHBOUR: 'it returns false'. Refute it at one input. -/
def fnExactFaultOfWrong : ChangeSpec := { name := "fnExactFaultOf", fn := fun _ => fun
  | [d] => { results := [.lit (.bool false)], args := [d] }
  | _ => none }
def FnExactFaultOfWrongFalsely : Prop := fnExactFaultOfRow.holds Tryz.pinned (OpenSpec.ofChange fnExactFaultOfWrong)

/-- 'laws.FnExactAuditAccess': WHATEVER THE INPUT: true; the input reads as it did. -/
def fnExactAuditAccessSpec : ChangeSpec := { name := "fnExactAuditAccess", fn := fun _ => fun
  | [d] => { results := [.lit (.bool true)], args := [d] }
  | _ => none }
def fnExactAuditAccessRow : OpenClaim := { program := "ytbanfmadialnkaagreat", sum := "08a30aa792f571fecd762e2bd4f4063ba6a5466fed82b03067c82e213cec216a", func := "loop.example/g00594/laws.FnExactAuditAccess", spec := "fnExactAuditAccess", unfollowed := true, recurses := true, loops := true, apart := false }
def FnExactAuditAccessSaid : Prop := fnExactAuditAccessRow.holds Tryz.pinned (OpenSpec.ofChange fnExactAuditAccessSpec)

/-- ITS FALSE NEIGHBOUR: 'it returns false'. Refute it at one input. -/
def fnExactAuditAccessWrong : ChangeSpec := { name := "fnExactAuditAccess", fn := fun _ => fun
  | [d] => { results := [.lit (.bool false)], args := [d] }
  | _ => none }
def FnExactAuditAccessWrongFalsely : Prop := fnExactAuditAccessRow.holds Tryz.pinned (OpenSpec.ofChange fnExactAuditAccessWrong)

/-- 'laws.FnExactStepTick': WHATEVER THE INPUT: true; the input reads as it did. -/
def fnExactStepTickSpec : ChangeSpec := { name := "fnExactStepTick", fn := fun _ => fun
  | [d1, d2] => { results := [.lit (.bool true)], args := [d1, d2] }
  | _ => none }
def fnExactStepTickRow : OpenClaim := { program := "ytbanfmadialnkaagreat", sum := "08a30aa792f571fecd762e2bd4f4063ba6a5466fed82b03067c82e213cec216a", func := "loop.example/g00594/laws.FnExactStepTick", spec := "fnExactStepTick", unfollowed := true, recurses := true, loops := true, apart := false }
def FnExactStepTickSaid : Prop := fnExactStepTickRow.holds Tryz.pinned (OpenSpec.ofChange fnExactStepTickSpec)

/-- ITS FALSE NEIGHBOUR: 'it returns false'. Refute it at one input. -/
def fnExactStepTickWrong : ChangeSpec := { name := "fnExactStepTick", fn := fun _ => fun
  | [d1, d2] => { results := [.lit (.bool false)], args := [d1, d2] }
  | _ => none }
def FnExactStepTickWrongFalsely : Prop := fnExactStepTickRow.holds Tryz.pinned (OpenSpec.ofChange fnExactStepTickWrong)

/-- 'laws.FnExactStepSession': WHATEVER THE INPUT: true; the input reads as it did. -/
def fnExactStepSessionSpec : ChangeSpec := { name := "fnExactStepSession", fn := fun _ => fun
  | [d1, d2, d3, d4] => { results := [.lit (.bool true)], args := [d1, d2, d3, d4] }
  | _ => none }
def fnExactStepSessionRow : OpenClaim := { program := "ytbanfmadialnkaagreat", sum := "08a30aa792f571fecd762e2bd4f4063ba6a5466fed82b03067c82e213cec216a", func := "loop.example/g00594/laws.FnExactStepSession", spec := "fnExactStepSession", unfollowed := true, recurses := true, loops := true, apart := false }
def FnExactStepSessionSaid : Prop := fnExactStepSessionRow.holds Tryz.pinned (OpenSpec.ofChange fnExactStepSessionSpec)

/-- ITS FALSE NEIGHBOUR: 'it returns false'. Refute it at one input. -/
def fnExactStepSessionWrong : ChangeSpec := { name := "fnExactStepSession", fn := fun _ => fun
  | [d1, d2, d3, d4] => { results := [.lit (.bool false)], args := [d1, d2, d3, d4] }
  | _ => none }
def FnExactStepSessionWrongFalsely : Prop := fnExactStepSessionRow.holds Tryz.pinned (OpenSpec.ofChange fnExactStepSessionWrong)

/- THE SECOND FORM. 'bulk': how many values and letters a reading holds, each counted each time it is reached (what is shared counts as often as it is met; a slice's spare places count too). A statement '..UptoSaid' is the law's where the arguments, and the package variables that the reading takes, are together of bulk at most 1048576: NARROWER than '..Said'. Prove '..Said' where nothing that the law and all that it calls make is longer than what came in: it says more and counts as full. Else prove '..UptoSaid'. A law counts once. -/
mutual
def uptoBulk {H : Type} : DataW H → Nat
  | .lit (.string bytes) => bytes.length + 1
  | .lit _ => 1
  | .nil => 1
  | .ptr d => uptoBulk d + 1
  | .slice elems spare => uptoBulkAll elems + uptoBulkAll spare + 1
  | .agg parts => uptoBulkAll parts + 1
  | .iface _ d => uptoBulk d + 1
  | .map entries => uptoBulkEntries entries + 1
  | .held _ => 1
def uptoBulkAll {H : Type} : List (DataW H) → Nat
  | [] => 0
  | d :: r => uptoBulk d + uptoBulkAll r
def uptoBulkEntries {H : Type} : List (Lit × DataW H) → Nat
  | [] => 0
  | x :: r => uptoBulkEntry x + uptoBulkEntries r
def uptoBulkEntry {H : Type} : Lit × DataW H → Nat
  | (.string bytes, d) => bytes.length + uptoBulk d + 1
  | (_, d) => uptoBulk d + 1
 end
def uptoSmall : (H : Type) → List (DataW H) → Bool := fun _ ds => decide (uptoBulkAll ds ≤ 1048576)
def OpenSpec.upto (s : _root_.Go.ChangeSpec) : _root_.Go.OpenSpec := { _root_.Go.OpenSpec.ofChange s with cond := some uptoSmall }

/-- 'laws.FnExactFaultOf', WHERE WHAT IT READS IS OF BULK AT MOST 1048576: true; the input reads as it did. -/
def fnExactFaultOfUptoRow : OpenClaim := { program := "ytbanfmadialnkaagreat", sum := "08a30aa792f571fecd762e2bd4f4063ba6a5466fed82b03067c82e213cec216a", func := "loop.example/g00594/laws.FnExactFaultOf", spec := "fnExactFaultOf", unfollowed := true, recurses := true, loops := true, apart := false, narrowed := true }
def FnExactFaultOfUptoSaid : Prop := fnExactFaultOfUptoRow.holds Tryz.pinned (OpenSpec.upto fnExactFaultOfSpec)

/-- 'laws.FnExactAuditAccess', WHERE WHAT IT READS IS OF BULK AT MOST 1048576: true; the input reads as it did. -/
def fnExactAuditAccessUptoRow : OpenClaim := { program := "ytbanfmadialnkaagreat", sum := "08a30aa792f571fecd762e2bd4f4063ba6a5466fed82b03067c82e213cec216a", func := "loop.example/g00594/laws.FnExactAuditAccess", spec := "fnExactAuditAccess", unfollowed := true, recurses := true, loops := true, apart := false, narrowed := true }
def FnExactAuditAccessUptoSaid : Prop := fnExactAuditAccessUptoRow.holds Tryz.pinned (OpenSpec.upto fnExactAuditAccessSpec)

/-- 'laws.FnExactStepTick', WHERE WHAT IT READS IS OF BULK AT MOST 1048576: true; the input reads as it did. -/
def fnExactStepTickUptoRow : OpenClaim := { program := "ytbanfmadialnkaagreat", sum := "08a30aa792f571fecd762e2bd4f4063ba6a5466fed82b03067c82e213cec216a", func := "loop.example/g00594/laws.FnExactStepTick", spec := "fnExactStepTick", unfollowed := true, recurses := true, loops := true, apart := false, narrowed := true }
def FnExactStepTickUptoSaid : Prop := fnExactStepTickUptoRow.holds Tryz.pinned (OpenSpec.upto fnExactStepTickSpec)

/-- 'laws.FnExactStepSession', WHERE WHAT IT READS IS OF BULK AT MOST 1048576: true; the input reads as it did. -/
def fnExactStepSessionUptoRow : OpenClaim := { program := "ytbanfmadialnkaagreat", sum := "08a30aa792f571fecd762e2bd4f4063ba6a5466fed82b03067c82e213cec216a", func := "loop.example/g00594/laws.FnExactStepSession", spec := "fnExactStepSession", unfollowed := true, recurses := true, loops := true, apart := false, narrowed := true }
def FnExactStepSessionUptoSaid : Prop := fnExactStepSessionUptoRow.holds Tryz.pinned (OpenSpec.upto fnExactStepSessionSpec)

end Rows
end Go.Proofs.YtbanfmadialnkaaGreat
