/-
  NARROWER THAN 'FOR EVERY INPUT', by the rows' own cells (each row's printed sentence says how): FnExactCountKind: loops · FnExactLastTick: loops.
  DERIVED. THE GIVEN ROWS OF THIS SEAT. 4 by the template 'for every input the law returns true; each argument reads behind the call as it read before'; 0 by the template 'total and deterministic' (their statements: YtalgdejblgkjjaaTotals.lean).
  GIVEN WITH THE SEED: the statements are not yours to turn. If you find one false, say at which input.
  Laid BY PROGRAM, IN A SANDBOX (cutbox-rows.mjs): the forced cells as the released guide's own fill.sh prints them over the translation bdfff356a02e51ec… (all of the seat's roots in one cut). By AI agents, Wed Nov 11 2026. No macro, syntax, notation, axiom, sorry.
-/
import Derived.Test.YtalgdejblgkjjaaChecked
import GoSem.Claim
import GoSem.ClaimJoined
import GoSem.ClaimMapViews
import Derived.JoinedTies
import Derived.KernelRfl
namespace Go.Proofs.Ytalgdejblgkjjaa
/- THE CELL 'sum', in the pinned program and in every row, IS THE sha256 OF THE DUMP (.gsa) THAT YtalgdejblgkjjaaProg.lean LOADS. Nothing in Lean hashes anything: it is a label: what it is worth is what the hold of that sum in a sandbox is worth. -/
noncomputable def Try.pinned : Pinned := { name := "ytalgdejblgkjjaa", sum := "bdfff356a02e51ecd2645c91ae5a49ea93bfab9939167ecc5dcb5edca01c4731", checked := Try.checked }
namespace Rows
def none {H : Type} : Left H := { results := [], args := [] }

/-- 'laws.FnExactCountKind': WHATEVER THE INPUT: true; the input reads as it did. -/
def fnExactCountKindSpec : ChangeSpec := { name := "fnExactCountKind", fn := fun _ => fun
  | [d1, d2] => { results := [.lit (.bool true)], args := [d1, d2] }
  | _ => none }
def fnExactCountKindRow : OpenClaim := { program := "ytalgdejblgkjjaa", sum := "bdfff356a02e51ecd2645c91ae5a49ea93bfab9939167ecc5dcb5edca01c4731", func := "loop.example/g00594/laws.FnExactCountKind", spec := "fnExactCountKind", recurses := true, loops := true, apart := false }
def FnExactCountKindSaid : Prop := fnExactCountKindRow.holds Try.pinned (OpenSpec.ofChange fnExactCountKindSpec)

/-- ITS FALSE NEIGHBOUR: 'it returns false'. Refute it at one input. -/
def fnExactCountKindWrong : ChangeSpec := { name := "fnExactCountKind", fn := fun _ => fun
  | [d1, d2] => { results := [.lit (.bool false)], args := [d1, d2] }
  | _ => none }
def FnExactCountKindWrongFalsely : Prop := fnExactCountKindRow.holds Try.pinned (OpenSpec.ofChange fnExactCountKindWrong)

/-- 'laws.FnExactLastTick': WHATEVER THE INPUT: true; the input reads as it did. -/
def fnExactLastTickSpec : ChangeSpec := { name := "fnExactLastTick", fn := fun _ => fun
  | [d] => { results := [.lit (.bool true)], args := [d] }
  | _ => none }
def fnExactLastTickRow : OpenClaim := { program := "ytalgdejblgkjjaa", sum := "bdfff356a02e51ecd2645c91ae5a49ea93bfab9939167ecc5dcb5edca01c4731", func := "loop.example/g00594/laws.FnExactLastTick", spec := "fnExactLastTick", recurses := true, loops := true, apart := false }
def FnExactLastTickSaid : Prop := fnExactLastTickRow.holds Try.pinned (OpenSpec.ofChange fnExactLastTickSpec)

/-- ITS FALSE NEIGHBOUR: 'it returns false'. Refute it at one input. -/
def fnExactLastTickWrong : ChangeSpec := { name := "fnExactLastTick", fn := fun _ => fun
  | [d] => { results := [.lit (.bool false)], args := [d] }
  | _ => none }
def FnExactLastTickWrongFalsely : Prop := fnExactLastTickRow.holds Try.pinned (OpenSpec.ofChange fnExactLastTickWrong)

/-- 'laws.FnExactUseEmergency': WHATEVER THE INPUT: true; the input reads as it did. -/
def fnExactUseEmergencySpec : ChangeSpec := { name := "fnExactUseEmergency", fn := fun _ => fun
  | [d1, d2, d3, d4, d5] => { results := [.lit (.bool true)], args := [d1, d2, d3, d4, d5] }
  | _ => none }
def fnExactUseEmergencyRow : OpenClaim := { program := "ytalgdejblgkjjaa", sum := "bdfff356a02e51ecd2645c91ae5a49ea93bfab9939167ecc5dcb5edca01c4731", func := "loop.example/g00594/laws.FnExactUseEmergency", spec := "fnExactUseEmergency", unfollowed := true, recurses := true, apart := false }
def FnExactUseEmergencySaid : Prop := fnExactUseEmergencyRow.holds Try.pinned (OpenSpec.ofChange fnExactUseEmergencySpec)

/-- ITS FALSE NEIGHBOUR: 'it returns false'. Refute it at one input. -/
def fnExactUseEmergencyWrong : ChangeSpec := { name := "fnExactUseEmergency", fn := fun _ => fun
  | [d1, d2, d3, d4, d5] => { results := [.lit (.bool false)], args := [d1, d2, d3, d4, d5] }
  | _ => none }
def FnExactUseEmergencyWrongFalsely : Prop := fnExactUseEmergencyRow.holds Try.pinned (OpenSpec.ofChange fnExactUseEmergencyWrong)

/-- 'laws.FnExactSettleEmergency': WHATEVER THE INPUT: true; the input reads as it did. -/
def fnExactSettleEmergencySpec : ChangeSpec := { name := "fnExactSettleEmergency", fn := fun _ => fun
  | [d1, d2, d3, d4, d5] => { results := [.lit (.bool true)], args := [d1, d2, d3, d4, d5] }
  | _ => none }
def fnExactSettleEmergencyRow : OpenClaim := { program := "ytalgdejblgkjjaa", sum := "bdfff356a02e51ecd2645c91ae5a49ea93bfab9939167ecc5dcb5edca01c4731", func := "loop.example/g00594/laws.FnExactSettleEmergency", spec := "fnExactSettleEmergency", unfollowed := true, recurses := true, apart := false }
def FnExactSettleEmergencySaid : Prop := fnExactSettleEmergencyRow.holds Try.pinned (OpenSpec.ofChange fnExactSettleEmergencySpec)

/-- ITS FALSE NEIGHBOUR: 'it returns false'. Refute it at one input. -/
def fnExactSettleEmergencyWrong : ChangeSpec := { name := "fnExactSettleEmergency", fn := fun _ => fun
  | [d1, d2, d3, d4, d5] => { results := [.lit (.bool false)], args := [d1, d2, d3, d4, d5] }
  | _ => none }
def FnExactSettleEmergencyWrongFalsely : Prop := fnExactSettleEmergencyRow.holds Try.pinned (OpenSpec.ofChange fnExactSettleEmergencyWrong)

/- THE SECOND FORM. 'bulk': how many values and letters a reading holds, each counted each time it is reached (what is shared counts as often as it is met; a slice's spare places count too). A statement '..UptoSaid' is the law's where the arguments, and the package variables that the reading takes, are together of bulk at most 1048576: NARROWER than '..Said'. Prove '..Said' where nothing that the law and all that it calls make is longer than what came in: it says more and counts as full. Else prove '..UptoSaid'. A law counts once. -/
mutual
def uptoBulk {H : Type} : DataW H → Nat
  | .lit (.string bytes) => bytes.length + 1
  | .lit _ => 1
  | .nil => 1
  | .ptr d => uptoBulk d + 1
  | .slice elems spare => uptoBulkAll elems + uptoBulkAll spare + 1
  | .agg parts => uptoBulkAll parts + 1
  | .iface _ d => uptoBulk d + 1
  | .map entries => uptoBulkEntries entries + 1
  | .held _ => 1
def uptoBulkAll {H : Type} : List (DataW H) → Nat
  | [] => 0
  | d :: r => uptoBulk d + uptoBulkAll r
def uptoBulkEntries {H : Type} : List (Lit × DataW H) → Nat
  | [] => 0
  | x :: r => uptoBulkEntry x + uptoBulkEntries r
def uptoBulkEntry {H : Type} : Lit × DataW H → Nat
  | (.string bytes, d) => bytes.length + uptoBulk d + 1
  | (_, d) => uptoBulk d + 1
 end
def uptoSmall : (H : Type) → List (DataW H) → Bool := fun _ ds => decide (uptoBulkAll ds ≤ 1048576)
def OpenSpec.upto (s : _root_.Go.ChangeSpec) : _root_.Go.OpenSpec := { _root_.Go.OpenSpec.ofChange s with cond := some uptoSmall }

/-- 'laws.FnExactCountKind', WHERE WHAT IT READS IS OF BULK AT MOST 1048576: true; the input reads as it did. -/
def fnExactCountKindUptoRow : OpenClaim := { program := "ytalgdejblgkjjaa", sum := "bdfff356a02e51ecd2645c91ae5a49ea93bfab9939167ecc5dcb5edca01c4731", func := "loop.example/g00594/laws.FnExactCountKind", spec := "fnExactCountKind", recurses := true, loops := true, apart := false, narrowed := true }
def FnExactCountKindUptoSaid : Prop := fnExactCountKindUptoRow.holds Try.pinned (OpenSpec.upto fnExactCountKindSpec)

/-- 'laws.FnExactLastTick', WHERE WHAT IT READS IS OF BULK AT MOST 1048576: true; the input reads as it did. -/
def fnExactLastTickUptoRow : OpenClaim := { program := "ytalgdejblgkjjaa", sum := "bdfff356a02e51ecd2645c91ae5a49ea93bfab9939167ecc5dcb5edca01c4731", func := "loop.example/g00594/laws.FnExactLastTick", spec := "fnExactLastTick", recurses := true, loops := true, apart := false, narrowed := true }
def FnExactLastTickUptoSaid : Prop := fnExactLastTickUptoRow.holds Try.pinned (OpenSpec.upto fnExactLastTickSpec)

/-- 'laws.FnExactUseEmergency', WHERE WHAT IT READS IS OF BULK AT MOST 1048576: true; the input reads as it did. -/
def fnExactUseEmergencyUptoRow : OpenClaim := { program := "ytalgdejblgkjjaa", sum := "bdfff356a02e51ecd2645c91ae5a49ea93bfab9939167ecc5dcb5edca01c4731", func := "loop.example/g00594/laws.FnExactUseEmergency", spec := "fnExactUseEmergency", unfollowed := true, recurses := true, apart := false, narrowed := true }
def FnExactUseEmergencyUptoSaid : Prop := fnExactUseEmergencyUptoRow.holds Try.pinned (OpenSpec.upto fnExactUseEmergencySpec)

/-- 'laws.FnExactSettleEmergency', WHERE WHAT IT READS IS OF BULK AT MOST 1048576: true; the input reads as it did. -/
def fnExactSettleEmergencyUptoRow : OpenClaim := { program := "ytalgdejblgkjjaa", sum := "bdfff356a02e51ecd2645c91ae5a49ea93bfab9939167ecc5dcb5edca01c4731", func := "loop.example/g00594/laws.FnExactSettleEmergency", spec := "fnExactSettleEmergency", unfollowed := true, recurses := true, apart := false, narrowed := true }
def FnExactSettleEmergencyUptoSaid : Prop := fnExactSettleEmergencyUptoRow.holds Try.pinned (OpenSpec.upto fnExactSettleEmergencySpec)

end Rows
end Go.Proofs.Ytalgdejblgkjjaa
