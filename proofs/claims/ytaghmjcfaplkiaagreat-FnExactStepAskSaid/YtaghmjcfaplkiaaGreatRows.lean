/-
  NARROWER THAN 'FOR EVERY INPUT', by the rows' own cells (each row's printed sentence says how): FnExactStepCase: loops · FnExactStepAsk: loops.
  DERIVED. THE GIVEN ROWS OF THIS SEAT. 2 by the template 'for every input the law returns true; each argument reads behind the call as it read before'; 0 by the template 'total and deterministic' (their statements: YtaghmjcfaplkiaaGreatTotals.lean).
  GIVEN WITH THE SEED: the statements are not yours to turn. If you find one false, say at which input.
  Laid BY PROGRAM, IN A SANDBOX (cutbox-rows.mjs): the forced cells as the released guide's own fill.sh prints them over the translation d1369796bdba738c… (all of the seat's roots in one cut). By AI agents, Wed Nov 11 2026. No macro, syntax, notation, axiom, sorry.
-/
import Derived.Test.YtaghmjcfaplkiaaGreatChecked
import GoSem.Claim
import GoSem.ClaimJoined
import GoSem.ClaimMapViews
import Derived.JoinedTies
import Derived.KernelRfl
namespace Go.Proofs.YtaghmjcfaplkiaaGreat
/- THE CELL 'sum', in the pinned program and in every row, IS THE sha256 OF THE DUMP (.gsa) THAT YtaghmjcfaplkiaaGreatProg.lean LOADS. Nothing in Lean hashes anything: it is a label: what it is worth is what the hold of that sum in a sandbox is worth. -/
noncomputable def Tryz.pinned : Pinned := { name := "ytaghmjcfaplkiaagreat", sum := "d1369796bdba738cffc1cc3543c2fa8769b049ca198b220a5dedf01bde84823d", checked := Tryz.checked }
namespace Rows
def none {H : Type} : Left H := { results := [], args := [] }

/-- 'laws.FnExactStepCase': WHATEVER THE INPUT: true; the input reads as it did. -/
def fnExactStepCaseSpec : ChangeSpec := { name := "fnExactStepCase", fn := fun _ => fun
  | [d1, d2, d3, d4] => { results := [.lit (.bool true)], args := [d1, d2, d3, d4] }
  | _ => none }
def fnExactStepCaseRow : OpenClaim := { program := "ytaghmjcfaplkiaagreat", sum := "d1369796bdba738cffc1cc3543c2fa8769b049ca198b220a5dedf01bde84823d", func := "loop.example/g00594/laws.FnExactStepCase", spec := "fnExactStepCase", unfollowed := true, recurses := true, loops := true, apart := false }
def FnExactStepCaseSaid : Prop := fnExactStepCaseRow.holds Tryz.pinned (OpenSpec.ofChange fnExactStepCaseSpec)

/-- ITS FALSE NEIGHBOUR: 'it returns false'. Refute it at one input. -/
def fnExactStepCaseWrong : ChangeSpec := { name := "fnExactStepCase", fn := fun _ => fun
  | [d1, d2, d3, d4] => { results := [.lit (.bool false)], args := [d1, d2, d3, d4] }
  | _ => none }
def FnExactStepCaseWrongFalsely : Prop := fnExactStepCaseRow.holds Tryz.pinned (OpenSpec.ofChange fnExactStepCaseWrong)

/-- 'laws.FnExactStepAsk': WHATEVER THE INPUT: true; the input reads as it did. -/
def fnExactStepAskSpec : ChangeSpec := { name := "fnExactStepAsk", fn := fun _ => fun
  | [d1, d2, d3, d4, d5] => { results := [.lit (.bool true)], args := [d1, d2, d3, d4, d5] }
  | _ => none }
def fnExactStepAskRow : OpenClaim := { program := "ytaghmjcfaplkiaagreat", sum := "d1369796bdba738cffc1cc3543c2fa8769b049ca198b220a5dedf01bde84823d", func := "loop.example/g00594/laws.FnExactStepAsk", spec := "fnExactStepAsk", unfollowed := true, recurses := true, loops := true, apart := false }
def FnExactStepAskSaid : Prop := fnExactStepAskRow.holds Tryz.pinned (OpenSpec.ofChange fnExactStepAskSpec)

/-- ITS FALSE NEIGHBOUR: 'it returns false'. Refute it at one input. -/
def fnExactStepAskWrong : ChangeSpec := { name := "fnExactStepAsk", fn := fun _ => fun
  | [d1, d2, d3, d4, d5] => { results := [.lit (.bool false)], args := [d1, d2, d3, d4, d5] }
  | _ => none }
def FnExactStepAskWrongFalsely : Prop := fnExactStepAskRow.holds Tryz.pinned (OpenSpec.ofChange fnExactStepAskWrong)

/- THE SECOND FORM. 'bulk': how many values and letters a reading holds, each counted each time it is reached (what is shared counts as often as it is met; a slice's spare places count too). A statement '..UptoSaid' is the law's where the arguments, and the package variables that the reading takes, are together of bulk at most 1048576: NARROWER than '..Said'. Prove '..Said' where nothing that the law and all that it calls make is longer than what came in: it says more and counts as full. Else prove '..UptoSaid'. A law counts once. -/
mutual
def uptoBulk {H : Type} : DataW H → Nat
  | .lit (.string bytes) => bytes.length + 1
  | .lit _ => 1
  | .nil => 1
  | .ptr d => uptoBulk d + 1
  | .slice elems spare => uptoBulkAll elems + uptoBulkAll spare + 1
  | .agg parts => uptoBulkAll parts + 1
  | .iface _ d => uptoBulk d + 1
  | .map entries => uptoBulkEntries entries + 1
  | .held _ => 1
def uptoBulkAll {H : Type} : List (DataW H) → Nat
  | [] => 0
  | d :: r => uptoBulk d + uptoBulkAll r
def uptoBulkEntries {H : Type} : List (Lit × DataW H) → Nat
  | [] => 0
  | x :: r => uptoBulkEntry x + uptoBulkEntries r
def uptoBulkEntry {H : Type} : Lit × DataW H → Nat
  | (.string bytes, d) => bytes.length + uptoBulk d + 1
  | (_, d) => uptoBulk d + 1
 end
def uptoSmall : (H : Type) → List (DataW H) → Bool := fun _ ds => decide (uptoBulkAll ds ≤ 1048576)
def OpenSpec.upto (s : _root_.Go.ChangeSpec) : _root_.Go.OpenSpec := { _root_.Go.OpenSpec.ofChange s with cond := some uptoSmall }

/-- 'laws.FnExactStepCase', WHERE WHAT IT READS IS OF BULK AT MOST 1048576: true; the input reads as it did. -/
def fnExactStepCaseUptoRow : OpenClaim := { program := "ytaghmjcfaplkiaagreat", sum := "d1369796bdba738cffc1cc3543c2fa8769b049ca198b220a5dedf01bde84823d", func := "loop.example/g00594/laws.FnExactStepCase", spec := "fnExactStepCase", unfollowed := true, recurses := true, loops := true, apart := false, narrowed := true }
def FnExactStepCaseUptoSaid : Prop := fnExactStepCaseUptoRow.holds Tryz.pinned (OpenSpec.upto fnExactStepCaseSpec)

/-- 'laws.FnExactStepAsk', WHERE WHAT IT READS IS OF BULK AT MOST 1048576: true; the input reads as it did. -/
def fnExactStepAskUptoRow : OpenClaim := { program := "ytaghmjcfaplkiaagreat", sum := "d1369796bdba738cffc1cc3543c2fa8769b049ca198b220a5dedf01bde84823d", func := "loop.example/g00594/laws.FnExactStepAsk", spec := "fnExactStepAsk", unfollowed := true, recurses := true, loops := true, apart := false, narrowed := true }
def FnExactStepAskUptoSaid : Prop := fnExactStepAskUptoRow.holds Tryz.pinned (OpenSpec.upto fnExactStepAskSpec)

end Rows
end Go.Proofs.YtaghmjcfaplkiaaGreat
