/- Facts of the whole program that every row asks for. Written by wip/bin/row2.py. -/
import Derived.Test.YtaghmjcfaplkiaaGreatRows
import Derived.WalkKit
import Derived.ProofKit
import Derived.OpenShut
import Derived.ShutString
import Derived.ChangeOld
import Derived.Below
import Derived.SizedLaws
namespace Go.Proofs.YtaghmjcfaplkiaaGreat.joint
open Go.ChangeShapes Go.WideShapes Go.ChangeAt Go.RowKit
set_option maxRecDepth 100000
theorem j1 : (laidOutB Tryz.pinned.checked.prog) = true := by kernel_rfl
theorem j2 : (mapsRowed Tryz.pinned.checked.prog) = true := by kernel_rfl
theorem j6 : ((Tryz.pinned.checked.prog.stops == [])) = true := by kernel_rfl
theorem j8 : ((Tryz.pinned.checked.prog.stopKnobs == [])) = true := by kernel_rfl
theorem Xg : ((Rows.fnExactStepAskRow.plainKeys == Tryz.pinned.checked.prog.plainKeys)) = true := by kernel_rfl
theorem Xh : (Tryz.pinned.checked.prog.stopsHeard) = true := by kernel_rfl
theorem Xi : (Tryz.pinned.checked.prog.mayEnter) = true := by kernel_rfl
theorem Xj : ((Rows.fnExactStepAskRow.lifted == Tryz.pinned.checked.prog.liftsFinal)) = true := by kernel_rfl
theorem Xk : ((Tryz.pinned.checked.prog.make == some Rows.fnExactStepAskRow.make)) = true := by kernel_rfl
end Go.Proofs.YtaghmjcfaplkiaaGreat.joint
