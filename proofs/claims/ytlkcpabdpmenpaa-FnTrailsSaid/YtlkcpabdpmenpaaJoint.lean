/- Facts of the whole program that every row asks for. Written by wip/bin/row2.py. -/
import Derived.Test.YtlkcpabdpmenpaaRows
import Derived.WalkKit
import Derived.ProofKit
import Derived.OpenShut
import Derived.ShutString
import Derived.ChangeOld
import Derived.Below
import Derived.SizedLaws
namespace Go.Proofs.Ytlkcpabdpmenpaa.joint
open Go.ChangeShapes Go.WideShapes Go.ChangeAt Go.RowKit
set_option maxRecDepth 100000
theorem j1 : (laidOutB Try.pinned.checked.prog) = true := by kernel_rfl
theorem j2 : (mapsRowed Try.pinned.checked.prog) = true := by kernel_rfl
theorem j6 : ((Try.pinned.checked.prog.stops == [])) = true := by kernel_rfl
theorem j8 : ((Try.pinned.checked.prog.stopKnobs == [])) = true := by kernel_rfl
theorem j22 : ((Rows.fnTrailsRow.plainKeys == Try.pinned.checked.prog.plainKeys)) = true := by kernel_rfl
theorem j24 : (Try.pinned.checked.prog.stopsHeard) = true := by kernel_rfl
theorem j25 : (Try.pinned.checked.prog.mayEnter) = true := by kernel_rfl
theorem j26 : ((Rows.fnTrailsRow.lifted == Try.pinned.checked.prog.liftsFinal)) = true := by kernel_rfl
theorem j27 : ((Try.pinned.checked.prog.make == some Rows.fnTrailsRow.make)) = true := by kernel_rfl
end Go.Proofs.Ytlkcpabdpmenpaa.joint
