/- Whatever the arguments, the law returns true, and each argument reads as it did: no condition. -/
import Derived.Test.YtlkcpabdpmenpaaRows
import Derived.Test.YtlkcpabdpmenpaaBase
import Derived.Test.YtlkcpabdpmenpaaJoint
import Derived.Test.YtlkcpabdpmenpaaPureFnTrails
import Derived.WalkKit
import Derived.ProofKit
import Derived.OpenShut
import Derived.ShutString
import Derived.ChangeOld
import Derived.Below
import Derived.SizedLaws
namespace Go.Proofs.Ytlkcpabdpmenpaa.fnTrails
open Go.ChangeShapes Go.WideShapes Go.ChangeAt Go.RowKit Go.Proofs.Ytlkcpabdpmenpaa.Eng
set_option linter.unusedVariables false
theorem own : ownKnob Try.prog.godebug = none := by kernel_rfl
theorem laidOut : laidOutB Try.prog = true := by kernel_rfl
set_option maxRecDepth 100000
theorem lifted (os : Os) (started : os.Started) (H : Type) (enc : TypeId × Value → H) :
    ReturnsInHanded {} Try.checked os 3 .any (Rows.fnTrailsSpec.pre6 enc Try.prog Try.f3 Rows.fnTrailsRow.domain false) (Rows.fnTrailsSpec.post enc Try.prog Try.f3 false true false false) := by
  refine returnsInHanded_of_change_sized (C := Try.checked) own started (by kernel_rfl) Try.func3
    (ChangeSpec.witness6 (enc := enc) (C := Try.checked) false ⟨#[], #[.slice none 0 0], []⟩ 8 (by kernel_rfl) (by kernel_rfl) (by kernel_rfl) (by kernel_rfl)) ?_
  intro W base args ds gs before hval0 hW hcnd hsz0 _
  have hval : ∀ (j : Nat) t v, Try.f3.params[j]? = some t → args[j]? = some v → Value.okWide Try.prog W .any base t v := hval0
  have hW' := hW
  obtain ⟨p, q, hA0, hV, rfl, hfz, hnd⟩ := hW
  have hA : DataW.TrodAll enc Try.prog W 0 (fun _ => true) true Try.f3.params.toList args.toList ds p := hA0
  rw [Try.params3] at hA hval
  obtain ⟨v0, vs0, d0, ds0, p0, q0, hargs, rfl, rfl, h0, r0⟩ := trodAll_cons hA
  obtain ⟨rfl, rfl, rfl⟩ := trodAll_nil r0
  obtain rfl : args = #[v0] := by cases args; simp_all
  obtain ⟨rfl, rfl⟩ := trodVars_none hV
  have lt0 : ∀ x ∈ p0, x.block < W.heap.size := by obtain ⟨m, hm⟩ := h0; exact DataW.trod_lt m _ _ _ hm
  obtain ⟨u0, W0, S0⟩ := arg_open tabOk (L := [22, 5]) (by kernel_rfl) (t := 22) (by decide) h0 (hval 0 22 v0 rfl rfl)
  have h := Eng.FnTrails_pure u0 W0
  refine (law_calls sound (f := 3) Try.func3 (tb := 4) rfl rfl rfl rfl rfl h (w := W) (args := #[v0]) ⟨S0, trivial⟩).mono fun e W' ⟨he, bel⟩ => ?_
  subst he
  exact ⟨_, rfl, _, _, _, [], _, [], hW', trodAll_mk1 (shut_bool Try.underlying4 _), (trodAll_cons_mk (Below.trod laidOut (by kernel_rfl) (of_decide_eq_true (by kernel_rfl)) h0 bel lt0) trodAll_mk0), rfl, bel.frame _, fun h => by cases h⟩
theorem andI {a b : Bool} (h1 : a = true) (h2 : b = true) : (a && b) = true := by rw [h1, h2]; rfl
theorem j0 : (Rows.fnTrailsRow.wf (OpenSpec.ofChange Rows.fnTrailsSpec)) = true := by kernel_rfl
theorem j1 : (laidOutB Try.pinned.checked.prog) = true := joint.j1
theorem j2 : (mapsRowed Try.pinned.checked.prog) = true := joint.j2
theorem j3 : (Try.f3.params.all (Try.pinned.checked.prog.readableRec ·)) = true := by kernel_rfl
theorem j4 : (namedTie Try.pinned.checked.prog Rows.fnTrailsRow.named Rows.fnTrailsSpec.vars) = true := by kernel_rfl
theorem j5 : ((Rows.fnTrailsRow.stops == [])) = true := by kernel_rfl
theorem j6 : ((Try.pinned.checked.prog.stops == [])) = true := joint.j6
theorem j7 : ((Rows.fnTrailsRow.knobs == [])) = true := by kernel_rfl
theorem j8 : ((Try.pinned.checked.prog.stopKnobs == [])) = true := joint.j8
theorem j9 : ((Rows.fnTrailsRow.inPlace == Try.pinned.checked.prog.inPlace 3)) = true := by kernel_rfl
theorem j10 : ((Rows.fnTrailsRow.unfollowed == Try.pinned.checked.prog.unfollowed 3)) = true := by kernel_rfl
theorem j11 : ((Rows.fnTrailsRow.recurses == Try.pinned.checked.prog.recurses 3)) = true := by kernel_rfl
theorem j12 : ((Rows.fnTrailsRow.named == Try.pinned.checked.prog.varsNamed 3)) = true := by kernel_rfl
theorem j13 : ((Rows.fnTrailsRow.maps == (Try.f3.params.toList ++ Rows.fnTrailsSpec.plain.varTypes Try.pinned.checked.prog).any (Try.pinned.checked.prog.mapsRec ·))) = true := by kernel_rfl
theorem j14 : ((Rows.fnTrailsRow.ifaces == (Try.f3.params.toList ++ Rows.fnTrailsSpec.plain.varTypes Try.pinned.checked.prog).any (Try.pinned.checked.prog.ifacesRec ·))) = true := by kernel_rfl
theorem j15 : ((Rows.fnTrailsRow.mapsOut == Try.pinned.checked.prog.mapsAmong Try.f3.resultTypes.toList)) = true := by kernel_rfl
theorem j16 : ((Rows.fnTrailsRow.loops == (Try.f3.params.toList ++ Rows.fnTrailsSpec.plain.varTypes Try.pinned.checked.prog).any (Try.pinned.checked.prog.loopsFrom ·))) = true := by kernel_rfl
theorem j17 : ((Rows.fnTrailsRow.wideKeys == (Try.f3.params.toList ++ Rows.fnTrailsSpec.plain.varTypes Try.pinned.checked.prog ++ Try.f3.resultTypes.toList).any (Try.pinned.checked.prog.wideKeysFrom ·))) = true := by kernel_rfl
theorem j18 : (Rows.fnTrailsSpec.vars.all (Try.pinned.checked.prog.varReadable ·)) = true := by kernel_rfl
theorem j19 : (Try.f3.resultTypes.all (fun t => Try.pinned.checked.prog.readableRec t && decide (t < Try.pinned.checked.prog.types.size))) = true := by kernel_rfl
theorem j20 : ((Rows.fnTrailsRow.ifacesOut == Try.f3.resultTypes.toList.any (Try.pinned.checked.prog.ifacesRec ·))) = true := by kernel_rfl
theorem j21 : ((Rows.fnTrailsRow.loopsOut == Try.f3.resultTypes.toList.any (Try.pinned.checked.prog.loopsFrom ·))) = true := by kernel_rfl
theorem j22 : ((Rows.fnTrailsRow.plainKeys == Try.pinned.checked.prog.plainKeys)) = true := joint.j22
theorem j23 : (Rows.fnTrailsRow.shortTexts.isNone) = true := by kernel_rfl
theorem j24 : (Try.pinned.checked.prog.stopsHeard) = true := joint.j24
theorem j25 : (Try.pinned.checked.prog.mayEnter) = true := joint.j25
theorem j26 : ((Rows.fnTrailsRow.lifted == Try.pinned.checked.prog.liftsFinal)) = true := joint.j26
theorem j27 : ((Try.pinned.checked.prog.make == some Rows.fnTrailsRow.make)) = true := joint.j27
theorem j28 : ((Rows.fnTrailsRow.kinds == (if Rows.fnTrailsRow.domain.isEmpty then [] else Try.f3.params.toList.map fun t => match Try.pinned.checked.prog.underlying t with | some (.int k) => some k | _ => none))) = true := by kernel_rfl
theorem j29 : ((Rows.fnTrailsRow.pinned == Rows.fnTrailsRow.pinnedBy)) = true := by kernel_rfl
theorem j30 : ((Rows.fnTrailsRow.veiled == (Try.f3.params.toList ++ Rows.fnTrailsSpec.plain.varTypes Try.pinned.checked.prog ++ Try.f3.resultTypes.toList).any (Try.pinned.checked.prog.veiledRec ·))) = true := by kernel_rfl
theorem j31 : (Rows.fnTrailsRow.veiledFits Try.pinned.checked.prog Try.f3.params.toList (Try.f3.params.toList ++ Rows.fnTrailsSpec.plain.varTypes Try.pinned.checked.prog ++ Try.f3.resultTypes.toList)) = true := by kernel_rfl
theorem closed : joinedFacts Try.pinned.checked.prog 3 Try.f3 Rows.fnTrailsSpec Rows.fnTrailsRow = true := by unfold joinedFacts; exact (andI (andI (andI (andI (andI (andI (andI (andI (andI (andI (andI (andI (andI (andI (andI (andI (andI (andI (andI (andI (andI (andI (andI (andI (andI (andI (andI (andI (andI (andI (andI j0 j1) j2) j3) j4) j5) j6) j7) j8) j9) j10) j11) j12) j13) j14) j15) j16) j17) j18) j19) j20) j21) j22) j23) j24) j25) j26) j27) j28) j29) j30) j31)
theorem named : Try.pinned.checked.prog.funcNamed Rows.fnTrailsRow.func = some 3 := by kernel_rfl
theorem instO : Try.f3.isInstance Try.pinned.checked.prog Rows.fnTrailsRow.origin Rows.fnTrailsRow.targs := of_decide_eq_true (by kernel_rfl)
theorem wrapO : Try.f3.isWrapper Try.pinned.checked.prog Rows.fnTrailsRow.wrapper Rows.fnTrailsRow.mainSum := by unfold Func.isWrapper; rw [if_neg (of_decide_eq_false (by kernel_rfl))]; exact ⟨rfl, rfl⟩
theorem over : Rows.fnTrailsRow.holds Try.pinned (OpenSpec.ofChange Rows.fnTrailsSpec) :=
  OpenClaim.holds_of_wide 3 Try.f3 rfl rfl rfl rfl rfl rfl rfl ⟨rfl, rfl, rfl, rfl, rfl⟩ rfl rfl rfl rfl rfl named Try.func3 closed instO wrapO
    (fun os started H enc _ => lifted os started H enc)
theorem proved : Rows.FnTrailsSaid := over
#print axioms proved
end Go.Proofs.Ytlkcpabdpmenpaa.fnTrails
namespace Go.Proofs.Ytlkcpabdpmenpaa
/-- The row, under a short name, for the claim. -/
theorem fnTrails_holds : Rows.FnTrailsSaid := fnTrails.proved
end Go.Proofs.Ytlkcpabdpmenpaa
