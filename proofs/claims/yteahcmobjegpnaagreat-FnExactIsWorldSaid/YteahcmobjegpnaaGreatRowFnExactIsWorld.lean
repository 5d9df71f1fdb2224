/- Whatever the arguments, the law returns true, and each argument reads as it did: no condition. -/
import Derived.Test.YteahcmobjegpnaaGreatRows
import Derived.Test.YteahcmobjegpnaaGreatBase
import Derived.Test.YteahcmobjegpnaaGreatJoint
import Derived.Test.YteahcmobjegpnaaGreatPureFnExactIsWorld
import Derived.WalkKit
import Derived.ProofKit
import Derived.OpenShut
import Derived.ShutString
import Derived.ChangeOld
import Derived.Below
import Derived.SizedLaws
namespace Go.Proofs.YteahcmobjegpnaaGreat.fnExactIsWorld
open Go.ChangeShapes Go.WideShapes Go.ChangeAt Go.RowKit Go.Proofs.YteahcmobjegpnaaGreat.Eng
set_option linter.unusedVariables false
theorem own : ownKnob Tryz.prog.godebug = none := by kernel_rfl
theorem laidOut : laidOutB Tryz.prog = true := by kernel_rfl
set_option maxRecDepth 100000
theorem lifted (os : Os) (started : os.Started) (H : Type) (enc : TypeId × Value → H) :
    ReturnsInHanded {} Tryz.checked os 3 .any (Rows.fnExactIsWorldSpec.pre6 enc Tryz.prog Tryz.f3 Rows.fnExactIsWorldRow.domain false) (Rows.fnExactIsWorldSpec.post enc Tryz.prog Tryz.f3 false true false false) := by
  refine returnsInHanded_of_change_sized (C := Tryz.checked) own started (by kernel_rfl) Tryz.func3
    (ChangeSpec.witness6 (enc := enc) (C := Tryz.checked) false ⟨#[], #[.agg #[.int .i64 0, .slice none 0 0, .slice none 0 0, .slice none 0 0, .slice none 0 0, .int .i64 0, .slice none 0 0, .slice none 0 0, .slice none 0 0, .slice none 0 0, .int .i64 0, .slice none 0 0, .slice none 0 0, .slice none 0 0, .slice none 0 0, .slice none 0 0, .slice none 0 0, .int .i64 0, .slice none 0 0, .slice none 0 0]], []⟩ 8 (by kernel_rfl) (by kernel_rfl) (by kernel_rfl) (by kernel_rfl)) ?_
  intro W base args ds gs before hval0 hW hcnd hsz0 _
  have hval : ∀ (j : Nat) t v, Tryz.f3.params[j]? = some t → args[j]? = some v → Value.okWide Tryz.prog W .any base t v := hval0
  have hW' := hW
  obtain ⟨p, q, hA0, hV, rfl, hfz, hnd⟩ := hW
  have hA : DataW.TrodAll enc Tryz.prog W 0 (fun _ => true) true Tryz.f3.params.toList args.toList ds p := hA0
  rw [Tryz.params3] at hA hval
  obtain ⟨v0, vs0, d0, ds0, p0, q0, hargs, rfl, rfl, h0, r0⟩ := trodAll_cons hA
  obtain ⟨rfl, rfl, rfl⟩ := trodAll_nil r0
  obtain rfl : args = #[v0] := by cases args; simp_all
  obtain ⟨rfl, rfl⟩ := trodVars_none hV
  have lt0 : ∀ x ∈ p0, x.block < W.heap.size := by obtain ⟨m, hm⟩ := h0; exact DataW.trod_lt m _ _ _ hm
  obtain ⟨u0, W0, S0⟩ := arg_open tabOk (L := [42, 3, 28, 29, 30, 31, 32, 33, 34, 35, 38, 39, 40, 22, 23, 24, 25, 26, 135, 4, 137, 190, 140, 195, 197, 36, 144, 203, 235, 132, 259, 261, 263, 133, 266, 201, 127, 130, 299, 315, 128, 331, 329, 327]) (by kernel_rfl) (t := 42) (by decide) h0 (hval 0 42 v0 rfl rfl)
  have h := Eng.FnExactIsWorld_pure u0 W0
  refine (law_calls sound (f := 3) Tryz.func3 (tb := 4) rfl rfl rfl rfl h (w := W) (args := #[v0]) ⟨S0, trivial⟩).mono fun e W' ⟨he, bel⟩ => ?_
  subst he
  exact ⟨_, rfl, _, _, _, [], _, [], hW', trodAll_mk1 (shut_bool Tryz.underlying4 _), (trodAll_cons_mk (Below.trod laidOut (by kernel_rfl) (of_decide_eq_true (by kernel_rfl)) h0 bel lt0) trodAll_mk0), rfl, bel.frame _, fun h => by cases h⟩
theorem andI {a b : Bool} (h1 : a = true) (h2 : b = true) : (a && b) = true := by rw [h1, h2]; rfl
theorem j0 : (Rows.fnExactIsWorldRow.wf (OpenSpec.ofChange Rows.fnExactIsWorldSpec)) = true := by kernel_rfl
theorem j1 : (laidOutB Tryz.pinned.checked.prog) = true := joint.j1
theorem j2 : (mapsRowed Tryz.pinned.checked.prog) = true := joint.j2
theorem j3 : (Tryz.f3.params.all (Tryz.pinned.checked.prog.readableRec ·)) = true := by kernel_rfl
theorem j4 : (namedTie Tryz.pinned.checked.prog Rows.fnExactIsWorldRow.named Rows.fnExactIsWorldSpec.vars) = true := by kernel_rfl
theorem j5 : ((Rows.fnExactIsWorldRow.stops == [])) = true := by kernel_rfl
theorem j6 : ((Tryz.pinned.checked.prog.stops == [])) = true := joint.j6
theorem j7 : ((Rows.fnExactIsWorldRow.knobs == [])) = true := by kernel_rfl
theorem j8 : ((Tryz.pinned.checked.prog.stopKnobs == [])) = true := joint.j8
theorem j9 : ((Rows.fnExactIsWorldRow.inPlace == Tryz.pinned.checked.prog.inPlace 3)) = true := by kernel_rfl
theorem j10 : ((Rows.fnExactIsWorldRow.unfollowed == Tryz.pinned.checked.prog.unfollowed 3)) = true := by kernel_rfl
theorem j11 : ((Rows.fnExactIsWorldRow.recurses == Tryz.pinned.checked.prog.recurses 3)) = true := by kernel_rfl
theorem j12 : ((Rows.fnExactIsWorldRow.named == Tryz.pinned.checked.prog.varsNamed 3)) = true := by kernel_rfl
theorem j13 : ((Rows.fnExactIsWorldRow.maps == (Tryz.f3.params.toList ++ Rows.fnExactIsWorldSpec.plain.varTypes Tryz.pinned.checked.prog).any (Tryz.pinned.checked.prog.mapsRec ·))) = true := by kernel_rfl
theorem j14 : ((Rows.fnExactIsWorldRow.ifaces == (Tryz.f3.params.toList ++ Rows.fnExactIsWorldSpec.plain.varTypes Tryz.pinned.checked.prog).any (Tryz.pinned.checked.prog.ifacesRec ·))) = true := by kernel_rfl
theorem j15 : ((Rows.fnExactIsWorldRow.mapsOut == Tryz.pinned.checked.prog.mapsAmong Tryz.f3.resultTypes.toList)) = true := by kernel_rfl
theorem j16 : ((Rows.fnExactIsWorldRow.loops == (Tryz.f3.params.toList ++ Rows.fnExactIsWorldSpec.plain.varTypes Tryz.pinned.checked.prog).any (Tryz.pinned.checked.prog.loopsFrom ·))) = true := by kernel_rfl
theorem j17 : ((Rows.fnExactIsWorldRow.wideKeys == (Tryz.f3.params.toList ++ Rows.fnExactIsWorldSpec.plain.varTypes Tryz.pinned.checked.prog ++ Tryz.f3.resultTypes.toList).any (Tryz.pinned.checked.prog.wideKeysFrom ·))) = true := by kernel_rfl
theorem j18 : (Rows.fnExactIsWorldSpec.vars.all (Tryz.pinned.checked.prog.varReadable ·)) = true := by kernel_rfl
theorem j19 : (Tryz.f3.resultTypes.all (fun t => Tryz.pinned.checked.prog.readableRec t && decide (t < Tryz.pinned.checked.prog.types.size))) = true := by kernel_rfl
theorem j20 : ((Rows.fnExactIsWorldRow.ifacesOut == Tryz.f3.resultTypes.toList.any (Tryz.pinned.checked.prog.ifacesRec ·))) = true := by kernel_rfl
theorem j21 : ((Rows.fnExactIsWorldRow.loopsOut == Tryz.f3.resultTypes.toList.any (Tryz.pinned.checked.prog.loopsFrom ·))) = true := by kernel_rfl
theorem j22 : ((Rows.fnExactIsWorldRow.plainKeys == Tryz.pinned.checked.prog.plainKeys)) = true := joint.j22
theorem j23 : (Rows.fnExactIsWorldRow.shortTexts.isNone) = true := by kernel_rfl
theorem j24 : (Tryz.pinned.checked.prog.stopsHeard) = true := joint.j24
theorem j25 : (Tryz.pinned.checked.prog.mayEnter) = true := joint.j25
theorem j26 : ((Rows.fnExactIsWorldRow.lifted == Tryz.pinned.checked.prog.liftsFinal)) = true := joint.j26
theorem j27 : ((Tryz.pinned.checked.prog.make == some Rows.fnExactIsWorldRow.make)) = true := joint.j27
theorem j28 : ((Rows.fnExactIsWorldRow.kinds == (if Rows.fnExactIsWorldRow.domain.isEmpty then [] else Tryz.f3.params.toList.map fun t => match Tryz.pinned.checked.prog.underlying t with | some (.int k) => some k | _ => none))) = true := by kernel_rfl
theorem j29 : ((Rows.fnExactIsWorldRow.pinned == Rows.fnExactIsWorldRow.pinnedBy)) = true := by kernel_rfl
theorem j30 : ((Rows.fnExactIsWorldRow.veiled == (Tryz.f3.params.toList ++ Rows.fnExactIsWorldSpec.plain.varTypes Tryz.pinned.checked.prog ++ Tryz.f3.resultTypes.toList).any (Tryz.pinned.checked.prog.veiledRec ·))) = true := by kernel_rfl
theorem j31 : (Rows.fnExactIsWorldRow.veiledFits Tryz.pinned.checked.prog Tryz.f3.params.toList (Tryz.f3.params.toList ++ Rows.fnExactIsWorldSpec.plain.varTypes Tryz.pinned.checked.prog ++ Tryz.f3.resultTypes.toList)) = true := by kernel_rfl
theorem closed : joinedFacts Tryz.pinned.checked.prog 3 Tryz.f3 Rows.fnExactIsWorldSpec Rows.fnExactIsWorldRow = true := by unfold joinedFacts; exact (andI (andI (andI (andI (andI (andI (andI (andI (andI (andI (andI (andI (andI (andI (andI (andI (andI (andI (andI (andI (andI (andI (andI (andI (andI (andI (andI (andI (andI (andI (andI j0 j1) j2) j3) j4) j5) j6) j7) j8) j9) j10) j11) j12) j13) j14) j15) j16) j17) j18) j19) j20) j21) j22) j23) j24) j25) j26) j27) j28) j29) j30) j31)
theorem named : Tryz.pinned.checked.prog.funcNamed Rows.fnExactIsWorldRow.func = some 3 := by kernel_rfl
theorem instO : Tryz.f3.isInstance Tryz.pinned.checked.prog Rows.fnExactIsWorldRow.origin Rows.fnExactIsWorldRow.targs := of_decide_eq_true (by kernel_rfl)
theorem wrapO : Tryz.f3.isWrapper Tryz.pinned.checked.prog Rows.fnExactIsWorldRow.wrapper Rows.fnExactIsWorldRow.mainSum := by unfold Func.isWrapper; rw [if_neg (of_decide_eq_false (by kernel_rfl))]; exact ⟨rfl, rfl⟩
theorem over : Rows.fnExactIsWorldRow.holds Tryz.pinned (OpenSpec.ofChange Rows.fnExactIsWorldSpec) :=
  OpenClaim.holds_of_wide 3 Tryz.f3 rfl rfl rfl rfl rfl rfl rfl ⟨rfl, rfl, rfl, rfl, rfl⟩ rfl rfl rfl rfl rfl named Tryz.func3 closed instO wrapO
    (fun os started H enc _ => lifted os started H enc)
theorem proved : Rows.FnExactIsWorldSaid := over
#print axioms proved
end Go.Proofs.YteahcmobjegpnaaGreat.fnExactIsWorld
namespace Go.Proofs.YteahcmobjegpnaaGreat
/-- The row, under a short name, for the claim. -/
theorem fnExactIsWorld_holds : Rows.FnExactIsWorldSaid := fnExactIsWorld.proved
end Go.Proofs.YteahcmobjegpnaaGreat
