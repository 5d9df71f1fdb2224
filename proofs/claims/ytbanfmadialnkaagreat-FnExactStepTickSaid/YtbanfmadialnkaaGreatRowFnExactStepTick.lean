/- Whatever the arguments, the law returns true, and each argument reads as it did: no condition. -/
import Derived.Test.YtbanfmadialnkaaGreatRows
import Derived.Test.YtbanfmadialnkaaGreatBase
import Derived.Test.YtbanfmadialnkaaGreatJoint
import Derived.Test.YtbanfmadialnkaaGreatPureFnExactStepTick
import Derived.WalkKit
import Derived.ProofKit
import Derived.OpenShut
import Derived.ShutString
import Derived.ChangeOld
import Derived.Below
import Derived.SizedLaws
namespace Go.Proofs.YtbanfmadialnkaaGreat.fnExactStepTick
open Go.ChangeShapes Go.WideShapes Go.ChangeAt Go.RowKit Go.Proofs.YtbanfmadialnkaaGreat.Eng
set_option linter.unusedVariables false
theorem own : ownKnob Tryz.prog.godebug = none := by kernel_rfl
theorem laidOut : laidOutB Tryz.prog = true := by kernel_rfl
set_option maxRecDepth 100000
theorem lifted (os : Os) (started : os.Started) (H : Type) (enc : TypeId × Value → H) :
    ReturnsInHanded {} Tryz.checked os 5 .any (Rows.fnExactStepTickSpec.pre6 enc Tryz.prog Tryz.f5 Rows.fnExactStepTickRow.domain false) (Rows.fnExactStepTickSpec.post enc Tryz.prog Tryz.f5 false true false false) := by
  refine returnsInHanded_of_change_sized (C := Tryz.checked) own started (by kernel_rfl) Tryz.func5
    (ChangeSpec.witness6 (enc := enc) (C := Tryz.checked) false ⟨#[], #[.agg #[.int .i64 0, .slice none 0 0, .slice none 0 0, .slice none 0 0, .slice none 0 0, .int .i64 0, .slice none 0 0, .slice none 0 0, .slice none 0 0, .slice none 0 0, .int .i64 0, .slice none 0 0, .slice none 0 0, .slice none 0 0, .slice none 0 0, .slice none 0 0, .slice none 0 0, .int .i64 0, .slice none 0 0, .slice none 0 0], .int .i64 0], []⟩ 8 (by kernel_rfl) (by kernel_rfl) (by kernel_rfl) (by kernel_rfl)) ?_
  intro W base args ds gs before XZ hW acm acn _
  have Sq : ∀ (j : Nat) t v, Tryz.f5.params[j]? = some t → args[j]? = some v → Value.okWide Tryz.prog W .any base t v := XZ
  have XN := hW
  obtain ⟨p, q, XM, hV, rfl, mq, kA⟩ := hW
  have hA : DataW.TrodAll enc Tryz.prog W 0 (fun _ => true) true Tryz.f5.params.toList args.toList ds p := XM
  rw [Tryz.params5] at hA Sq
  obtain ⟨v0, vs0, d0, ds0, p0, q0, cz, rfl, rfl, h0, r0⟩ := trodAll_cons hA
  obtain ⟨v1, vs1, d1, ds1, p1, q1, rfl, rfl, rfl, h1, r1⟩ := trodAll_cons r0
  obtain ⟨rfl, rfl, rfl⟩ := trodAll_nil r1
  obtain rfl : args = #[v0, v1] := by cases args; simp_all
  obtain ⟨rfl, rfl⟩ := trodVars_none hV
  have Zw : ∀ x ∈ p0, x.block < W.heap.size := by obtain ⟨m, hm⟩ := h0; exact DataW.trod_lt m _ _ _ hm
  obtain ⟨u0, W0, S0⟩ := Ci RH (L := [42, 3, 28, 29, 30, 31, 32, 33, 34, 35, 38, 39, 40, 22, 23, 24, 25, 26, 155, 4, 157, 194, 160, 200, 202, 36, 164, 209, 249, 152, 282, 284, 286, 153, 289, 72, 147, 150, 343, 357, 148, 376, 374, 372]) (by kernel_rfl) (t := 42) (by decide) h0 (Sq 0 42 v0 rfl rfl)
  have Zx : ∀ x ∈ p1, x.block < W.heap.size := by obtain ⟨m, hm⟩ := h1; exact DataW.trod_lt m _ _ _ hm
  obtain ⟨u1, W1, S1⟩ := Ci RH (L := [42, 3, 28, 29, 30, 31, 32, 33, 34, 35, 38, 39, 40, 22, 23, 24, 25, 26, 155, 4, 157, 194, 160, 200, 202, 36, 164, 209, 249, 152, 282, 284, 286, 153, 289, 72, 147, 150, 343, 357, 148, 376, 374, 372]) (by kernel_rfl) (t := 3) (by decide) h1 (Sq 1 3 v1 rfl rfl)
  have h := Eng.VI u0 W0 u1 W1
  refine (CB sound (f := 5) Tryz.func5 (tb := 4) rfl rfl rfl rfl h (w := W) (args := #[v0, v1]) ⟨S0, S1, trivial⟩).mono fun e W' ⟨he, RV⟩ => ?_
  subst he
  exact ⟨_, rfl, _, _, _, [], _, [], XN, trodAll_mk1 (shut_bool Tryz.underlying4 _), (trodAll_cons_mk (Below.trod laidOut (by kernel_rfl) (of_decide_eq_true (by kernel_rfl)) h0 RV Zw) (trodAll_cons_mk (Below.trod laidOut (by kernel_rfl) (of_decide_eq_true (by kernel_rfl)) h1 RV Zx) trodAll_mk0)), rfl, RV.frame _, fun h => by cases h⟩
theorem Em {a b : Bool} (h1 : a = true) (h2 : b = true) : (a && b) = true := by rw [h1, h2]; rfl
theorem j0 : (Rows.fnExactStepTickRow.wf (OpenSpec.ofChange Rows.fnExactStepTickSpec)) = true := by kernel_rfl
theorem j1 : (laidOutB Tryz.pinned.checked.prog) = true := joint.j1
theorem j2 : (mapsRowed Tryz.pinned.checked.prog) = true := joint.j2
theorem j3 : (Tryz.f5.params.all (Tryz.pinned.checked.prog.readableRec ·)) = true := by kernel_rfl
theorem j4 : (namedTie Tryz.pinned.checked.prog Rows.fnExactStepTickRow.named Rows.fnExactStepTickSpec.vars) = true := by kernel_rfl
theorem j5 : ((Rows.fnExactStepTickRow.stops == [])) = true := by kernel_rfl
theorem j6 : ((Tryz.pinned.checked.prog.stops == [])) = true := joint.j6
theorem j7 : ((Rows.fnExactStepTickRow.knobs == [])) = true := by kernel_rfl
theorem j8 : ((Tryz.pinned.checked.prog.stopKnobs == [])) = true := joint.j8
theorem j9 : ((Rows.fnExactStepTickRow.inPlace == Tryz.pinned.checked.prog.inPlace 5)) = true := by kernel_rfl
theorem YR : ((Rows.fnExactStepTickRow.unfollowed == Tryz.pinned.checked.prog.unfollowed 5)) = true := by kernel_rfl
theorem YS : ((Rows.fnExactStepTickRow.recurses == Tryz.pinned.checked.prog.recurses 5)) = true := by kernel_rfl
theorem YT : ((Rows.fnExactStepTickRow.named == Tryz.pinned.checked.prog.varsNamed 5)) = true := by kernel_rfl
theorem YU : ((Rows.fnExactStepTickRow.maps == (Tryz.f5.params.toList ++ Rows.fnExactStepTickSpec.plain.varTypes Tryz.pinned.checked.prog).any (Tryz.pinned.checked.prog.mapsRec ·))) = true := by kernel_rfl
theorem YV : ((Rows.fnExactStepTickRow.ifaces == (Tryz.f5.params.toList ++ Rows.fnExactStepTickSpec.plain.varTypes Tryz.pinned.checked.prog).any (Tryz.pinned.checked.prog.ifacesRec ·))) = true := by kernel_rfl
theorem YW : ((Rows.fnExactStepTickRow.mapsOut == Tryz.pinned.checked.prog.mapsAmong Tryz.f5.resultTypes.toList)) = true := by kernel_rfl
theorem YX : ((Rows.fnExactStepTickRow.loops == (Tryz.f5.params.toList ++ Rows.fnExactStepTickSpec.plain.varTypes Tryz.pinned.checked.prog).any (Tryz.pinned.checked.prog.loopsFrom ·))) = true := by kernel_rfl
theorem YY : ((Rows.fnExactStepTickRow.wideKeys == (Tryz.f5.params.toList ++ Rows.fnExactStepTickSpec.plain.varTypes Tryz.pinned.checked.prog ++ Tryz.f5.resultTypes.toList).any (Tryz.pinned.checked.prog.wideKeysFrom ·))) = true := by kernel_rfl
theorem YZ : (Rows.fnExactStepTickSpec.vars.all (Tryz.pinned.checked.prog.varReadable ·)) = true := by kernel_rfl
theorem Za : (Tryz.f5.resultTypes.all (fun t => Tryz.pinned.checked.prog.readableRec t && decide (t < Tryz.pinned.checked.prog.types.size))) = true := by kernel_rfl
theorem Zb : ((Rows.fnExactStepTickRow.ifacesOut == Tryz.f5.resultTypes.toList.any (Tryz.pinned.checked.prog.ifacesRec ·))) = true := by kernel_rfl
theorem Zc : ((Rows.fnExactStepTickRow.loopsOut == Tryz.f5.resultTypes.toList.any (Tryz.pinned.checked.prog.loopsFrom ·))) = true := by kernel_rfl
theorem SA : ((Rows.fnExactStepTickRow.plainKeys == Tryz.pinned.checked.prog.plainKeys)) = true := joint.SA
theorem Zd : (Rows.fnExactStepTickRow.shortTexts.isNone) = true := by kernel_rfl
theorem SC : (Tryz.pinned.checked.prog.stopsHeard) = true := joint.SC
theorem SD : (Tryz.pinned.checked.prog.mayEnter) = true := joint.SD
theorem SE : ((Rows.fnExactStepTickRow.lifted == Tryz.pinned.checked.prog.liftsFinal)) = true := joint.SE
theorem SF : ((Tryz.pinned.checked.prog.make == some Rows.fnExactStepTickRow.make)) = true := joint.SF
theorem Ze : ((Rows.fnExactStepTickRow.kinds == (if Rows.fnExactStepTickRow.domain.isEmpty then [] else Tryz.f5.params.toList.map fun t => match Tryz.pinned.checked.prog.underlying t with | some (.int k) => some k | _ => none))) = true := by kernel_rfl
theorem Zf : ((Rows.fnExactStepTickRow.pinned == Rows.fnExactStepTickRow.pinnedBy)) = true := by kernel_rfl
theorem Zg : ((Rows.fnExactStepTickRow.veiled == (Tryz.f5.params.toList ++ Rows.fnExactStepTickSpec.plain.varTypes Tryz.pinned.checked.prog ++ Tryz.f5.resultTypes.toList).any (Tryz.pinned.checked.prog.veiledRec ·))) = true := by kernel_rfl
theorem Zh : (Rows.fnExactStepTickRow.veiledFits Tryz.pinned.checked.prog Tryz.f5.params.toList (Tryz.f5.params.toList ++ Rows.fnExactStepTickSpec.plain.varTypes Tryz.pinned.checked.prog ++ Tryz.f5.resultTypes.toList)) = true := by kernel_rfl
theorem closed : joinedFacts Tryz.pinned.checked.prog 5 Tryz.f5 Rows.fnExactStepTickSpec Rows.fnExactStepTickRow = true := by unfold joinedFacts; exact (Em (Em (Em (Em (Em (Em (Em (Em (Em (Em (Em (Em (Em (Em (Em (Em (Em (Em (Em (Em (Em (Em (Em (Em (Em (Em (Em (Em (Em (Em (Em j0 j1) j2) j3) j4) j5) j6) j7) j8) j9) YR) YS) YT) YU) YV) YW) YX) YY) YZ) Za) Zb) Zc) SA) Zd) SC) SD) SE) SF) Ze) Zf) Zg) Zh)
theorem named : Tryz.pinned.checked.prog.funcNamed Rows.fnExactStepTickRow.func = some 5 := by kernel_rfl
theorem instO : Tryz.f5.isInstance Tryz.pinned.checked.prog Rows.fnExactStepTickRow.origin Rows.fnExactStepTickRow.targs := of_decide_eq_true (by kernel_rfl)
theorem ack : Tryz.f5.isWrapper Tryz.pinned.checked.prog Rows.fnExactStepTickRow.wrapper Rows.fnExactStepTickRow.mainSum := by unfold Func.isWrapper; rw [if_neg (of_decide_eq_false (by kernel_rfl))]; exact ⟨rfl, rfl⟩
theorem over : Rows.fnExactStepTickRow.holds Tryz.pinned (OpenSpec.ofChange Rows.fnExactStepTickSpec) :=
  OpenClaim.holds_of_wide 5 Tryz.f5 rfl rfl rfl rfl rfl rfl rfl ⟨rfl, rfl, rfl, rfl, rfl⟩ rfl rfl rfl rfl rfl named Tryz.func5 closed instO ack
    (fun os started H enc _ => lifted os started H enc)
theorem proved : Rows.FnExactStepTickSaid := over
#print axioms proved
end Go.Proofs.YtbanfmadialnkaaGreat.fnExactStepTick
namespace Go.Proofs.YtbanfmadialnkaaGreat
/-- The row, under a short name, for the claim. -/
theorem fnExactStepTick_holds : Rows.FnExactStepTickSaid := fnExactStepTick.proved
end Go.Proofs.YtbanfmadialnkaaGreat
