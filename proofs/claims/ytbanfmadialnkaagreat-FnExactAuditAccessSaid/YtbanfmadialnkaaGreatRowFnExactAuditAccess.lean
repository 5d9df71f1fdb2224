/- Whatever the arguments, the law returns true, and each argument reads as it did: no condition. -/
import Derived.Test.YtbanfmadialnkaaGreatRows
import Derived.Test.YtbanfmadialnkaaGreatBase
import Derived.Test.YtbanfmadialnkaaGreatJoint
import Derived.Test.YtbanfmadialnkaaGreatPureFnExactAuditAccess
import Derived.WalkKit
import Derived.ProofKit
import Derived.OpenShut
import Derived.ShutString
import Derived.ChangeOld
import Derived.Below
import Derived.SizedLaws
namespace Go.Proofs.YtbanfmadialnkaaGreat.fnExactAuditAccess
open Go.ChangeShapes Go.WideShapes Go.ChangeAt Go.RowKit Go.Proofs.YtbanfmadialnkaaGreat.Eng
set_option linter.unusedVariables false
theorem own : ownKnob Tryz.prog.godebug = none := by kernel_rfl
theorem laidOut : laidOutB Tryz.prog = true := by kernel_rfl
set_option maxRecDepth 100000
theorem lifted (os : Os) (started : os.Started) (H : Type) (enc : TypeId × Value → H) :
    ReturnsInHanded {} Tryz.checked os 4 .any (Rows.fnExactAuditAccessSpec.pre6 enc Tryz.prog Tryz.f4 Rows.fnExactAuditAccessRow.domain false) (Rows.fnExactAuditAccessSpec.post enc Tryz.prog Tryz.f4 false true false false) := by
  refine returnsInHanded_of_change_sized (C := Tryz.checked) own started (by kernel_rfl) Tryz.func4
    (ChangeSpec.witness6 (enc := enc) (C := Tryz.checked) false ⟨#[], #[.agg #[.int .i64 0, .slice none 0 0, .slice none 0 0, .slice none 0 0, .slice none 0 0, .int .i64 0, .slice none 0 0, .slice none 0 0, .slice none 0 0, .slice none 0 0, .int .i64 0, .slice none 0 0, .slice none 0 0, .slice none 0 0, .slice none 0 0, .slice none 0 0, .slice none 0 0, .int .i64 0, .slice none 0 0, .slice none 0 0]], []⟩ 8 (by kernel_rfl) (by kernel_rfl) (by kernel_rfl) (by kernel_rfl)) ?_
  intro W base args ds gs before Xo hW acj acm _
  have Tp : ∀ (j : Nat) t v, Tryz.f4.params[j]? = some t → args[j]? = some v → Value.okWide Tryz.prog W .any base t v := Xo
  have WZ := hW
  obtain ⟨p, q, WY, hV, rfl, mq, kA⟩ := hW
  have hA : DataW.TrodAll enc Tryz.prog W 0 (fun _ => true) true Tryz.f4.params.toList args.toList ds p := WY
  rw [Tryz.params4] at hA Tp
  obtain ⟨v0, vs0, d0, ds0, p0, q0, cz, rfl, rfl, h0, r0⟩ := trodAll_cons hA
  obtain ⟨rfl, rfl, rfl⟩ := trodAll_nil r0
  obtain rfl : args = #[v0] := by cases args; simp_all
  obtain ⟨rfl, rfl⟩ := trodVars_none hV
  have YT : ∀ x ∈ p0, x.block < W.heap.size := by obtain ⟨m, hm⟩ := h0; exact DataW.trod_lt m _ _ _ hm
  obtain ⟨u0, W0, S0⟩ := Ci SK (L := [42, 3, 28, 29, 30, 31, 32, 33, 34, 35, 38, 39, 40, 22, 23, 24, 25, 26, 155, 4, 157, 194, 160, 200, 202, 36, 164, 209, 249, 152, 282, 284, 286, 153, 289, 72, 147, 150, 343, 357, 148, 376, 374, 372]) (by kernel_rfl) (t := 42) (by decide) h0 (Tp 0 42 v0 rfl rfl)
  have h := Eng.Vn u0 W0
  refine (CB sound (f := 4) Tryz.func4 (tb := 4) rfl rfl rfl rfl h (w := W) (args := #[v0]) ⟨S0, trivial⟩).mono fun e W' ⟨he, SW⟩ => ?_
  subst he
  exact ⟨_, rfl, _, _, _, [], _, [], WZ, trodAll_mk1 (shut_bool Tryz.underlying4 _), (trodAll_cons_mk (Below.trod laidOut (by kernel_rfl) (of_decide_eq_true (by kernel_rfl)) h0 SW YT) trodAll_mk0), rfl, SW.frame _, fun h => by cases h⟩
theorem Ef {a b : Bool} (h1 : a = true) (h2 : b = true) : (a && b) = true := by rw [h1, h2]; rfl
theorem j0 : (Rows.fnExactAuditAccessRow.wf (OpenSpec.ofChange Rows.fnExactAuditAccessSpec)) = true := by kernel_rfl
theorem j1 : (laidOutB Tryz.pinned.checked.prog) = true := joint.j1
theorem j2 : (mapsRowed Tryz.pinned.checked.prog) = true := joint.j2
theorem j3 : (Tryz.f4.params.all (Tryz.pinned.checked.prog.readableRec ·)) = true := by kernel_rfl
theorem j4 : (namedTie Tryz.pinned.checked.prog Rows.fnExactAuditAccessRow.named Rows.fnExactAuditAccessSpec.vars) = true := by kernel_rfl
theorem j5 : ((Rows.fnExactAuditAccessRow.stops == [])) = true := by kernel_rfl
theorem j6 : ((Tryz.pinned.checked.prog.stops == [])) = true := joint.j6
theorem j7 : ((Rows.fnExactAuditAccessRow.knobs == [])) = true := by kernel_rfl
theorem j8 : ((Tryz.pinned.checked.prog.stopKnobs == [])) = true := joint.j8
theorem j9 : ((Rows.fnExactAuditAccessRow.inPlace == Tryz.pinned.checked.prog.inPlace 4)) = true := by kernel_rfl
theorem Ys : ((Rows.fnExactAuditAccessRow.unfollowed == Tryz.pinned.checked.prog.unfollowed 4)) = true := by kernel_rfl
theorem Yt : ((Rows.fnExactAuditAccessRow.recurses == Tryz.pinned.checked.prog.recurses 4)) = true := by kernel_rfl
theorem Yu : ((Rows.fnExactAuditAccessRow.named == Tryz.pinned.checked.prog.varsNamed 4)) = true := by kernel_rfl
theorem Yv : ((Rows.fnExactAuditAccessRow.maps == (Tryz.f4.params.toList ++ Rows.fnExactAuditAccessSpec.plain.varTypes Tryz.pinned.checked.prog).any (Tryz.pinned.checked.prog.mapsRec ·))) = true := by kernel_rfl
theorem Yw : ((Rows.fnExactAuditAccessRow.ifaces == (Tryz.f4.params.toList ++ Rows.fnExactAuditAccessSpec.plain.varTypes Tryz.pinned.checked.prog).any (Tryz.pinned.checked.prog.ifacesRec ·))) = true := by kernel_rfl
theorem Yx : ((Rows.fnExactAuditAccessRow.mapsOut == Tryz.pinned.checked.prog.mapsAmong Tryz.f4.resultTypes.toList)) = true := by kernel_rfl
theorem Yy : ((Rows.fnExactAuditAccessRow.loops == (Tryz.f4.params.toList ++ Rows.fnExactAuditAccessSpec.plain.varTypes Tryz.pinned.checked.prog).any (Tryz.pinned.checked.prog.loopsFrom ·))) = true := by kernel_rfl
theorem Yz : ((Rows.fnExactAuditAccessRow.wideKeys == (Tryz.f4.params.toList ++ Rows.fnExactAuditAccessSpec.plain.varTypes Tryz.pinned.checked.prog ++ Tryz.f4.resultTypes.toList).any (Tryz.pinned.checked.prog.wideKeysFrom ·))) = true := by kernel_rfl
theorem YA : (Rows.fnExactAuditAccessSpec.vars.all (Tryz.pinned.checked.prog.varReadable ·)) = true := by kernel_rfl
theorem YB : (Tryz.f4.resultTypes.all (fun t => Tryz.pinned.checked.prog.readableRec t && decide (t < Tryz.pinned.checked.prog.types.size))) = true := by kernel_rfl
theorem YC : ((Rows.fnExactAuditAccessRow.ifacesOut == Tryz.f4.resultTypes.toList.any (Tryz.pinned.checked.prog.ifacesRec ·))) = true := by kernel_rfl
theorem YD : ((Rows.fnExactAuditAccessRow.loopsOut == Tryz.f4.resultTypes.toList.any (Tryz.pinned.checked.prog.loopsFrom ·))) = true := by kernel_rfl
theorem RW : ((Rows.fnExactAuditAccessRow.plainKeys == Tryz.pinned.checked.prog.plainKeys)) = true := joint.RW
theorem YE : (Rows.fnExactAuditAccessRow.shortTexts.isNone) = true := by kernel_rfl
theorem RX : (Tryz.pinned.checked.prog.stopsHeard) = true := joint.RX
theorem RY : (Tryz.pinned.checked.prog.mayEnter) = true := joint.RY
theorem RZ : ((Rows.fnExactAuditAccessRow.lifted == Tryz.pinned.checked.prog.liftsFinal)) = true := joint.RZ
theorem Sa : ((Tryz.pinned.checked.prog.make == some Rows.fnExactAuditAccessRow.make)) = true := joint.Sa
theorem YF : ((Rows.fnExactAuditAccessRow.kinds == (if Rows.fnExactAuditAccessRow.domain.isEmpty then [] else Tryz.f4.params.toList.map fun t => match Tryz.pinned.checked.prog.underlying t with | some (.int k) => some k | _ => none))) = true := by kernel_rfl
theorem YG : ((Rows.fnExactAuditAccessRow.pinned == Rows.fnExactAuditAccessRow.pinnedBy)) = true := by kernel_rfl
theorem YH : ((Rows.fnExactAuditAccessRow.veiled == (Tryz.f4.params.toList ++ Rows.fnExactAuditAccessSpec.plain.varTypes Tryz.pinned.checked.prog ++ Tryz.f4.resultTypes.toList).any (Tryz.pinned.checked.prog.veiledRec ·))) = true := by kernel_rfl
theorem YI : (Rows.fnExactAuditAccessRow.veiledFits Tryz.pinned.checked.prog Tryz.f4.params.toList (Tryz.f4.params.toList ++ Rows.fnExactAuditAccessSpec.plain.varTypes Tryz.pinned.checked.prog ++ Tryz.f4.resultTypes.toList)) = true := by kernel_rfl
theorem closed : joinedFacts Tryz.pinned.checked.prog 4 Tryz.f4 Rows.fnExactAuditAccessSpec Rows.fnExactAuditAccessRow = true := by unfold joinedFacts; exact (Ef (Ef (Ef (Ef (Ef (Ef (Ef (Ef (Ef (Ef (Ef (Ef (Ef (Ef (Ef (Ef (Ef (Ef (Ef (Ef (Ef (Ef (Ef (Ef (Ef (Ef (Ef (Ef (Ef (Ef (Ef j0 j1) j2) j3) j4) j5) j6) j7) j8) j9) Ys) Yt) Yu) Yv) Yw) Yx) Yy) Yz) YA) YB) YC) YD) RW) YE) RX) RY) RZ) Sa) YF) YG) YH) YI)
theorem named : Tryz.pinned.checked.prog.funcNamed Rows.fnExactAuditAccessRow.func = some 4 := by kernel_rfl
theorem instO : Tryz.f4.isInstance Tryz.pinned.checked.prog Rows.fnExactAuditAccessRow.origin Rows.fnExactAuditAccessRow.targs := of_decide_eq_true (by kernel_rfl)
theorem ach : Tryz.f4.isWrapper Tryz.pinned.checked.prog Rows.fnExactAuditAccessRow.wrapper Rows.fnExactAuditAccessRow.mainSum := by unfold Func.isWrapper; rw [if_neg (of_decide_eq_false (by kernel_rfl))]; exact ⟨rfl, rfl⟩
theorem over : Rows.fnExactAuditAccessRow.holds Tryz.pinned (OpenSpec.ofChange Rows.fnExactAuditAccessSpec) :=
  OpenClaim.holds_of_wide 4 Tryz.f4 rfl rfl rfl rfl rfl rfl rfl ⟨rfl, rfl, rfl, rfl, rfl⟩ rfl rfl rfl rfl rfl named Tryz.func4 closed instO ach
    (fun os started H enc _ => lifted os started H enc)
theorem proved : Rows.FnExactAuditAccessSaid := over
#print axioms proved
end Go.Proofs.YtbanfmadialnkaaGreat.fnExactAuditAccess
namespace Go.Proofs.YtbanfmadialnkaaGreat
/-- The row, under a short name, for the claim. -/
theorem fnExactAuditAccess_holds : Rows.FnExactAuditAccessSaid := fnExactAuditAccess.proved
end Go.Proofs.YtbanfmadialnkaaGreat
