/- Whatever the arguments, the law returns true, and each argument reads as it did: no condition. -/
import Derived.Test.YtbanfmadialnkaaGreatRows
import Derived.Test.YtbanfmadialnkaaGreatBase
import Derived.Test.YtbanfmadialnkaaGreatJoint
import Derived.Test.YtbanfmadialnkaaGreatPureFnExactStepSession
import Derived.WalkKit
import Derived.ProofKit
import Derived.OpenShut
import Derived.ShutString
import Derived.ChangeOld
import Derived.Below
import Derived.SizedLaws
namespace Go.Proofs.YtbanfmadialnkaaGreat.fnExactStepSession
open Go.ChangeShapes Go.WideShapes Go.ChangeAt Go.RowKit Go.Proofs.YtbanfmadialnkaaGreat.Eng
set_option linter.unusedVariables false
theorem own : ownKnob Tryz.prog.godebug = none := by kernel_rfl
theorem laidOut : laidOutB Tryz.prog = true := by kernel_rfl
set_option maxRecDepth 100000
theorem lifted (os : Os) (started : os.Started) (H : Type) (enc : TypeId × Value → H) :
    ReturnsInHanded {} Tryz.checked os 6 .any (Rows.fnExactStepSessionSpec.pre6 enc Tryz.prog Tryz.f6 Rows.fnExactStepSessionRow.domain false) (Rows.fnExactStepSessionSpec.post enc Tryz.prog Tryz.f6 false true false false) := by
  refine returnsInHanded_of_change_sized (C := Tryz.checked) own started (by kernel_rfl) Tryz.func6
    (ChangeSpec.witness6 (enc := enc) (C := Tryz.checked) false ⟨#[], #[.agg #[.int .i64 0, .slice none 0 0, .slice none 0 0, .slice none 0 0, .slice none 0 0, .int .i64 0, .slice none 0 0, .slice none 0 0, .slice none 0 0, .slice none 0 0, .int .i64 0, .slice none 0 0, .slice none 0 0, .slice none 0 0, .slice none 0 0, .slice none 0 0, .slice none 0 0, .int .i64 0, .slice none 0 0, .slice none 0 0], .int .i64 0, .int .i64 0, .agg #[.int .i64 0, .int .i64 0, .int .i64 0, .int .i64 0, .int .i64 0, .int .i64 0]], []⟩ 8 (by kernel_rfl) (by kernel_rfl) (by kernel_rfl) (by kernel_rfl)) ?_
  intro W base args ds gs before Ys hW acw acx _
  have NX : ∀ (j : Nat) t v, Tryz.f6.params[j]? = some t → args[j]? = some v → Value.okWide Tryz.prog W .any base t v := Ys
  have Yd := hW
  obtain ⟨p, q, Yc, hV, rfl, mq, kA⟩ := hW
  have hA : DataW.TrodAll enc Tryz.prog W 0 (fun _ => true) true Tryz.f6.params.toList args.toList ds p := Yc
  rw [Tryz.params6] at hA NX
  obtain ⟨v0, vs0, d0, ds0, p0, q0, cz, rfl, rfl, h0, r0⟩ := trodAll_cons hA
  obtain ⟨v1, vs1, d1, ds1, p1, q1, rfl, rfl, rfl, h1, r1⟩ := trodAll_cons r0
  obtain ⟨v2, vs2, d2, ds2, p2, q2, rfl, rfl, rfl, h2, r2⟩ := trodAll_cons r1
  obtain ⟨v3, vs3, d3, ds3, p3, q3, rfl, rfl, rfl, h3, r3⟩ := trodAll_cons r2
  obtain ⟨rfl, rfl, rfl⟩ := trodAll_nil r3
  obtain rfl : args = #[v0, v1, v2, v3] := by cases args; simp_all
  obtain ⟨rfl, rfl⟩ := trodVars_none hV
  have ZQ : ∀ x ∈ p0, x.block < W.heap.size := by obtain ⟨m, hm⟩ := h0; exact DataW.trod_lt m _ _ _ hm
  obtain ⟨u0, W0, S0⟩ := Ci Nn (L := [42, 3, 72, 28, 29, 30, 31, 32, 33, 34, 35, 38, 39, 40, 22, 23, 24, 25, 26, 155, 4, 157, 194, 160, 200, 202, 36, 164, 209, 249, 152, 282, 284, 286, 153, 289, 147, 150, 343, 357, 148, 376, 374, 372]) (by kernel_rfl) (t := 42) (by decide) h0 (NX 0 42 v0 rfl rfl)
  have ZR : ∀ x ∈ p1, x.block < W.heap.size := by obtain ⟨m, hm⟩ := h1; exact DataW.trod_lt m _ _ _ hm
  obtain ⟨u1, W1, S1⟩ := Ci Nn (L := [42, 3, 72, 28, 29, 30, 31, 32, 33, 34, 35, 38, 39, 40, 22, 23, 24, 25, 26, 155, 4, 157, 194, 160, 200, 202, 36, 164, 209, 249, 152, 282, 284, 286, 153, 289, 147, 150, 343, 357, 148, 376, 374, 372]) (by kernel_rfl) (t := 3) (by decide) h1 (NX 1 3 v1 rfl rfl)
  have ZS : ∀ x ∈ p2, x.block < W.heap.size := by obtain ⟨m, hm⟩ := h2; exact DataW.trod_lt m _ _ _ hm
  obtain ⟨u2, W2, S2⟩ := Ci Nn (L := [42, 3, 72, 28, 29, 30, 31, 32, 33, 34, 35, 38, 39, 40, 22, 23, 24, 25, 26, 155, 4, 157, 194, 160, 200, 202, 36, 164, 209, 249, 152, 282, 284, 286, 153, 289, 147, 150, 343, 357, 148, 376, 374, 372]) (by kernel_rfl) (t := 3) (by decide) h2 (NX 2 3 v2 rfl rfl)
  have ZT : ∀ x ∈ p3, x.block < W.heap.size := by obtain ⟨m, hm⟩ := h3; exact DataW.trod_lt m _ _ _ hm
  obtain ⟨u3, W3, S3⟩ := Ci Nn (L := [42, 3, 72, 28, 29, 30, 31, 32, 33, 34, 35, 38, 39, 40, 22, 23, 24, 25, 26, 155, 4, 157, 194, 160, 200, 202, 36, 164, 209, 249, 152, 282, 284, 286, 153, 289, 147, 150, 343, 357, 148, 376, 374, 372]) (by kernel_rfl) (t := 72) (by decide) h3 (NX 3 72 v3 rfl rfl)
  have h := Eng.VS u0 W0 u1 W1 u2 W2 u3 W3
  refine (CB sound (f := 6) Tryz.func6 (tb := 4) rfl rfl rfl rfl h (w := W) (args := #[v0, v1, v2, v3]) ⟨S0, S1, S2, S3, trivial⟩).mono fun e W' ⟨he, Ns⟩ => ?_
  subst he
  exact ⟨_, rfl, _, _, _, [], _, [], Yd, trodAll_mk1 (shut_bool Tryz.underlying4 _), (trodAll_cons_mk (Below.trod laidOut (by kernel_rfl) (of_decide_eq_true (by kernel_rfl)) h0 Ns ZQ) (trodAll_cons_mk (Below.trod laidOut (by kernel_rfl) (of_decide_eq_true (by kernel_rfl)) h1 Ns ZR) (trodAll_cons_mk (Below.trod laidOut (by kernel_rfl) (of_decide_eq_true (by kernel_rfl)) h2 Ns ZS) (trodAll_cons_mk (Below.trod laidOut (by kernel_rfl) (of_decide_eq_true (by kernel_rfl)) h3 Ns ZT) trodAll_mk0)))), rfl, Ns.frame _, fun h => by cases h⟩
theorem Ep {a b : Bool} (h1 : a = true) (h2 : b = true) : (a && b) = true := by rw [h1, h2]; rfl
theorem j0 : (Rows.fnExactStepSessionRow.wf (OpenSpec.ofChange Rows.fnExactStepSessionSpec)) = true := by kernel_rfl
theorem j1 : (laidOutB Tryz.pinned.checked.prog) = true := joint.j1
theorem j2 : (mapsRowed Tryz.pinned.checked.prog) = true := joint.j2
theorem j3 : (Tryz.f6.params.all (Tryz.pinned.checked.prog.readableRec ·)) = true := by kernel_rfl
theorem j4 : (namedTie Tryz.pinned.checked.prog Rows.fnExactStepSessionRow.named Rows.fnExactStepSessionSpec.vars) = true := by kernel_rfl
theorem j5 : ((Rows.fnExactStepSessionRow.stops == [])) = true := by kernel_rfl
theorem j6 : ((Tryz.pinned.checked.prog.stops == [])) = true := joint.j6
theorem j7 : ((Rows.fnExactStepSessionRow.knobs == [])) = true := by kernel_rfl
theorem j8 : ((Tryz.pinned.checked.prog.stopKnobs == [])) = true := joint.j8
theorem j9 : ((Rows.fnExactStepSessionRow.inPlace == Tryz.pinned.checked.prog.inPlace 6)) = true := by kernel_rfl
theorem Zk : ((Rows.fnExactStepSessionRow.unfollowed == Tryz.pinned.checked.prog.unfollowed 6)) = true := by kernel_rfl
theorem Zl : ((Rows.fnExactStepSessionRow.recurses == Tryz.pinned.checked.prog.recurses 6)) = true := by kernel_rfl
theorem Zm : ((Rows.fnExactStepSessionRow.named == Tryz.pinned.checked.prog.varsNamed 6)) = true := by kernel_rfl
theorem Zn : ((Rows.fnExactStepSessionRow.maps == (Tryz.f6.params.toList ++ Rows.fnExactStepSessionSpec.plain.varTypes Tryz.pinned.checked.prog).any (Tryz.pinned.checked.prog.mapsRec ·))) = true := by kernel_rfl
theorem Zo : ((Rows.fnExactStepSessionRow.ifaces == (Tryz.f6.params.toList ++ Rows.fnExactStepSessionSpec.plain.varTypes Tryz.pinned.checked.prog).any (Tryz.pinned.checked.prog.ifacesRec ·))) = true := by kernel_rfl
theorem Zp : ((Rows.fnExactStepSessionRow.mapsOut == Tryz.pinned.checked.prog.mapsAmong Tryz.f6.resultTypes.toList)) = true := by kernel_rfl
theorem Zq : ((Rows.fnExactStepSessionRow.loops == (Tryz.f6.params.toList ++ Rows.fnExactStepSessionSpec.plain.varTypes Tryz.pinned.checked.prog).any (Tryz.pinned.checked.prog.loopsFrom ·))) = true := by kernel_rfl
theorem Zr : ((Rows.fnExactStepSessionRow.wideKeys == (Tryz.f6.params.toList ++ Rows.fnExactStepSessionSpec.plain.varTypes Tryz.pinned.checked.prog ++ Tryz.f6.resultTypes.toList).any (Tryz.pinned.checked.prog.wideKeysFrom ·))) = true := by kernel_rfl
theorem Zs : (Rows.fnExactStepSessionSpec.vars.all (Tryz.pinned.checked.prog.varReadable ·)) = true := by kernel_rfl
theorem Zt : (Tryz.f6.resultTypes.all (fun t => Tryz.pinned.checked.prog.readableRec t && decide (t < Tryz.pinned.checked.prog.types.size))) = true := by kernel_rfl
theorem Zu : ((Rows.fnExactStepSessionRow.ifacesOut == Tryz.f6.resultTypes.toList.any (Tryz.pinned.checked.prog.ifacesRec ·))) = true := by kernel_rfl
theorem Zv : ((Rows.fnExactStepSessionRow.loopsOut == Tryz.f6.resultTypes.toList.any (Tryz.pinned.checked.prog.loopsFrom ·))) = true := by kernel_rfl
theorem SP : ((Rows.fnExactStepSessionRow.plainKeys == Tryz.pinned.checked.prog.plainKeys)) = true := joint.SP
theorem Zw : (Rows.fnExactStepSessionRow.shortTexts.isNone) = true := by kernel_rfl
theorem SQ : (Tryz.pinned.checked.prog.stopsHeard) = true := joint.SQ
theorem SR : (Tryz.pinned.checked.prog.mayEnter) = true := joint.SR
theorem SS : ((Rows.fnExactStepSessionRow.lifted == Tryz.pinned.checked.prog.liftsFinal)) = true := joint.SS
theorem SU : ((Tryz.pinned.checked.prog.make == some Rows.fnExactStepSessionRow.make)) = true := joint.SU
theorem Zx : ((Rows.fnExactStepSessionRow.kinds == (if Rows.fnExactStepSessionRow.domain.isEmpty then [] else Tryz.f6.params.toList.map fun t => match Tryz.pinned.checked.prog.underlying t with | some (.int k) => some k | _ => none))) = true := by kernel_rfl
theorem Zy : ((Rows.fnExactStepSessionRow.pinned == Rows.fnExactStepSessionRow.pinnedBy)) = true := by kernel_rfl
theorem Zz : ((Rows.fnExactStepSessionRow.veiled == (Tryz.f6.params.toList ++ Rows.fnExactStepSessionSpec.plain.varTypes Tryz.pinned.checked.prog ++ Tryz.f6.resultTypes.toList).any (Tryz.pinned.checked.prog.veiledRec ·))) = true := by kernel_rfl
theorem ZA : (Rows.fnExactStepSessionRow.veiledFits Tryz.pinned.checked.prog Tryz.f6.params.toList (Tryz.f6.params.toList ++ Rows.fnExactStepSessionSpec.plain.varTypes Tryz.pinned.checked.prog ++ Tryz.f6.resultTypes.toList)) = true := by kernel_rfl
theorem closed : joinedFacts Tryz.pinned.checked.prog 6 Tryz.f6 Rows.fnExactStepSessionSpec Rows.fnExactStepSessionRow = true := by unfold joinedFacts; exact (Ep (Ep (Ep (Ep (Ep (Ep (Ep (Ep (Ep (Ep (Ep (Ep (Ep (Ep (Ep (Ep (Ep (Ep (Ep (Ep (Ep (Ep (Ep (Ep (Ep (Ep (Ep (Ep (Ep (Ep (Ep j0 j1) j2) j3) j4) j5) j6) j7) j8) j9) Zk) Zl) Zm) Zn) Zo) Zp) Zq) Zr) Zs) Zt) Zu) Zv) SP) Zw) SQ) SR) SS) SU) Zx) Zy) Zz) ZA)
theorem named : Tryz.pinned.checked.prog.funcNamed Rows.fnExactStepSessionRow.func = some 6 := by kernel_rfl
theorem instO : Tryz.f6.isInstance Tryz.pinned.checked.prog Rows.fnExactStepSessionRow.origin Rows.fnExactStepSessionRow.targs := of_decide_eq_true (by kernel_rfl)
theorem acv : Tryz.f6.isWrapper Tryz.pinned.checked.prog Rows.fnExactStepSessionRow.wrapper Rows.fnExactStepSessionRow.mainSum := by unfold Func.isWrapper; rw [if_neg (of_decide_eq_false (by kernel_rfl))]; exact ⟨rfl, rfl⟩
theorem over : Rows.fnExactStepSessionRow.holds Tryz.pinned (OpenSpec.ofChange Rows.fnExactStepSessionSpec) :=
  OpenClaim.holds_of_wide 6 Tryz.f6 rfl rfl rfl rfl rfl rfl rfl ⟨rfl, rfl, rfl, rfl, rfl⟩ rfl rfl rfl rfl rfl named Tryz.func6 closed instO acv
    (fun os started H enc _ => lifted os started H enc)
theorem proved : Rows.FnExactStepSessionSaid := over
#print axioms proved
end Go.Proofs.YtbanfmadialnkaaGreat.fnExactStepSession
namespace Go.Proofs.YtbanfmadialnkaaGreat
/-- The row, under a short name, for the claim. -/
theorem fnExactStepSession_holds : Rows.FnExactStepSessionSaid := fnExactStepSession.proved
end Go.Proofs.YtbanfmadialnkaaGreat
