/- Whatever the arguments, the law returns true, and each argument reads as it did: no condition. -/
import Derived.Test.YtaghmjcfaplkiaaGreatRows
import Derived.Test.YtaghmjcfaplkiaaGreatBase
import Derived.Test.YtaghmjcfaplkiaaGreatJoint
import Derived.Test.YtaghmjcfaplkiaaGreatPureFnExactStepCase
import Derived.WalkKit
import Derived.ProofKit
import Derived.OpenShut
import Derived.ShutString
import Derived.ChangeOld
import Derived.Below
import Derived.SizedLaws
namespace Go.Proofs.YtaghmjcfaplkiaaGreat.fnExactStepCase
open Go.ChangeShapes Go.WideShapes Go.ChangeAt Go.RowKit Go.Proofs.YtaghmjcfaplkiaaGreat.Eng
set_option linter.unusedVariables false
theorem own : ownKnob Tryz.prog.godebug = none := by kernel_rfl
theorem laidOut : laidOutB Tryz.prog = true := by kernel_rfl
set_option maxRecDepth 100000
theorem lifted (os : Os) (started : os.Started) (H : Type) (enc : TypeId × Value → H) :
    ReturnsInHanded {} Tryz.checked os 3 .any (Rows.fnExactStepCaseSpec.pre6 enc Tryz.prog Tryz.f3 Rows.fnExactStepCaseRow.domain false) (Rows.fnExactStepCaseSpec.post enc Tryz.prog Tryz.f3 false true false false) := by
  refine returnsInHanded_of_change_sized (C := Tryz.checked) own started (by kernel_rfl) Tryz.func3
    (ChangeSpec.witness6 (enc := enc) (C := Tryz.checked) false ⟨#[], #[.agg #[.int .i64 0, .slice none 0 0, .slice none 0 0, .slice none 0 0, .slice none 0 0, .int .i64 0, .slice none 0 0, .slice none 0 0, .slice none 0 0, .slice none 0 0, .int .i64 0, .slice none 0 0, .slice none 0 0, .slice none 0 0, .slice none 0 0, .slice none 0 0, .slice none 0 0, .int .i64 0, .slice none 0 0, .slice none 0 0], .int .i64 0, .int .i64 0, .int .i64 0], []⟩ 8 (by kernel_rfl) (by kernel_rfl) (by kernel_rfl) (by kernel_rfl)) ?_
  intro W base args ds gs before Wy hW ZZ aaa _
  have Oc : ∀ (j : Nat) t v, Tryz.f3.params[j]? = some t → args[j]? = some v → Value.okWide Tryz.prog W .any base t v := Wy
  have Wl := hW
  obtain ⟨p, q, Wk, hV, rfl, nA, lE⟩ := hW
  have hA : DataW.TrodAll enc Tryz.prog W 0 (fun _ => true) true Tryz.f3.params.toList args.toList ds p := Wk
  rw [Tryz.params3] at hA Oc
  obtain ⟨v0, vs0, d0, ZV, p0, q0, cu, rfl, rfl, h0, r0⟩ := trodAll_cons hA
  obtain ⟨v1, vs1, d1, ZW, p1, q1, rfl, rfl, rfl, h1, r1⟩ := trodAll_cons r0
  obtain ⟨v2, vs2, d2, ZX, p2, q2, rfl, rfl, rfl, h2, r2⟩ := trodAll_cons r1
  obtain ⟨v3, vs3, d3, ZY, p3, q3, rfl, rfl, rfl, h3, r3⟩ := trodAll_cons r2
  obtain ⟨rfl, rfl, rfl⟩ := trodAll_nil r3
  obtain rfl : args = #[v0, v1, v2, v3] := by cases args; simp_all
  obtain ⟨rfl, rfl⟩ := trodVars_none hV
  have XE : ∀ x ∈ p0, x.block < W.heap.size := by obtain ⟨m, hm⟩ := h0; exact DataW.trod_lt m _ _ _ hm
  obtain ⟨u0, W0, S0⟩ := Ey Nu (L := [42, 3, 28, 29, 30, 31, 32, 33, 34, 35, 38, 39, 40, 22, 23, 24, 25, 26, 149, 4, 151, 184, 154, 190, 194, 36, 157, 201, 238, 146, 258, 262, 264, 147, 267, 69, 141, 144, 305, 330, 142, 350, 348, 346]) (by kernel_rfl) (t := 42) (by decide) h0 (Oc 0 42 v0 rfl rfl)
  have XF : ∀ x ∈ p1, x.block < W.heap.size := by obtain ⟨m, hm⟩ := h1; exact DataW.trod_lt m _ _ _ hm
  obtain ⟨u1, W1, S1⟩ := Ey Nu (L := [42, 3, 28, 29, 30, 31, 32, 33, 34, 35, 38, 39, 40, 22, 23, 24, 25, 26, 149, 4, 151, 184, 154, 190, 194, 36, 157, 201, 238, 146, 258, 262, 264, 147, 267, 69, 141, 144, 305, 330, 142, 350, 348, 346]) (by kernel_rfl) (t := 3) (by decide) h1 (Oc 1 3 v1 rfl rfl)
  have XG : ∀ x ∈ p2, x.block < W.heap.size := by obtain ⟨m, hm⟩ := h2; exact DataW.trod_lt m _ _ _ hm
  obtain ⟨u2, W2, S2⟩ := Ey Nu (L := [42, 3, 28, 29, 30, 31, 32, 33, 34, 35, 38, 39, 40, 22, 23, 24, 25, 26, 149, 4, 151, 184, 154, 190, 194, 36, 157, 201, 238, 146, 258, 262, 264, 147, 267, 69, 141, 144, 305, 330, 142, 350, 348, 346]) (by kernel_rfl) (t := 3) (by decide) h2 (Oc 2 3 v2 rfl rfl)
  have XH : ∀ x ∈ p3, x.block < W.heap.size := by obtain ⟨m, hm⟩ := h3; exact DataW.trod_lt m _ _ _ hm
  obtain ⟨u3, W3, S3⟩ := Ey Nu (L := [42, 3, 28, 29, 30, 31, 32, 33, 34, 35, 38, 39, 40, 22, 23, 24, 25, 26, 149, 4, 151, 184, 154, 190, 194, 36, 157, 201, 238, 146, 258, 262, 264, 147, 267, 69, 141, 144, 305, 330, 142, 350, 348, 346]) (by kernel_rfl) (t := 3) (by decide) h3 (Oc 3 3 v3 rfl rfl)
  have h := Eng.Uq u0 W0 u1 W1 u2 W2 u3 W3
  refine (ES sound (f := 3) Tryz.func3 (tb := 4) rfl rfl rfl rfl rfl h (w := W) (args := #[v0, v1, v2, v3]) ⟨S0, S1, S2, S3, trivial⟩).mono fun e W' ⟨he, NA⟩ => ?_
  subst he
  exact ⟨_, rfl, _, _, _, [], _, [], Wl, trodAll_mk1 (shut_bool Tryz.underlying4 _), (trodAll_cons_mk (Below.trod laidOut (by kernel_rfl) (of_decide_eq_true (by kernel_rfl)) h0 NA XE) (trodAll_cons_mk (Below.trod laidOut (by kernel_rfl) (of_decide_eq_true (by kernel_rfl)) h1 NA XF) (trodAll_cons_mk (Below.trod laidOut (by kernel_rfl) (of_decide_eq_true (by kernel_rfl)) h2 NA XG) (trodAll_cons_mk (Below.trod laidOut (by kernel_rfl) (of_decide_eq_true (by kernel_rfl)) h3 NA XH) trodAll_mk0)))), rfl, NA.frame _, fun h => by cases h⟩
theorem ru {a b : Bool} (h1 : a = true) (h2 : b = true) : (a && b) = true := by rw [h1, h2]; rfl
theorem j0 : (Rows.fnExactStepCaseRow.wf (OpenSpec.ofChange Rows.fnExactStepCaseSpec)) = true := by kernel_rfl
theorem j1 : (laidOutB Tryz.pinned.checked.prog) = true := joint.j1
theorem j2 : (mapsRowed Tryz.pinned.checked.prog) = true := joint.j2
theorem j3 : (Tryz.f3.params.all (Tryz.pinned.checked.prog.readableRec ·)) = true := by kernel_rfl
theorem j4 : (namedTie Tryz.pinned.checked.prog Rows.fnExactStepCaseRow.named Rows.fnExactStepCaseSpec.vars) = true := by kernel_rfl
theorem j5 : ((Rows.fnExactStepCaseRow.stops == [])) = true := by kernel_rfl
theorem j6 : ((Tryz.pinned.checked.prog.stops == [])) = true := joint.j6
theorem j7 : ((Rows.fnExactStepCaseRow.knobs == [])) = true := by kernel_rfl
theorem j8 : ((Tryz.pinned.checked.prog.stopKnobs == [])) = true := joint.j8
theorem j9 : ((Rows.fnExactStepCaseRow.inPlace == Tryz.pinned.checked.prog.inPlace 3)) = true := by kernel_rfl
theorem WZ : ((Rows.fnExactStepCaseRow.unfollowed == Tryz.pinned.checked.prog.unfollowed 3)) = true := by kernel_rfl
theorem Xa : ((Rows.fnExactStepCaseRow.recurses == Tryz.pinned.checked.prog.recurses 3)) = true := by kernel_rfl
theorem Xb : ((Rows.fnExactStepCaseRow.named == Tryz.pinned.checked.prog.varsNamed 3)) = true := by kernel_rfl
theorem Xc : ((Rows.fnExactStepCaseRow.maps == (Tryz.f3.params.toList ++ Rows.fnExactStepCaseSpec.plain.varTypes Tryz.pinned.checked.prog).any (Tryz.pinned.checked.prog.mapsRec ·))) = true := by kernel_rfl
theorem Xd : ((Rows.fnExactStepCaseRow.ifaces == (Tryz.f3.params.toList ++ Rows.fnExactStepCaseSpec.plain.varTypes Tryz.pinned.checked.prog).any (Tryz.pinned.checked.prog.ifacesRec ·))) = true := by kernel_rfl
theorem Xe : ((Rows.fnExactStepCaseRow.mapsOut == Tryz.pinned.checked.prog.mapsAmong Tryz.f3.resultTypes.toList)) = true := by kernel_rfl
theorem Xf : ((Rows.fnExactStepCaseRow.loops == (Tryz.f3.params.toList ++ Rows.fnExactStepCaseSpec.plain.varTypes Tryz.pinned.checked.prog).any (Tryz.pinned.checked.prog.loopsFrom ·))) = true := by kernel_rfl
theorem Xg : ((Rows.fnExactStepCaseRow.wideKeys == (Tryz.f3.params.toList ++ Rows.fnExactStepCaseSpec.plain.varTypes Tryz.pinned.checked.prog ++ Tryz.f3.resultTypes.toList).any (Tryz.pinned.checked.prog.wideKeysFrom ·))) = true := by kernel_rfl
theorem Xh : (Rows.fnExactStepCaseSpec.vars.all (Tryz.pinned.checked.prog.varReadable ·)) = true := by kernel_rfl
theorem Xi : (Tryz.f3.resultTypes.all (fun t => Tryz.pinned.checked.prog.readableRec t && decide (t < Tryz.pinned.checked.prog.types.size))) = true := by kernel_rfl
theorem Xj : ((Rows.fnExactStepCaseRow.ifacesOut == Tryz.f3.resultTypes.toList.any (Tryz.pinned.checked.prog.ifacesRec ·))) = true := by kernel_rfl
theorem Xk : ((Rows.fnExactStepCaseRow.loopsOut == Tryz.f3.resultTypes.toList.any (Tryz.pinned.checked.prog.loopsFrom ·))) = true := by kernel_rfl
theorem Sc : ((Rows.fnExactStepCaseRow.plainKeys == Tryz.pinned.checked.prog.plainKeys)) = true := joint.Sc
theorem Xl : (Rows.fnExactStepCaseRow.shortTexts.isNone) = true := by kernel_rfl
theorem Sd : (Tryz.pinned.checked.prog.stopsHeard) = true := joint.Sd
theorem Se : (Tryz.pinned.checked.prog.mayEnter) = true := joint.Se
theorem Sf : ((Rows.fnExactStepCaseRow.lifted == Tryz.pinned.checked.prog.liftsFinal)) = true := joint.Sf
theorem Sg : ((Tryz.pinned.checked.prog.make == some Rows.fnExactStepCaseRow.make)) = true := joint.Sg
theorem Xm : ((Rows.fnExactStepCaseRow.kinds == (if Rows.fnExactStepCaseRow.domain.isEmpty then [] else Tryz.f3.params.toList.map fun t => match Tryz.pinned.checked.prog.underlying t with | some (.int k) => some k | _ => none))) = true := by kernel_rfl
theorem Xn : ((Rows.fnExactStepCaseRow.pinned == Rows.fnExactStepCaseRow.pinnedBy)) = true := by kernel_rfl
theorem Xo : ((Rows.fnExactStepCaseRow.veiled == (Tryz.f3.params.toList ++ Rows.fnExactStepCaseSpec.plain.varTypes Tryz.pinned.checked.prog ++ Tryz.f3.resultTypes.toList).any (Tryz.pinned.checked.prog.veiledRec ·))) = true := by kernel_rfl
theorem Xp : (Rows.fnExactStepCaseRow.veiledFits Tryz.pinned.checked.prog Tryz.f3.params.toList (Tryz.f3.params.toList ++ Rows.fnExactStepCaseSpec.plain.varTypes Tryz.pinned.checked.prog ++ Tryz.f3.resultTypes.toList)) = true := by kernel_rfl
theorem closed : joinedFacts Tryz.pinned.checked.prog 3 Tryz.f3 Rows.fnExactStepCaseSpec Rows.fnExactStepCaseRow = true := by unfold joinedFacts; exact (ru (ru (ru (ru (ru (ru (ru (ru (ru (ru (ru (ru (ru (ru (ru (ru (ru (ru (ru (ru (ru (ru (ru (ru (ru (ru (ru (ru (ru (ru (ru j0 j1) j2) j3) j4) j5) j6) j7) j8) j9) WZ) Xa) Xb) Xc) Xd) Xe) Xf) Xg) Xh) Xi) Xj) Xk) Sc) Xl) Sd) Se) Sf) Sg) Xm) Xn) Xo) Xp)
theorem named : Tryz.pinned.checked.prog.funcNamed Rows.fnExactStepCaseRow.func = some 3 := by kernel_rfl
theorem instO : Tryz.f3.isInstance Tryz.pinned.checked.prog Rows.fnExactStepCaseRow.origin Rows.fnExactStepCaseRow.targs := of_decide_eq_true (by kernel_rfl)
theorem ZT : Tryz.f3.isWrapper Tryz.pinned.checked.prog Rows.fnExactStepCaseRow.wrapper Rows.fnExactStepCaseRow.mainSum := by unfold Func.isWrapper; rw [if_neg (of_decide_eq_false (by kernel_rfl))]; exact ⟨rfl, rfl⟩
theorem over : Rows.fnExactStepCaseRow.holds Tryz.pinned (OpenSpec.ofChange Rows.fnExactStepCaseSpec) :=
  OpenClaim.holds_of_wide 3 Tryz.f3 rfl rfl rfl rfl rfl rfl rfl ⟨rfl, rfl, rfl, rfl, rfl⟩ rfl rfl rfl rfl rfl named Tryz.func3 closed instO ZT
    (fun os started H enc _ => lifted os started H enc)
theorem proved : Rows.FnExactStepCaseSaid := over
#print axioms proved
end Go.Proofs.YtaghmjcfaplkiaaGreat.fnExactStepCase
namespace Go.Proofs.YtaghmjcfaplkiaaGreat
/-- The row, under a short name, for the claim. -/
theorem fnExactStepCase_holds : Rows.FnExactStepCaseSaid := fnExactStepCase.proved
end Go.Proofs.YtaghmjcfaplkiaaGreat
