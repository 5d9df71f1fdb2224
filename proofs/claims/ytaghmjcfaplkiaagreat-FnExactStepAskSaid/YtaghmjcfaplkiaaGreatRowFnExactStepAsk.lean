/- Whatever the arguments, the law returns true, and each argument reads as it did: no condition. -/
import Derived.Test.YtaghmjcfaplkiaaGreatRows
import Derived.Test.YtaghmjcfaplkiaaGreatBase
import Derived.Test.YtaghmjcfaplkiaaGreatJoint
import Derived.Test.YtaghmjcfaplkiaaGreatPureFnExactStepAsk
import Derived.WalkKit
import Derived.ProofKit
import Derived.OpenShut
import Derived.ShutString
import Derived.ChangeOld
import Derived.Below
import Derived.SizedLaws
namespace Go.Proofs.YtaghmjcfaplkiaaGreat.fnExactStepAsk
open Go.ChangeShapes Go.WideShapes Go.ChangeAt Go.RowKit Go.Proofs.YtaghmjcfaplkiaaGreat.Eng
set_option linter.unusedVariables false
theorem own : ownKnob Tryz.prog.godebug = none := by kernel_rfl
theorem laidOut : laidOutB Tryz.prog = true := by kernel_rfl
set_option maxRecDepth 100000
theorem lifted (os : Os) (started : os.Started) (H : Type) (enc : TypeId × Value → H) :
    ReturnsInHanded {} Tryz.checked os 4 .any (Rows.fnExactStepAskSpec.pre6 enc Tryz.prog Tryz.f4 Rows.fnExactStepAskRow.domain false) (Rows.fnExactStepAskSpec.post enc Tryz.prog Tryz.f4 false true false false) := by
  refine returnsInHanded_of_change_sized (C := Tryz.checked) own started (by kernel_rfl) Tryz.func4
    (ChangeSpec.witness6 (enc := enc) (C := Tryz.checked) false ⟨#[], #[.agg #[.int .i64 0, .slice none 0 0, .slice none 0 0, .slice none 0 0, .slice none 0 0, .int .i64 0, .slice none 0 0, .slice none 0 0, .slice none 0 0, .slice none 0 0, .int .i64 0, .slice none 0 0, .slice none 0 0, .slice none 0 0, .slice none 0 0, .slice none 0 0, .slice none 0 0, .int .i64 0, .slice none 0 0, .slice none 0 0], .int .i64 0, .int .i64 0, .int .i64 0, .agg #[.int .i64 0, .int .i64 0, .int .i64 0, .int .i64 0, .int .i64 0, .int .i64 0]], []⟩ 8 (by kernel_rfl) (by kernel_rfl) (by kernel_rfl) (by kernel_rfl)) ?_
  intro W base args ds gs before acv hW agb agc _
  have Qz : ∀ (j : Nat) t v, Tryz.f4.params[j]? = some t → args[j]? = some v → Value.okWide Tryz.prog W .any base t v := acv
  have hW' := hW
  obtain ⟨p, q, hA0, hV, rfl, nA, lE⟩ := hW
  have hA : DataW.TrodAll enc Tryz.prog W 0 (fun _ => true) true Tryz.f4.params.toList args.toList ds p := hA0
  rw [Tryz.params4] at hA Qz
  obtain ⟨v0, vs0, d0, ds0, p0, q0, cu, rfl, rfl, h0, r0⟩ := trodAll_cons hA
  obtain ⟨v1, vs1, d1, ds1, p1, q1, rfl, rfl, rfl, h1, r1⟩ := trodAll_cons r0
  obtain ⟨v2, vs2, d2, ds2, p2, q2, rfl, rfl, rfl, h2, r2⟩ := trodAll_cons r1
  obtain ⟨v3, vs3, d3, ds3, p3, q3, rfl, rfl, rfl, h3, r3⟩ := trodAll_cons r2
  obtain ⟨v4, vs4, d4, ds4, p4, q4, rfl, rfl, rfl, h4, r4⟩ := trodAll_cons r3
  obtain ⟨rfl, rfl, rfl⟩ := trodAll_nil r4
  obtain rfl : args = #[v0, v1, v2, v3, v4] := by cases args; simp_all
  obtain ⟨rfl, rfl⟩ := trodVars_none hV
  have lt0 : ∀ x ∈ p0, x.block < W.heap.size := by obtain ⟨m, hm⟩ := h0; exact DataW.trod_lt m _ _ _ hm
  obtain ⟨u0, W0, S0⟩ := Ey Qe (L := [42, 3, 69, 28, 29, 30, 31, 32, 33, 34, 35, 38, 39, 40, 22, 23, 24, 25, 26, 149, 4, 151, 184, 154, 190, 194, 36, 157, 201, 238, 146, 258, 262, 264, 147, 267, 141, 144, 305, 330, 142, 350, 348, 346]) (by kernel_rfl) (t := 42) (by decide) h0 (Qz 0 42 v0 rfl rfl)
  have lt1 : ∀ x ∈ p1, x.block < W.heap.size := by obtain ⟨m, hm⟩ := h1; exact DataW.trod_lt m _ _ _ hm
  obtain ⟨u1, W1, S1⟩ := Ey Qe (L := [42, 3, 69, 28, 29, 30, 31, 32, 33, 34, 35, 38, 39, 40, 22, 23, 24, 25, 26, 149, 4, 151, 184, 154, 190, 194, 36, 157, 201, 238, 146, 258, 262, 264, 147, 267, 141, 144, 305, 330, 142, 350, 348, 346]) (by kernel_rfl) (t := 3) (by decide) h1 (Qz 1 3 v1 rfl rfl)
  have lt2 : ∀ x ∈ p2, x.block < W.heap.size := by obtain ⟨m, hm⟩ := h2; exact DataW.trod_lt m _ _ _ hm
  obtain ⟨u2, W2, S2⟩ := Ey Qe (L := [42, 3, 69, 28, 29, 30, 31, 32, 33, 34, 35, 38, 39, 40, 22, 23, 24, 25, 26, 149, 4, 151, 184, 154, 190, 194, 36, 157, 201, 238, 146, 258, 262, 264, 147, 267, 141, 144, 305, 330, 142, 350, 348, 346]) (by kernel_rfl) (t := 3) (by decide) h2 (Qz 2 3 v2 rfl rfl)
  have lt3 : ∀ x ∈ p3, x.block < W.heap.size := by obtain ⟨m, hm⟩ := h3; exact DataW.trod_lt m _ _ _ hm
  obtain ⟨u3, W3, S3⟩ := Ey Qe (L := [42, 3, 69, 28, 29, 30, 31, 32, 33, 34, 35, 38, 39, 40, 22, 23, 24, 25, 26, 149, 4, 151, 184, 154, 190, 194, 36, 157, 201, 238, 146, 258, 262, 264, 147, 267, 141, 144, 305, 330, 142, 350, 348, 346]) (by kernel_rfl) (t := 3) (by decide) h3 (Qz 3 3 v3 rfl rfl)
  have lt4 : ∀ x ∈ p4, x.block < W.heap.size := by obtain ⟨m, hm⟩ := h4; exact DataW.trod_lt m _ _ _ hm
  obtain ⟨u4, W4, S4⟩ := Ey Qe (L := [42, 3, 69, 28, 29, 30, 31, 32, 33, 34, 35, 38, 39, 40, 22, 23, 24, 25, 26, 149, 4, 151, 184, 154, 190, 194, 36, 157, 201, 238, 146, 258, 262, 264, 147, 267, 141, 144, 305, 330, 142, 350, 348, 346]) (by kernel_rfl) (t := 69) (by decide) h4 (Qz 4 69 v4 rfl rfl)
  have h := Eng.aaJ u0 W0 u1 W1 u2 W2 u3 W3 u4 W4
  refine (ES sound (f := 4) Tryz.func4 (tb := 4) rfl rfl rfl rfl rfl h (w := W) (args := #[v0, v1, v2, v3, v4]) ⟨S0, S1, S2, S3, S4, trivial⟩).mono fun e W' ⟨he, Qm⟩ => ?_
  subst he
  exact ⟨_, rfl, _, _, _, [], _, [], hW', trodAll_mk1 (shut_bool Tryz.underlying4 _), (trodAll_cons_mk (Below.trod laidOut (by kernel_rfl) (of_decide_eq_true (by kernel_rfl)) h0 Qm lt0) (trodAll_cons_mk (Below.trod laidOut (by kernel_rfl) (of_decide_eq_true (by kernel_rfl)) h1 Qm lt1) (trodAll_cons_mk (Below.trod laidOut (by kernel_rfl) (of_decide_eq_true (by kernel_rfl)) h2 Qm lt2) (trodAll_cons_mk (Below.trod laidOut (by kernel_rfl) (of_decide_eq_true (by kernel_rfl)) h3 Qm lt3) (trodAll_cons_mk (Below.trod laidOut (by kernel_rfl) (of_decide_eq_true (by kernel_rfl)) h4 Qm lt4) trodAll_mk0))))), rfl, Qm.frame _, fun h => by cases h⟩
theorem ru {a b : Bool} (h1 : a = true) (h2 : b = true) : (a && b) = true := by rw [h1, h2]; rfl
theorem j0 : (Rows.fnExactStepAskRow.wf (OpenSpec.ofChange Rows.fnExactStepAskSpec)) = true := by kernel_rfl
theorem j1 : (laidOutB Tryz.pinned.checked.prog) = true := joint.j1
theorem j2 : (mapsRowed Tryz.pinned.checked.prog) = true := joint.j2
theorem j3 : (Tryz.f4.params.all (Tryz.pinned.checked.prog.readableRec ·)) = true := by kernel_rfl
theorem j4 : (namedTie Tryz.pinned.checked.prog Rows.fnExactStepAskRow.named Rows.fnExactStepAskSpec.vars) = true := by kernel_rfl
theorem j5 : ((Rows.fnExactStepAskRow.stops == [])) = true := by kernel_rfl
theorem j6 : ((Tryz.pinned.checked.prog.stops == [])) = true := joint.j6
theorem j7 : ((Rows.fnExactStepAskRow.knobs == [])) = true := by kernel_rfl
theorem j8 : ((Tryz.pinned.checked.prog.stopKnobs == [])) = true := joint.j8
theorem j9 : ((Rows.fnExactStepAskRow.inPlace == Tryz.pinned.checked.prog.inPlace 4)) = true := by kernel_rfl
theorem Xf : ((Rows.fnExactStepAskRow.unfollowed == Tryz.pinned.checked.prog.unfollowed 4)) = true := by kernel_rfl
theorem Ox : ((Rows.fnExactStepAskRow.recurses == Tryz.pinned.checked.prog.recurses 4)) = true := by kernel_rfl
theorem j12 : ((Rows.fnExactStepAskRow.named == Tryz.pinned.checked.prog.varsNamed 4)) = true := by kernel_rfl
theorem j13 : ((Rows.fnExactStepAskRow.maps == (Tryz.f4.params.toList ++ Rows.fnExactStepAskSpec.plain.varTypes Tryz.pinned.checked.prog).any (Tryz.pinned.checked.prog.mapsRec ·))) = true := by kernel_rfl
theorem Pz : ((Rows.fnExactStepAskRow.ifaces == (Tryz.f4.params.toList ++ Rows.fnExactStepAskSpec.plain.varTypes Tryz.pinned.checked.prog).any (Tryz.pinned.checked.prog.ifacesRec ·))) = true := by kernel_rfl
theorem j15 : ((Rows.fnExactStepAskRow.mapsOut == Tryz.pinned.checked.prog.mapsAmong Tryz.f4.resultTypes.toList)) = true := by kernel_rfl
theorem j16 : ((Rows.fnExactStepAskRow.loops == (Tryz.f4.params.toList ++ Rows.fnExactStepAskSpec.plain.varTypes Tryz.pinned.checked.prog).any (Tryz.pinned.checked.prog.loopsFrom ·))) = true := by kernel_rfl
theorem j17 : ((Rows.fnExactStepAskRow.wideKeys == (Tryz.f4.params.toList ++ Rows.fnExactStepAskSpec.plain.varTypes Tryz.pinned.checked.prog ++ Tryz.f4.resultTypes.toList).any (Tryz.pinned.checked.prog.wideKeysFrom ·))) = true := by kernel_rfl
theorem j18 : (Rows.fnExactStepAskSpec.vars.all (Tryz.pinned.checked.prog.varReadable ·)) = true := by kernel_rfl
theorem j19 : (Tryz.f4.resultTypes.all (fun t => Tryz.pinned.checked.prog.readableRec t && decide (t < Tryz.pinned.checked.prog.types.size))) = true := by kernel_rfl
theorem j20 : ((Rows.fnExactStepAskRow.ifacesOut == Tryz.f4.resultTypes.toList.any (Tryz.pinned.checked.prog.ifacesRec ·))) = true := by kernel_rfl
theorem j21 : ((Rows.fnExactStepAskRow.loopsOut == Tryz.f4.resultTypes.toList.any (Tryz.pinned.checked.prog.loopsFrom ·))) = true := by kernel_rfl
theorem Xg : ((Rows.fnExactStepAskRow.plainKeys == Tryz.pinned.checked.prog.plainKeys)) = true := joint.Xg
theorem j23 : (Rows.fnExactStepAskRow.shortTexts.isNone) = true := by kernel_rfl
theorem Xh : (Tryz.pinned.checked.prog.stopsHeard) = true := joint.Xh
theorem Xi : (Tryz.pinned.checked.prog.mayEnter) = true := joint.Xi
theorem Xj : ((Rows.fnExactStepAskRow.lifted == Tryz.pinned.checked.prog.liftsFinal)) = true := joint.Xj
theorem Xk : ((Tryz.pinned.checked.prog.make == some Rows.fnExactStepAskRow.make)) = true := joint.Xk
theorem j28 : ((Rows.fnExactStepAskRow.kinds == (if Rows.fnExactStepAskRow.domain.isEmpty then [] else Tryz.f4.params.toList.map fun t => match Tryz.pinned.checked.prog.underlying t with | some (.int k) => some k | _ => none))) = true := by kernel_rfl
theorem j29 : ((Rows.fnExactStepAskRow.pinned == Rows.fnExactStepAskRow.pinnedBy)) = true := by kernel_rfl
theorem j30 : ((Rows.fnExactStepAskRow.veiled == (Tryz.f4.params.toList ++ Rows.fnExactStepAskSpec.plain.varTypes Tryz.pinned.checked.prog ++ Tryz.f4.resultTypes.toList).any (Tryz.pinned.checked.prog.veiledRec ·))) = true := by kernel_rfl
theorem j31 : (Rows.fnExactStepAskRow.veiledFits Tryz.pinned.checked.prog Tryz.f4.params.toList (Tryz.f4.params.toList ++ Rows.fnExactStepAskSpec.plain.varTypes Tryz.pinned.checked.prog ++ Tryz.f4.resultTypes.toList)) = true := by kernel_rfl
theorem closed : joinedFacts Tryz.pinned.checked.prog 4 Tryz.f4 Rows.fnExactStepAskSpec Rows.fnExactStepAskRow = true := by unfold joinedFacts; exact (ru (ru (ru (ru (ru (ru (ru (ru (ru (ru (ru (ru (ru (ru (ru (ru (ru (ru (ru (ru (ru (ru (ru (ru (ru (ru (ru (ru (ru (ru (ru j0 j1) j2) j3) j4) j5) j6) j7) j8) j9) Xf) Ox) j12) j13) Pz) j15) j16) j17) j18) j19) j20) j21) Xg) j23) Xh) Xi) Xj) Xk) j28) j29) j30) j31)
theorem named : Tryz.pinned.checked.prog.funcNamed Rows.fnExactStepAskRow.func = some 4 := by kernel_rfl
theorem instO : Tryz.f4.isInstance Tryz.pinned.checked.prog Rows.fnExactStepAskRow.origin Rows.fnExactStepAskRow.targs := of_decide_eq_true (by kernel_rfl)
theorem aga : Tryz.f4.isWrapper Tryz.pinned.checked.prog Rows.fnExactStepAskRow.wrapper Rows.fnExactStepAskRow.mainSum := by unfold Func.isWrapper; rw [if_neg (of_decide_eq_false (by kernel_rfl))]; exact ⟨rfl, rfl⟩
theorem over : Rows.fnExactStepAskRow.holds Tryz.pinned (OpenSpec.ofChange Rows.fnExactStepAskSpec) :=
  OpenClaim.holds_of_wide 4 Tryz.f4 rfl rfl rfl rfl rfl rfl rfl ⟨rfl, rfl, rfl, rfl, rfl⟩ rfl rfl rfl rfl rfl named Tryz.func4 closed instO aga
    (fun os started H enc _ => lifted os started H enc)
theorem proved : Rows.FnExactStepAskSaid := over
#print axioms proved
end Go.Proofs.YtaghmjcfaplkiaaGreat.fnExactStepAsk
namespace Go.Proofs.YtaghmjcfaplkiaaGreat
/-- The row, under a short name, for the claim. -/
theorem fnExactStepAsk_holds : Rows.FnExactStepAskSaid := fnExactStepAsk.proved
end Go.Proofs.YtaghmjcfaplkiaaGreat
