/- Whatever the arguments, the law returns true, and each argument reads as it did: no condition. -/
import Derived.Test.YteahcmobjegpnaaRows
import Derived.Test.YteahcmobjegpnaaBase
import Derived.Test.YteahcmobjegpnaaJoint
import Derived.Test.YteahcmobjegpnaaPureFnExactUseEmergency
import Derived.WalkKit
import Derived.ProofKit
import Derived.OpenShut
import Derived.ShutString
import Derived.ChangeOld
import Derived.Below
import Derived.SizedLaws
namespace Go.Proofs.Yteahcmobjegpnaa.fnExactUseEmergency
open Go.ChangeShapes Go.WideShapes Go.ChangeAt Go.RowKit Go.Proofs.Yteahcmobjegpnaa.Eng
set_option linter.unusedVariables false
theorem own : ownKnob Try.prog.godebug = none := by kernel_rfl
theorem laidOut : laidOutB Try.prog = true := by kernel_rfl
set_option maxRecDepth 100000
theorem lifted (os : Os) (started : os.Started) (H : Type) (enc : TypeId × Value → H) :
    ReturnsInHanded {} Try.checked os 3 .any (Rows.fnExactUseEmergencySpec.pre6 enc Try.prog Try.f3 Rows.fnExactUseEmergencyRow.domain false) (Rows.fnExactUseEmergencySpec.post enc Try.prog Try.f3 false true false false) := by
  refine returnsInHanded_of_change_sized (C := Try.checked) own started (by kernel_rfl) Try.func3
    (ChangeSpec.witness6 (enc := enc) (C := Try.checked) false ⟨#[], #[.agg #[.slice none 0 0, .slice none 0 0, .int .i64 0], .slice none 0 0, .int .i64 0, .int .i64 0, .int .i64 0], []⟩ 8 (by kernel_rfl) (by kernel_rfl) (by kernel_rfl) (by kernel_rfl)) ?_
  intro W base args ds gs before hval0 hW hcnd hsz0 _
  have hval : ∀ (j : Nat) t v, Try.f3.params[j]? = some t → args[j]? = some v → Value.okWide Try.prog W .any base t v := hval0
  have hW' := hW
  obtain ⟨p, q, hA0, hV, rfl, hfz, hnd⟩ := hW
  have hA : DataW.TrodAll enc Try.prog W 0 (fun _ => true) true Try.f3.params.toList args.toList ds p := hA0
  rw [Try.params3] at hA hval
  obtain ⟨v0, vs0, d0, ds0, p0, q0, hargs, rfl, rfl, h0, r0⟩ := trodAll_cons hA
  obtain ⟨v1, vs1, d1, ds1, p1, q1, rfl, rfl, rfl, h1, r1⟩ := trodAll_cons r0
  obtain ⟨v2, vs2, d2, ds2, p2, q2, rfl, rfl, rfl, h2, r2⟩ := trodAll_cons r1
  obtain ⟨v3, vs3, d3, ds3, p3, q3, rfl, rfl, rfl, h3, r3⟩ := trodAll_cons r2
  obtain ⟨v4, vs4, d4, ds4, p4, q4, rfl, rfl, rfl, h4, r4⟩ := trodAll_cons r3
  obtain ⟨rfl, rfl, rfl⟩ := trodAll_nil r4
  obtain rfl : args = #[v0, v1, v2, v3, v4] := by cases args; simp_all
  obtain ⟨rfl, rfl⟩ := trodVars_none hV
  have lt0 : ∀ x ∈ p0, x.block < W.heap.size := by obtain ⟨m, hm⟩ := h0; exact DataW.trod_lt m _ _ _ hm
  obtain ⟨u0, W0, S0⟩ := arg_open tabOk (L := [24, 25, 3, 22, 42, 4]) (by kernel_rfl) (t := 24) (by decide) h0 (hval 0 24 v0 rfl rfl)
  have lt1 : ∀ x ∈ p1, x.block < W.heap.size := by obtain ⟨m, hm⟩ := h1; exact DataW.trod_lt m _ _ _ hm
  obtain ⟨u1, W1, S1⟩ := arg_open tabOk (L := [24, 25, 3, 22, 42, 4]) (by kernel_rfl) (t := 25) (by decide) h1 (hval 1 25 v1 rfl rfl)
  have lt2 : ∀ x ∈ p2, x.block < W.heap.size := by obtain ⟨m, hm⟩ := h2; exact DataW.trod_lt m _ _ _ hm
  obtain ⟨u2, W2, S2⟩ := arg_open tabOk (L := [24, 25, 3, 22, 42, 4]) (by kernel_rfl) (t := 3) (by decide) h2 (hval 2 3 v2 rfl rfl)
  have lt3 : ∀ x ∈ p3, x.block < W.heap.size := by obtain ⟨m, hm⟩ := h3; exact DataW.trod_lt m _ _ _ hm
  obtain ⟨u3, W3, S3⟩ := arg_open tabOk (L := [24, 25, 3, 22, 42, 4]) (by kernel_rfl) (t := 3) (by decide) h3 (hval 3 3 v3 rfl rfl)
  have lt4 : ∀ x ∈ p4, x.block < W.heap.size := by obtain ⟨m, hm⟩ := h4; exact DataW.trod_lt m _ _ _ hm
  obtain ⟨u4, W4, S4⟩ := arg_open tabOk (L := [24, 25, 3, 22, 42, 4]) (by kernel_rfl) (t := 3) (by decide) h4 (hval 4 3 v4 rfl rfl)
  have h := Eng.FnExactUseEmergency_pure u0 W0 u1 W1 u2 W2 u3 W3 u4 W4
  refine (law_calls sound (f := 3) Try.func3 (tb := 4) rfl rfl rfl rfl h (w := W) (args := #[v0, v1, v2, v3, v4]) ⟨S0, S1, S2, S3, S4, trivial⟩).mono fun e W' ⟨he, bel⟩ => ?_
  subst he
  exact ⟨_, rfl, _, _, _, [], _, [], hW', trodAll_mk1 (shut_bool Try.underlying4 _), (trodAll_cons_mk (Below.trod laidOut (by kernel_rfl) (of_decide_eq_true (by kernel_rfl)) h0 bel lt0) (trodAll_cons_mk (Below.trod laidOut (by kernel_rfl) (of_decide_eq_true (by kernel_rfl)) h1 bel lt1) (trodAll_cons_mk (Below.trod laidOut (by kernel_rfl) (of_decide_eq_true (by kernel_rfl)) h2 bel lt2) (trodAll_cons_mk (Below.trod laidOut (by kernel_rfl) (of_decide_eq_true (by kernel_rfl)) h3 bel lt3) (trodAll_cons_mk (Below.trod laidOut (by kernel_rfl) (of_decide_eq_true (by kernel_rfl)) h4 bel lt4) trodAll_mk0))))), rfl, bel.frame _, fun h => by cases h⟩
theorem andI {a b : Bool} (h1 : a = true) (h2 : b = true) : (a && b) = true := by rw [h1, h2]; rfl
theorem j0 : (Rows.fnExactUseEmergencyRow.wf (OpenSpec.ofChange Rows.fnExactUseEmergencySpec)) = true := by kernel_rfl
theorem j1 : (laidOutB Try.pinned.checked.prog) = true := joint.j1
theorem j2 : (mapsRowed Try.pinned.checked.prog) = true := joint.j2
theorem j3 : (Try.f3.params.all (Try.pinned.checked.prog.readableRec ·)) = true := by kernel_rfl
theorem j4 : (namedTie Try.pinned.checked.prog Rows.fnExactUseEmergencyRow.named Rows.fnExactUseEmergencySpec.vars) = true := by kernel_rfl
theorem j5 : ((Rows.fnExactUseEmergencyRow.stops == [])) = true := by kernel_rfl
theorem j6 : ((Try.pinned.checked.prog.stops == [])) = true := joint.j6
theorem j7 : ((Rows.fnExactUseEmergencyRow.knobs == [])) = true := by kernel_rfl
theorem j8 : ((Try.pinned.checked.prog.stopKnobs == [])) = true := joint.j8
theorem j9 : ((Rows.fnExactUseEmergencyRow.inPlace == Try.pinned.checked.prog.inPlace 3)) = true := by kernel_rfl
theorem j10 : ((Rows.fnExactUseEmergencyRow.unfollowed == Try.pinned.checked.prog.unfollowed 3)) = true := by kernel_rfl
theorem j11 : ((Rows.fnExactUseEmergencyRow.recurses == Try.pinned.checked.prog.recurses 3)) = true := by kernel_rfl
theorem j12 : ((Rows.fnExactUseEmergencyRow.named == Try.pinned.checked.prog.varsNamed 3)) = true := by kernel_rfl
theorem j13 : ((Rows.fnExactUseEmergencyRow.maps == (Try.f3.params.toList ++ Rows.fnExactUseEmergencySpec.plain.varTypes Try.pinned.checked.prog).any (Try.pinned.checked.prog.mapsRec ·))) = true := by kernel_rfl
theorem j14 : ((Rows.fnExactUseEmergencyRow.ifaces == (Try.f3.params.toList ++ Rows.fnExactUseEmergencySpec.plain.varTypes Try.pinned.checked.prog).any (Try.pinned.checked.prog.ifacesRec ·))) = true := by kernel_rfl
theorem j15 : ((Rows.fnExactUseEmergencyRow.mapsOut == Try.pinned.checked.prog.mapsAmong Try.f3.resultTypes.toList)) = true := by kernel_rfl
theorem j16 : ((Rows.fnExactUseEmergencyRow.loops == (Try.f3.params.toList ++ Rows.fnExactUseEmergencySpec.plain.varTypes Try.pinned.checked.prog).any (Try.pinned.checked.prog.loopsFrom ·))) = true := by kernel_rfl
theorem j17 : ((Rows.fnExactUseEmergencyRow.wideKeys == (Try.f3.params.toList ++ Rows.fnExactUseEmergencySpec.plain.varTypes Try.pinned.checked.prog ++ Try.f3.resultTypes.toList).any (Try.pinned.checked.prog.wideKeysFrom ·))) = true := by kernel_rfl
theorem j18 : (Rows.fnExactUseEmergencySpec.vars.all (Try.pinned.checked.prog.varReadable ·)) = true := by kernel_rfl
theorem j19 : (Try.f3.resultTypes.all (fun t => Try.pinned.checked.prog.readableRec t && decide (t < Try.pinned.checked.prog.types.size))) = true := by kernel_rfl
theorem j20 : ((Rows.fnExactUseEmergencyRow.ifacesOut == Try.f3.resultTypes.toList.any (Try.pinned.checked.prog.ifacesRec ·))) = true := by kernel_rfl
theorem j21 : ((Rows.fnExactUseEmergencyRow.loopsOut == Try.f3.resultTypes.toList.any (Try.pinned.checked.prog.loopsFrom ·))) = true := by kernel_rfl
theorem j22 : ((Rows.fnExactUseEmergencyRow.plainKeys == Try.pinned.checked.prog.plainKeys)) = true := joint.j22
theorem j23 : (Rows.fnExactUseEmergencyRow.shortTexts.isNone) = true := by kernel_rfl
theorem j24 : (Try.pinned.checked.prog.stopsHeard) = true := joint.j24
theorem j25 : (Try.pinned.checked.prog.mayEnter) = true := joint.j25
theorem j26 : ((Rows.fnExactUseEmergencyRow.lifted == Try.pinned.checked.prog.liftsFinal)) = true := joint.j26
theorem j27 : ((Try.pinned.checked.prog.make == some Rows.fnExactUseEmergencyRow.make)) = true := joint.j27
theorem j28 : ((Rows.fnExactUseEmergencyRow.kinds == (if Rows.fnExactUseEmergencyRow.domain.isEmpty then [] else Try.f3.params.toList.map fun t => match Try.pinned.checked.prog.underlying t with | some (.int k) => some k | _ => none))) = true := by kernel_rfl
theorem j29 : ((Rows.fnExactUseEmergencyRow.pinned == Rows.fnExactUseEmergencyRow.pinnedBy)) = true := by kernel_rfl
theorem j30 : ((Rows.fnExactUseEmergencyRow.veiled == (Try.f3.params.toList ++ Rows.fnExactUseEmergencySpec.plain.varTypes Try.pinned.checked.prog ++ Try.f3.resultTypes.toList).any (Try.pinned.checked.prog.veiledRec ·))) = true := by kernel_rfl
theorem j31 : (Rows.fnExactUseEmergencyRow.veiledFits Try.pinned.checked.prog Try.f3.params.toList (Try.f3.params.toList ++ Rows.fnExactUseEmergencySpec.plain.varTypes Try.pinned.checked.prog ++ Try.f3.resultTypes.toList)) = true := by kernel_rfl
theorem closed : joinedFacts Try.pinned.checked.prog 3 Try.f3 Rows.fnExactUseEmergencySpec Rows.fnExactUseEmergencyRow = true := by unfold joinedFacts; exact (andI (andI (andI (andI (andI (andI (andI (andI (andI (andI (andI (andI (andI (andI (andI (andI (andI (andI (andI (andI (andI (andI (andI (andI (andI (andI (andI (andI (andI (andI (andI j0 j1) j2) j3) j4) j5) j6) j7) j8) j9) j10) j11) j12) j13) j14) j15) j16) j17) j18) j19) j20) j21) j22) j23) j24) j25) j26) j27) j28) j29) j30) j31)
theorem named : Try.pinned.checked.prog.funcNamed Rows.fnExactUseEmergencyRow.func = some 3 := by kernel_rfl
theorem instO : Try.f3.isInstance Try.pinned.checked.prog Rows.fnExactUseEmergencyRow.origin Rows.fnExactUseEmergencyRow.targs := of_decide_eq_true (by kernel_rfl)
theorem wrapO : Try.f3.isWrapper Try.pinned.checked.prog Rows.fnExactUseEmergencyRow.wrapper Rows.fnExactUseEmergencyRow.mainSum := by unfold Func.isWrapper; rw [if_neg (of_decide_eq_false (by kernel_rfl))]; exact ⟨rfl, rfl⟩
theorem over : Rows.fnExactUseEmergencyRow.holds Try.pinned (OpenSpec.ofChange Rows.fnExactUseEmergencySpec) :=
  OpenClaim.holds_of_wide 3 Try.f3 rfl rfl rfl rfl rfl rfl rfl ⟨rfl, rfl, rfl, rfl, rfl⟩ rfl rfl rfl rfl rfl named Try.func3 closed instO wrapO
    (fun os started H enc _ => lifted os started H enc)
theorem proved : Rows.FnExactUseEmergencySaid := over
#print axioms proved
end Go.Proofs.Yteahcmobjegpnaa.fnExactUseEmergency
namespace Go.Proofs.Yteahcmobjegpnaa
/-- The row, under a short name, for the claim. -/
theorem fnExactUseEmergency_holds : Rows.FnExactUseEmergencySaid := fnExactUseEmergency.proved
end Go.Proofs.Yteahcmobjegpnaa
