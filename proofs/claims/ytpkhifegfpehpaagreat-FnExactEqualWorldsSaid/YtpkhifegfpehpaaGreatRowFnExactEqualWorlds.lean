/- Whatever the arguments, the law returns true, and each argument reads as it did: no condition. -/
import Derived.Test.YtpkhifegfpehpaaGreatRows
import Derived.Test.YtpkhifegfpehpaaGreatBase
import Derived.Test.YtpkhifegfpehpaaGreatJoint
import Derived.Test.YtpkhifegfpehpaaGreatPureFnExactEqualWorlds
import Derived.WalkKit
import Derived.ProofKit
import Derived.OpenShut
import Derived.ShutString
import Derived.ChangeOld
import Derived.Below
import Derived.SizedLaws
namespace Go.Proofs.YtpkhifegfpehpaaGreat.fnExactEqualWorlds
open Go.ChangeShapes Go.WideShapes Go.ChangeAt Go.RowKit Go.Proofs.YtpkhifegfpehpaaGreat.Eng
set_option linter.unusedVariables false
theorem own : ownKnob Tryz.prog.godebug = none := by kernel_rfl
theorem laidOut : laidOutB Tryz.prog = true := by kernel_rfl
set_option maxRecDepth 100000
theorem lifted (os : Os) (started : os.Started) (H : Type) (enc : TypeId × Value → H) :
    ReturnsInHanded {} Tryz.checked os 10 .any (Rows.fnExactEqualWorldsSpec.pre6 enc Tryz.prog Tryz.f10 Rows.fnExactEqualWorldsRow.domain false) (Rows.fnExactEqualWorldsSpec.post enc Tryz.prog Tryz.f10 false true false false) := by
  refine returnsInHanded_of_change_sized (C := Tryz.checked) own started (by kernel_rfl) Tryz.func10
    (ChangeSpec.witness6 (enc := enc) (C := Tryz.checked) false ⟨#[], #[.agg #[.int .i64 0, .slice none 0 0, .slice none 0 0, .slice none 0 0, .slice none 0 0, .int .i64 0, .slice none 0 0, .slice none 0 0, .slice none 0 0, .slice none 0 0, .int .i64 0, .slice none 0 0, .slice none 0 0, .slice none 0 0, .slice none 0 0, .slice none 0 0, .slice none 0 0, .int .i64 0, .slice none 0 0, .slice none 0 0], .agg #[.int .i64 0, .slice none 0 0, .slice none 0 0, .slice none 0 0, .slice none 0 0, .int .i64 0, .slice none 0 0, .slice none 0 0, .slice none 0 0, .slice none 0 0, .int .i64 0, .slice none 0 0, .slice none 0 0, .slice none 0 0, .slice none 0 0, .slice none 0 0, .slice none 0 0, .int .i64 0, .slice none 0 0, .slice none 0 0]], []⟩ 8 (by kernel_rfl) (by kernel_rfl) (by kernel_rfl) (by kernel_rfl)) ?_
  intro W base args ds gs before hval0 hW hcnd hsz0 _
  have hval : ∀ (j : Nat) t v, Tryz.f10.params[j]? = some t → args[j]? = some v → Value.okWide Tryz.prog W .any base t v := hval0
  have hW' := hW
  obtain ⟨p, q, hA0, hV, rfl, hfz, hnd⟩ := hW
  have hA : DataW.TrodAll enc Tryz.prog W 0 (fun _ => true) true Tryz.f10.params.toList args.toList ds p := hA0
  rw [Tryz.params10] at hA hval
  obtain ⟨v0, vs0, d0, ds0, p0, q0, hargs, rfl, rfl, h0, r0⟩ := trodAll_cons hA
  obtain ⟨v1, vs1, d1, ds1, p1, q1, rfl, rfl, rfl, h1, r1⟩ := trodAll_cons r0
  obtain ⟨rfl, rfl, rfl⟩ := trodAll_nil r1
  obtain rfl : args = #[v0, v1] := by cases args; simp_all
  obtain ⟨rfl, rfl⟩ := trodVars_none hV
  have lt0 : ∀ x ∈ p0, x.block < W.heap.size := by obtain ⟨m, hm⟩ := h0; exact DataW.trod_lt m _ _ _ hm
  obtain ⟨u0, W0, S0⟩ := arg_open tabOk (L := [42, 3, 28, 29, 30, 31, 32, 33, 34, 35, 38, 39, 40, 22, 23, 24, 25, 26, 164, 4, 166, 182, 169, 186, 188, 36, 172, 194, 229, 161, 237, 239, 241, 162, 244, 192, 156, 159, 261, 274, 157, 284, 282, 280]) (by kernel_rfl) (t := 42) (by decide) h0 (hval 0 42 v0 rfl rfl)
  have lt1 : ∀ x ∈ p1, x.block < W.heap.size := by obtain ⟨m, hm⟩ := h1; exact DataW.trod_lt m _ _ _ hm
  obtain ⟨u1, W1, S1⟩ := arg_open tabOk (L := [42, 3, 28, 29, 30, 31, 32, 33, 34, 35, 38, 39, 40, 22, 23, 24, 25, 26, 164, 4, 166, 182, 169, 186, 188, 36, 172, 194, 229, 161, 237, 239, 241, 162, 244, 192, 156, 159, 261, 274, 157, 284, 282, 280]) (by kernel_rfl) (t := 42) (by decide) h1 (hval 1 42 v1 rfl rfl)
  have h := Eng.FnExactEqualWorlds_pure u0 W0 u1 W1
  refine (law_calls sound (f := 10) Tryz.func10 (tb := 4) rfl rfl rfl rfl h (w := W) (args := #[v0, v1]) ⟨S0, S1, trivial⟩).mono fun e W' ⟨he, bel⟩ => ?_
  subst he
  exact ⟨_, rfl, _, _, _, [], _, [], hW', trodAll_mk1 (shut_bool Tryz.underlying4 _), (trodAll_cons_mk (Below.trod laidOut (by kernel_rfl) (of_decide_eq_true (by kernel_rfl)) h0 bel lt0) (trodAll_cons_mk (Below.trod laidOut (by kernel_rfl) (of_decide_eq_true (by kernel_rfl)) h1 bel lt1) trodAll_mk0)), rfl, bel.frame _, fun h => by cases h⟩
theorem andI {a b : Bool} (h1 : a = true) (h2 : b = true) : (a && b) = true := by rw [h1, h2]; rfl
theorem j0 : (Rows.fnExactEqualWorldsRow.wf (OpenSpec.ofChange Rows.fnExactEqualWorldsSpec)) = true := by kernel_rfl
theorem j1 : (laidOutB Tryz.pinned.checked.prog) = true := joint.j1
theorem j2 : (mapsRowed Tryz.pinned.checked.prog) = true := joint.j2
theorem j3 : (Tryz.f10.params.all (Tryz.pinned.checked.prog.readableRec ·)) = true := by kernel_rfl
theorem j4 : (namedTie Tryz.pinned.checked.prog Rows.fnExactEqualWorldsRow.named Rows.fnExactEqualWorldsSpec.vars) = true := by kernel_rfl
theorem j5 : ((Rows.fnExactEqualWorldsRow.stops == [])) = true := by kernel_rfl
theorem j6 : ((Tryz.pinned.checked.prog.stops == [])) = true := joint.j6
theorem j7 : ((Rows.fnExactEqualWorldsRow.knobs == [])) = true := by kernel_rfl
theorem j8 : ((Tryz.pinned.checked.prog.stopKnobs == [])) = true := joint.j8
theorem j9 : ((Rows.fnExactEqualWorldsRow.inPlace == Tryz.pinned.checked.prog.inPlace 10)) = true := by kernel_rfl
theorem j10 : ((Rows.fnExactEqualWorldsRow.unfollowed == Tryz.pinned.checked.prog.unfollowed 10)) = true := by kernel_rfl
theorem j11 : ((Rows.fnExactEqualWorldsRow.recurses == Tryz.pinned.checked.prog.recurses 10)) = true := by kernel_rfl
theorem j12 : ((Rows.fnExactEqualWorldsRow.named == Tryz.pinned.checked.prog.varsNamed 10)) = true := by kernel_rfl
theorem j13 : ((Rows.fnExactEqualWorldsRow.maps == (Tryz.f10.params.toList ++ Rows.fnExactEqualWorldsSpec.plain.varTypes Tryz.pinned.checked.prog).any (Tryz.pinned.checked.prog.mapsRec ·))) = true := by kernel_rfl
theorem j14 : ((Rows.fnExactEqualWorldsRow.ifaces == (Tryz.f10.params.toList ++ Rows.fnExactEqualWorldsSpec.plain.varTypes Tryz.pinned.checked.prog).any (Tryz.pinned.checked.prog.ifacesRec ·))) = true := by kernel_rfl
theorem j15 : ((Rows.fnExactEqualWorldsRow.mapsOut == Tryz.pinned.checked.prog.mapsAmong Tryz.f10.resultTypes.toList)) = true := by kernel_rfl
theorem j16 : ((Rows.fnExactEqualWorldsRow.loops == (Tryz.f10.params.toList ++ Rows.fnExactEqualWorldsSpec.plain.varTypes Tryz.pinned.checked.prog).any (Tryz.pinned.checked.prog.loopsFrom ·))) = true := by kernel_rfl
theorem j17 : ((Rows.fnExactEqualWorldsRow.wideKeys == (Tryz.f10.params.toList ++ Rows.fnExactEqualWorldsSpec.plain.varTypes Tryz.pinned.checked.prog ++ Tryz.f10.resultTypes.toList).any (Tryz.pinned.checked.prog.wideKeysFrom ·))) = true := by kernel_rfl
theorem j18 : (Rows.fnExactEqualWorldsSpec.vars.all (Tryz.pinned.checked.prog.varReadable ·)) = true := by kernel_rfl
theorem j19 : (Tryz.f10.resultTypes.all (fun t => Tryz.pinned.checked.prog.readableRec t && decide (t < Tryz.pinned.checked.prog.types.size))) = true := by kernel_rfl
theorem j20 : ((Rows.fnExactEqualWorldsRow.ifacesOut == Tryz.f10.resultTypes.toList.any (Tryz.pinned.checked.prog.ifacesRec ·))) = true := by kernel_rfl
theorem j21 : ((Rows.fnExactEqualWorldsRow.loopsOut == Tryz.f10.resultTypes.toList.any (Tryz.pinned.checked.prog.loopsFrom ·))) = true := by kernel_rfl
theorem j22 : ((Rows.fnExactEqualWorldsRow.plainKeys == Tryz.pinned.checked.prog.plainKeys)) = true := joint.j22
theorem j23 : (Rows.fnExactEqualWorldsRow.shortTexts.isNone) = true := by kernel_rfl
theorem j24 : (Tryz.pinned.checked.prog.stopsHeard) = true := joint.j24
theorem j25 : (Tryz.pinned.checked.prog.mayEnter) = true := joint.j25
theorem j26 : ((Rows.fnExactEqualWorldsRow.lifted == Tryz.pinned.checked.prog.liftsFinal)) = true := joint.j26
theorem j27 : ((Tryz.pinned.checked.prog.make == some Rows.fnExactEqualWorldsRow.make)) = true := joint.j27
theorem j28 : ((Rows.fnExactEqualWorldsRow.kinds == (if Rows.fnExactEqualWorldsRow.domain.isEmpty then [] else Tryz.f10.params.toList.map fun t => match Tryz.pinned.checked.prog.underlying t with | some (.int k) => some k | _ => none))) = true := by kernel_rfl
theorem j29 : ((Rows.fnExactEqualWorldsRow.pinned == Rows.fnExactEqualWorldsRow.pinnedBy)) = true := by kernel_rfl
theorem j30 : ((Rows.fnExactEqualWorldsRow.veiled == (Tryz.f10.params.toList ++ Rows.fnExactEqualWorldsSpec.plain.varTypes Tryz.pinned.checked.prog ++ Tryz.f10.resultTypes.toList).any (Tryz.pinned.checked.prog.veiledRec ·))) = true := by kernel_rfl
theorem j31 : (Rows.fnExactEqualWorldsRow.veiledFits Tryz.pinned.checked.prog Tryz.f10.params.toList (Tryz.f10.params.toList ++ Rows.fnExactEqualWorldsSpec.plain.varTypes Tryz.pinned.checked.prog ++ Tryz.f10.resultTypes.toList)) = true := by kernel_rfl
theorem closed : joinedFacts Tryz.pinned.checked.prog 10 Tryz.f10 Rows.fnExactEqualWorldsSpec Rows.fnExactEqualWorldsRow = true := by unfold joinedFacts; exact (andI (andI (andI (andI (andI (andI (andI (andI (andI (andI (andI (andI (andI (andI (andI (andI (andI (andI (andI (andI (andI (andI (andI (andI (andI (andI (andI (andI (andI (andI (andI j0 j1) j2) j3) j4) j5) j6) j7) j8) j9) j10) j11) j12) j13) j14) j15) j16) j17) j18) j19) j20) j21) j22) j23) j24) j25) j26) j27) j28) j29) j30) j31)
theorem named : Tryz.pinned.checked.prog.funcNamed Rows.fnExactEqualWorldsRow.func = some 10 := by kernel_rfl
theorem instO : Tryz.f10.isInstance Tryz.pinned.checked.prog Rows.fnExactEqualWorldsRow.origin Rows.fnExactEqualWorldsRow.targs := of_decide_eq_true (by kernel_rfl)
theorem wrapO : Tryz.f10.isWrapper Tryz.pinned.checked.prog Rows.fnExactEqualWorldsRow.wrapper Rows.fnExactEqualWorldsRow.mainSum := by unfold Func.isWrapper; rw [if_neg (of_decide_eq_false (by kernel_rfl))]; exact ⟨rfl, rfl⟩
theorem over : Rows.fnExactEqualWorldsRow.holds Tryz.pinned (OpenSpec.ofChange Rows.fnExactEqualWorldsSpec) :=
  OpenClaim.holds_of_wide 10 Tryz.f10 rfl rfl rfl rfl rfl rfl rfl ⟨rfl, rfl, rfl, rfl, rfl⟩ rfl rfl rfl rfl rfl named Tryz.func10 closed instO wrapO
    (fun os started H enc _ => lifted os started H enc)
theorem proved : Rows.FnExactEqualWorldsSaid := over
#print axioms proved
end Go.Proofs.YtpkhifegfpehpaaGreat.fnExactEqualWorlds
namespace Go.Proofs.YtpkhifegfpehpaaGreat
/-- The row, under a short name, for the claim. -/
theorem fnExactEqualWorlds_holds : Rows.FnExactEqualWorldsSaid := fnExactEqualWorlds.proved
end Go.Proofs.YtpkhifegfpehpaaGreat
