/- Whatever the arguments, the law returns true, and each argument reads as it did: no condition. -/
import Derived.Test.YtlknolcgdkhccaaGreatRows
import Derived.Test.YtlknolcgdkhccaaGreatBase
import Derived.Test.YtlknolcgdkhccaaGreatJoint
import Derived.Test.YtlknolcgdkhccaaGreatPureFnExactReviewSessions
import Derived.WalkKit
import Derived.ProofKit
import Derived.OpenShut
import Derived.ShutString
import Derived.ChangeOld
import Derived.Below
import Derived.SizedLaws
namespace Go.Proofs.YtlknolcgdkhccaaGreat.fnExactReviewSessions
open Go.ChangeShapes Go.WideShapes Go.ChangeAt Go.RowKit Go.Proofs.YtlknolcgdkhccaaGreat.Eng
set_option linter.unusedVariables false
theorem own : ownKnob Tryz.prog.godebug = none := by kernel_rfl
theorem laidOut : laidOutB Tryz.prog = true := by kernel_rfl
set_option maxRecDepth 100000
theorem lifted (os : Os) (started : os.Started) (H : Type) (enc : TypeId × Value → H) :
    ReturnsInHanded {} Tryz.checked os 6 .any (Rows.fnExactReviewSessionsSpec.pre6 enc Tryz.prog Tryz.f6 Rows.fnExactReviewSessionsRow.domain false) (Rows.fnExactReviewSessionsSpec.post enc Tryz.prog Tryz.f6 false true false false) := by
  refine returnsInHanded_of_change_sized (C := Tryz.checked) own started (by kernel_rfl) Tryz.func6
    (ChangeSpec.witness6 (enc := enc) (C := Tryz.checked) false ⟨#[], #[.slice none 0 0, .slice none 0 0, .int .i64 0, .slice none 0 0, .int .i64 0], []⟩ 8 (by kernel_rfl) (by kernel_rfl) (by kernel_rfl) (by kernel_rfl)) ?_
  intro W base args ds gs before hval0 hW hcnd hsz0 _
  have hval : ∀ (j : Nat) t v, Tryz.f6.params[j]? = some t → args[j]? = some v → Value.okWide Tryz.prog W .any base t v := hval0
  have hW' := hW
  obtain ⟨p, q, hA0, hV, rfl, hfz, hnd⟩ := hW
  have hA : DataW.TrodAll enc Tryz.prog W 0 (fun _ => true) true Tryz.f6.params.toList args.toList ds p := hA0
  rw [Tryz.params6] at hA hval
  obtain ⟨v0, vs0, d0, ds0, p0, q0, hargs, rfl, rfl, h0, r0⟩ := trodAll_cons hA
  obtain ⟨v1, vs1, d1, ds1, p1, q1, rfl, rfl, rfl, h1, r1⟩ := trodAll_cons r0
  obtain ⟨v2, vs2, d2, ds2, p2, q2, rfl, rfl, rfl, h2, r2⟩ := trodAll_cons r1
  obtain ⟨v3, vs3, d3, ds3, p3, q3, rfl, rfl, rfl, h3, r3⟩ := trodAll_cons r2
  obtain ⟨v4, vs4, d4, ds4, p4, q4, rfl, rfl, rfl, h4, r4⟩ := trodAll_cons r3
  obtain ⟨rfl, rfl, rfl⟩ := trodAll_nil r4
  obtain rfl : args = #[v0, v1, v2, v3, v4] := by cases args; simp_all
  obtain ⟨rfl, rfl⟩ := trodVars_none hV
  have lt0 : ∀ x ∈ p0, x.block < W.heap.size := by obtain ⟨m, hm⟩ := h0; exact DataW.trod_lt m _ _ _ hm
  obtain ⟨u0, W0, S0⟩ := arg_open tabOk (L := [84, 94, 3, 95, 50, 61, 63, 48, 4, 56, 57, 58, 59, 51, 54, 237, 241, 244, 297, 52, 314, 312, 310]) (by kernel_rfl) (t := 84) (by decide) h0 (hval 0 84 v0 rfl rfl)
  have lt1 : ∀ x ∈ p1, x.block < W.heap.size := by obtain ⟨m, hm⟩ := h1; exact DataW.trod_lt m _ _ _ hm
  obtain ⟨u1, W1, S1⟩ := arg_open tabOk (L := [84, 94, 3, 95, 50, 61, 63, 48, 4, 56, 57, 58, 59, 51, 54, 237, 241, 244, 297, 52, 314, 312, 310]) (by kernel_rfl) (t := 94) (by decide) h1 (hval 1 94 v1 rfl rfl)
  have lt2 : ∀ x ∈ p2, x.block < W.heap.size := by obtain ⟨m, hm⟩ := h2; exact DataW.trod_lt m _ _ _ hm
  obtain ⟨u2, W2, S2⟩ := arg_open tabOk (L := [84, 94, 3, 95, 50, 61, 63, 48, 4, 56, 57, 58, 59, 51, 54, 237, 241, 244, 297, 52, 314, 312, 310]) (by kernel_rfl) (t := 3) (by decide) h2 (hval 2 3 v2 rfl rfl)
  have lt3 : ∀ x ∈ p3, x.block < W.heap.size := by obtain ⟨m, hm⟩ := h3; exact DataW.trod_lt m _ _ _ hm
  obtain ⟨u3, W3, S3⟩ := arg_open tabOk (L := [84, 94, 3, 95, 50, 61, 63, 48, 4, 56, 57, 58, 59, 51, 54, 237, 241, 244, 297, 52, 314, 312, 310]) (by kernel_rfl) (t := 95) (by decide) h3 (hval 3 95 v3 rfl rfl)
  have lt4 : ∀ x ∈ p4, x.block < W.heap.size := by obtain ⟨m, hm⟩ := h4; exact DataW.trod_lt m _ _ _ hm
  obtain ⟨u4, W4, S4⟩ := arg_open tabOk (L := [84, 94, 3, 95, 50, 61, 63, 48, 4, 56, 57, 58, 59, 51, 54, 237, 241, 244, 297, 52, 314, 312, 310]) (by kernel_rfl) (t := 3) (by decide) h4 (hval 4 3 v4 rfl rfl)
  have h := Eng.FnExactReviewSessions_pure u0 W0 u1 W1 u2 W2 u3 W3 u4 W4
  refine (law_calls sound (f := 6) Tryz.func6 (tb := 4) rfl rfl rfl rfl h (w := W) (args := #[v0, v1, v2, v3, v4]) ⟨S0, S1, S2, S3, S4, trivial⟩).mono fun e W' ⟨he, bel⟩ => ?_
  subst he
  exact ⟨_, rfl, _, _, _, [], _, [], hW', trodAll_mk1 (shut_bool Tryz.underlying4 _), (trodAll_cons_mk (Below.trod laidOut (by kernel_rfl) (of_decide_eq_true (by kernel_rfl)) h0 bel lt0) (trodAll_cons_mk (Below.trod laidOut (by kernel_rfl) (of_decide_eq_true (by kernel_rfl)) h1 bel lt1) (trodAll_cons_mk (Below.trod laidOut (by kernel_rfl) (of_decide_eq_true (by kernel_rfl)) h2 bel lt2) (trodAll_cons_mk (Below.trod laidOut (by kernel_rfl) (of_decide_eq_true (by kernel_rfl)) h3 bel lt3) (trodAll_cons_mk (Below.trod laidOut (by kernel_rfl) (of_decide_eq_true (by kernel_rfl)) h4 bel lt4) trodAll_mk0))))), rfl, bel.frame _, fun h => by cases h⟩
theorem andI {a b : Bool} (h1 : a = true) (h2 : b = true) : (a && b) = true := by rw [h1, h2]; rfl
theorem j0 : (Rows.fnExactReviewSessionsRow.wf (OpenSpec.ofChange Rows.fnExactReviewSessionsSpec)) = true := by kernel_rfl
theorem j1 : (laidOutB Tryz.pinned.checked.prog) = true := joint.j1
theorem j2 : (mapsRowed Tryz.pinned.checked.prog) = true := joint.j2
theorem j3 : (Tryz.f6.params.all (Tryz.pinned.checked.prog.readableRec ·)) = true := by kernel_rfl
theorem j4 : (namedTie Tryz.pinned.checked.prog Rows.fnExactReviewSessionsRow.named Rows.fnExactReviewSessionsSpec.vars) = true := by kernel_rfl
theorem j5 : ((Rows.fnExactReviewSessionsRow.stops == [])) = true := by kernel_rfl
theorem j6 : ((Tryz.pinned.checked.prog.stops == [])) = true := joint.j6
theorem j7 : ((Rows.fnExactReviewSessionsRow.knobs == [])) = true := by kernel_rfl
theorem j8 : ((Tryz.pinned.checked.prog.stopKnobs == [])) = true := joint.j8
theorem j9 : ((Rows.fnExactReviewSessionsRow.inPlace == Tryz.pinned.checked.prog.inPlace 6)) = true := by kernel_rfl
theorem j10 : ((Rows.fnExactReviewSessionsRow.unfollowed == Tryz.pinned.checked.prog.unfollowed 6)) = true := by kernel_rfl
theorem j11 : ((Rows.fnExactReviewSessionsRow.recurses == Tryz.pinned.checked.prog.recurses 6)) = true := by kernel_rfl
theorem j12 : ((Rows.fnExactReviewSessionsRow.named == Tryz.pinned.checked.prog.varsNamed 6)) = true := by kernel_rfl
theorem j13 : ((Rows.fnExactReviewSessionsRow.maps == (Tryz.f6.params.toList ++ Rows.fnExactReviewSessionsSpec.plain.varTypes Tryz.pinned.checked.prog).any (Tryz.pinned.checked.prog.mapsRec ·))) = true := by kernel_rfl
theorem j14 : ((Rows.fnExactReviewSessionsRow.ifaces == (Tryz.f6.params.toList ++ Rows.fnExactReviewSessionsSpec.plain.varTypes Tryz.pinned.checked.prog).any (Tryz.pinned.checked.prog.ifacesRec ·))) = true := by kernel_rfl
theorem j15 : ((Rows.fnExactReviewSessionsRow.mapsOut == Tryz.pinned.checked.prog.mapsAmong Tryz.f6.resultTypes.toList)) = true := by kernel_rfl
theorem j16 : ((Rows.fnExactReviewSessionsRow.loops == (Tryz.f6.params.toList ++ Rows.fnExactReviewSessionsSpec.plain.varTypes Tryz.pinned.checked.prog).any (Tryz.pinned.checked.prog.loopsFrom ·))) = true := by kernel_rfl
theorem j17 : ((Rows.fnExactReviewSessionsRow.wideKeys == (Tryz.f6.params.toList ++ Rows.fnExactReviewSessionsSpec.plain.varTypes Tryz.pinned.checked.prog ++ Tryz.f6.resultTypes.toList).any (Tryz.pinned.checked.prog.wideKeysFrom ·))) = true := by kernel_rfl
theorem j18 : (Rows.fnExactReviewSessionsSpec.vars.all (Tryz.pinned.checked.prog.varReadable ·)) = true := by kernel_rfl
theorem j19 : (Tryz.f6.resultTypes.all (fun t => Tryz.pinned.checked.prog.readableRec t && decide (t < Tryz.pinned.checked.prog.types.size))) = true := by kernel_rfl
theorem j20 : ((Rows.fnExactReviewSessionsRow.ifacesOut == Tryz.f6.resultTypes.toList.any (Tryz.pinned.checked.prog.ifacesRec ·))) = true := by kernel_rfl
theorem j21 : ((Rows.fnExactReviewSessionsRow.loopsOut == Tryz.f6.resultTypes.toList.any (Tryz.pinned.checked.prog.loopsFrom ·))) = true := by kernel_rfl
theorem j22 : ((Rows.fnExactReviewSessionsRow.plainKeys == Tryz.pinned.checked.prog.plainKeys)) = true := joint.j22
theorem j23 : (Rows.fnExactReviewSessionsRow.shortTexts.isNone) = true := by kernel_rfl
theorem j24 : (Tryz.pinned.checked.prog.stopsHeard) = true := joint.j24
theorem j25 : (Tryz.pinned.checked.prog.mayEnter) = true := joint.j25
theorem j26 : ((Rows.fnExactReviewSessionsRow.lifted == Tryz.pinned.checked.prog.liftsFinal)) = true := joint.j26
theorem j27 : ((Tryz.pinned.checked.prog.make == some Rows.fnExactReviewSessionsRow.make)) = true := joint.j27
theorem j28 : ((Rows.fnExactReviewSessionsRow.kinds == (if Rows.fnExactReviewSessionsRow.domain.isEmpty then [] else Tryz.f6.params.toList.map fun t => match Tryz.pinned.checked.prog.underlying t with | some (.int k) => some k | _ => none))) = true := by kernel_rfl
theorem j29 : ((Rows.fnExactReviewSessionsRow.pinned == Rows.fnExactReviewSessionsRow.pinnedBy)) = true := by kernel_rfl
theorem j30 : ((Rows.fnExactReviewSessionsRow.veiled == (Tryz.f6.params.toList ++ Rows.fnExactReviewSessionsSpec.plain.varTypes Tryz.pinned.checked.prog ++ Tryz.f6.resultTypes.toList).any (Tryz.pinned.checked.prog.veiledRec ·))) = true := by kernel_rfl
theorem j31 : (Rows.fnExactReviewSessionsRow.veiledFits Tryz.pinned.checked.prog Tryz.f6.params.toList (Tryz.f6.params.toList ++ Rows.fnExactReviewSessionsSpec.plain.varTypes Tryz.pinned.checked.prog ++ Tryz.f6.resultTypes.toList)) = true := by kernel_rfl
theorem closed : joinedFacts Tryz.pinned.checked.prog 6 Tryz.f6 Rows.fnExactReviewSessionsSpec Rows.fnExactReviewSessionsRow = true := by unfold joinedFacts; exact (andI (andI (andI (andI (andI (andI (andI (andI (andI (andI (andI (andI (andI (andI (andI (andI (andI (andI (andI (andI (andI (andI (andI (andI (andI (andI (andI (andI (andI (andI (andI j0 j1) j2) j3) j4) j5) j6) j7) j8) j9) j10) j11) j12) j13) j14) j15) j16) j17) j18) j19) j20) j21) j22) j23) j24) j25) j26) j27) j28) j29) j30) j31)
theorem named : Tryz.pinned.checked.prog.funcNamed Rows.fnExactReviewSessionsRow.func = some 6 := by kernel_rfl
theorem instO : Tryz.f6.isInstance Tryz.pinned.checked.prog Rows.fnExactReviewSessionsRow.origin Rows.fnExactReviewSessionsRow.targs := of_decide_eq_true (by kernel_rfl)
theorem wrapO : Tryz.f6.isWrapper Tryz.pinned.checked.prog Rows.fnExactReviewSessionsRow.wrapper Rows.fnExactReviewSessionsRow.mainSum := by unfold Func.isWrapper; rw [if_neg (of_decide_eq_false (by kernel_rfl))]; exact ⟨rfl, rfl⟩
theorem over : Rows.fnExactReviewSessionsRow.holds Tryz.pinned (OpenSpec.ofChange Rows.fnExactReviewSessionsSpec) :=
  OpenClaim.holds_of_wide 6 Tryz.f6 rfl rfl rfl rfl rfl rfl rfl ⟨rfl, rfl, rfl, rfl, rfl⟩ rfl rfl rfl rfl rfl named Tryz.func6 closed instO wrapO
    (fun os started H enc _ => lifted os started H enc)
theorem proved : Rows.FnExactReviewSessionsSaid := over
#print axioms proved
end Go.Proofs.YtlknolcgdkhccaaGreat.fnExactReviewSessions
namespace Go.Proofs.YtlknolcgdkhccaaGreat
/-- The row, under a short name, for the claim. -/
theorem fnExactReviewSessions_holds : Rows.FnExactReviewSessionsSaid := fnExactReviewSessions.proved
end Go.Proofs.YtlknolcgdkhccaaGreat
