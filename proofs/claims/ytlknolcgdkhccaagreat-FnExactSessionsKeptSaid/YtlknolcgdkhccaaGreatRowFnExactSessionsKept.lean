/- Whatever the arguments, the law returns true, and each argument reads as it did: no condition. -/
import Derived.Test.YtlknolcgdkhccaaGreatRows
import Derived.Test.YtlknolcgdkhccaaGreatBase
import Derived.Test.YtlknolcgdkhccaaGreatJoint
import Derived.Test.YtlknolcgdkhccaaGreatPureFnExactSessionsKept
import Derived.WalkKit
import Derived.ProofKit
import Derived.OpenShut
import Derived.ShutString
import Derived.ChangeOld
import Derived.Below
import Derived.SizedLaws
namespace Go.Proofs.YtlknolcgdkhccaaGreat.fnExactSessionsKept
open Go.ChangeShapes Go.WideShapes Go.ChangeAt Go.RowKit Go.Proofs.YtlknolcgdkhccaaGreat.Eng
set_option linter.unusedVariables false
theorem own : ownKnob Tryz.prog.godebug = none := by kernel_rfl
theorem laidOut : laidOutB Tryz.prog = true := by kernel_rfl
set_option maxRecDepth 100000
theorem lifted (os : Os) (started : os.Started) (H : Type) (enc : TypeId × Value → H) :
    ReturnsInHanded {} Tryz.checked os 7 .any (Rows.fnExactSessionsKeptSpec.pre6 enc Tryz.prog Tryz.f7 Rows.fnExactSessionsKeptRow.domain false) (Rows.fnExactSessionsKeptSpec.post enc Tryz.prog Tryz.f7 false true false false) := by
  refine returnsInHanded_of_change_sized (C := Tryz.checked) own started (by kernel_rfl) Tryz.func7
    (ChangeSpec.witness6 (enc := enc) (C := Tryz.checked) false ⟨#[], #[.agg #[.int .i64 0, .slice none 0 0, .slice none 0 0, .slice none 0 0, .slice none 0 0, .int .i64 0, .slice none 0 0, .slice none 0 0, .slice none 0 0, .slice none 0 0, .int .i64 0, .slice none 0 0, .slice none 0 0, .slice none 0 0, .slice none 0 0, .slice none 0 0, .slice none 0 0, .int .i64 0, .slice none 0 0, .slice none 0 0]], []⟩ 8 (by kernel_rfl) (by kernel_rfl) (by kernel_rfl) (by kernel_rfl)) ?_
  intro W base args ds gs before hval0 hW hcnd hsz0 _
  have hval : ∀ (j : Nat) t v, Tryz.f7.params[j]? = some t → args[j]? = some v → Value.okWide Tryz.prog W .any base t v := hval0
  have hW' := hW
  obtain ⟨p, q, hA0, hV, rfl, hfz, hnd⟩ := hW
  have hA : DataW.TrodAll enc Tryz.prog W 0 (fun _ => true) true Tryz.f7.params.toList args.toList ds p := hA0
  rw [Tryz.params7] at hA hval
  obtain ⟨v0, vs0, d0, ds0, p0, q0, hargs, rfl, rfl, h0, r0⟩ := trodAll_cons hA
  obtain ⟨rfl, rfl, rfl⟩ := trodAll_nil r0
  obtain rfl : args = #[v0] := by cases args; simp_all
  obtain ⟨rfl, rfl⟩ := trodVars_none hV
  have lt0 : ∀ x ∈ p0, x.block < W.heap.size := by obtain ⟨m, hm⟩ := h0; exact DataW.trod_lt m _ _ _ hm
  obtain ⟨u0, W0, S0⟩ := arg_open tabOk (L := [119, 3, 110, 94, 30, 111, 112, 113, 114, 115, 116, 117, 84, 107, 108, 57, 58, 95, 61, 4, 269, 278, 271, 281, 283, 36, 273, 50, 305, 56, 237, 241, 63, 59, 308, 48, 51, 54, 244, 297, 52, 314, 312, 310]) (by kernel_rfl) (t := 119) (by decide) h0 (hval 0 119 v0 rfl rfl)
  have h := Eng.FnExactSessionsKept_pure u0 W0
  refine (law_calls sound (f := 7) Tryz.func7 (tb := 4) rfl rfl rfl rfl h (w := W) (args := #[v0]) ⟨S0, trivial⟩).mono fun e W' ⟨he, bel⟩ => ?_
  subst he
  exact ⟨_, rfl, _, _, _, [], _, [], hW', trodAll_mk1 (shut_bool Tryz.underlying4 _), (trodAll_cons_mk (Below.trod laidOut (by kernel_rfl) (of_decide_eq_true (by kernel_rfl)) h0 bel lt0) trodAll_mk0), rfl, bel.frame _, fun h => by cases h⟩
theorem andI {a b : Bool} (h1 : a = true) (h2 : b = true) : (a && b) = true := by rw [h1, h2]; rfl
theorem j0 : (Rows.fnExactSessionsKeptRow.wf (OpenSpec.ofChange Rows.fnExactSessionsKeptSpec)) = true := by kernel_rfl
theorem j1 : (laidOutB Tryz.pinned.checked.prog) = true := joint.j1
theorem j2 : (mapsRowed Tryz.pinned.checked.prog) = true := joint.j2
theorem j3 : (Tryz.f7.params.all (Tryz.pinned.checked.prog.readableRec ·)) = true := by kernel_rfl
theorem j4 : (namedTie Tryz.pinned.checked.prog Rows.fnExactSessionsKeptRow.named Rows.fnExactSessionsKeptSpec.vars) = true := by kernel_rfl
theorem j5 : ((Rows.fnExactSessionsKeptRow.stops == [])) = true := by kernel_rfl
theorem j6 : ((Tryz.pinned.checked.prog.stops == [])) = true := joint.j6
theorem j7 : ((Rows.fnExactSessionsKeptRow.knobs == [])) = true := by kernel_rfl
theorem j8 : ((Tryz.pinned.checked.prog.stopKnobs == [])) = true := joint.j8
theorem j9 : ((Rows.fnExactSessionsKeptRow.inPlace == Tryz.pinned.checked.prog.inPlace 7)) = true := by kernel_rfl
theorem j10 : ((Rows.fnExactSessionsKeptRow.unfollowed == Tryz.pinned.checked.prog.unfollowed 7)) = true := by kernel_rfl
theorem j11 : ((Rows.fnExactSessionsKeptRow.recurses == Tryz.pinned.checked.prog.recurses 7)) = true := by kernel_rfl
theorem j12 : ((Rows.fnExactSessionsKeptRow.named == Tryz.pinned.checked.prog.varsNamed 7)) = true := by kernel_rfl
theorem j13 : ((Rows.fnExactSessionsKeptRow.maps == (Tryz.f7.params.toList ++ Rows.fnExactSessionsKeptSpec.plain.varTypes Tryz.pinned.checked.prog).any (Tryz.pinned.checked.prog.mapsRec ·))) = true := by kernel_rfl
theorem j14 : ((Rows.fnExactSessionsKeptRow.ifaces == (Tryz.f7.params.toList ++ Rows.fnExactSessionsKeptSpec.plain.varTypes Tryz.pinned.checked.prog).any (Tryz.pinned.checked.prog.ifacesRec ·))) = true := by kernel_rfl
theorem j15 : ((Rows.fnExactSessionsKeptRow.mapsOut == Tryz.pinned.checked.prog.mapsAmong Tryz.f7.resultTypes.toList)) = true := by kernel_rfl
theorem j16 : ((Rows.fnExactSessionsKeptRow.loops == (Tryz.f7.params.toList ++ Rows.fnExactSessionsKeptSpec.plain.varTypes Tryz.pinned.checked.prog).any (Tryz.pinned.checked.prog.loopsFrom ·))) = true := by kernel_rfl
theorem j17 : ((Rows.fnExactSessionsKeptRow.wideKeys == (Tryz.f7.params.toList ++ Rows.fnExactSessionsKeptSpec.plain.varTypes Tryz.pinned.checked.prog ++ Tryz.f7.resultTypes.toList).any (Tryz.pinned.checked.prog.wideKeysFrom ·))) = true := by kernel_rfl
theorem j18 : (Rows.fnExactSessionsKeptSpec.vars.all (Tryz.pinned.checked.prog.varReadable ·)) = true := by kernel_rfl
theorem j19 : (Tryz.f7.resultTypes.all (fun t => Tryz.pinned.checked.prog.readableRec t && decide (t < Tryz.pinned.checked.prog.types.size))) = true := by kernel_rfl
theorem j20 : ((Rows.fnExactSessionsKeptRow.ifacesOut == Tryz.f7.resultTypes.toList.any (Tryz.pinned.checked.prog.ifacesRec ·))) = true := by kernel_rfl
theorem j21 : ((Rows.fnExactSessionsKeptRow.loopsOut == Tryz.f7.resultTypes.toList.any (Tryz.pinned.checked.prog.loopsFrom ·))) = true := by kernel_rfl
theorem j22 : ((Rows.fnExactSessionsKeptRow.plainKeys == Tryz.pinned.checked.prog.plainKeys)) = true := joint.j22
theorem j23 : (Rows.fnExactSessionsKeptRow.shortTexts.isNone) = true := by kernel_rfl
theorem j24 : (Tryz.pinned.checked.prog.stopsHeard) = true := joint.j24
theorem j25 : (Tryz.pinned.checked.prog.mayEnter) = true := joint.j25
theorem j26 : ((Rows.fnExactSessionsKeptRow.lifted == Tryz.pinned.checked.prog.liftsFinal)) = true := joint.j26
theorem j27 : ((Tryz.pinned.checked.prog.make == some Rows.fnExactSessionsKeptRow.make)) = true := joint.j27
theorem j28 : ((Rows.fnExactSessionsKeptRow.kinds == (if Rows.fnExactSessionsKeptRow.domain.isEmpty then [] else Tryz.f7.params.toList.map fun t => match Tryz.pinned.checked.prog.underlying t with | some (.int k) => some k | _ => none))) = true := by kernel_rfl
theorem j29 : ((Rows.fnExactSessionsKeptRow.pinned == Rows.fnExactSessionsKeptRow.pinnedBy)) = true := by kernel_rfl
theorem j30 : ((Rows.fnExactSessionsKeptRow.veiled == (Tryz.f7.params.toList ++ Rows.fnExactSessionsKeptSpec.plain.varTypes Tryz.pinned.checked.prog ++ Tryz.f7.resultTypes.toList).any (Tryz.pinned.checked.prog.veiledRec ·))) = true := by kernel_rfl
theorem j31 : (Rows.fnExactSessionsKeptRow.veiledFits Tryz.pinned.checked.prog Tryz.f7.params.toList (Tryz.f7.params.toList ++ Rows.fnExactSessionsKeptSpec.plain.varTypes Tryz.pinned.checked.prog ++ Tryz.f7.resultTypes.toList)) = true := by kernel_rfl
theorem closed : joinedFacts Tryz.pinned.checked.prog 7 Tryz.f7 Rows.fnExactSessionsKeptSpec Rows.fnExactSessionsKeptRow = true := by unfold joinedFacts; exact (andI (andI (andI (andI (andI (andI (andI (andI (andI (andI (andI (andI (andI (andI (andI (andI (andI (andI (andI (andI (andI (andI (andI (andI (andI (andI (andI (andI (andI (andI (andI j0 j1) j2) j3) j4) j5) j6) j7) j8) j9) j10) j11) j12) j13) j14) j15) j16) j17) j18) j19) j20) j21) j22) j23) j24) j25) j26) j27) j28) j29) j30) j31)
theorem named : Tryz.pinned.checked.prog.funcNamed Rows.fnExactSessionsKeptRow.func = some 7 := by kernel_rfl
theorem instO : Tryz.f7.isInstance Tryz.pinned.checked.prog Rows.fnExactSessionsKeptRow.origin Rows.fnExactSessionsKeptRow.targs := of_decide_eq_true (by kernel_rfl)
theorem wrapO : Tryz.f7.isWrapper Tryz.pinned.checked.prog Rows.fnExactSessionsKeptRow.wrapper Rows.fnExactSessionsKeptRow.mainSum := by unfold Func.isWrapper; rw [if_neg (of_decide_eq_false (by kernel_rfl))]; exact ⟨rfl, rfl⟩
theorem over : Rows.fnExactSessionsKeptRow.holds Tryz.pinned (OpenSpec.ofChange Rows.fnExactSessionsKeptSpec) :=
  OpenClaim.holds_of_wide 7 Tryz.f7 rfl rfl rfl rfl rfl rfl rfl ⟨rfl, rfl, rfl, rfl, rfl⟩ rfl rfl rfl rfl rfl named Tryz.func7 closed instO wrapO
    (fun os started H enc _ => lifted os started H enc)
theorem proved : Rows.FnExactSessionsKeptSaid := over
#print axioms proved
end Go.Proofs.YtlknolcgdkhccaaGreat.fnExactSessionsKept
namespace Go.Proofs.YtlknolcgdkhccaaGreat
/-- The row, under a short name, for the claim. -/
theorem fnExactSessionsKept_holds : Rows.FnExactSessionsKeptSaid := fnExactSessionsKept.proved
end Go.Proofs.YtlknolcgdkhccaaGreat
