/- Whatever the arguments, the law returns true, and each argument reads as it did: no condition. -/
import Derived.Test.YtbanfmadialnkaaGreatRows
import Derived.Test.YtbanfmadialnkaaGreatBase
import Derived.Test.YtbanfmadialnkaaGreatJoint
import Derived.Test.YtbanfmadialnkaaGreatPureFnExactFaultOf
import Derived.WalkKit
import Derived.ProofKit
import Derived.OpenShut
import Derived.ShutString
import Derived.ChangeOld
import Derived.Below
import Derived.SizedLaws
namespace Go.Proofs.YtbanfmadialnkaaGreat.fnExactFaultOf
open Go.ChangeShapes Go.WideShapes Go.ChangeAt Go.RowKit Go.Proofs.YtbanfmadialnkaaGreat.Eng
set_option linter.unusedVariables false
theorem own : ownKnob Tryz.prog.godebug = none := by kernel_rfl
theorem laidOut : laidOutB Tryz.prog = true := by kernel_rfl
set_option maxRecDepth 100000
theorem lifted (os : Os) (started : os.Started) (H : Type) (enc : TypeId × Value → H) :
    ReturnsInHanded {} Tryz.checked os 3 .any (Rows.fnExactFaultOfSpec.pre6 enc Tryz.prog Tryz.f3 Rows.fnExactFaultOfRow.domain false) (Rows.fnExactFaultOfSpec.post enc Tryz.prog Tryz.f3 false true false false) := by
  refine returnsInHanded_of_change_sized (C := Tryz.checked) own started (by kernel_rfl) Tryz.func3
    (ChangeSpec.witness6 (enc := enc) (C := Tryz.checked) false ⟨#[], #[.agg #[.int .i64 0, .slice none 0 0, .slice none 0 0, .slice none 0 0, .slice none 0 0, .int .i64 0, .slice none 0 0, .slice none 0 0, .slice none 0 0, .slice none 0 0, .int .i64 0, .slice none 0 0, .slice none 0 0, .slice none 0 0, .slice none 0 0, .slice none 0 0, .slice none 0 0, .int .i64 0, .slice none 0 0, .slice none 0 0]], []⟩ 8 (by kernel_rfl) (by kernel_rfl) (by kernel_rfl) (by kernel_rfl)) ?_
  intro W base args ds gs before Mt hW W2 W3 _
  have Hp : ∀ (j : Nat) t v, Tryz.f3.params[j]? = some t → args[j]? = some v → Value.okWide Tryz.prog W .any base t v := Mt
  have Mu := hW
  obtain ⟨p, q, Mw, hV, rfl, tn, rh⟩ := hW
  have hA : DataW.TrodAll enc Tryz.prog W 0 (fun _ => true) true Tryz.f3.params.toList args.toList ds p := Mw
  rw [Tryz.params3] at hA Hp
  obtain ⟨v0, W4, d0, W5, p0, q0, eJ, rfl, rfl, h0, r0⟩ := trodAll_cons hA
  obtain ⟨rfl, rfl, rfl⟩ := trodAll_nil r0
  obtain rfl : args = #[v0] := by cases args; simp_all
  obtain ⟨rfl, rfl⟩ := trodVars_none hV
  have Mx : ∀ x ∈ p0, x.block < W.heap.size := by obtain ⟨m, hm⟩ := h0; exact DataW.trod_lt m _ _ _ hm
  obtain ⟨u0, W0, S0⟩ := My Dc (L := [42, 3, 28, 29, 30, 31, 32, 33, 34, 35, 38, 39, 40, 22, 23, 24, 25, 26, 155, 4, 157, 194, 160, 200, 202, 36, 164, 209, 249, 152, 282, 284, 286, 153, 289, 72, 147, 150, 343, 357, 148, 376, 374, 372]) (by kernel_rfl) (t := 42) (by decide) h0 (Hp 0 42 v0 rfl rfl)
  have h := Eng.Mz u0 W0
  refine (MA sound (f := 3) Tryz.func3 (tb := 4) rfl rfl rfl rfl h (w := W) (args := #[v0]) ⟨S0, trivial⟩).mono fun e W' ⟨he, Hq⟩ => ?_
  subst he
  exact ⟨_, rfl, _, _, _, [], _, [], Mu, trodAll_mk1 (shut_bool Tryz.underlying4 _), (trodAll_cons_mk (Below.trod laidOut (by kernel_rfl) (of_decide_eq_true (by kernel_rfl)) h0 Hq Mx) trodAll_mk0), rfl, Hq.frame _, fun h => by cases h⟩
theorem dq {a b : Bool} (h1 : a = true) (h2 : b = true) : (a && b) = true := by rw [h1, h2]; rfl
theorem j0 : (Rows.fnExactFaultOfRow.wf (OpenSpec.ofChange Rows.fnExactFaultOfSpec)) = true := by kernel_rfl
theorem j1 : (laidOutB Tryz.pinned.checked.prog) = true := joint.j1
theorem j2 : (mapsRowed Tryz.pinned.checked.prog) = true := joint.j2
theorem j3 : (Tryz.f3.params.all (Tryz.pinned.checked.prog.readableRec ·)) = true := by kernel_rfl
theorem j4 : (namedTie Tryz.pinned.checked.prog Rows.fnExactFaultOfRow.named Rows.fnExactFaultOfSpec.vars) = true := by kernel_rfl
theorem j5 : ((Rows.fnExactFaultOfRow.stops == [])) = true := by kernel_rfl
theorem j6 : ((Tryz.pinned.checked.prog.stops == [])) = true := joint.j6
theorem j7 : ((Rows.fnExactFaultOfRow.knobs == [])) = true := by kernel_rfl
theorem j8 : ((Tryz.pinned.checked.prog.stopKnobs == [])) = true := joint.j8
theorem j9 : ((Rows.fnExactFaultOfRow.inPlace == Tryz.pinned.checked.prog.inPlace 3)) = true := by kernel_rfl
theorem MB : ((Rows.fnExactFaultOfRow.unfollowed == Tryz.pinned.checked.prog.unfollowed 3)) = true := by kernel_rfl
theorem MC : ((Rows.fnExactFaultOfRow.recurses == Tryz.pinned.checked.prog.recurses 3)) = true := by kernel_rfl
theorem MD : ((Rows.fnExactFaultOfRow.named == Tryz.pinned.checked.prog.varsNamed 3)) = true := by kernel_rfl
theorem ME : ((Rows.fnExactFaultOfRow.maps == (Tryz.f3.params.toList ++ Rows.fnExactFaultOfSpec.plain.varTypes Tryz.pinned.checked.prog).any (Tryz.pinned.checked.prog.mapsRec ·))) = true := by kernel_rfl
theorem MF : ((Rows.fnExactFaultOfRow.ifaces == (Tryz.f3.params.toList ++ Rows.fnExactFaultOfSpec.plain.varTypes Tryz.pinned.checked.prog).any (Tryz.pinned.checked.prog.ifacesRec ·))) = true := by kernel_rfl
theorem MG : ((Rows.fnExactFaultOfRow.mapsOut == Tryz.pinned.checked.prog.mapsAmong Tryz.f3.resultTypes.toList)) = true := by kernel_rfl
theorem MH : ((Rows.fnExactFaultOfRow.loops == (Tryz.f3.params.toList ++ Rows.fnExactFaultOfSpec.plain.varTypes Tryz.pinned.checked.prog).any (Tryz.pinned.checked.prog.loopsFrom ·))) = true := by kernel_rfl
theorem MI : ((Rows.fnExactFaultOfRow.wideKeys == (Tryz.f3.params.toList ++ Rows.fnExactFaultOfSpec.plain.varTypes Tryz.pinned.checked.prog ++ Tryz.f3.resultTypes.toList).any (Tryz.pinned.checked.prog.wideKeysFrom ·))) = true := by kernel_rfl
theorem MJ : (Rows.fnExactFaultOfSpec.vars.all (Tryz.pinned.checked.prog.varReadable ·)) = true := by kernel_rfl
theorem MK : (Tryz.f3.resultTypes.all (fun t => Tryz.pinned.checked.prog.readableRec t && decide (t < Tryz.pinned.checked.prog.types.size))) = true := by kernel_rfl
theorem ML : ((Rows.fnExactFaultOfRow.ifacesOut == Tryz.f3.resultTypes.toList.any (Tryz.pinned.checked.prog.ifacesRec ·))) = true := by kernel_rfl
theorem MM : ((Rows.fnExactFaultOfRow.loopsOut == Tryz.f3.resultTypes.toList.any (Tryz.pinned.checked.prog.loopsFrom ·))) = true := by kernel_rfl
theorem Dd : ((Rows.fnExactFaultOfRow.plainKeys == Tryz.pinned.checked.prog.plainKeys)) = true := joint.Dd
theorem MN : (Rows.fnExactFaultOfRow.shortTexts.isNone) = true := by kernel_rfl
theorem De : (Tryz.pinned.checked.prog.stopsHeard) = true := joint.De
theorem Dg : (Tryz.pinned.checked.prog.mayEnter) = true := joint.Dg
theorem Dh : ((Rows.fnExactFaultOfRow.lifted == Tryz.pinned.checked.prog.liftsFinal)) = true := joint.Dh
theorem Di : ((Tryz.pinned.checked.prog.make == some Rows.fnExactFaultOfRow.make)) = true := joint.Di
theorem MO : ((Rows.fnExactFaultOfRow.kinds == (if Rows.fnExactFaultOfRow.domain.isEmpty then [] else Tryz.f3.params.toList.map fun t => match Tryz.pinned.checked.prog.underlying t with | some (.int k) => some k | _ => none))) = true := by kernel_rfl
theorem MP : ((Rows.fnExactFaultOfRow.pinned == Rows.fnExactFaultOfRow.pinnedBy)) = true := by kernel_rfl
theorem MQ : ((Rows.fnExactFaultOfRow.veiled == (Tryz.f3.params.toList ++ Rows.fnExactFaultOfSpec.plain.varTypes Tryz.pinned.checked.prog ++ Tryz.f3.resultTypes.toList).any (Tryz.pinned.checked.prog.veiledRec ·))) = true := by kernel_rfl
theorem MR : (Rows.fnExactFaultOfRow.veiledFits Tryz.pinned.checked.prog Tryz.f3.params.toList (Tryz.f3.params.toList ++ Rows.fnExactFaultOfSpec.plain.varTypes Tryz.pinned.checked.prog ++ Tryz.f3.resultTypes.toList)) = true := by kernel_rfl
theorem closed : joinedFacts Tryz.pinned.checked.prog 3 Tryz.f3 Rows.fnExactFaultOfSpec Rows.fnExactFaultOfRow = true := by unfold joinedFacts; exact (dq (dq (dq (dq (dq (dq (dq (dq (dq (dq (dq (dq (dq (dq (dq (dq (dq (dq (dq (dq (dq (dq (dq (dq (dq (dq (dq (dq (dq (dq (dq j0 j1) j2) j3) j4) j5) j6) j7) j8) j9) MB) MC) MD) ME) MF) MG) MH) MI) MJ) MK) ML) MM) Dd) MN) De) Dg) Dh) Di) MO) MP) MQ) MR)
theorem named : Tryz.pinned.checked.prog.funcNamed Rows.fnExactFaultOfRow.func = some 3 := by kernel_rfl
theorem instO : Tryz.f3.isInstance Tryz.pinned.checked.prog Rows.fnExactFaultOfRow.origin Rows.fnExactFaultOfRow.targs := of_decide_eq_true (by kernel_rfl)
theorem MS : Tryz.f3.isWrapper Tryz.pinned.checked.prog Rows.fnExactFaultOfRow.wrapper Rows.fnExactFaultOfRow.mainSum := by unfold Func.isWrapper; rw [if_neg (of_decide_eq_false (by kernel_rfl))]; exact ⟨rfl, rfl⟩
theorem over : Rows.fnExactFaultOfRow.holds Tryz.pinned (OpenSpec.ofChange Rows.fnExactFaultOfSpec) :=
  OpenClaim.holds_of_wide 3 Tryz.f3 rfl rfl rfl rfl rfl rfl rfl ⟨rfl, rfl, rfl, rfl, rfl⟩ rfl rfl rfl rfl rfl named Tryz.func3 closed instO MS
    (fun os started H enc _ => lifted os started H enc)
theorem proved : Rows.FnExactFaultOfSaid := over
#print axioms proved
end Go.Proofs.YtbanfmadialnkaaGreat.fnExactFaultOf
namespace Go.Proofs.YtbanfmadialnkaaGreat
/-- The row, under a short name, for the claim. -/
theorem fnExactFaultOf_holds : Rows.FnExactFaultOfSaid := fnExactFaultOf.proved
end Go.Proofs.YtbanfmadialnkaaGreat
