/- Whatever the arguments, the law returns true, and each argument reads as it did: no condition. -/
import Derived.Test.YtoadeemcdakhcaaRows
import Derived.Test.YtoadeemcdakhcaaPFnExactAppendEntryx7
import Derived.Test.YtoadeemcdakhcaaOpFnExactAppendEntry
import Derived.Test.YtoadeemcdakhcaaPureFnExactAppendEntry
import Derived.WalkKit
import Derived.ProofKit
import Derived.OpenShut
import Derived.ShutString
import Derived.ChangeOld
import Derived.Below
import Derived.SizedLaws
namespace Go.Proofs.Ytoadeemcdakhcaa.fnExactAppendEntry
open Go.ChangeShapes Go.WideShapes Go.ChangeAt Go.RowKit
open Go.ChangeMaps (open_string shut_string)
open Go.Proofs.YtoadeemcdakhcaaW.PrintWords Go.Proofs.YtoadeemcdakhcaaW.PrintLast Go.Proofs.YtoadeemcdakhcaaW.PrintMore
set_option linter.unusedVariables false
theorem own : ownKnob Try.prog.godebug = none := by kernel_rfl
theorem laidOut : laidOutB Try.prog = true := by kernel_rfl
set_option maxRecDepth 100000 in
theorem lifted (os : Os) (started : os.Started) (H : Type) (enc : TypeId × Value → H) :
    ReturnsInHanded {} Try.checked os 14 .any (Rows.fnExactAppendEntrySpec.pre6 enc Try.prog Try.f14 Rows.fnExactAppendEntryRow.domain false) (Rows.fnExactAppendEntrySpec.post enc Try.prog Try.f14 false true false false) := by
  refine returnsInHanded_of_change_sized (C := Try.checked) own started (by kernel_rfl) Try.func14
    (ChangeSpec.witness6 (enc := enc) (C := Try.checked) false ⟨#[], #[.slice none 0 0, .agg #[.int .i64 0, .int .i64 0, .int .i64 0, .int .i64 0, .int .i64 0, .int .i64 0, .int .i64 0, .int .i64 0, .int .i64 0]], []⟩ 8 (by kernel_rfl) (by kernel_rfl) (by kernel_rfl) (by kernel_rfl)) ?_
  intro W base args ds gs before hval0 hW hcnd hsz0 _
  have hval : ∀ (j : Nat) t v, Try.f14.params[j]? = some t → args[j]? = some v → Value.okWide Try.prog W .any base t v := hval0
  have hW' := hW
  obtain ⟨p, q, hA0, hV, rfl, hfz, hnd⟩ := hW
  have hA : DataW.TrodAll enc Try.prog W 0 (fun _ => true) true Try.f14.params.toList args.toList ds p := hA0
  rw [Try.params14] at hA hval
  obtain ⟨v0, vs0, d0, ds0, p0, q0, hargs, rfl, rfl, h0, r0⟩ := trodAll_cons hA
  obtain ⟨v1, vs1, d1, ds1, p1, q1, rfl, rfl, rfl, h1, r1⟩ := trodAll_cons r0
  obtain ⟨rfl, rfl, rfl⟩ := trodAll_nil r1
  obtain rfl : args = #[v0, v1] := by cases args; simp_all
  obtain ⟨rfl, rfl⟩ := trodVars_none hV
  have kk0 := h0
  have lt0 : ∀ x ∈ p0, x.block < W.heap.size := by obtain ⟨m, hm⟩ := kk0; exact DataW.trod_lt m _ _ _ hm
  obtain ⟨a0, len0, cap0, rfl⟩ := okWide_slice Try.underlying33 (hval 0 33 v0 rfl rfl)
  obtain ⟨l0, ⟨A0, c0, e0, hc0, hr0⟩, V0⟩ := OpenK.Opens.at_ (k := Kd.slice 25 PFnExactAppendEntry.k25) (fun n => OpenK.Opens.lower (OpenK.opens_slice (n := n) Try.underlying33 (by kernel_rfl) (PFnExactAppendEntry.o25 _)) (Nat.le_succ n)) kk0
  simp only [Value.cells, List.cons.injEq, Value.slice.injEq, and_true] at e0
  obtain ⟨rfl, rfl, rfl⟩ := e0
  have kk1 := h1
  have lt1 : ∀ x ∈ p1, x.block < W.heap.size := by obtain ⟨m, hm⟩ := kk1; exact DataW.trod_lt m _ _ _ hm
  obtain ⟨x1, K1, V1⟩ := OpenK.Opens.at_ (fun n => PFnExactAppendEntry.o25 n) kk1
  obtain ⟨cs1, rfl⟩ : ∃ cs, v1 = .agg cs := by
    have := (hval 1 25 v1 rfl rfl)
    unfold Value.okWide at this
    rw [Try.underlying25] at this
    exact ⟨_, this.choose_spec.1⟩
  obtain ⟨cs1⟩ := cs1
  have e1 := PFnExactAppendEntry.k25_open K1
  replace e1 : cs1 = _ := e1
  subst e1
  obtain ⟨k, h⟩ := Pure.FnExactAppendEntry l0 x1 V0 V1
  refine (PFnExactAppendEntry.laws_FnExactAppendEntry.calls k _ _ l0 x1.f0 x1.f1 x1.f2 x1.f3 x1.f4 x1.f5 x1.f6 x1.f7 x1.f8 true W hr0 hc0 h).mono fun e W' ⟨he, hd⟩ => ?_
  have bel : Below W.heap.size W W' := hd
  subst he
  exact ⟨_, rfl, _, _, _, [], _, [], hW', trodAll_mk1 (shut_bool Try.underlying4 _), (trodAll_cons_mk (Below.trod laidOut (by kernel_rfl) (of_decide_eq_true (by kernel_rfl)) kk0 bel lt0) (trodAll_cons_mk (Below.trod laidOut (by kernel_rfl) (of_decide_eq_true (by kernel_rfl)) kk1 bel lt1) trodAll_mk0)), rfl, bel.frame _, fun h => by cases h⟩
theorem over : Rows.fnExactAppendEntryRow.holds Try.pinned (OpenSpec.ofChange Rows.fnExactAppendEntrySpec) :=
  OpenClaim.holds_of_wide 14 Try.f14 rfl rfl rfl rfl rfl rfl rfl ⟨rfl, rfl, rfl, rfl, rfl⟩ rfl rfl rfl rfl rfl (by kernel_rfl) Try.func14 (by kernel_rfl)
    (of_decide_eq_true (by kernel_rfl)) (by unfold Func.isWrapper; first | (rw [if_pos (by decide +kernel)]; kernel_rfl) | (rw [if_neg (by decide +kernel)]; exact ⟨rfl, rfl⟩))
    (fun os started H enc _ => lifted os started H enc)
theorem proved : Rows.FnExactAppendEntrySaid := over
#print axioms proved
end Go.Proofs.Ytoadeemcdakhcaa.fnExactAppendEntry
namespace Go.Proofs.Ytoadeemcdakhcaa
/-- The row, under a short name, for the claim. -/
theorem fnExactAppendEntry_holds : Rows.FnExactAppendEntrySaid := fnExactAppendEntry.proved
end Go.Proofs.Ytoadeemcdakhcaa
