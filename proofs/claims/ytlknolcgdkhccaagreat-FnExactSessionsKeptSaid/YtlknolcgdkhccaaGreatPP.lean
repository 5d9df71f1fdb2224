/- A point's and a certificate's place; a point of the world is within bounds. -/
import Derived.Test.YtlknolcgdkhccaaGreatPA9
import Derived.Test.YtlknolcgdkhccaaGreatPT
namespace Go.Proofs.YtlknolcgdkhccaaGreat.Eng
open Go.RowKit
set_option linter.unusedVariables false
set_option linter.unusedSimpArgs false
set_option linter.unusedSectionVars false
set_option maxRecDepth 100000
variable [Sm]
theorem s_pt (xs : LL) (hx : xs.length ≤ 4611686018427387904) (v : Int) : spec_l35Point.c xs v = rI (posL xs fun x => decide (v0 x = v)) := by
  rw [spec_l35Point.eq]
  refine find_loop (l0 := fun i => spec_l35Point.l0 xs v i) (n := xs.length) (p := fun i => decide (v0 (xs.getD i []) = v)) ?_ fun i hi => ?_
  · rw [spec_l35Point.l0_eq, not_lt_nat (Nat.le_refl _)]; rfl
  · rw [spec_l35Point.l0_eq, lt_nat hi, in_nat hi, w64_nat (by omega)]; rfl
theorem s_ct (xs : LL) (hx : xs.length ≤ 4611686018427387904) (v : Int) : spec_l35Cert.c xs v = rI (posL xs fun x => decide (v0 x = v)) := by
  rw [spec_l35Cert.eq]
  refine find_loop (l0 := fun i => spec_l35Cert.l0 xs v i) (n := xs.length) (p := fun i => decide (v0 (xs.getD i []) = v)) ?_ fun i hi => ?_
  · rw [spec_l35Cert.l0_eq, not_lt_nat (Nat.le_refl _)]; rfl
  · rw [spec_l35Cert.l0_eq, lt_nat hi, in_nat hi, w64_nat (by omega)]; rfl
theorem i_pt (xs : LL) (hx : xs.length ≤ 4611686018427387904) (v : Int) : impl_pointOf.c xs v = rI (posL xs fun x => decide (v0 x = v)) := by
  rw [impl_pointOf.eq, slices_IndexFunc__impl_pointOf_1.eq]
  refine (congrArg (fun o : O => o.bind fun r0 => rI (r0.i 0)) (find_loop (l0 := fun i => slices_IndexFunc__impl_pointOf_1.l0 xs v _ i) (n := xs.length) (p := fun i => decide (v0 (xs.getD i []) = v)) ?_ fun i hi => ?_)).trans rfl
  · rw [slices_IndexFunc__impl_pointOf_1.l0_eq, not_lt_nat (Nat.le_refl _)]; rfl
  · rw [slices_IndexFunc__impl_pointOf_1.l0_eq, lt_nat hi, in_nat hi, w64_nat (by omega), impl_pointOf_1.eq]; rfl
theorem i_ct (xs : LL) (hx : xs.length ≤ 4611686018427387904) (v : Int) : impl_certOf.c xs v = rI (posL xs fun x => decide (v0 x = v)) := by
  rw [impl_certOf.eq, slices_IndexFunc__impl_certOf_1.eq]
  refine (congrArg (fun o : O => o.bind fun r0 => rI (r0.i 0)) (find_loop (l0 := fun i => slices_IndexFunc__impl_certOf_1.l0 xs v _ i) (n := xs.length) (p := fun i => decide (v0 (xs.getD i []) = v)) ?_ fun i hi => ?_)).trans rfl
  · rw [slices_IndexFunc__impl_certOf_1.l0_eq, not_lt_nat (Nat.le_refl _)]; rfl
  · rw [slices_IndexFunc__impl_certOf_1.l0_eq, lt_nat hi, in_nat hi, w64_nat (by omega), impl_certOf_1.eq]; rfl
theorem pt_ok {pts : LL} (hc : cntRs pts ≤ 1099511627776) {j : Nat} (hj : j < pts.length) (hb : ∀ i ∈ [3, 6, 7, 9], (ul (pts.getD j []) i).length ≤ 1048576) : PtOk (gl pts (j : Int) 3) (gl pts (j : Int) 5) (gl pts (j : Int) 6) (gl pts (j : Int) 7) (gl pts (j : Int) 9) := by
  have h5 := sub_lt hj 5
  exact ⟨hb 3 (by simp), by show cntRs (ul (pts.getD j []) 5) ≤ _; omega, hb 6 (by simp), hb 7 (by simp), hb 9 (by simp)⟩
theorem pts_ok {pts : LL} (hp : WR tabs.ct 78 pts) (hc : cntRs pts ≤ 1048576) {j : Nat} (hj : j < pts.length) : PtOk (gl pts (j : Int) 3) (gl pts (j : Int) 5) (gl pts (j : Int) 6) (gl pts (j : Int) 7) (gl pts (j : Int) 9) := by
  refine pt_ok (by omega) hj fun i hi => ?_
  have h1 := sub_lt hj i
  have h2 := cntRs_length (ul (pts.getD j []) i)
  omega
end Go.Proofs.YtlknolcgdkhccaaGreat.Eng
