/- Sessions of a world are kept. -/
import Derived.Test.YtlknolcgdkhccaaGreatPP
namespace Go.Proofs.YtlknolcgdkhccaaGreat.Eng
open Go.RowKit
set_option linter.unusedVariables false
set_option linter.unusedSimpArgs false
set_option linter.unusedSectionVars false
set_option maxRecDepth 100000
variable [Sm]
/-- A part of a certificate at a place, of none elsewhere. -/
def cf (cs : LL) (c : Int) (j : Nat) : Int := bif decide (c < 0) then 0 else gi cs c j
theorem s_certOf (a0 : Int) (a1 a2 a3 a4 : List (List U)) (a5 : Int) (a6 a7 a8 a9 : List (List U)) (a10 : Int) (a11 a12 a13 a14 a15 a16 : List (List U)) (a17 : Int) (a18 a19 : List (List U)) (h : a6.length ≤ 1048576) (n : Int) : spec_CertOf.c a0 a1 a2 a3 a4 a5 a6 a7 a8 a9 a10 a11 a12 a13 a14 a15 a16 a17 a18 a19 n = some ⟨[[.int (cf a6 (posL a6 (fun y => decide (v0 y = n))) 0), .int (cf a6 (posL a6 (fun y => decide (v0 y = n))) 1), .int (cf a6 (posL a6 (fun y => decide (v0 y = n))) 2), .int (cf a6 (posL a6 (fun y => decide (v0 y = n))) 3), .int (cf a6 (posL a6 (fun y => decide (v0 y = n))) 4), .int (cf a6 (posL a6 (fun y => decide (v0 y = n))) 5)]], []⟩ := by
  rw [spec_CertOf.eq, s_ct a6 (by omega)]
  show (bif decide (posL a6 (fun y => decide (v0 y = n)) < 0) then _ else grd (inRange (posL a6 (fun y => decide (v0 y = n))) a6.length) _) = _
  rcases posL_cases a6 (fun y => decide (v0 y = n)) with ⟨hj, _⟩ | ⟨j, hj, hj2, _⟩
  · rw [hj]; rfl
  · rw [hj, in_nat hj2]; unfold cf; rw [dec_neg (by omega)]; rfl
theorem i_certOf (a0 : Int) (a1 a2 a3 a4 : List (List U)) (a5 : Int) (a6 a7 a8 a9 : List (List U)) (a10 : Int) (a11 a12 a13 a14 a15 a16 : List (List U)) (a17 : Int) (a18 a19 : List (List U)) (h : a6.length ≤ 1048576) (n : Int) : impl_CertOf.c a0 a1 a2 a3 a4 a5 a6 a7 a8 a9 a10 a11 a12 a13 a14 a15 a16 a17 a18 a19 n = some ⟨[[.int (cf a6 (posL a6 (fun y => decide (v0 y = n))) 0), .int (cf a6 (posL a6 (fun y => decide (v0 y = n))) 1), .int (cf a6 (posL a6 (fun y => decide (v0 y = n))) 2), .int (cf a6 (posL a6 (fun y => decide (v0 y = n))) 3), .int (cf a6 (posL a6 (fun y => decide (v0 y = n))) 4), .int (cf a6 (posL a6 (fun y => decide (v0 y = n))) 5)]], []⟩ := by
  rw [impl_CertOf.eq, i_ct a6 (by omega)]
  show (bif decide (posL a6 (fun y => decide (v0 y = n)) < 0) then _ else grd (inRange (posL a6 (fun y => decide (v0 y = n))) a6.length) _) = _
  rcases posL_cases a6 (fun y => decide (v0 y = n)) with ⟨hj, _⟩ | ⟨j, hj, hj2, _⟩
  · rw [hj]; rfl
  · rw [hj, in_nat hj2]; unfold cf; rw [dec_neg (by omega)]; rfl
/-- An open session that is no longer good. -/
noncomputable def stale (a0 a5 : Int) (a6 a7 : LL) (x : List U) : Bool := ub x 9 && (decide ((posL a7 (fun y => decide (v0 y = ui x 1))) < 0) || !stillGood (ui x 1) (ui x 2) (ui x 3) (ui x 4) (ui x 5) (ui x 6) (ui x 7) (ui x 8) true (gi a7 (posL a7 (fun y => decide (v0 y = ui x 1))) 0) (gl a7 (posL a7 (fun y => decide (v0 y = ui x 1))) 3) (gi a7 (posL a7 (fun y => decide (v0 y = ui x 1))) 4) (gl a7 (posL a7 (fun y => decide (v0 y = ui x 1))) 5) (gl a7 (posL a7 (fun y => decide (v0 y = ui x 1))) 6) (gl a7 (posL a7 (fun y => decide (v0 y = ui x 1))) 7) (gi a7 (posL a7 (fun y => decide (v0 y = ui x 1))) 8) (gl a7 (posL a7 (fun y => decide (v0 y = ui x 1))) 9) a5 (cf a6 (posL a6 (fun y => decide (v0 y = ui x 2))) 0) (cf a6 (posL a6 (fun y => decide (v0 y = ui x 2))) 1) (cf a6 (posL a6 (fun y => decide (v0 y = ui x 2))) 2) (cf a6 (posL a6 (fun y => decide (v0 y = ui x 2))) 3) (cf a6 (posL a6 (fun y => decide (v0 y = ui x 2))) 4) (cf a6 (posL a6 (fun y => decide (v0 y = ui x 2))) 5) a0)
theorem i_stale (a0 : Int) (a1 a2 a3 a4 : List (List U)) (a5 : Int) (a6 a7 a8 a9 : List (List U)) (a10 : Int) (a11 a12 a13 a14 a15 a16 : List (List U)) (a17 : Int) (a18 a19 : List (List U)) (h6 : a6.length ≤ 1048576) (h7 : WR tabs.ct 78 a7) (c7 : cntRs a7 ≤ 1048576) (x : List U) : impl_SessionsKept_1.c (ui x 0) (ui x 1) (ui x 2) (ui x 3) (ui x 4) (ui x 5) (ui x 6) (ui x 7) (ui x 8) (ub x 9) a0 a1 a2 a3 a4 a5 a6 a7 a8 a9 a10 a11 a12 a13 a14 a15 a16 a17 a18 a19 = rB (stale a0 a5 a6 a7 x) := by
  have hl := cntRs_length a7
  rw [impl_SessionsKept_1.eq, i_pt a7 (by omega), i_certOf a0 a1 a2 a3 a4 a5 a6 a7 a8 a9 a10 a11 a12 a13 a14 a15 a16 a17 a18 a19 h6]
  unfold stale
  cases ub x 9
  · rfl
  rcases posL_cases a7 (fun y => decide (v0 y = ui x 1)) with ⟨hj, _⟩ | ⟨j, hj, hj2, _⟩
  · rw [hj]; rfl
  show (bif decide ((posL a7 (fun y => decide (v0 y = ui x 1))) < 0) then _ else grd (inRange (posL a7 (fun y => decide (v0 y = ui x 1))) a7.length) ((impl_IsStillGood.c (ui x 0) (ui x 1) (ui x 2) (ui x 3) (ui x 4) (ui x 5) (ui x 6) (ui x 7) (ui x 8) true (gi a7 (posL a7 (fun y => decide (v0 y = ui x 1))) 0) (gi a7 (posL a7 (fun y => decide (v0 y = ui x 1))) 1) (gi a7 (posL a7 (fun y => decide (v0 y = ui x 1))) 2) (gl a7 (posL a7 (fun y => decide (v0 y = ui x 1))) 3) (gi a7 (posL a7 (fun y => decide (v0 y = ui x 1))) 4) (gl a7 (posL a7 (fun y => decide (v0 y = ui x 1))) 5) (gl a7 (posL a7 (fun y => decide (v0 y = ui x 1))) 6) (gl a7 (posL a7 (fun y => decide (v0 y = ui x 1))) 7) (gi a7 (posL a7 (fun y => decide (v0 y = ui x 1))) 8) (gl a7 (posL a7 (fun y => decide (v0 y = ui x 1))) 9) a5 (cf a6 (posL a6 (fun y => decide (v0 y = ui x 2))) 0) (cf a6 (posL a6 (fun y => decide (v0 y = ui x 2))) 1) (cf a6 (posL a6 (fun y => decide (v0 y = ui x 2))) 2) (cf a6 (posL a6 (fun y => decide (v0 y = ui x 2))) 3) (cf a6 (posL a6 (fun y => decide (v0 y = ui x 2))) 4) (cf a6 (posL a6 (fun y => decide (v0 y = ui x 2))) 5) a0).bind _)) = _
  rw [hj, dec_neg (by omega), in_nat hj2, i_good (pts_ok h7 c7 hj2)]; rfl
theorem s_kept (a0 : Int) (a1 a2 a3 a4 : List (List U)) (a5 : Int) (a6 a7 a8 a9 : List (List U)) (a10 : Int) (a11 a12 a13 a14 a15 a16 : List (List U)) (a17 : Int) (a18 a19 : List (List U)) (h6 : a6.length ≤ 1048576) (h7 : WR tabs.ct 78 a7) (c7 : cntRs a7 ≤ 1048576) (h19 : a19.length ≤ 1048576) : spec_SessionsKept.c a0 a1 a2 a3 a4 a5 a6 a7 a8 a9 a10 a11 a12 a13 a14 a15 a16 a17 a18 a19 = rB (!a19.any (stale a0 a5 a6 a7)) := by
  have hl := cntRs_length a7
  rw [spec_SessionsKept.eq]
  refine (any_loop3 (l0 := fun i => spec_SessionsKept.l0 i a0 a1 a2 a3 a4 a5 a6 a7 a8 a9 a10 a11 a12 a13 a14 a15 a16 a17 a18 a19) (n := a19.length) (p := fun i => stale a0 a5 a6 a7 (a19.getD i [])) (F := rB false) (R := rB true) ?_ fun i hi => ?_).trans ?_
  · rw [spec_SessionsKept.l0_eq, not_lt_nat (Nat.le_refl _)]; rfl
  · rw [spec_SessionsKept.l0_eq, lt_nat hi, in_nat hi, w64_nat (by omega), s_pt a7 (by omega), s_certOf a0 a1 a2 a3 a4 a5 a6 a7 a8 a9 a10 a11 a12 a13 a14 a15 a16 a17 a18 a19 h6]
    generalize hx : a19.getD i [] = x
    have e : ∀ j, gi a19 (i : Int) j = ui x j := fun j => by rw [← hx]; rfl
    have e' : gb a19 (i : Int) 9 = ub x 9 := by rw [← hx]; rfl
    simp only [e, e']
    unfold stale
    cases hb : ub x 9
    · rfl
    rcases posL_cases a7 (fun y => decide (v0 y = ui x 1)) with ⟨hj, _⟩ | ⟨j, hj, hj2, _⟩
    · rw [hj]; rfl
    show (bif decide ((posL a7 (fun y => decide (v0 y = ui x 1))) < 0) then _ else grd (inRange (posL a7 (fun y => decide (v0 y = ui x 1))) a7.length) ((spec_IsStillGood.c (ui x 0) (ui x 1) (ui x 2) (ui x 3) (ui x 4) (ui x 5) (ui x 6) (ui x 7) (ui x 8) true (gi a7 (posL a7 (fun y => decide (v0 y = ui x 1))) 0) (gi a7 (posL a7 (fun y => decide (v0 y = ui x 1))) 1) (gi a7 (posL a7 (fun y => decide (v0 y = ui x 1))) 2) (gl a7 (posL a7 (fun y => decide (v0 y = ui x 1))) 3) (gi a7 (posL a7 (fun y => decide (v0 y = ui x 1))) 4) (gl a7 (posL a7 (fun y => decide (v0 y = ui x 1))) 5) (gl a7 (posL a7 (fun y => decide (v0 y = ui x 1))) 6) (gl a7 (posL a7 (fun y => decide (v0 y = ui x 1))) 7) (gi a7 (posL a7 (fun y => decide (v0 y = ui x 1))) 8) (gl a7 (posL a7 (fun y => decide (v0 y = ui x 1))) 9) a5 (cf a6 (posL a6 (fun y => decide (v0 y = ui x 2))) 0) (cf a6 (posL a6 (fun y => decide (v0 y = ui x 2))) 1) (cf a6 (posL a6 (fun y => decide (v0 y = ui x 2))) 2) (cf a6 (posL a6 (fun y => decide (v0 y = ui x 2))) 3) (cf a6 (posL a6 (fun y => decide (v0 y = ui x 2))) 4) (cf a6 (posL a6 (fun y => decide (v0 y = ui x 2))) 5) a0).bind _)) = _
    rw [hj, dec_neg (by omega), in_nat hj2, s_good (pts_ok h7 c7 hj2)]
    show (bif !stillGood (ui x 1) (ui x 2) (ui x 3) (ui x 4) (ui x 5) (ui x 6) (ui x 7) (ui x 8) true (gi a7 (j : Int) 0) (gl a7 (j : Int) 3) (gi a7 (j : Int) 4) (gl a7 (j : Int) 5) (gl a7 (j : Int) 6) (gl a7 (j : Int) 7) (gi a7 (j : Int) 8) (gl a7 (j : Int) 9) a5 (cf a6 (posL a6 (fun y => decide (v0 y = ui x 2))) 0) (cf a6 (posL a6 (fun y => decide (v0 y = ui x 2))) 1) (cf a6 (posL a6 (fun y => decide (v0 y = ui x 2))) 2) (cf a6 (posL a6 (fun y => decide (v0 y = ui x 2))) 3) (cf a6 (posL a6 (fun y => decide (v0 y = ui x 2))) 4) (cf a6 (posL a6 (fun y => decide (v0 y = ui x 2))) 5) a0 then _ else _) = _
    cases stillGood (ui x 1) (ui x 2) (ui x 3) (ui x 4) (ui x 5) (ui x 6) (ui x 7) (ui x 8) true (gi a7 (j : Int) 0) (gl a7 (j : Int) 3) (gi a7 (j : Int) 4) (gl a7 (j : Int) 5) (gl a7 (j : Int) 6) (gl a7 (j : Int) 7) (gi a7 (j : Int) 8) (gl a7 (j : Int) 9) a5 (cf a6 (posL a6 (fun y => decide (v0 y = ui x 2))) 0) (cf a6 (posL a6 (fun y => decide (v0 y = ui x 2))) 1) (cf a6 (posL a6 (fun y => decide (v0 y = ui x 2))) 2) (cf a6 (posL a6 (fun y => decide (v0 y = ui x 2))) 3) (cf a6 (posL a6 (fun y => decide (v0 y = ui x 2))) 4) (cf a6 (posL a6 (fun y => decide (v0 y = ui x 2))) 5) a0 <;> rfl
  · rw [range_any a19 [] (stale a0 a5 a6 a7)]
    cases a19.any (stale a0 a5 a6 a7) <;> rfl
theorem i_kept (a0 : Int) (a1 a2 a3 a4 : List (List U)) (a5 : Int) (a6 a7 a8 a9 : List (List U)) (a10 : Int) (a11 a12 a13 a14 a15 a16 : List (List U)) (a17 : Int) (a18 a19 : List (List U)) (h6 : a6.length ≤ 1048576) (h7 : WR tabs.ct 78 a7) (c7 : cntRs a7 ≤ 1048576) (h19 : a19.length ≤ 1048576) : impl_SessionsKept.c a0 a1 a2 a3 a4 a5 a6 a7 a8 a9 a10 a11 a12 a13 a14 a15 a16 a17 a18 a19 = rB (!a19.any (stale a0 a5 a6 a7)) := by
  have : slices_IndexFunc__impl_SessionsKept_1.c a19 a0 a1 a2 a3 a4 a5 a6 a7 a8 a9 a10 a11 a12 a13 a14 a15 a16 a17 a18 a19 = rI (posL a19 (stale a0 a5 a6 a7)) := by
    rw [slices_IndexFunc__impl_SessionsKept_1.eq]
    refine find_loop (l0 := fun i => slices_IndexFunc__impl_SessionsKept_1.l0 a19 a0 a1 a2 a3 a4 a5 a6 a7 a8 a9 a10 a11 a12 a13 a14 a15 a16 a17 a18 a19 _ i) (n := a19.length) (p := fun i => stale a0 a5 a6 a7 (a19.getD i [])) ?_ fun i hi => ?_
    · rw [slices_IndexFunc__impl_SessionsKept_1.l0_eq, not_lt_nat (Nat.le_refl _)]; rfl
    · have hs := i_stale a0 a1 a2 a3 a4 a5 a6 a7 a8 a9 a10 a11 a12 a13 a14 a15 a16 a17 a18 a19 h6 h7 c7 (a19.getD i [])
      rw [slices_IndexFunc__impl_SessionsKept_1.l0_eq, lt_nat hi, in_nat hi, w64_nat (by omega)]
      show ((impl_SessionsKept_1.c (ui (a19.getD i []) 0) (ui (a19.getD i []) 1) (ui (a19.getD i []) 2) (ui (a19.getD i []) 3) (ui (a19.getD i []) 4) (ui (a19.getD i []) 5) (ui (a19.getD i []) 6) (ui (a19.getD i []) 7) (ui (a19.getD i []) 8) (ub (a19.getD i []) 9) a0 a1 a2 a3 a4 a5 a6 a7 a8 a9 a10 a11 a12 a13 a14 a15 a16 a17 a18 a19).bind _) = _
      rw [hs]; rfl
  rw [impl_SessionsKept.eq, slices_ContainsFunc__impl_SessionsKept_1.eq, this]
  show rB (!decide (pos _ _ _ ≥ 0)) = _
  rw [any_pos]
end Go.Proofs.YtlknolcgdkhccaaGreat.Eng
