/- Worlds that are valid. -/
import Derived.Test.YteahcmobjegpnaaGreatPC3
import Derived.Test.YteahcmobjegpnaaGreatPSep
namespace Go.Proofs.YteahcmobjegpnaaGreat.Eng
open Go.RowKit
set_option linter.unusedVariables false
set_option linter.unusedSimpArgs false
set_option linter.unusedSectionVars false
set_option maxRecDepth 100000
variable [Sm]
theorem mem_sub {xs : LL} {x : List U} (h : x ∈ xs) (j : Nat) : cntRs (ul x j) ≤ cntRs xs ∧ (ul x j).length ≤ cntRs xs := by
  obtain ⟨i, hi, rfl⟩ := List.getElem_of_mem h
  have h1 := sub_lt hi j
  have e : xs.getD i [] = xs[i] := by rw [List.getD_eq_getElem?_getD, List.getElem?_eq_getElem hi]; rfl
  rw [e] at h1
  have h2 := cntRs_length (ul xs[i] j)
  omega
noncomputable def ptOk (a0 : Int) (i : Nat) (x : List U) : Bool := isPoint (ui x 1) (ui x 2) (ul x 3) (ui x 4) (ul x 5) (ul x 6) (ul x 7) (ui x 8) (ul x 9) && (decide (ui x 0 = ((i + 1 : Nat) : Int)) && !decide (ui x 8 > a0))
noncomputable def ptsOk (a0 : Int) (xs : LL) : Bool := (List.range xs.length).all fun i => ptOk a0 i (xs.getD i [])
def trsOk (xs : LL) : Bool := xs.all fun x => isTrail (ul x 0)
noncomputable def isWorld (a0 : Int) (a1 a2 a3 a4 : List (List U)) (a5 : Int) (a6 a7 a8 a9 : List (List U)) (a10 : Int) (a11 a12 a13 a14 a15 a16 : List (List U)) (a17 : Int) (a18 a19 : List (List U)) : Bool := within a0 0 10000 && (isCenter a1 a2 a3 a4 a5 a6 && ((ordered okSh up0 a11 && (decide (ln a11 ≤ 6) && decide (sumSh a11 ≤ 100))) && (areGrants a12 && (areI a15 a16 a17 a18 && (areSess a19 && (within (ln a7) 1 4 && (decide (ln a8 = ln a7) && (decide (ln a9 = ln a7) && separate a13 a14))))))))
structure WdOk (a1 a2 a3 a4 a6 a7 a9 a11 a12 a13 a14 a15 a16 a18 a19 : LL) : Prop where
  c : CtOk a1 a2 a3 a4 a6
  p : WR tabs.ct 87 a7
  pc : cntRs a7 ≤ 1048576
  t : cntRs a9 ≤ 1048576
  sh : a11.length ≤ 1048576
  g : a12.length ≤ 1048576
  gs : ∀ x ∈ a12, (ul x 3).length ≤ 1048576
  ap : a13.length ≤ 1048576
  us : a14.length ≤ 1048576
  ps : a15.length ≤ 1048576
  os : a16.length ≤ 1048576
  em : WR tabs.ct 170 a18
  ec : cntRs a18 ≤ 1048576
  se : a19.length ≤ 1048576
theorem wd_ok {a1 a2 a3 a4 a6 a7 a9 a11 a12 a13 a14 a15 a16 a18 a19 : LL} (hp : WR tabs.ct 87 a7) (he : WR tabs.ct 170 a18) (b1 : cntRs a1 ≤ 1048576) (b2 : cntRs a2 ≤ 1048576) (b3 : cntRs a3 ≤ 1048576) (b4 : cntRs a4 ≤ 1048576) (b6 : cntRs a6 ≤ 1048576) (b7 : cntRs a7 ≤ 1048576) (b9 : cntRs a9 ≤ 1048576) (b11 : cntRs a11 ≤ 1048576) (b12 : cntRs a12 ≤ 1048576) (b13 : cntRs a13 ≤ 1048576) (b14 : cntRs a14 ≤ 1048576) (b15 : cntRs a15 ≤ 1048576) (b16 : cntRs a16 ≤ 1048576) (b18 : cntRs a18 ≤ 1048576) (b19 : cntRs a19 ≤ 1048576) : WdOk a1 a2 a3 a4 a6 a7 a9 a11 a12 a13 a14 a15 a16 a18 a19 := by
  have l1 := cntRs_length a1
  have l2 := cntRs_length a2
  have l3 := cntRs_length a3
  have l4 := cntRs_length a4
  have l6 := cntRs_length a6
  have l7 := cntRs_length a7
  have l9 := cntRs_length a9
  have l11 := cntRs_length a11
  have l12 := cntRs_length a12
  have l13 := cntRs_length a13
  have l14 := cntRs_length a14
  have l15 := cntRs_length a15
  have l16 := cntRs_length a16
  have l18 := cntRs_length a18
  have l19 := cntRs_length a19
  exact ⟨⟨by omega, fun x hx => by have := (mem_sub hx 1).2; omega, ⟨by omega, fun x hx => ⟨by have := (mem_sub hx 2).2; omega, by have := (mem_sub hx 4).1; omega⟩⟩, by omega, by omega, by omega⟩, hp, b7, b9, by omega, by omega, fun x hx => by have := (mem_sub hx 3).2; omega, by omega, by omega, by omega, by omega, he, b18, by omega⟩
theorem s_world (a0 : Int) (a1 a2 a3 a4 : List (List U)) (a5 : Int) (a6 a7 a8 a9 : List (List U)) (a10 : Int) (a11 a12 a13 a14 a15 a16 : List (List U)) (a17 : Int) (a18 a19 : List (List U)) (h : WdOk a1 a2 a3 a4 a6 a7 a9 a11 a12 a13 a14 a15 a16 a18 a19) : spec_IsWorld.c a0 a1 a2 a3 a4 a5 a6 a7 a8 a9 a10 a11 a12 a13 a14 a15 a16 a17 a18 a19 = rB (ptsOk a0 a7 && (trsOk a9 && isWorld a0 a1 a2 a3 a4 a5 a6 a7 a8 a9 a10 a11 a12 a13 a14 a15 a16 a17 a18 a19)) := by
  obtain ⟨hc, hp, hpc, ht, hsh, hg, hgs, hap, hus, hps, hos, hem, hec, hse⟩ := h
  have l7 := cntRs_length a7
  have l9 := cntRs_length a9
  have tail : spec_IsWorld.l1 (ln a9) a0 a1 a2 a3 a4 a5 a6 a7 a8 a9 a10 a11 a12 a13 a14 a15 a16 a17 a18 a19 = rB (isWorld a0 a1 a2 a3 a4 a5 a6 a7 a8 a9 a10 a11 a12 a13 a14 a15 a16 a17 a18 a19) := by
    rw [spec_IsWorld.l1_eq, show decide (ln a9 < ln a9) = false from not_lt_nat (Nat.le_refl _), s_time, s_center hc, s_shares a11 hsh, s_grants a12 hg hgs, s_are a15 a16 a17 a18 hem hec hps hos, are_eq, s_areSess a19 (by omega), s_in, s_separate a13 a14 hap hus]
    simp only [q0, qb, cB, ctf, cond_false]; rfl
  have trails : spec_IsWorld.l1 0 a0 a1 a2 a3 a4 a5 a6 a7 a8 a9 a10 a11 a12 a13 a14 a15 a16 a17 a18 a19 = bif (List.range a9.length).all (fun i => isTrail (ul (a9.getD i []) 0)) then rB (isWorld a0 a1 a2 a3 a4 a5 a6 a7 a8 a9 a10 a11 a12 a13 a14 a15 a16 a17 a18 a19) else rB false := by
    refine all_loop3 (l0 := fun i => spec_IsWorld.l1 i a0 a1 a2 a3 a4 a5 a6 a7 a8 a9 a10 a11 a12 a13 a14 a15 a16 a17 a18 a19) (n := a9.length) tail fun i hi => ?_
    have h1 := sub_lt hi 0
    have h2 := cntRs_length (ul (a9.getD i []) 0)
    rw [spec_IsWorld.l1_eq, lt_nat hi, in_nat hi, w64_nat (by omega), s_trail (gl a9 (i : Int) 0) (by show (ul (a9.getD i []) 0).length ≤ _; omega)]
    show (bif !isTrail (ul (a9.getD i []) 0) then _ else _) = _
    rw [cnot]
  rw [spec_IsWorld.eq]
  refine (all_loop3 (l0 := fun i => spec_IsWorld.l0 i a0 a1 a2 a3 a4 a5 a6 a7 a8 a9 a10 a11 a12 a13 a14 a15 a16 a17 a18 a19) (n := a7.length) (p := fun i => ptOk a0 i (a7.getD i [])) (R := spec_IsWorld.l1 0 a0 a1 a2 a3 a4 a5 a6 a7 a8 a9 a10 a11 a12 a13 a14 a15 a16 a17 a18 a19) (F := rB false) ?_ fun i hi => ?_).trans ?_
  · rw [spec_IsWorld.l0_eq, show decide (((a7.length : Nat) : Int) < ln a7) = false from not_lt_nat (Nat.le_refl _)]; rfl
  · rw [spec_IsWorld.l0_eq, lt_nat hi, in_nat hi, w64_nat (by omega), s_point (pts_ok hp hpc hi)]
    show (bif !isPoint (ui (a7.getD i []) 1) (ui (a7.getD i []) 2) (ul (a7.getD i []) 3) (ui (a7.getD i []) 4) (ul (a7.getD i []) 5) (ul (a7.getD i []) 6) (ul (a7.getD i []) 7) (ui (a7.getD i []) 8) (ul (a7.getD i []) 9) then _ else bif !decide (ui (a7.getD i []) 0 = ((i + 1 : Nat) : Int)) then _ else bif decide (ui (a7.getD i []) 8 > a0) then _ else _) = _
    simp only [ptOk, cand, cnot]
  · rw [trails, range_all a9 [] fun x => isTrail (ul x 0)]
    show (bif ptsOk a0 a7 then bif trsOk a9 then _ else _ else _) = _
    cases ptsOk a0 a7
    · rfl
    cases trsOk a9 <;> rfl
theorem i_world (a0 : Int) (a1 a2 a3 a4 : List (List U)) (a5 : Int) (a6 a7 a8 a9 : List (List U)) (a10 : Int) (a11 a12 a13 a14 a15 a16 : List (List U)) (a17 : Int) (a18 a19 : List (List U)) (h : WdOk a1 a2 a3 a4 a6 a7 a9 a11 a12 a13 a14 a15 a16 a18 a19) : impl_IsWorld.c a0 a1 a2 a3 a4 a5 a6 a7 a8 a9 a10 a11 a12 a13 a14 a15 a16 a17 a18 a19 = rB (ptsOk a0 a7 && (trsOk a9 && isWorld a0 a1 a2 a3 a4 a5 a6 a7 a8 a9 a10 a11 a12 a13 a14 a15 a16 a17 a18 a19)) := by
  obtain ⟨hc, hp, hpc, ht, hsh, hg, hgs, hap, hus, hps, hos, hem, hec, hse⟩ := h
  have l7 := cntRs_length a7
  have l9 := cntRs_length a9
  have hix : slices_IndexFunc__impl_IsWorld_1.c a9 = rI (pos (fun i => !isTrail (ul (a9.getD i []) 0)) a9.length 0) := by
    rw [slices_IndexFunc__impl_IsWorld_1.eq]
    refine find_loop (l0 := fun i => slices_IndexFunc__impl_IsWorld_1.l0 a9 _ i) (n := a9.length) (p := fun i => !isTrail (ul (a9.getD i []) 0)) ?_ fun i hi => ?_
    · rw [slices_IndexFunc__impl_IsWorld_1.l0_eq, not_lt_nat (Nat.le_refl _)]; rfl
    · have h1 := sub_lt hi 0
      have h2 := cntRs_length (ul (a9.getD i []) 0)
      rw [slices_IndexFunc__impl_IsWorld_1.l0_eq, lt_nat hi, in_nat hi, w64_nat (by omega), impl_IsWorld_1.eq, i_trail (gl a9 (i : Int) 0) (by show (ul (a9.getD i []) 0).length ≤ _; omega)]; rfl
  have hcf : slices_ContainsFunc__impl_IsWorld_1.c a9 = rB (!trsOk a9) := by
    rw [slices_ContainsFunc__impl_IsWorld_1.eq, hix]
    show rB (decide (pos (fun i => !isTrail (ul (a9.getD i []) 0)) a9.length 0 ≥ 0)) = _
    rw [any_pos fun x => !isTrail (ul x 0)]
    unfold trsOk
    rw [List.all_eq_not_any_not, Bool.not_not]
  have loop : impl_IsWorld.l0 a7 (ln a7) 0 a0 a1 a2 a3 a4 a5 a6 a7 a8 a9 a10 a11 a12 a13 a14 a15 a16 a17 a18 a19 = bif ptsOk a0 a7 then rB (within (ln a7) 1 4 && (decide (ln a8 = ln a7) && (decide (ln a9 = ln a7) && (trsOk a9 && separate a13 a14)))) else rB false := by
    refine all_loop3 (l0 := fun i => impl_IsWorld.l0 a7 (ln a7) i a0 a1 a2 a3 a4 a5 a6 a7 a8 a9 a10 a11 a12 a13 a14 a15 a16 a17 a18 a19) (n := a7.length) (p := fun i => ptOk a0 i (a7.getD i [])) ?_ fun i hi => ?_
    · rw [impl_IsWorld.l0_eq, show decide (((a7.length : Nat) : Int) < ln a7) = false from not_lt_nat (Nat.le_refl _), i_in, hcf, i_separate a13 a14 hap hus]
      simp only [q0, qb, cB, ctf, cond_false, cnot]
    · rw [impl_IsWorld.l0_eq, show decide ((i : Int) < ln a7) = true from lt_nat hi, in_nat hi, w64_nat (by omega), i_point (pts_ok hp hpc hi)]
      show (bif !decide (ui (a7.getD i []) 0 = ((i + 1 : Nat) : Int)) then _ else bif decide (ui (a7.getD i []) 8 > a0) then _ else bif !isPoint (ui (a7.getD i []) 1) (ui (a7.getD i []) 2) (ul (a7.getD i []) 3) (ui (a7.getD i []) 4) (ul (a7.getD i []) 5) (ul (a7.getD i []) 6) (ul (a7.getD i []) 7) (ui (a7.getD i []) 8) (ul (a7.getD i []) 9) then _ else _) = _
      unfold ptOk
      cases isPoint (ui (a7.getD i []) 1) (ui (a7.getD i []) 2) (ul (a7.getD i []) 3) (ui (a7.getD i []) 4) (ul (a7.getD i []) 5) (ul (a7.getD i []) 6) (ul (a7.getD i []) 7) (ui (a7.getD i []) 8) (ul (a7.getD i []) 9) <;> cases decide (ui (a7.getD i []) 0 = ((i + 1 : Nat) : Int)) <;> cases decide (ui (a7.getD i []) 8 > a0) <;> rfl
  rw [impl_IsWorld.eq, i_time, i_center hc, i_shares a11 hsh, i_grants a12 hg hgs, i_are a15 a16 a17 a18 hem hec hps hos, i_areSess a19 (by omega), loop]
  simp only [q0, qb, cB, ctf, cond_false, cnot]
  unfold isWorld
  generalize (ordered okSh up0 a11 && (decide (ln a11 ≤ 6) && decide (sumSh a11 ≤ 100))) = b1
  generalize within a0 0 10000 = b2
  generalize isCenter a1 a2 a3 a4 a5 a6 = b3
  generalize areGrants a12 = b4
  generalize areI a15 a16 a17 a18 = b5
  generalize areSess a19 = b6
  generalize ptsOk a0 a7 = b7
  cases b1 <;> cases b2 <;> cases b3 <;> cases b4 <;> cases b5 <;> cases b6 <;> cases b7 <;> simp only [cond_true, cond_false, Bool.not_true, Bool.not_false, Bool.false_and, Bool.true_and, Bool.and_false]
  congr 1
  ac_rfl
end Go.Proofs.YteahcmobjegpnaaGreat.Eng
