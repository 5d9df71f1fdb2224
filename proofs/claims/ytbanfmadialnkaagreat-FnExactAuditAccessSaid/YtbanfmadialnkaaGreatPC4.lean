/- Worlds that are valid. -/
import Derived.Test.YtbanfmadialnkaaGreatPC3
import Derived.Test.YtbanfmadialnkaaGreatPSep
namespace Go.Proofs.YtbanfmadialnkaaGreat.Eng
open Go.RowKit
set_option linter.unusedVariables false
set_option linter.unusedSimpArgs false
set_option linter.unusedSectionVars false
set_option maxRecDepth 100000
variable [Sm]
theorem QA {xs : LL} {x : List U} (h : x ∈ xs) (j : Nat) : Da (ul x j) ≤ Da xs ∧ (ul x j).length ≤ Da xs := by
 obtain ⟨i, hi, rfl⟩ := List.getElem_of_mem h
 have h1 := sub_lt hi j
 have e : xs.getD i [] = xs[i] := by rw [List.getD_eq_getElem?_getD, List.getElem?_eq_getElem hi]; rfl
 rw [e] at h1
 have h2 := DA (ul xs[i] j)
 omega
noncomputable def Oj (a0 : Int) (i : Nat) (x : List U) : Bool := JZ (ui x 1) (ui x 2) (ul x 3) (ui x 4) (ul x 5) (ul x 6) (ul x 7) (ui x 8) (ul x 9) && (decide (ui x 0 = ((i + 1 : Nat) : Int)) && !decide (ui x 8 > a0))
noncomputable def KM (a0 : Int) (xs : LL) : Bool := (List.range xs.length).all fun i => Oj a0 i (xs.getD i [])
def Km (xs : LL) : Bool := xs.all fun x => Il (ul x 0)
noncomputable def Ly (a0 : Int) (a1 a2 a3 a4 : List (List U)) (a5 : Int) (a6 a7 a8 a9 : List (List U)) (Dg : Int) (Dd a12 Dj Di Dk Dh : List (List U)) (Dn : Int) (De Dm : List (List U)) : Bool := within a0 0 10000 && (Qv a1 a2 a3 a4 a5 a6 && ((ordered Ju DT Dd && (decide (ln Dd ≤ 6) && decide (Jm Dd ≤ 100))) && (Pr a12 && (LZ Dk Dh Dn De && (Ps Dm && (within (ln a7) 1 4 && (decide (ln a8 = ln a7) && (decide (ln a9 = ln a7) && Ke Dj Di))))))))
structure QW (a1 a2 a3 a4 a6 a7 a9 Dd a12 Dj Di Dk Dh De Dm : LL) : Prop where
 c : QT a1 a2 a3 a4 a6
 p : WR Db.ct 133 a7
 pc : Da a7 ≤ 1048576
 t : Da a9 ≤ 1048576
 sh : Dd.length ≤ 1048576
 g : a12.length ≤ 1048576
 gs : ∀ x ∈ a12, (ul x 3).length ≤ 1048576
 ap : Dj.length ≤ 1048576
 us : Di.length ≤ 1048576
 ps : Dk.length ≤ 1048576
 os : Dh.length ≤ 1048576
 em : WR Db.ct 180 De
 ec : Da De ≤ 1048576
 se : Dm.length ≤ 1048576
theorem acf {a1 a2 a3 a4 a6 a7 a9 Dd a12 Dj Di Dk Dh De Dm : LL} (hp : WR Db.ct 133 a7) (he : WR Db.ct 180 De) (b1 : Da a1 ≤ 1048576) (b2 : Da a2 ≤ 1048576) (b3 : Da a3 ≤ 1048576) (b4 : Da a4 ≤ 1048576) (b6 : Da a6 ≤ 1048576) (b7 : Da a7 ≤ 1048576) (b9 : Da a9 ≤ 1048576) (Fi : Da Dd ≤ 1048576) (SQ : Da a12 ≤ 1048576) (Pt : Da Dj ≤ 1048576) (Pu : Da Di ≤ 1048576) (SR : Da Dk ≤ 1048576) (Pv : Da Dh ≤ 1048576) (Mc : Da De ≤ 1048576) (SS : Da Dm ≤ 1048576) : QW a1 a2 a3 a4 a6 a7 a9 Dd a12 Dj Di Dk Dh De Dm := by
 have l1 := DA a1
 have l2 := DA a2
 have l3 := DA a3
 have l4 := DA a4
 have l6 := DA a6
 have l7 := DA a7
 have l9 := DA a9
 have YJ := DA Dd
 have l12 := DA a12
 have YK := DA Dj
 have YL := DA Di
 have l15 := DA Dk
 have l16 := DA Dh
 have l18 := DA De
 have l19 := DA Dm
 exact ⟨⟨by omega, fun x hx => by have := (QA hx 1).2; omega, ⟨by omega, fun x hx => ⟨by have := (QA hx 2).2; omega, by have := (QA hx 4).1; omega⟩⟩, by omega, by omega, by omega⟩, hp, b7, b9, by omega, by omega, fun x hx => by have := (QA hx 3).2; omega, by omega, by omega, by omega, by omega, he, Mc, by omega⟩
theorem aaV (a0 : Int) (a1 a2 a3 a4 : List (List U)) (a5 : Int) (a6 a7 a8 a9 : List (List U)) (Dg : Int) (Dd a12 Dj Di Dk Dh : List (List U)) (Dn : Int) (De Dm : List (List U)) (h : QW a1 a2 a3 a4 a6 a7 a9 Dd a12 Dj Di Dk Dh De Dm) : EK.c a0 a1 a2 a3 a4 a5 a6 a7 a8 a9 Dg Dd a12 Dj Di Dk Dh Dn De Dm = rB (KM a0 a7 && (Km a9 && Ly a0 a1 a2 a3 a4 a5 a6 a7 a8 a9 Dg Dd a12 Dj Di Dk Dh Dn De Dm)) := by
 obtain ⟨hc, hp, RO, ht, vA, hg, RK, Rx, vE, jA, RN, RJ, RH, Xl⟩ := h
 have l7 := DA a7
 have l9 := DA a9
 have tail : EK.l1 (ln a9) a0 a1 a2 a3 a4 a5 a6 a7 a8 a9 Dg Dd a12 Dj Di Dk Dh Dn De Dm = rB (Ly a0 a1 a2 a3 a4 a5 a6 a7 a8 a9 Dg Dd a12 Dj Di Dk Dh Dn De Dm) := by
  rw [EK.DS, show decide (ln a9 < ln a9) = false from Dq (Nat.le_refl _), Hh, aag hc, aaR Dd vA, aax a12 hg RK, ZX Dk Dh Dn De RJ RH jA RN, Vv, ZZ Dm (by omega), EI, UP Dj Di Rx vE]
  simp only [q0, qb, cB, DR, cond_false]; rfl
 have aca : EK.l1 0 a0 a1 a2 a3 a4 a5 a6 a7 a8 a9 Dg Dd a12 Dj Di Dk Dh Dn De Dm = bif (List.range a9.length).all (fun i => Il (ul (a9.getD i []) 0)) then rB (Ly a0 a1 a2 a3 a4 a5 a6 a7 a8 a9 Dg Dd a12 Dj Di Dk Dh Dn De Dm) else rB false := by
  refine Jy (l0 := fun i => EK.l1 i a0 a1 a2 a3 a4 a5 a6 a7 a8 a9 Dg Dd a12 Dj Di Dk Dh Dn De Dm) (n := a9.length) tail fun i hi => ?_
  have h1 := sub_lt hi 0
  have h2 := DA (ul (a9.getD i []) 0)
  rw [EK.DS, Dr hi, DB hi, DG (by omega), aaS (gl a9 (i : Int) 0) (by show (ul (a9.getD i []) 0).length ≤ _; omega)]
  show (bif !Il (ul (a9.getD i []) 0) then _ else _) = _
  rw [FW]
 rw [EK.eq]
 refine (Jy (l0 := fun i => EK.l0 i a0 a1 a2 a3 a4 a5 a6 a7 a8 a9 Dg Dd a12 Dj Di Dk Dh Dn De Dm) (n := a7.length) (p := fun i => Oj a0 i (a7.getD i [])) (R := EK.l1 0 a0 a1 a2 a3 a4 a5 a6 a7 a8 a9 Dg Dd a12 Dj Di Dk Dh Dn De Dm) (F := rB false) ?_ fun i hi => ?_).trans ?_
 ·rw [EK.CZ, show decide (((a7.length : Nat) : Int) < ln a7) = false from Dq (Nat.le_refl _)]; rfl
 ·rw [EK.CZ, Dr hi, DB hi, DG (by omega), aaK (Uc hp RO hi)]
  show (bif !JZ (ui (a7.getD i []) 1) (ui (a7.getD i []) 2) (ul (a7.getD i []) 3) (ui (a7.getD i []) 4) (ul (a7.getD i []) 5) (ul (a7.getD i []) 6) (ul (a7.getD i []) 7) (ui (a7.getD i []) 8) (ul (a7.getD i []) 9) then _ else bif !decide (ui (a7.getD i []) 0 = ((i + 1 : Nat) : Int)) then _ else bif decide (ui (a7.getD i []) 8 > a0) then _ else _) = _
  simp only [Oj, JV, FW]
 ·rw [aca, Jv a9 [] fun x => Il (ul x 0)]
  show (bif KM a0 a7 then bif Km a9 then _ else _ else _) = _
  cases KM a0 a7
  ·rfl
  cases Km a9 <;> rfl
theorem Yr (a0 : Int) (a1 a2 a3 a4 : List (List U)) (a5 : Int) (a6 a7 a8 a9 : List (List U)) (Dg : Int) (Dd a12 Dj Di Dk Dh : List (List U)) (Dn : Int) (De Dm : List (List U)) (h : QW a1 a2 a3 a4 a6 a7 a9 Dd a12 Dj Di Dk Dh De Dm) : Hz.c a0 a1 a2 a3 a4 a5 a6 a7 a8 a9 Dg Dd a12 Dj Di Dk Dh Dn De Dm = rB (KM a0 a7 && (Km a9 && Ly a0 a1 a2 a3 a4 a5 a6 a7 a8 a9 Dg Dd a12 Dj Di Dk Dh Dn De Dm)) := by
 obtain ⟨hc, hp, RO, ht, vA, hg, RK, Rx, vE, jA, RN, RJ, RH, Xl⟩ := h
 have l7 := DA a7
 have l9 := DA a9
 have RL : Iu.c a9 = rI (pos (fun i => !Il (ul (a9.getD i []) 0)) a9.length 0) := by
  rw [Iu.eq]
  refine Hs (l0 := fun i => Iu.l0 a9 _ i) (n := a9.length) (p := fun i => !Il (ul (a9.getD i []) 0)) ?_ fun i hi => ?_
  ·rw [Iu.CZ, Dq (Nat.le_refl _)]; rfl
  ·have h1 := sub_lt hi 0
   have h2 := DA (ul (a9.getD i []) 0)
   rw [Iu.CZ, Dr hi, DB hi, DG (by omega), Qj.eq, Yl (gl a9 (i : Int) 0) (by show (ul (a9.getD i []) 0).length ≤ _; omega)]; rfl
 have Xd : OQ.c a9 = rB (!Km a9) := by
  rw [OQ.eq, RL]
  show rB (decide (pos (fun i => !Il (ul (a9.getD i []) 0)) a9.length 0 ≥ 0)) = _
  rw [Jn fun x => !Il (ul x 0)]
  unfold Km
  rw [List.all_eq_not_any_not, Bool.not_not]
 have loop : Hz.l0 a7 (ln a7) 0 a0 a1 a2 a3 a4 a5 a6 a7 a8 a9 Dg Dd a12 Dj Di Dk Dh Dn De Dm = bif KM a0 a7 then rB (within (ln a7) 1 4 && (decide (ln a8 = ln a7) && (decide (ln a9 = ln a7) && (Km a9 && Ke Dj Di)))) else rB false := by
  refine Jy (l0 := fun i => Hz.l0 a7 (ln a7) i a0 a1 a2 a3 a4 a5 a6 a7 a8 a9 Dg Dd a12 Dj Di Dk Dh Dn De Dm) (n := a7.length) (p := fun i => Oj a0 i (a7.getD i [])) ?_ fun i hi => ?_
  ·rw [Hz.CZ, show decide (((a7.length : Nat) : Int) < ln a7) = false from Dq (Nat.le_refl _), Ez, Xd, TB Dj Di Rx vE]
   simp only [q0, qb, cB, DR, cond_false, FW]
  ·rw [Hz.CZ, show decide ((i : Int) < ln a7) = true from Dr hi, DB hi, DG (by omega), Yf (Uc hp RO hi)]
   show (bif !decide (ui (a7.getD i []) 0 = ((i + 1 : Nat) : Int)) then _ else bif decide (ui (a7.getD i []) 8 > a0) then _ else bif !JZ (ui (a7.getD i []) 1) (ui (a7.getD i []) 2) (ul (a7.getD i []) 3) (ui (a7.getD i []) 4) (ul (a7.getD i []) 5) (ul (a7.getD i []) 6) (ul (a7.getD i []) 7) (ui (a7.getD i []) 8) (ul (a7.getD i []) 9) then _ else _) = _
   unfold Oj
   cases JZ (ui (a7.getD i []) 1) (ui (a7.getD i []) 2) (ul (a7.getD i []) 3) (ui (a7.getD i []) 4) (ul (a7.getD i []) 5) (ul (a7.getD i []) 6) (ul (a7.getD i []) 7) (ui (a7.getD i []) 8) (ul (a7.getD i []) 9) <;> cases decide (ui (a7.getD i []) 0 = ((i + 1 : Nat) : Int)) <;> cases decide (ui (a7.getD i []) 8 > a0) <;> rfl
 rw [Hz.eq, Ie, XB hc, Yk Dd vA, XR a12 hg RK, Xt Dk Dh Dn De RJ RH jA RN, Xv Dm (by omega), loop]
 simp only [q0, qb, cB, DR, cond_false, FW]
 unfold Ly
 generalize (ordered Ju DT Dd && (decide (ln Dd ≤ 6) && decide (Jm Dd ≤ 100))) = b1
 generalize within a0 0 10000 = b2
 generalize Qv a1 a2 a3 a4 a5 a6 = b3
 generalize Pr a12 = b4
 generalize LZ Dk Dh Dn De = b5
 generalize Ps Dm = b6
 generalize KM a0 a7 = b7
 cases b1 <;> cases b2 <;> cases b3 <;> cases b4 <;> cases b5 <;> cases b6 <;> cases b7 <;> simp only [cond_true, cond_false, Bool.not_true, Bool.not_false, Bool.false_and, Bool.true_and, Bool.and_false]
 congr 1
 ac_rfl
end Go.Proofs.YtbanfmadialnkaaGreat.Eng
/- half -/
