/- Worlds that are valid. -/
import Derived.Test.YtbanfmadialnkaaGreatPC3
import Derived.Test.YtbanfmadialnkaaGreatPSep
namespace Go.Proofs.YtbanfmadialnkaaGreat.Eng
open Go.RowKit
set_option linter.unusedVariables false
set_option linter.unusedSimpArgs false
set_option linter.unusedSectionVars false
set_option maxRecDepth 100000
variable [Sm]
theorem AV {xs : LL} {x : List U} (h : x ∈ xs) (j : Nat) : ai (ul x j) ≤ ai xs ∧ (ul x j).length ≤ ai xs := by
 obtain ⟨i, hi, rfl⟩ := List.getElem_of_mem h
 have h1 := sub_lt hi j
 have e : xs.getD i [] = xs[i] := by rw [List.getD_eq_getElem?_getD, List.getElem?_eq_getElem hi]; rfl
 rw [e] at h1
 have h2 := bl (ul xs[i] j)
 omega
noncomputable def wg (a0 : Int) (i : Nat) (x : List U) : Bool := pU (ui x 1) (ui x 2) (ul x 3) (ui x 4) (ul x 5) (ul x 6) (ul x 7) (ui x 8) (ul x 9) && (decide (ui x 0 = ((i + 1 : Nat) : Int)) && !decide (ui x 8 > a0))
noncomputable def rj (a0 : Int) (xs : LL) : Bool := (List.range xs.length).all fun i => wg a0 i (xs.getD i [])
def pT (xs : LL) : Bool := xs.all fun x => lb (ul x 0)
noncomputable def tz (a0 : Int) (a1 a2 a3 a4 : List (List U)) (a5 : Int) (a6 a7 a8 a9 : List (List U)) (az : Int) (aw a12 aF aC aG aB : List (List U)) (aL : Int) (ay aJ : List (List U)) : Bool := within a0 0 10000 && (AW a1 a2 a3 a4 a5 a6 && ((ordered nG cG aw && (decide (ln aw ≤ 6) && decide (mW aw ≤ 100))) && (AX a12 && (wh aG aB aL ay && (AY aJ && (within (ln a7) 1 4 && (decide (ln a8 = ln a7) && (decide (ln a9 = ln a7) && pQ aF aC))))))))
structure Dn (a1 a2 a3 a4 a6 a7 a9 aw a12 aF aC aG aB ay aJ : LL) : Prop where
 c : Dp a1 a2 a3 a4 a6
 p : WR ao.ct 133 a7
 pc : ai a7 ≤ 1048576
 t : ai a9 ≤ 1048576
 sh : aw.length ≤ 1048576
 g : a12.length ≤ 1048576
 gs : ∀ x ∈ a12, (ul x 3).length ≤ 1048576
 ap : aF.length ≤ 1048576
 us : aC.length ≤ 1048576
 ps : aG.length ≤ 1048576
 os : aB.length ≤ 1048576
 em : WR ao.ct 180 ay
 ec : ai ay ≤ 1048576
 se : aJ.length ≤ 1048576
theorem Nh {a1 a2 a3 a4 a6 a7 a9 aw a12 aF aC aG aB ay aJ : LL} (hp : WR ao.ct 133 a7) (he : WR ao.ct 180 ay) (b1 : ai a1 ≤ 1048576) (b2 : ai a2 ≤ 1048576) (b3 : ai a3 ≤ 1048576) (b4 : ai a4 ≤ 1048576) (b6 : ai a6 ≤ 1048576) (b7 : ai a7 ≤ 1048576) (b9 : ai a9 ≤ 1048576) (fv : ai aw ≤ 1048576) (Hv : ai a12 ≤ 1048576) (AT : ai aF ≤ 1048576) (AU : ai aC ≤ 1048576) (Hw : ai aG ≤ 1048576) (AS : ai aB ≤ 1048576) (wb : ai ay ≤ 1048576) (Hx : ai aJ ≤ 1048576) : Dn a1 a2 a3 a4 a6 a7 a9 aw a12 aF aC aG aB ay aJ := by
 have l1 := bl a1
 have l2 := bl a2
 have l3 := bl a3
 have l4 := bl a4
 have l6 := bl a6
 have l7 := bl a7
 have l9 := bl a9
 have Nn := bl aw
 have W6 := bl a12
 have Na := bl aF
 have Nb := bl aC
 have W7 := bl aG
 have W8 := bl aB
 have W9 := bl ay
 have Xa := bl aJ
 exact ⟨⟨by omega, fun x hx => by have := (AV hx 1).2; omega, ⟨by omega, fun x hx => ⟨by have := (AV hx 2).2; omega, by have := (AV hx 4).1; omega⟩⟩, by omega, by omega, by omega⟩, hp, b7, b9, by omega, by omega, fun x hx => by have := (AV hx 3).2; omega, by omega, by omega, by omega, by omega, he, wb, by omega⟩
theorem Ni (a0 : Int) (a1 a2 a3 a4 : List (List U)) (a5 : Int) (a6 a7 a8 a9 : List (List U)) (az : Int) (aw a12 aF aC aG aB : List (List U)) (aL : Int) (ay aJ : List (List U)) (h : Dn a1 a2 a3 a4 a6 a7 a9 aw a12 aF aC aG aB ay aJ) : eC.c a0 a1 a2 a3 a4 a5 a6 a7 a8 a9 az aw a12 aF aC aG aB aL ay aJ = rB (rj a0 a7 && (pT a9 && tz a0 a1 a2 a3 a4 a5 a6 a7 a8 a9 az aw a12 aF aC aG aB aL ay aJ)) := by
 obtain ⟨hc, hp, Dq, ht, tA, hg, Dr, Ds, rk, mX, Dt, Du, Dv, No⟩ := h
 have l7 := bl a7
 have l9 := bl a9
 have tail : eC.l1 (ln a9) a0 a1 a2 a3 a4 a5 a6 a7 a8 a9 az aw a12 aF aC aG aB aL ay aJ = rB (tz a0 a1 a2 a3 a4 a5 a6 a7 a8 a9 az aw a12 aF aC aG aB aL ay aJ) := by
  rw [eC.cH, show decide (ln a9 < ln a9) = false from aQ (Nat.le_refl _), jj, Np hc, Nq aw tA, Nr a12 hg Dr, Ns aG aB aL ay Du Dv mX Dt, Nt, Nu aJ (by omega), eD, Ht aF aC Ds rk]
  simp only [q0, qb, cB, cJ, cond_false]; rfl
 have Nv : eC.l1 0 a0 a1 a2 a3 a4 a5 a6 a7 a8 a9 az aw a12 aF aC aG aB aL ay aJ = bif (List.range a9.length).all (fun i => lb (ul (a9.getD i []) 0)) then rB (tz a0 a1 a2 a3 a4 a5 a6 a7 a8 a9 az aw a12 aF aC aG aB aL ay aJ) else rB false := by
  refine ou (l0 := fun i => eC.l1 i a0 a1 a2 a3 a4 a5 a6 a7 a8 a9 az aw a12 aF aC aG aB aL ay aJ) (n := a9.length) tail fun i hi => ?_
  have h1 := sub_lt hi 0
  have h2 := bl (ul (a9.getD i []) 0)
  rw [eC.cH, aR hi, bo hi, bH (by omega), Nw (gl a9 (i : Int) 0) (by show (ul (a9.getD i []) 0).length ≤ _; omega)]
  show (bif !lb (ul (a9.getD i []) 0) then _ else _) = _
  rw [gL]
 rw [eC.eq]
 refine (ou (l0 := fun i => eC.l0 i a0 a1 a2 a3 a4 a5 a6 a7 a8 a9 az aw a12 aF aC aG aB aL ay aJ) (n := a7.length) (p := fun i => wg a0 i (a7.getD i [])) (R := eC.l1 0 a0 a1 a2 a3 a4 a5 a6 a7 a8 a9 az aw a12 aF aC aG aB aL ay aJ) (F := rB false) ?_ fun i hi => ?_).trans ?_
 ·rw [eC.ah, show decide (((a7.length : Nat) : Int) < ln a7) = false from aQ (Nat.le_refl _)]; rfl
 ·rw [eC.ah, aR hi, bo hi, bH (by omega), Nx (Hy hp Dq hi)]
  show (bif !pU (ui (a7.getD i []) 1) (ui (a7.getD i []) 2) (ul (a7.getD i []) 3) (ui (a7.getD i []) 4) (ul (a7.getD i []) 5) (ul (a7.getD i []) 6) (ul (a7.getD i []) 7) (ui (a7.getD i []) 8) (ul (a7.getD i []) 9) then _ else bif !decide (ui (a7.getD i []) 0 = ((i + 1 : Nat) : Int)) then _ else bif decide (ui (a7.getD i []) 8 > a0) then _ else _) = _
  simp only [wg, pV, gL]
 ·rw [Nv, nF a9 [] fun x => lb (ul x 0)]
  show (bif rj a0 a7 then bif pT a9 then _ else _ else _) = _
  cases rj a0 a7
  ·rfl
  cases pT a9 <;> rfl
theorem Nj (a0 : Int) (a1 a2 a3 a4 : List (List U)) (a5 : Int) (a6 a7 a8 a9 : List (List U)) (az : Int) (aw a12 aF aC aG aB : List (List U)) (aL : Int) (ay aJ : List (List U)) (h : Dn a1 a2 a3 a4 a6 a7 a9 aw a12 aF aC aG aB ay aJ) : ki.c a0 a1 a2 a3 a4 a5 a6 a7 a8 a9 az aw a12 aF aC aG aB aL ay aJ = rB (rj a0 a7 && (pT a9 && tz a0 a1 a2 a3 a4 a5 a6 a7 a8 a9 az aw a12 aF aC aG aB aL ay aJ)) := by
 obtain ⟨hc, hp, Dq, ht, tA, hg, Dr, Ds, rk, mX, Dt, Du, Dv, No⟩ := h
 have l7 := bl a7
 have l9 := bl a9
 have Dw : ld.c a9 = rI (pos (fun i => !lb (ul (a9.getD i []) 0)) a9.length 0) := by
  rw [ld.eq]
  refine kj (l0 := fun i => ld.l0 a9 _ i) (n := a9.length) (p := fun i => !lb (ul (a9.getD i []) 0)) ?_ fun i hi => ?_
  ·rw [ld.ah, aQ (Nat.le_refl _)]; rfl
  ·have h1 := sub_lt hi 0
   have h2 := bl (ul (a9.getD i []) 0)
   rw [ld.ah, aR hi, bo hi, bH (by omega), AZ.eq, Ny (gl a9 (i : Int) 0) (by show (ul (a9.getD i []) 0).length ≤ _; omega)]; rfl
 have Nz : wi.c a9 = rB (!pT a9) := by
  rw [wi.eq, Dw]
  show rB (decide (pos (fun i => !lb (ul (a9.getD i []) 0)) a9.length 0 ≥ 0)) = _
  rw [nH fun x => !lb (ul x 0)]
  unfold pT
  rw [List.all_eq_not_any_not, Bool.not_not]
 have loop : ki.l0 a7 (ln a7) 0 a0 a1 a2 a3 a4 a5 a6 a7 a8 a9 az aw a12 aF aC aG aB aL ay aJ = bif rj a0 a7 then rB (within (ln a7) 1 4 && (decide (ln a8 = ln a7) && (decide (ln a9 = ln a7) && (pT a9 && pQ aF aC)))) else rB false := by
  refine ou (l0 := fun i => ki.l0 a7 (ln a7) i a0 a1 a2 a3 a4 a5 a6 a7 a8 a9 az aw a12 aF aC aG aB aL ay aJ) (n := a7.length) (p := fun i => wg a0 i (a7.getD i [])) ?_ fun i hi => ?_
  ·rw [ki.ah, show decide (((a7.length : Nat) : Int) < ln a7) = false from aQ (Nat.le_refl _), dZ, Nz, Hu aF aC Ds rk]
   simp only [q0, qb, cB, cJ, cond_false, gL]
  ·rw [ki.ah, show decide ((i : Int) < ln a7) = true from aR hi, bo hi, bH (by omega), NA (Hy hp Dq hi)]
   show (bif !decide (ui (a7.getD i []) 0 = ((i + 1 : Nat) : Int)) then _ else bif decide (ui (a7.getD i []) 8 > a0) then _ else bif !pU (ui (a7.getD i []) 1) (ui (a7.getD i []) 2) (ul (a7.getD i []) 3) (ui (a7.getD i []) 4) (ul (a7.getD i []) 5) (ul (a7.getD i []) 6) (ul (a7.getD i []) 7) (ui (a7.getD i []) 8) (ul (a7.getD i []) 9) then _ else _) = _
   unfold wg
   cases pU (ui (a7.getD i []) 1) (ui (a7.getD i []) 2) (ul (a7.getD i []) 3) (ui (a7.getD i []) 4) (ul (a7.getD i []) 5) (ul (a7.getD i []) 6) (ul (a7.getD i []) 7) (ui (a7.getD i []) 8) (ul (a7.getD i []) 9) <;> cases decide (ui (a7.getD i []) 0 = ((i + 1 : Nat) : Int)) <;> cases decide (ui (a7.getD i []) 8 > a0) <;> rfl
 rw [ki.eq, lf, NB hc, NC aw tA, ND a12 hg Dr, NF aG aB aL ay Du Dv mX Dt, NG aJ (by omega), loop]
 simp only [q0, qb, cB, cJ, cond_false, gL]
 unfold tz
 generalize (ordered nG cG aw && (decide (ln aw ≤ 6) && decide (mW aw ≤ 100))) = b1
 generalize within a0 0 10000 = b2
 generalize AW a1 a2 a3 a4 a5 a6 = b3
 generalize AX a12 = b4
 generalize wh aG aB aL ay = b5
 generalize AY aJ = b6
 generalize rj a0 a7 = b7
 cases b1 <;> cases b2 <;> cases b3 <;> cases b4 <;> cases b5 <;> cases b6 <;> cases b7 <;> simp only [cond_true, cond_false, Bool.not_true, Bool.not_false, Bool.false_and, Bool.true_and, Bool.and_false]
 congr 1
 ac_rfl
end Go.Proofs.YtbanfmadialnkaaGreat.Eng
/- half -/
