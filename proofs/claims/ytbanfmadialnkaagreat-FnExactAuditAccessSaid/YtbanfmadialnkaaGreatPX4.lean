/- What is wrong with a world. -/
import Derived.Test.YtbanfmadialnkaaGreatPX3
import Derived.Test.YtbanfmadialnkaaGreatPC4
namespace Go.Proofs.YtbanfmadialnkaaGreat.Eng
open Go.RowKit
set_option linter.unusedVariables false
set_option linter.unusedSimpArgs false
set_option linter.unusedSectionVars false
set_option maxRecDepth 100000
variable [Sm]
/- instances too -/
/-- Two answers of the same. -/
def QV (a b : O) : Prop := ∃ r : Bool, a = rB r ∧ b = rB r
theorem Zi (a0 : Int) (a1 a2 a3 a4 : List (List U)) (a5 : Int) (a6 a7 a8 a9 : List (List U)) (Dg : Int) (Dd a12 Dj Di Dk Dh : List (List U)) (Dn : Int) (De Dm : List (List U)) (h : WR Db.ct 167 a9) (hc : Da a9 ≤ 1048576) (Fi : Da Dd ≤ 1048576) : QV (Pk.c a0 a1 a2 a3 a4 a5 a6 a7 a8 a9 Dg Dd a12 Dj Di Dk Dh Dn De Dm) (MU.c a0 a1 a2 a3 a4 a5 a6 a7 a8 a9 Dg Dd a12 Dj Di Dk Dh Dn De Dm) := by
 have hl := DA Dd
 obtain ⟨n, h1, h2⟩ := aaY Dd (by omega)
 obtain ⟨m, h3, h4⟩ := UB a0 a1 a2 a3 a4 a5 a6 a7 a8 a9 Dg Dd a12 Dj Di Dk Dh Dn De Dm 1 h hc
 exact ⟨decide (IntKind.i64.wrap (m + n) = Dg), by rw [Pk.eq]; (try dsimp +instances only [gr, gi, gl, gb, gt, ui, ul, ub, ut, CX, ln, Cu, aI.i, aI.l, aI.b, aI.t, aI.ij, aI.lj, aI.bj, aI.tj]); rw [h3, QQ.eq, h1]; rfl, by rw [MU.eq]; (try dsimp +instances only [gr, gi, gl, gb, gt, ui, ul, ub, ut, CX, ln, Cu, aI.i, aI.l, aI.b, aI.t, aI.ij, aI.lj, aI.bj, aI.tj]); rw [h4, Qp.eq, h2]; rfl⟩
theorem VH (a0 : Int) (a1 a2 a3 a4 : List (List U)) (a5 : Int) (a6 a7 a8 a9 : List (List U)) (Dg : Int) (Dd a12 Dj Di Dk Dh : List (List U)) (Dn : Int) (De Dm : List (List U)) (h : WR Db.ct 167 a9) (hc : Da a9 ≤ 1048576) (Pv : Da Dh ≤ 1048576) (Mc : Da De ≤ 1048576) : QV (DY.c a0 a1 a2 a3 a4 a5 a6 a7 a8 a9 Dg Dd a12 Dj Di Dk Dh Dn De Dm) (EM.c a0 a1 a2 a3 a4 a5 a6 a7 a8 a9 Dg Dd a12 Dj Di Dk Dh Dn De Dm) := by
 have hl := DA Dh
 have hm := DA De
 obtain ⟨b, hb⟩ := Uz (st := KU Dh De) (q := KZ De) (entries a9 2) (List.replicate De.length [U.int 0])
 exact ⟨b, (aaf _ _ _ _ _ _ _ _ _ _ _ _ _ _ _ _ _ _ _ _ h hc (by omega) (by omega)).trans hb, (XA _ _ _ _ _ _ _ _ _ _ _ _ _ _ _ _ _ _ _ _ h hc (by omega) (by omega)).trans hb⟩
theorem ace (a0 : Int) (a1 a2 a3 a4 : List (List U)) (a5 : Int) (a6 a7 a8 a9 : List (List U)) (Dg : Int) (Dd a12 Dj Di Dk Dh : List (List U)) (Dn : Int) (De Dm : List (List U)) (h : WR Db.ct 167 a9) (hc : Da a9 ≤ 1048576) (Pt : Da Dj ≤ 1048576) (Pu : Da Di ≤ 1048576) : QV (IH.c a0 a1 a2 a3 a4 a5 a6 a7 a8 a9 Dg Dd a12 Dj Di Dk Dh Dn De Dm) (MW.c a0 a1 a2 a3 a4 a5 a6 a7 a8 a9 Dg Dd a12 Dj Di Dk Dh Dn De Dm) := by
 have YK := DA Dj
 have YL := DA Di
 have gd := Mj a9
 have di : (entries a9 1).length ≤ 1048576 := by unfold entries; have := List.length_filter_le (fun e => decide (v0 e = 1)) (flat a9); omega
 obtain ⟨m, Xi, Xj⟩ := UB a0 a1 a2 a3 a4 a5 a6 a7 a8 a9 Dg Dd a12 Dj Di Dk Dh Dn De Dm 1 h hc
 refine ⟨decide ((Di.length : Int) = m) && (Ke Dj Di && Di.all fun u => (entries a9 1).any (answers u)), ?_, ?_⟩
 ·rw [IH.eq]; (try dsimp +instances only [gr, gi, gl, gb, gt, ui, ul, ub, ut, CX, ln, Cu, aI.i, aI.l, aI.b, aI.t, aI.ij, aI.lj, aI.bj, aI.tj])
  refine (Jy (l0 := fun i => IH.l0 i a0 a1 a2 a3 a4 a5 a6 a7 a8 a9 Dg Dd a12 Dj Di Dk Dh Dn De Dm) (n := Di.length) (p := fun i => (entries a9 1).any (answers (Di.getD i []))) (R := rB (decide ((Di.length : Int) = m) && Ke Dj Di)) (F := rB false) ?_ fun i hi => ?_).trans ?_
  ·rw [IH.CZ]; (try dsimp +instances only [gr, gi, gl, gb, gt, ui, ul, ub, ut, CX, ln, Cu, aI.i, aI.l, aI.b, aI.t, aI.ij, aI.lj, aI.bj, aI.tj]); rw [Dq (Nat.le_refl _), Xi, UP _ _ (by omega) (by omega)]
   show (bif decide ((Di.length : Int) = m) then _ else _) = _
   cases decide ((Di.length : Int) = m) <;> rfl
  ·rw [IH.CZ]; (try dsimp +instances only [gr, gi, gl, gb, gt, ui, ul, ub, ut, CX, ln, Cu, aI.i, aI.l, aI.b, aI.t, aI.ij, aI.lj, aI.bj, aI.tj]); rw [Dr hi, Dy, decide_eq_true hi, DC (n := i) (by omega), Int.toNat_natCast, aar _ _ _ _ _ _ _ _ _ _ _ _ _ _ _ _ _ _ _ _ _ h hc]
   cases (entries a9 1).any (answers (Di.getD i [])) <;> rfl
  ·rw [Jv Di [] fun u => (entries a9 1).any (answers u)]
   cases decide ((Di.length : Int) = m) <;> cases Ke Dj Di <;> cases Di.all (fun u => (entries a9 1).any (answers u)) <;> rfl
 ·rw [MW.eq]; (try dsimp +instances only [gr, gi, gl, gb, gt, ui, ul, ub, ut, CX, ln, Cu, aI.i, aI.l, aI.b, aI.t, aI.ij, aI.lj, aI.bj, aI.tj]); rw [RP _ _ _ _ _ _ _ _ _ _ _ _ _ _ _ _ _ _ _ _ _ h hc, Xj, TB _ _ (by omega) (by omega)]
  simp only [Option.bind_some, aI.LW, List.getD_cons_zero, U.CS, U.nn, U.toInt_int]
  rw [Yq _ _ (by omega) di]
  rw [List.all_eq_not_any_not]
  cases decide ((Di.length : Int) = m) <;> cases Ke Dj Di <;> cases Di.any (fun u => !(entries a9 1).any (answers u)) <;> rfl
theorem WE (a0 : Int) (a1 a2 a3 a4 : List (List U)) (a5 : Int) (a6 a7 a8 a9 : List (List U)) (Dg : Int) (Dd a12 Dj Di Dk Dh : List (List U)) (Dn : Int) (De Dm : List (List U)) (hp : WR Db.ct 133 a7) (he : WR Db.ct 180 De) (h : WR Db.ct 167 a9) (hc : Da a9 ≤ 1048576) (b1 : Da a1 ≤ 1048576) (b2 : Da a2 ≤ 1048576) (b3 : Da a3 ≤ 1048576) (b4 : Da a4 ≤ 1048576) (b6 : Da a6 ≤ 1048576) (b7 : Da a7 ≤ 1048576) (Fi : Da Dd ≤ 1048576) (SQ : Da a12 ≤ 1048576) (Pt : Da Dj ≤ 1048576) (Pu : Da Di ≤ 1048576) (SR : Da Dk ≤ 1048576) (Pv : Da Dh ≤ 1048576) (Mc : Da De ≤ 1048576) (SS : Da Dm ≤ 1048576) : ∃ r, Pa.c a0 a1 a2 a3 a4 a5 a6 a7 a8 a9 Dg Dd a12 Dj Di Dk Dh Dn De Dm = rS r ∧ MI.c a0 a1 a2 a3 a4 a5 a6 a7 a8 a9 Dg Dd a12 Dj Di Dk Dh Dn De Dm = rS r := by
 have w := acf (a9 := a9) hp he b1 b2 b3 b4 b6 b7 hc Fi SQ Pt Pu SR Pv Mc SS
 have l4 := DA a4
 obtain ⟨q, q1, q2⟩ := Zi a0 a1 a2 a3 a4 a5 a6 a7 a8 a9 Dg Dd a12 Dj Di Dk Dh Dn De Dm h hc Fi
 obtain ⟨c, c1, c2⟩ := VH a0 a1 a2 a3 a4 a5 a6 a7 a8 a9 Dg Dd a12 Dj Di Dk Dh Dn De Dm h hc Pv Mc
 obtain ⟨u, u1, u2⟩ := ace a0 a1 a2 a3 a4 a5 a6 a7 a8 a9 Dg Dd a12 Dj Di Dk Dh Dn De Dm h hc Pt Pu
 rw [Pa.eq, MI.eq, aaV a0 a1 a2 a3 a4 a5 a6 a7 a8 a9 Dg Dd a12 Dj Di Dk Dh Dn De Dm w, Yr a0 a1 a2 a3 a4 a5 a6 a7 a8 a9 Dg Dd a12 Dj Di Dk Dh Dn De Dm w, aad a0 a1 a2 a3 a4 a5 a6 a7 a8 a9 Dg Dd a12 Dj Di Dk Dh Dn De Dm h hc (by omega), Xz a0 a1 a2 a3 a4 a5 a6 a7 a8 a9 Dg Dd a12 Dj Di Dk Dh Dn De Dm h hc (by omega), q1, q2, c1, c2, u1, u2]
 generalize (KM a0 a7 && (Km a9 && Ly a0 a1 a2 a3 a4 a5 a6 a7 a8 a9 Dg Dd a12 Dj Di Dk Dh Dn De Dm)) = x
 generalize bounded a9 a4 = y
 cases x
 ·exact ⟨_, rfl, rfl⟩
 cases y
 ·exact ⟨_, rfl, rfl⟩
 cases q
 ·exact ⟨_, rfl, rfl⟩
 cases c
 ·exact ⟨_, rfl, rfl⟩
 cases u <;> exact ⟨_, rfl, rfl⟩
end Go.Proofs.YtbanfmadialnkaaGreat.Eng
/- half -/
