/- Copies of worlds are what is copied. -/
import Derived.Test.YtaghmjcfaplkiaaGreatPCp
namespace Go.Proofs.YtaghmjcfaplkiaaGreat.Eng
open Go.RowKit
set_option linter.unusedVariables false
set_option linter.unusedSimpArgs false
set_option linter.unusedSectionVars false
set_option maxRecDepth 100000
variable [Sm]
theorem TF {xs : LL} (h : WR Fw.ct 167 xs) : xs.map (fun x => [U.int (ui x 0), U.int (ui x 1), U.int (ui x 2), U.lst (ul x 3), U.int (ui x 4), U.lst (Ik (ul x 5)), U.lst (ul x 6), U.lst (ul x 7), U.int (ui x 8), U.lst (ul x 9)]) = xs := Ma fun x hx => by
 obtain ⟨c0, c1, c2, c3, c4, c5, c6, c7, c8, c9, rfl, _, h5, _⟩ := PC (h.2 x hx)
 show [U.int c0, U.int c1, U.int c2, U.lst c3, U.int c4, U.lst (Ik c5), U.lst c6, U.lst c7, U.int c8, U.lst c9] = _
 rw [RO h5]
theorem Uo {xs : LL} (h : WR Fw.ct 90 xs) : xs.map (fun x => [U.lst (ul x 0)]) = xs := Ma fun x hx => by
 obtain ⟨c0, rfl, _⟩ := Nn (h.2 x hx); rfl
theorem WI (xs : LL) (h : WR Fw.ct 90 xs) (hc : Fx xs ≤ 1048576) : KL.c xs = rL xs := by
 have hl := FF xs
 rw [KL.eq]
 refine (Km (l0 := fun i acc => KL.l0 xs _ i acc) (xs := xs) (f := fun x => [U.lst (ul x 0)]) (R := fun acc => rL acc) (fun acc ha => ?_) fun i hi acc ha => ?_).trans (congrArg rL (Uo h))
 ·rw [KL.Fy, FK (Nat.le_refl _)]; rfl
 ·have h1 := sub_lt hi 0
  have h2 := FF (ul (xs.getD i []) 0)
  rw [KL.Fy, FJ hi, GH hi, HS (by omega)]
  show EK (room (0 + (ul (xs.getD i []) 0).length) 72) (EK (room (acc.length + 1) 24) _) = _
  rw [FW (by omega) (by omega), FW (by omega) (by omega)]; rfl
theorem TG {a7 : LL} {i : Nat} (hi : i < a7.length) (b7 : Fx a7 ≤ 1048576) : (gl a7 (i : Int) 3).length ≤ 1099511627776 ∧ Fx (gl a7 (i : Int) 5) ≤ 1099511627776 ∧ (gl a7 (i : Int) 6).length ≤ 1099511627776 ∧ (gl a7 (i : Int) 7).length ≤ 1099511627776 ∧ (gl a7 (i : Int) 9).length ≤ 1099511627776 := by
 have k := fun j => sub_lt hi j
 have m := fun j => FF (ul (a7.getD i []) j)
 have k3 := k 3; have k5 := k 5; have k6 := k 6; have k7 := k 7; have k9 := k 9
 have m3 := m 3; have m6 := m 6; have m7 := m 7; have m9 := m 9
 refine ⟨?_, ?_, ?_, ?_, ?_⟩
 ·show (ul (a7.getD i []) 3).length ≤ _; omega
 ·show Fx (ul (a7.getD i []) 5) ≤ _; omega
 ·show (ul (a7.getD i []) 6).length ≤ _; omega
 ·show (ul (a7.getD i []) 7).length ≤ _; omega
 ·show (ul (a7.getD i []) 9).length ≤ _; omega
theorem Ye (a0 : Int) (a1 a2 a3 a4 : List (List U)) (a5 : Int) (a6 a7 a8 a9 : List (List U)) (FD : Int) (FE a12 FH FL FM FN : List (List U)) (FR : Int) (FO FQ : List (List U)) (h1 : WR Fw.ct 252 a1) (h2 : WR Fw.ct 164 a2) (h7 : WR Fw.ct 167 a7) (h9 : WR Fw.ct 90 a9) (NR : WR Fw.ct 185 a12) (MO : WR Fw.ct 94 FO) (b1 : Fx a1 ≤ 1048576) (b2 : Fx a2 ≤ 1048576) (b3 : Fx a3 ≤ 1048576) (b4 : Fx a4 ≤ 1048576) (b6 : Fx a6 ≤ 1048576) (b7 : Fx a7 ≤ 1048576) (b8 : Fx a8 ≤ 1048576) (b9 : Fx a9 ≤ 1048576) (UF : Fx FE ≤ 1048576) (RC : Fx a12 ≤ 1048576) (UG : Fx FH ≤ 1048576) (UH : Fx FL ≤ 1048576) (UI : Fx FM ≤ 1048576) (UJ : Fx FN ≤ 1048576) (RD : Fx FO ≤ 1048576) (UK : Fx FQ ≤ 1048576) : Hf.c a0 a1 a2 a3 a4 a5 a6 a7 a8 a9 FD FE a12 FH FL FM FN FR FO FQ = some ⟨[[.int a0, .lst a1, .lst a2, .lst a3, .lst a4, .int a5, .lst a6, .lst a7, .lst a8, .lst a9, .int FD, .lst FE, .lst a12, .lst FH, .lst FL, .lst FM, .lst FN, .int FR, .lst FO, .lst FQ]], []⟩ := by
 have l1 := FF a1
 have l2 := FF a2
 have l3 := FF a3
 have l4 := FF a4
 have l6 := FF a6
 have l7 := FF a7
 have l8 := FF a8
 have l9 := FF a9
 have Tu := FF FE
 have Xq := FF a12
 have Xr := FF FH
 have Xs := FF FL
 have Xt := FF FM
 have Xu := FF FN
 have Xv := FF FO
 have Xw := FF FQ
 have RP : room (0 + FE.length) 16 = true := FW (by omega) (by omega)
 have RQ : room (0 + FH.length) 24 = true := FW (by omega) (by omega)
 have RR : room (0 + FL.length) 32 = true := FW (by omega) (by omega)
 have RT : room (0 + FM.length) 8 = true := FW (by omega) (by omega)
 have RU : room (0 + FN.length) 8 = true := FW (by omega) (by omega)
 have RV : room (0 + FQ.length) 80 = true := FW (by omega) (by omega)
 have e8 : room (0 + a8.length) 1 = true := FW (by omega) (by omega)
 have ZI : ∀ z1 z2 z3 z4 : Int, Hf.l1 0 a0 a1 a2 a3 a4 a5 a6 a7 a8 a9 FD FE a12 FH FL FM FN FR FO FQ z1 z2 z3 z4 a0 a5 FD FE a12 FH FL FM FN FR FO FQ a1 a2 a3 a4 a6 a7 a8 [] = some ⟨[[.int a0, .lst a1, .lst a2, .lst a3, .lst a4, .int a5, .lst a6, .lst a7, .lst a8, .lst a9, .int FD, .lst FE, .lst a12, .lst FH, .lst FL, .lst FM, .lst FN, .int FR, .lst FO, .lst FQ]], []⟩ := by
  intro z1 z2 z3 z4
  refine (Km (l0 := fun i acc => Hf.l1 i a0 a1 a2 a3 a4 a5 a6 a7 a8 a9 FD FE a12 FH FL FM FN FR FO FQ z1 z2 z3 z4 a0 a5 FD FE a12 FH FL FM FN FR FO FQ a1 a2 a3 a4 a6 a7 a8 acc) (xs := a9) (f := fun x => [U.lst (ul x 0)]) (R := fun acc => some ⟨[[.int a0, .lst a1, .lst a2, .lst a3, .lst a4, .int a5, .lst a6, .lst a7, .lst a8, .lst acc, .int FD, .lst FE, .lst a12, .lst FH, .lst FL, .lst FM, .lst FN, .int FR, .lst FO, .lst FQ]], []⟩) (fun acc ha => ?_) fun i hi acc ha => ?_).trans (congrArg (fun acc : LL => (some ⟨[[.int a0, .lst a1, .lst a2, .lst a3, .lst a4, .int a5, .lst a6, .lst a7, .lst a8, .lst acc, .int FD, .lst FE, .lst a12, .lst FH, .lst FL, .lst FM, .lst FN, .int FR, .lst FO, .lst FQ]], []⟩ : O)) (Uo h9))
  ·rw [Hf.Tv, show decide (((a9.length : Nat) : Int) < ln a9) = false from FK (Nat.le_refl _), Ya a12 NR RC, Uc FO MO RD, RP, RQ, RR, RT, RU, RV]; rfl
  ·have g1 := sub_lt hi 0
   have g2 := FF (ul (a9.getD i []) 0)
   rw [Hf.Tv, FJ hi, GH hi, HS (by omega)]
   show EK (room (0 + (ul (a9.getD i []) 0).length) 72) (EK (room (acc.length + 1) 24) _) = _
   rw [FW (by omega) (by omega), FW (by omega) (by omega)]; rfl
 rw [Hf.eq, XY a5 h1 b1 h2 b2 b3 b4 b6]
 show Hf.l0 0 a0 a1 a2 a3 a4 a5 a6 a7 a8 a9 FD FE a12 FH FL FM FN FR FO FQ 0 0 0 0 a0 a5 a8 a9 FD FE a12 FH FL FM FN FR FO FQ a1 a2 a3 a4 a6 [] = _
 refine (Km (l0 := fun i acc => Hf.l0 i a0 a1 a2 a3 a4 a5 a6 a7 a8 a9 FD FE a12 FH FL FM FN FR FO FQ 0 0 0 0 a0 a5 a8 a9 FD FE a12 FH FL FM FN FR FO FQ a1 a2 a3 a4 a6 acc) (xs := a7) (f := fun x => [U.int (ui x 0), U.int (ui x 1), U.int (ui x 2), U.lst (ul x 3), U.int (ui x 4), U.lst (Ik (ul x 5)), U.lst (ul x 6), U.lst (ul x 7), U.int (ui x 8), U.lst (ul x 9)]) (R := fun acc => Hf.l1 0 a0 a1 a2 a3 a4 a5 a6 a7 a8 a9 FD FE a12 FH FL FM FN FR FO FQ 0 0 0 0 a0 a5 FD FE a12 FH FL FM FN FR FO FQ a1 a2 a3 a4 a6 acc a8 []) (fun acc ha => ?_) fun i hi acc ha => ?_).trans ?_
 ·rw [Hf.Fy, show decide (((a7.length : Nat) : Int) < ln a7) = false from FK (Nat.le_refl _), e8]; rfl
 ·obtain ⟨g3, g5, g6, g7, g9⟩ := TG hi b7
  rw [Hf.Fy, FJ hi, GH hi, HS (by omega), Yd _ _ _ _ _ _ _ _ _ _ g3 g5 g6 g7 g9]
  show EK (room (acc.length + 1) 160) _ = _
  rw [FW (by omega) (by omega)]; rfl
 ·rw [TF h7]; exact ZI 0 0 0 0
theorem WJ (a0 : Int) (a1 a2 a3 a4 : List (List U)) (a5 : Int) (a6 a7 a8 a9 : List (List U)) (FD : Int) (FE a12 FH FL FM FN : List (List U)) (FR : Int) (FO FQ : List (List U)) (h1 : WR Fw.ct 252 a1) (h2 : WR Fw.ct 164 a2) (h7 : WR Fw.ct 167 a7) (h9 : WR Fw.ct 90 a9) (NR : WR Fw.ct 185 a12) (MO : WR Fw.ct 94 FO) (b1 : Fx a1 ≤ 1048576) (b2 : Fx a2 ≤ 1048576) (b3 : Fx a3 ≤ 1048576) (b4 : Fx a4 ≤ 1048576) (b6 : Fx a6 ≤ 1048576) (b7 : Fx a7 ≤ 1048576) (b8 : Fx a8 ≤ 1048576) (b9 : Fx a9 ≤ 1048576) (UF : Fx FE ≤ 1048576) (RC : Fx a12 ≤ 1048576) (UG : Fx FH ≤ 1048576) (UH : Fx FL ≤ 1048576) (UI : Fx FM ≤ 1048576) (UJ : Fx FN ≤ 1048576) (RD : Fx FO ≤ 1048576) (UK : Fx FQ ≤ 1048576) : Io.c a0 a1 a2 a3 a4 a5 a6 a7 a8 a9 FD FE a12 FH FL FM FN FR FO FQ = some ⟨[[.int a0, .lst a1, .lst a2, .lst a3, .lst a4, .int a5, .lst a6, .lst a7, .lst a8, .lst a9, .int FD, .lst FE, .lst a12, .lst FH, .lst FL, .lst FM, .lst FN, .int FR, .lst FO, .lst FQ]], []⟩ := by
 have l1 := FF a1
 have l2 := FF a2
 have l3 := FF a3
 have l4 := FF a4
 have l6 := FF a6
 have l7 := FF a7
 have l8 := FF a8
 have l9 := FF a9
 have Tu := FF FE
 have Xq := FF a12
 have Xr := FF FH
 have Xs := FF FL
 have Xt := FF FM
 have Xu := FF FN
 have Xv := FF FO
 have Xw := FF FQ
 have RP : room (0 + FE.length) 16 = true := FW (by omega) (by omega)
 have RQ : room (0 + FH.length) 24 = true := FW (by omega) (by omega)
 have RR : room (0 + FL.length) 32 = true := FW (by omega) (by omega)
 have RT : room (0 + FM.length) 8 = true := FW (by omega) (by omega)
 have RU : room (0 + FN.length) 8 = true := FW (by omega) (by omega)
 have RV : room (0 + FQ.length) 80 = true := FW (by omega) (by omega)
 have e8 : room (0 + a8.length) 1 = true := FW (by omega) (by omega)
 rw [Io.eq, WC a5 h1 b1 h2 b2 b3 b4 b6, WI a9 h9 b9, e8]
 show Io.l0 a7 (ln a7) 0 a0 a1 a2 a3 a4 a5 a6 a7 a8 a9 FD FE a12 FH FL FM FN FR FO FQ 0 0 0 0 a0 a5 FD 0 a1 a2 a3 a4 a6 [] a8 a9 = _
 refine (Km (l0 := fun i acc => Io.l0 a7 (ln a7) i a0 a1 a2 a3 a4 a5 a6 a7 a8 a9 FD FE a12 FH FL FM FN FR FO FQ 0 0 0 0 a0 a5 FD 0 a1 a2 a3 a4 a6 acc a8 a9) (xs := a7) (f := fun x => [U.int (ui x 0), U.int (ui x 1), U.int (ui x 2), U.lst (ul x 3), U.int (ui x 4), U.lst (Ik (ul x 5)), U.lst (ul x 6), U.lst (ul x 7), U.int (ui x 8), U.lst (ul x 9)]) (R := fun acc => some ⟨[[.int a0, .lst a1, .lst a2, .lst a3, .lst a4, .int a5, .lst a6, .lst acc, .lst a8, .lst a9, .int FD, .lst FE, .lst a12, .lst FH, .lst FL, .lst FM, .lst FN, .int FR, .lst FO, .lst FQ]], []⟩) (fun acc ha => ?_) fun i hi acc ha => ?_).trans (congrArg (fun acc : LL => (some ⟨[[.int a0, .lst a1, .lst a2, .lst a3, .lst a4, .int a5, .lst a6, .lst acc, .lst a8, .lst a9, .int FD, .lst FE, .lst a12, .lst FH, .lst FL, .lst FM, .lst FN, .int FR, .lst FO, .lst FQ]], []⟩ : O)) (TF h7))
 ·rw [Io.Fy, show decide (((a7.length : Nat) : Int) < ln a7) = false from FK (Nat.le_refl _), WE a12 NR RC, Tp FO MO RD, RP, RQ, RR, RT, RU, RV]; rfl
 ·obtain ⟨g3, g5, g6, g7, g9⟩ := TG hi b7
  rw [Io.Fy, show decide ((i : Int) < ln a7) = true from FJ hi, GH hi, HS (by omega), WH _ _ _ _ _ _ _ _ _ _ g3 g5 g6 g7 g9]
  show EK (room (acc.length + 1) 160) _ = _
  rw [FW (by omega) (by omega)]; rfl
end Go.Proofs.YtaghmjcfaplkiaaGreat.Eng
/- half -/
