/- StepSession: the reference and the program give the same. -/
import Derived.Test.YtbanfmadialnkaaGreatPCw
import Derived.Test.YtbanfmadialnkaaGreatPCf
namespace Go.Proofs.YtbanfmadialnkaaGreat.Eng
open Go.RowKit
set_option linter.unusedVariables false
set_option linter.unusedSimpArgs false
set_option linter.unusedSectionVars false
set_option maxRecDepth 100000
variable [Sm]
theorem VP {T : bg} {n : Int} (h : WT T (.int .i64) (.int n)) : -9223372036854775808 ≤ n ∧ n ≤ 9223372036854775807 := by
 obtain ⟨m, e, h⟩ := h.oO
 cases e; exact TH h
/-- A point's saved decisions are replaced. -/
noncomputable def MU (a7 : LL) (i : Nat) (sv : LL) : LL := a7.set i [U.int (gi a7 (i : Int) 0), U.int (gi a7 (i : Int) 1), U.int (gi a7 (i : Int) 2), U.lst (gl a7 (i : Int) 3), U.int (gi a7 (i : Int) 4), U.lst (EM (gl a7 (i : Int) 5)), U.lst (gl a7 (i : Int) 6), U.lst (gl a7 (i : Int) 7), U.int (gi a7 (i : Int) 8), U.lst sv]
theorem aae {a7 : LL} (h7 : WR CZ.ct 133 a7) (b7 : Db a7 ≤ 1048576) {i : Nat} (hi : i < a7.length) {sv : LL} (hw : WR CZ.ct 255 sv) (hl : sv.length ≤ 1048577) : WR CZ.ct 133 (MU a7 i sv) ∧ Db (MU a7 i sv) ≤ 1099511627776 := by
 have Iu := h7.2 _ (De hi (z := []))
 have Ui := DH (De hi (z := []))
 obtain ⟨c0, c1, c2, c3, c4, c5, c6, c7, c8, c9, hr, h3, h5, h6, XZ, h9⟩ := LC Iu
 have f2 := XP hw
 have e : MU a7 i sv = a7.set i [U.int c0, U.int c1, U.int c2, U.lst c3, U.int c4, U.lst c5, U.lst c6, U.lst c7, U.int c8, U.lst sv] := by
  unfold MU gi gl
  rw [Int.toNat_natCast, hr]
  show a7.set i [U.int c0, U.int c1, U.int c2, U.lst c3, U.int c4, U.lst (EM c5), U.lst c6, U.lst c7, U.int c8, U.lst sv] = _
  rw [QX h5]
 rw [hr] at Iu Ui
 rw [e]
 refine ⟨⟨by rw [List.length_set]; exact h7.1, fun x hx => ?_⟩, ?_⟩
 ·rcases List.mem_or_eq_of_mem_set hx with hx | rfl
  ·exact h7.2 x hx
  ·exact Iu.set (i := 9) (ct := .aq 255) rfl hw.abG
 ·have vt := TU (r := [U.int c0, U.int c1, U.int c2, U.lst c3, U.int c4, U.lst c5, U.lst c6, U.lst c7, U.int c8, U.lst sv]) hi
  simp only [Dp, Ds] at Ui vt
  omega
theorem aa6 (FY : Int) (Fh : List (List U)) (FI : List (List U)) (FJ : List (List U)) (FK : List (List U)) (FZ : Int) (Dv : List (List U)) (Dt : List (List U)) (FL : List (List U)) (FM : List (List U)) (Iy : Int) (FB : List (List U)) (FC : List (List U)) (FD : List (List U)) (FE : List (List U)) (FF : List (List U)) (FG : List (List U)) (Iz : Int) (FH : List (List U)) (EF : List (List U)) (p1 : Int) (p2 : Int) (Kg : Int) (Kh : Int) (Ki : Int) (Kj : Int) (Kk : Int) (Mc : Int) (JW : WR CZ.ct 276 Fh) (Nu : Db Fh ≤ 1048576) (JZ : WR CZ.ct 130 FI) (ND : Db FI ≤ 1048576) (KK : WR CZ.ct 280 FJ) (NF : Db FJ ≤ 1048576) (KL : WR CZ.ct 274 FK) (NG : Db FK ≤ 1048576) (Ku : WR CZ.ct 137 Dv) (NH : Db Dv ≤ 1048576) (It : WR CZ.ct 133 Dt) (LM : Db Dt ≤ 1048576) (KM : WR CZ.ct 4 FL) (NI : Db FL ≤ 1048576) (Ka : WR CZ.ct 167 FM) (NJ : Db FM ≤ 1048576) (KE : WR CZ.ct 192 FB) (Nv : Db FB ≤ 1048576) (JX : WR CZ.ct 195 FC) (Nw : Db FC ≤ 1048576) (KF : WR CZ.ct 198 FD) (Nx : Db FD ≤ 1048576) (KG : WR CZ.ct 183 FE) (Ny : Db FE ≤ 1048576) (KH : WR CZ.ct 3 FF) (Nz : Db FF ≤ 1048576) (KI : WR CZ.ct 3 FG) (NA : Db FG ≤ 1048576) (JY : WR CZ.ct 180 FH) (NB : Db FH ≤ 1048576) (KJ : WR CZ.ct 206 EF) (NC : Db EF ≤ 1048576) (Rb : -9223372036854775808 ≤ p1 ∧ p1 ≤ 9223372036854775807) (Rc : -9223372036854775808 ≤ p2 ∧ p2 ≤ 9223372036854775807) : ∃ (MV : Int) (Lj : List (List U)) (Ls : List (List U)) (Lt : List (List U)) (Lu : List (List U)) (MY : Int) (Lv : List (List U)) (Lw : List (List U)) (Lx : List (List U)) (Ly : List (List U)) (MW : Int) (Lk : List (List U)) (Ll : List (List U)) (Lm : List (List U)) (Ln : List (List U)) (Lo : List (List U)) (Lp : List (List U)) (MX : Int) (Lq : List (List U)) (Lr : List (List U)) (r1 : Int), Qu.c FY Fh FI FJ FK FZ Dv Dt FL FM Iy FB FC FD FE FF FG Iz FH EF p1 p2 Kg Kh Ki Kj Kk Mc = some ⟨[[.int MV, .lst Lj, .lst Ls, .lst Lt, .lst Lu, .int MY, .lst Lv, .lst Lw, .lst Lx, .lst Ly, .int MW, .lst Lk, .lst Ll, .lst Lm, .lst Ln, .lst Lo, .lst Lp, .int MX, .lst Lq, .lst Lr], [.int r1]], []⟩ ∧ MF.c FY Fh FI FJ FK FZ Dv Dt FL FM Iy FB FC FD FE FF FG Iz FH EF p1 p2 Kg Kh Ki Kj Kk Mc = some ⟨[[.int MV, .lst Lj, .lst Ls, .lst Lt, .lst Lu, .int MY, .lst Lv, .lst Lw, .lst Lx, .lst Ly, .int MW, .lst Lk, .lst Ll, .lst Lm, .lst Ln, .lst Lo, .lst Lp, .int MX, .lst Lq, .lst Lr], [.int r1]], []⟩ ∧ WR CZ.ct 276 Lj ∧ Db Lj ≤ 1099511627776 ∧ WR CZ.ct 130 Ls ∧ Db Ls ≤ 1099511627776 ∧ WR CZ.ct 280 Lt ∧ Db Lt ≤ 1099511627776 ∧ WR CZ.ct 274 Lu ∧ Db Lu ≤ 1099511627776 ∧ WR CZ.ct 137 Lv ∧ Db Lv ≤ 1099511627776 ∧ WR CZ.ct 133 Lw ∧ Db Lw ≤ 1099511627776 ∧ WR CZ.ct 4 Lx ∧ Db Lx ≤ 1099511627776 ∧ WR CZ.ct 167 Ly ∧ Db Ly ≤ 1099511627776 ∧ WR CZ.ct 192 Lk ∧ Db Lk ≤ 1099511627776 ∧ WR CZ.ct 195 Ll ∧ Db Ll ≤ 1099511627776 ∧ WR CZ.ct 198 Lm ∧ Db Lm ≤ 1099511627776 ∧ WR CZ.ct 183 Ln ∧ Db Ln ≤ 1099511627776 ∧ WR CZ.ct 3 Lo ∧ Db Lo ≤ 1099511627776 ∧ WR CZ.ct 3 Lp ∧ Db Lp ≤ 1099511627776 ∧ WR CZ.ct 180 Lq ∧ Db Lq ≤ 1099511627776 ∧ WR CZ.ct 206 Lr ∧ Db Lr ≤ 1099511627776 := by
 have h6 := Dk Dv
 have h7 := Dk Dt
 have Uh := Dk EF
 have h1 := Dk Fh
 rw [Qu.eq, MF.eq, aaB FY Fh FI FJ FK FZ Dv Dt FL FM Iy FB FC FD FE FF FG Iz FH EF JW JZ It Ka JX JY Nu ND NF NG NH LM NI NJ Nv Nw Nx Ny Nz NA NB NC, YG FY Fh FI FJ FK FZ Dv Dt FL FM Iy FB FC FD FE FF FG Iz FH EF JW JZ It Ka JX JY Nu ND NF NG NH LM NI NJ Nv Nw Nx Ny Nz NA NB NC, RF.eq, IU, Hv]
 cases hw : within p1 0 (CX (ln Dt - 1))
 ·exact ⟨FY, Fh, FI, FJ, FK, FZ, Dv, Dt, FL, FM, Iy, FB, FC, FD, FE, FF, FG, Iz, FH, EF, 4, rfl, rfl, JW, by omega, JZ, by omega, KK, by omega, KL, by omega, Ku, by omega, It, by omega, KM, by omega, Ka, by omega, KE, by omega, JX, by omega, KF, by omega, KG, by omega, KH, by omega, KI, by omega, JY, by omega, KJ, by omega⟩
 obtain ⟨w1, w2⟩ := En hw
 have e1 : CX (ln Dt - 1) = (Dt.length : Int) - 1 := Ij (by show -9223372036854775808 ≤ (Dt.length : Int) - 1; omega) (by show (Dt.length : Int) - 1 ≤ 9223372036854775807; omega)
 rw [e1] at w2
 obtain ⟨i, rfl⟩ : ∃ i : Nat, p1 = (i : Int) := ⟨p1.toNat, by omega⟩
 have hi : i < Dt.length := by omega
 have bo := aag It LM hi
 have Ym : -9223372036854775808 ≤ gi Dt (i : Int) 0 ∧ gi Dt (i : Int) 0 ≤ 9223372036854775807 := by
  have Iu := It.2 _ (De hi (z := []))
  unfold gi
  rw [Int.toNat_natCast]
  obtain ⟨c0, c1, c2, c3, c4, c5, c6, c7, c8, c9, hr, _⟩ := LC Iu
  rw [hr] at Iu ⊢
  exact VP (Iu.2 0 _ _ rfl rfl)
 have bB : -9223372036854775808 ≤ cf Dv (DC Dv (fun y => decide (v0 y = p2))) 0 ∧ cf Dv (DC Dv (fun y => decide (v0 y = p2))) 0 ≤ 9223372036854775807 := by
  unfold cf
  cases hc : decide (DC Dv (fun y => decide (v0 y = p2)) < 0)
  ·rcases Md Dv (fun y => decide (v0 y = p2)) with ⟨hj, _⟩ | ⟨j, hj, eY, _⟩
   ·rw [hj] at hc; cases hc
   ·rw [hj]
    have Iu := Ku.2 _ (De eY (z := []))
    show -9223372036854775808 ≤ gi Dv (j : Int) 0 ∧ gi Dv (j : Int) 0 ≤ 9223372036854775807
    unfold gi
    rw [Int.toNat_natCast]
    obtain ⟨c0, c1, c2, c3, c4, c5, hr⟩ := RV Iu
    rw [hr] at Iu ⊢
    exact VP (Iu.2 0 _ _ rfl rfl)
  ·show -9223372036854775808 ≤ (0 : Int) ∧ (0 : Int) ≤ 9223372036854775807
   decide
 have Yb : WR CZ.ct 255 (gl Dt (i : Int) 9) := by
  have Iu := It.2 _ (De hi (z := []))
  unfold gl
  rw [Int.toNat_natCast]
  obtain ⟨c0, c1, c2, c3, c4, c5, c6, c7, c8, c9, hr, h3, h5, h6, XZ, h9⟩ := LC Iu
  rw [hr]; exact h9
 have Ya : (gl Dt (i : Int) 9).length ≤ 1048576 := by
  have k := sub_lt hi 9
  have m := Dk (ul (Dt.getD i []) 9)
  show (ul (Dt.getD i []) 9).length ≤ _
  omega
 obtain ⟨⟨z1, z2⟩, z3, z4⟩ := abb (ss := EF) (i := gi Dt (i : Int) 0) (k := FZ) (ps := gl Dt (i : Int) 3) (v := gi Dt (i : Int) 4) (rs := gl Dt (i : Int) 5) (s := gl Dt (i : Int) 6) (rv := gl Dt (i : Int) 7) (sy := gi Dt (i : Int) 8) (c1 := cf Dv (DC Dv (fun y => decide (v0 y = p2))) 1) (c2 := cf Dv (DC Dv (fun y => decide (v0 y = p2))) 2) (c3 := cf Dv (DC Dv (fun y => decide (v0 y = p2))) 3) (c4 := cf Dv (DC Dv (fun y => decide (v0 y = p2))) 4) (c5 := cf Dv (DC Dv (fun y => decide (v0 y = p2))) 5) (p := Kg) (d := Kh) (g := Ki) (a := Kj) (o := Kk) (now := FY) KJ (by omega) Ym Yb Ya bB
 obtain ⟨S, hS⟩ : ∃ S, S = IY EF (gi Dt (i : Int) 0) (gl Dt (i : Int) 3) (gi Dt (i : Int) 4) (gl Dt (i : Int) 5) (gl Dt (i : Int) 6) (gl Dt (i : Int) 7) (gi Dt (i : Int) 8) (gl Dt (i : Int) 9) FZ (cf Dv (DC Dv (fun y => decide (v0 y = p2))) 0) (cf Dv (DC Dv (fun y => decide (v0 y = p2))) 1) (cf Dv (DC Dv (fun y => decide (v0 y = p2))) 2) (cf Dv (DC Dv (fun y => decide (v0 y = p2))) 3) (cf Dv (DC Dv (fun y => decide (v0 y = p2))) 4) (cf Dv (DC Dv (fun y => decide (v0 y = p2))) 5) Kg Kh Ki Kj Kk FY := ⟨_, rfl⟩
 rw [← hS] at z1 z2 z3 z4
 obtain ⟨y1, y2⟩ := aae It LM hi z3 z4
 have f1 := XQ z1
 have oG : ∀ sv, bR Dt i 0 [U.int (gi Dt (i : Int) 0), U.int (gi Dt (i : Int) 1), U.int (gi Dt (i : Int) 2), U.lst (gl Dt (i : Int) 3), U.int (gi Dt (i : Int) 4), U.lst (EM (gl Dt (i : Int) 5)), U.lst (gl Dt (i : Int) 6), U.lst (gl Dt (i : Int) 7), U.int (gi Dt (i : Int) 8), U.lst sv] = MU Dt i sv := fun sv => by
  rw [DS]
  have Iu := It.2 _ (De hi (z := []))
  obtain ⟨c0, c1, c2, c3, c4, c5, c6, c7, c8, c9, hr, _⟩ := LC Iu
  rw [hr]; rfl
 rw [aat FY Fh FI FJ FK FZ Dv Dt FL FM Iy FB FC FD FE FF FG Iz FH EF (by omega), Yy FY Fh FI FJ FK FZ Dv Dt FL FM Iy FB FC FD FE FF FG Iz FH EF (by omega), KT.eq, KZ.eq, DE hi]
 refine ⟨FY, Fh, FI, FJ, FK, FZ, Dv, MU Dt i S.2.1, FL, FM, Iy, FB, FC, FD, FE, FF, FG, Iz, FH, S.1, S.2.2, ?_, ?_, JW, by omega, JZ, by omega, KK, by omega, KL, by omega, Ku, by omega, y1, y2, KM, by omega, Ka, by omega, KE, by omega, JX, by omega, KF, by omega, KG, by omega, KH, by omega, KI, by omega, JY, by omega, z1, by omega⟩
 ·show (Nj.c EF (gi Dt (i : Int) 0) (gi Dt (i : Int) 1) (gi Dt (i : Int) 2) (gl Dt (i : Int) 3) (gi Dt (i : Int) 4) (gl Dt (i : Int) 5) (gl Dt (i : Int) 6) (gl Dt (i : Int) 7) (gi Dt (i : Int) 8) (gl Dt (i : Int) 9) FZ (cf Dv (DC Dv (fun y => decide (v0 y = p2))) 0) (cf Dv (DC Dv (fun y => decide (v0 y = p2))) 1) (cf Dv (DC Dv (fun y => decide (v0 y = p2))) 2) (cf Dv (DC Dv (fun y => decide (v0 y = p2))) 3) (cf Dv (DC Dv (fun y => decide (v0 y = p2))) 4) (cf Dv (DC Dv (fun y => decide (v0 y = p2))) 5) Kg Kh Ki Kj Kk FY).bind _ = _
  rw [aa3 EF (by omega) bo, ← hS, ← oG]
  show Cu (dk (i : Int) Dt.length) _ = _
  rw [DE hi]; rfl
 ·show (ME.c EF (gi Dt (i : Int) 0) (gi Dt (i : Int) 1) (gi Dt (i : Int) 2) (gl Dt (i : Int) 3) (gi Dt (i : Int) 4) (gl Dt (i : Int) 5) (gl Dt (i : Int) 6) (gl Dt (i : Int) 7) (gi Dt (i : Int) 8) (gl Dt (i : Int) 9) FZ (cf Dv (DC Dv (fun y => decide (v0 y = p2))) 0) (cf Dv (DC Dv (fun y => decide (v0 y = p2))) 1) (cf Dv (DC Dv (fun y => decide (v0 y = p2))) 2) (cf Dv (DC Dv (fun y => decide (v0 y = p2))) 3) (cf Dv (DC Dv (fun y => decide (v0 y = p2))) 4) (cf Dv (DC Dv (fun y => decide (v0 y = p2))) 5) Kg Kh Ki Kj Kk FY).bind _ = _
  rw [Zh EF (by omega) bo, ← hS, ← oG]
  show Cu (dk (i : Int) Dt.length) _ = _
  rw [DE hi]; rfl
end Go.Proofs.YtbanfmadialnkaaGreat.Eng
/- half -/
