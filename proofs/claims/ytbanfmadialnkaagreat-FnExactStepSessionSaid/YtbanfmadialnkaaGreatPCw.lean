/- Copies of worlds are what is copied. -/
import Derived.Test.YtbanfmadialnkaaGreatPCp
namespace Go.Proofs.YtbanfmadialnkaaGreat.Eng
open Go.RowKit
set_option linter.unusedVariables false
set_option linter.unusedSimpArgs false
set_option linter.unusedSectionVars false
set_option maxRecDepth 100000
variable [Sm]
theorem US {xs : LL} (h : WR CZ.ct 133 xs) : xs.map (fun x => [U.int (ui x 0), U.int (ui x 1), U.int (ui x 2), U.lst (ul x 3), U.int (ui x 4), U.lst (EM (ul x 5)), U.lst (ul x 6), U.lst (ul x 7), U.int (ui x 8), U.lst (ul x 9)]) = xs := Lg fun x hx => by
 obtain ⟨c0, c1, c2, c3, c4, c5, c6, c7, c8, c9, rfl, _, h5, _⟩ := LC (h.2 x hx)
 show [U.int c0, U.int c1, U.int c2, U.lst c3, U.int c4, U.lst (EM c5), U.lst c6, U.lst c7, U.int c8, U.lst c9] = _
 rw [QX h5]
theorem VM {xs : LL} (h : WR CZ.ct 167 xs) : xs.map (fun x => [U.lst (ul x 0)]) = xs := Lg fun x hx => by
 obtain ⟨c0, rfl, _⟩ := RW (h.2 x hx); rfl
theorem YF (xs : LL) (h : WR CZ.ct 167 xs) (hc : Db xs ≤ 1048576) : Ji.c xs = rL xs := by
 have hl := Dk xs
 rw [Ji.eq]
 refine (IH (l0 := fun i acc => Ji.l0 xs _ i acc) (xs := xs) (f := fun x => [U.lst (ul x 0)]) (R := fun acc => rL acc) (fun acc ha => ?_) fun i hi acc ha => ?_).trans (congrArg rL (VM h))
 ·rw [Ji.Da, Dj (Nat.le_refl _)]; rfl
 ·have h1 := sub_lt hi 0
  have h2 := Dk (ul (xs.getD i []) 0)
  rw [Ji.Da, Di hi, DE hi, DJ (by omega)]
  show Cu (room (0 + (ul (xs.getD i []) 0).length) 72) (Cu (room (acc.length + 1) 24) _) = _
  rw [Dq (by omega) (by omega), Dq (by omega) (by omega)]; rfl
theorem UT {a7 : LL} {i : Nat} (hi : i < a7.length) (b7 : Db a7 ≤ 1048576) : (gl a7 (i : Int) 3).length ≤ 1099511627776 ∧ Db (gl a7 (i : Int) 5) ≤ 1099511627776 ∧ (gl a7 (i : Int) 6).length ≤ 1099511627776 ∧ (gl a7 (i : Int) 7).length ≤ 1099511627776 ∧ (gl a7 (i : Int) 9).length ≤ 1099511627776 := by
 have k := fun j => sub_lt hi j
 have m := fun j => Dk (ul (a7.getD i []) j)
 have k3 := k 3; have k5 := k 5; have k6 := k 6; have k7 := k 7; have k9 := k 9
 have m3 := m 3; have m6 := m 6; have m7 := m 7; have m9 := m 9
 refine ⟨?_, ?_, ?_, ?_, ?_⟩
 ·show (ul (a7.getD i []) 3).length ≤ _; omega
 ·show Db (ul (a7.getD i []) 5) ≤ _; omega
 ·show (ul (a7.getD i []) 6).length ≤ _; omega
 ·show (ul (a7.getD i []) 7).length ≤ _; omega
 ·show (ul (a7.getD i []) 9).length ≤ _; omega
theorem aaB (a0 : Int) (a1 a2 a3 a4 : List (List U)) (a5 : Int) (a6 a7 a8 a9 : List (List U)) (Dl : Int) (Dn a12 Du Dw Dx Dy : List (List U)) (DD : Int) (Dz DA : List (List U)) (h1 : WR CZ.ct 276 a1) (h2 : WR CZ.ct 130 a2) (h7 : WR CZ.ct 133 a7) (h9 : WR CZ.ct 167 a9) (NL : WR CZ.ct 195 a12) (NM : WR CZ.ct 180 Dz) (b1 : Db a1 ≤ 1048576) (b2 : Db a2 ≤ 1048576) (b3 : Db a3 ≤ 1048576) (b4 : Db a4 ≤ 1048576) (b6 : Db a6 ≤ 1048576) (b7 : Db a7 ≤ 1048576) (b8 : Db a8 ≤ 1048576) (b9 : Db a9 ≤ 1048576) (Gv : Db Dn ≤ 1048576) (Sj : Db a12 ≤ 1048576) (Wk : Db Du ≤ 1048576) (Wl : Db Dw ≤ 1048576) (Wm : Db Dx ≤ 1048576) (Wn : Db Dy ≤ 1048576) (Sk : Db Dz ≤ 1048576) (Wo : Db DA ≤ 1048576) : EN.c a0 a1 a2 a3 a4 a5 a6 a7 a8 a9 Dl Dn a12 Du Dw Dx Dy DD Dz DA = some ⟨[[.int a0, .lst a1, .lst a2, .lst a3, .lst a4, .int a5, .lst a6, .lst a7, .lst a8, .lst a9, .int Dl, .lst Dn, .lst a12, .lst Du, .lst Dw, .lst Dx, .lst Dy, .int DD, .lst Dz, .lst DA]], []⟩ := by
 have l1 := Dk a1
 have l2 := Dk a2
 have l3 := Dk a3
 have l4 := Dk a4
 have l6 := Dk a6
 have l7 := Dk a7
 have l8 := Dk a8
 have l9 := Dk a9
 have UD := Dk Dn
 have ZC := Dk a12
 have ZD := Dk Du
 have ZE := Dk Dw
 have ZF := Dk Dx
 have ZG := Dk Dy
 have ZH := Dk Dz
 have ZI := Dk DA
 have Sz : room (0 + Dn.length) 16 = true := Dq (by omega) (by omega)
 have SA : room (0 + Du.length) 24 = true := Dq (by omega) (by omega)
 have SC : room (0 + Dw.length) 32 = true := Dq (by omega) (by omega)
 have SD : room (0 + Dx.length) 8 = true := Dq (by omega) (by omega)
 have SE : room (0 + Dy.length) 8 = true := Dq (by omega) (by omega)
 have SF : room (0 + DA.length) 80 = true := Dq (by omega) (by omega)
 have e8 : room (0 + a8.length) 1 = true := Dq (by omega) (by omega)
 have ack : ∀ z1 z2 z3 z4 : Int, EN.l1 0 a0 a1 a2 a3 a4 a5 a6 a7 a8 a9 Dl Dn a12 Du Dw Dx Dy DD Dz DA z1 z2 z3 z4 a0 a5 Dl Dn a12 Du Dw Dx Dy DD Dz DA a1 a2 a3 a4 a6 a7 a8 [] = some ⟨[[.int a0, .lst a1, .lst a2, .lst a3, .lst a4, .int a5, .lst a6, .lst a7, .lst a8, .lst a9, .int Dl, .lst Dn, .lst a12, .lst Du, .lst Dw, .lst Dx, .lst Dy, .int DD, .lst Dz, .lst DA]], []⟩ := by
  intro z1 z2 z3 z4
  refine (IH (l0 := fun i acc => EN.l1 i a0 a1 a2 a3 a4 a5 a6 a7 a8 a9 Dl Dn a12 Du Dw Dx Dy DD Dz DA z1 z2 z3 z4 a0 a5 Dl Dn a12 Du Dw Dx Dy DD Dz DA a1 a2 a3 a4 a6 a7 a8 acc) (xs := a9) (f := fun x => [U.lst (ul x 0)]) (R := fun acc => some ⟨[[.int a0, .lst a1, .lst a2, .lst a3, .lst a4, .int a5, .lst a6, .lst a7, .lst a8, .lst acc, .int Dl, .lst Dn, .lst a12, .lst Du, .lst Dw, .lst Dx, .lst Dy, .int DD, .lst Dz, .lst DA]], []⟩) (fun acc ha => ?_) fun i hi acc ha => ?_).trans (congrArg (fun acc : LL => (some ⟨[[.int a0, .lst a1, .lst a2, .lst a3, .lst a4, .int a5, .lst a6, .lst a7, .lst a8, .lst acc, .int Dl, .lst Dn, .lst a12, .lst Du, .lst Dw, .lst Dx, .lst Dy, .int DD, .lst Dz, .lst DA]], []⟩ : O)) (VM h9))
  ·rw [EN.HA, show decide (((a9.length : Nat) : Int) < ln a9) = false from Dj (Nat.le_refl _), aay a12 NL Sj, aav Dz NM Sk, Sz, SA, SC, SD, SE, SF]; rfl
  ·have g1 := sub_lt hi 0
   have g2 := Dk (ul (a9.getD i []) 0)
   rw [EN.HA, Di hi, DE hi, DJ (by omega)]
   show Cu (room (0 + (ul (a9.getD i []) 0).length) 72) (Cu (room (acc.length + 1) 24) _) = _
   rw [Dq (by omega) (by omega), Dq (by omega) (by omega)]; rfl
 rw [EN.eq, aaw a5 h1 b1 h2 b2 b3 b4 b6]
 show EN.l0 0 a0 a1 a2 a3 a4 a5 a6 a7 a8 a9 Dl Dn a12 Du Dw Dx Dy DD Dz DA 0 0 0 0 a0 a5 a8 a9 Dl Dn a12 Du Dw Dx Dy DD Dz DA a1 a2 a3 a4 a6 [] = _
 refine (IH (l0 := fun i acc => EN.l0 i a0 a1 a2 a3 a4 a5 a6 a7 a8 a9 Dl Dn a12 Du Dw Dx Dy DD Dz DA 0 0 0 0 a0 a5 a8 a9 Dl Dn a12 Du Dw Dx Dy DD Dz DA a1 a2 a3 a4 a6 acc) (xs := a7) (f := fun x => [U.int (ui x 0), U.int (ui x 1), U.int (ui x 2), U.lst (ul x 3), U.int (ui x 4), U.lst (EM (ul x 5)), U.lst (ul x 6), U.lst (ul x 7), U.int (ui x 8), U.lst (ul x 9)]) (R := fun acc => EN.l1 0 a0 a1 a2 a3 a4 a5 a6 a7 a8 a9 Dl Dn a12 Du Dw Dx Dy DD Dz DA 0 0 0 0 a0 a5 Dl Dn a12 Du Dw Dx Dy DD Dz DA a1 a2 a3 a4 a6 acc a8 []) (fun acc ha => ?_) fun i hi acc ha => ?_).trans ?_
 ·rw [EN.Da, show decide (((a7.length : Nat) : Int) < ln a7) = false from Dj (Nat.le_refl _), e8]; rfl
 ·obtain ⟨g3, g5, g6, g7, g9⟩ := UT hi b7
  rw [EN.Da, Di hi, DE hi, DJ (by omega), TA _ _ _ _ _ _ _ _ _ _ g3 g5 g6 g7 g9]
  show Cu (room (acc.length + 1) 160) _ = _
  rw [Dq (by omega) (by omega)]; rfl
 ·rw [US h7]; exact ack 0 0 0 0
theorem YG (a0 : Int) (a1 a2 a3 a4 : List (List U)) (a5 : Int) (a6 a7 a8 a9 : List (List U)) (Dl : Int) (Dn a12 Du Dw Dx Dy : List (List U)) (DD : Int) (Dz DA : List (List U)) (h1 : WR CZ.ct 276 a1) (h2 : WR CZ.ct 130 a2) (h7 : WR CZ.ct 133 a7) (h9 : WR CZ.ct 167 a9) (NL : WR CZ.ct 195 a12) (NM : WR CZ.ct 180 Dz) (b1 : Db a1 ≤ 1048576) (b2 : Db a2 ≤ 1048576) (b3 : Db a3 ≤ 1048576) (b4 : Db a4 ≤ 1048576) (b6 : Db a6 ≤ 1048576) (b7 : Db a7 ≤ 1048576) (b8 : Db a8 ≤ 1048576) (b9 : Db a9 ≤ 1048576) (Gv : Db Dn ≤ 1048576) (Sj : Db a12 ≤ 1048576) (Wk : Db Du ≤ 1048576) (Wl : Db Dw ≤ 1048576) (Wm : Db Dx ≤ 1048576) (Wn : Db Dy ≤ 1048576) (Sk : Db Dz ≤ 1048576) (Wo : Db DA ≤ 1048576) : IN.c a0 a1 a2 a3 a4 a5 a6 a7 a8 a9 Dl Dn a12 Du Dw Dx Dy DD Dz DA = some ⟨[[.int a0, .lst a1, .lst a2, .lst a3, .lst a4, .int a5, .lst a6, .lst a7, .lst a8, .lst a9, .int Dl, .lst Dn, .lst a12, .lst Du, .lst Dw, .lst Dx, .lst Dy, .int DD, .lst Dz, .lst DA]], []⟩ := by
 have l1 := Dk a1
 have l2 := Dk a2
 have l3 := Dk a3
 have l4 := Dk a4
 have l6 := Dk a6
 have l7 := Dk a7
 have l8 := Dk a8
 have l9 := Dk a9
 have UD := Dk Dn
 have ZC := Dk a12
 have ZD := Dk Du
 have ZE := Dk Dw
 have ZF := Dk Dx
 have ZG := Dk Dy
 have ZH := Dk Dz
 have ZI := Dk DA
 have Sz : room (0 + Dn.length) 16 = true := Dq (by omega) (by omega)
 have SA : room (0 + Du.length) 24 = true := Dq (by omega) (by omega)
 have SC : room (0 + Dw.length) 32 = true := Dq (by omega) (by omega)
 have SD : room (0 + Dx.length) 8 = true := Dq (by omega) (by omega)
 have SE : room (0 + Dy.length) 8 = true := Dq (by omega) (by omega)
 have SF : room (0 + DA.length) 80 = true := Dq (by omega) (by omega)
 have e8 : room (0 + a8.length) 1 = true := Dq (by omega) (by omega)
 rw [IN.eq, YB a5 h1 b1 h2 b2 b3 b4 b6, YF a9 h9 b9, e8]
 show IN.l0 a7 (ln a7) 0 a0 a1 a2 a3 a4 a5 a6 a7 a8 a9 Dl Dn a12 Du Dw Dx Dy DD Dz DA 0 0 0 0 a0 a5 Dl 0 a1 a2 a3 a4 a6 [] a8 a9 = _
 refine (IH (l0 := fun i acc => IN.l0 a7 (ln a7) i a0 a1 a2 a3 a4 a5 a6 a7 a8 a9 Dl Dn a12 Du Dw Dx Dy DD Dz DA 0 0 0 0 a0 a5 Dl 0 a1 a2 a3 a4 a6 acc a8 a9) (xs := a7) (f := fun x => [U.int (ui x 0), U.int (ui x 1), U.int (ui x 2), U.lst (ul x 3), U.int (ui x 4), U.lst (EM (ul x 5)), U.lst (ul x 6), U.lst (ul x 7), U.int (ui x 8), U.lst (ul x 9)]) (R := fun acc => some ⟨[[.int a0, .lst a1, .lst a2, .lst a3, .lst a4, .int a5, .lst a6, .lst acc, .lst a8, .lst a9, .int Dl, .lst Dn, .lst a12, .lst Du, .lst Dw, .lst Dx, .lst Dy, .int DD, .lst Dz, .lst DA]], []⟩) (fun acc ha => ?_) fun i hi acc ha => ?_).trans (congrArg (fun acc : LL => (some ⟨[[.int a0, .lst a1, .lst a2, .lst a3, .lst a4, .int a5, .lst a6, .lst acc, .lst a8, .lst a9, .int Dl, .lst Dn, .lst a12, .lst Du, .lst Dw, .lst Dx, .lst Dy, .int DD, .lst Dz, .lst DA]], []⟩ : O)) (US h7))
 ·rw [IN.Da, show decide (((a7.length : Nat) : Int) < ln a7) = false from Dj (Nat.le_refl _), YD a12 NL Sj, YA Dz NM Sk, Sz, SA, SC, SD, SE, SF]; rfl
 ·obtain ⟨g3, g5, g6, g7, g9⟩ := UT hi b7
  rw [IN.Da, show decide ((i : Int) < ln a7) = true from Di hi, DE hi, DJ (by omega), SK _ _ _ _ _ _ _ _ _ _ g3 g5 g6 g7 g9]
  show Cu (room (acc.length + 1) 160) _ = _
  rw [Dq (by omega) (by omega)]; rfl
end Go.Proofs.YtbanfmadialnkaaGreat.Eng
/- half -/
