/- StepCase: the reference and the program give the same. -/
import Derived.Test.YtaghmjcfaplkiaaGreatPSt2
namespace Go.Proofs.YtaghmjcfaplkiaaGreat.Eng
open Go.RowKit
set_option linter.unusedVariables false
set_option linter.unusedSimpArgs false
set_option linter.unusedSectionVars false
set_option maxRecDepth 100000
variable [Sm]
theorem Yr (GK : Int) (GM : List (List U)) (GS : List (List U)) (GU : List (List U)) (GV : List (List U)) (Hw : Int) (GW : List (List U)) (Gz : List (List U)) (GX : List (List U)) (GF : List (List U)) (Hv : Int) (GN : List (List U)) (GO : List (List U)) (GP : List (List U)) (GQ : List (List U)) (GC : List (List U)) (GD : List (List U)) (GL : Int) (Gg : List (List U)) (GR : List (List U)) (p1 : Int) (p2 : Int) (p3 : Int) (Ka : WR Fw.ct 252 GM) (NB : Fx GM ≤ 1048576) (Kc : WR Fw.ct 164 GS) (NK : Fx GS ≤ 1048576) (KC : WR Fw.ct 256 GU) (NL : Fx GU ≤ 1048576) (KD : WR Fw.ct 260 GV) (NM : Fx GV ≤ 1048576) (KE : WR Fw.ct 230 GW) (NN : Fx GW ≤ 1048576) (Jm : WR Fw.ct 167 Gz) (NO : Fx Gz ≤ 1048576) (KF : WR Fw.ct 4 GX) (NP : Fx GX ≤ 1048576) (HU : WR Fw.ct 90 GF) (LQ : Fx GF ≤ 1048576) (Kw : WR Fw.ct 182 GN) (NC : Fx GN ≤ 1048576) (Kb : WR Fw.ct 185 GO) (ND : Fx GO ≤ 1048576) (Kx : WR Fw.ct 188 GP) (NF : Fx GP ≤ 1048576) (Ky : WR Fw.ct 192 GQ) (NG : Fx GQ ≤ 1048576) (Kz : WR Fw.ct 3 GC) (NH : Fx GC ≤ 1048576) (KA : WR Fw.ct 3 GD) (NI : Fx GD ≤ 1048576) (Jl : WR Fw.ct 94 Gg) (MK : Fx Gg ≤ 1048576) (KB : WR Fw.ct 198 GR) (NJ : Fx GR ≤ 1048576) (QL : -9223372036854775808 ≤ p1 ∧ p1 ≤ 9223372036854775807) (BN : -9223372036854775808 ≤ p2 ∧ p2 ≤ 9223372036854775807) (MQ : -9223372036854775808 ≤ p3 ∧ p3 ≤ 9223372036854775807) : ∃ (Ni : Int) (Mc : List (List U)) (Mm : List (List U)) (Mn : List (List U)) (Mo : List (List U)) (Nl : Int) (Mp : List (List U)) (Mq : List (List U)) (Mr : List (List U)) (Ms : List (List U)) (Nj : Int) (Md : List (List U)) (Me : List (List U)) (Mf : List (List U)) (Mg : List (List U)) (Mh : List (List U)) (Mi : List (List U)) (Nk : Int) (Mj : List (List U)) (Ml : List (List U)) (r1 : Bool), PW.c GK GM GS GU GV Hw GW Gz GX GF Hv GN GO GP GQ GC GD GL Gg GR p1 p2 p3 = some ⟨[[.int Ni, .lst Mc, .lst Mm, .lst Mn, .lst Mo, .int Nl, .lst Mp, .lst Mq, .lst Mr, .lst Ms, .int Nj, .lst Md, .lst Me, .lst Mf, .lst Mg, .lst Mh, .lst Mi, .int Nk, .lst Mj, .lst Ml], [.bool r1]], []⟩ ∧ MT.c GK GM GS GU GV Hw GW Gz GX GF Hv GN GO GP GQ GC GD GL Gg GR p1 p2 p3 = some ⟨[[.int Ni, .lst Mc, .lst Mm, .lst Mn, .lst Mo, .int Nl, .lst Mp, .lst Mq, .lst Mr, .lst Ms, .int Nj, .lst Md, .lst Me, .lst Mf, .lst Mg, .lst Mh, .lst Mi, .int Nk, .lst Mj, .lst Ml], [.bool r1]], []⟩ ∧ WR Fw.ct 252 Mc ∧ Fx Mc ≤ 1099511627776 ∧ WR Fw.ct 164 Mm ∧ Fx Mm ≤ 1099511627776 ∧ WR Fw.ct 256 Mn ∧ Fx Mn ≤ 1099511627776 ∧ WR Fw.ct 260 Mo ∧ Fx Mo ≤ 1099511627776 ∧ WR Fw.ct 230 Mp ∧ Fx Mp ≤ 1099511627776 ∧ WR Fw.ct 167 Mq ∧ Fx Mq ≤ 1099511627776 ∧ WR Fw.ct 4 Mr ∧ Fx Mr ≤ 1099511627776 ∧ WR Fw.ct 90 Ms ∧ Fx Ms ≤ 1099511627776 ∧ WR Fw.ct 182 Md ∧ Fx Md ≤ 1099511627776 ∧ WR Fw.ct 185 Me ∧ Fx Me ≤ 1099511627776 ∧ WR Fw.ct 188 Mf ∧ Fx Mf ≤ 1099511627776 ∧ WR Fw.ct 192 Mg ∧ Fx Mg ≤ 1099511627776 ∧ WR Fw.ct 3 Mh ∧ Fx Mh ≤ 1099511627776 ∧ WR Fw.ct 3 Mi ∧ Fx Mi ≤ 1099511627776 ∧ WR Fw.ct 94 Mj ∧ Fx Mj ≤ 1099511627776 ∧ WR Fw.ct 198 Ml ∧ Fx Ml ≤ 1099511627776 := by
 have Tj := FF GC
 have Tk := FF GD
 have MO := FF Gg
 have h7 := FF Gz
 have h9 := FF GF
 have hE : Ku 1048576 Gg := ⟨Jl, MK⟩
 have Wz : Ft (ln Gz - 1) = ln Gz - 1 := Rt (by show _ ≤ (Gz.length : Int) - 1; omega) (by show (Gz.length : Int) - 1 ≤ _; omega)
 rw [PW.eq, MT.eq, Re.eq, Ye GK GM GS GU GV Hw GW Gz GX GF Hv GN GO GP GQ GC GD GL Gg GR Ka Kc Jm HU Kb Jl NB NK NL NM NN NO NP LQ NC ND NF NG NH NI MK NJ, WJ GK GM GS GU GV Hw GW Gz GX GF Hv GN GO GP GQ GC GD GL Gg GR Ka Kc Jm HU Kb Jl NB NK NL NM NN NO NP LQ NC ND NF NG NH NI MK NJ, MD, LK, Yp GC GD GL Gg (by omega) (by omega) 1048576 hE (by omega), WX GC GD GL Gg (by omega) (by omega) 1048576 hE (by omega), Wz]
 cases hw : within p1 0 (ln Gz - 1)
 ·cases Lk GC GD GL Gg p2 p3 GK <;> exact ⟨GK, GM, GS, GU, GV, Hw, GW, Gz, GX, GF, Hv, GN, GO, GP, GQ, GC, GD, GL, Gg, GR, false, rfl, rfl, Ka, by omega, Kc, by omega, KC, by omega, KD, by omega, KE, by omega, Jm, by omega, KF, by omega, HU, by omega, Kw, by omega, Kb, by omega, Kx, by omega, Ky, by omega, Kz, by omega, KA, by omega, Jl, by omega, KB, by omega⟩
 obtain ⟨w1, w2⟩ := LF hw
 obtain ⟨i, rfl⟩ : ∃ i : Nat, p1 = i := ⟨p1.toNat, by omega⟩
 have hi : i < Gz.length := by have : (i : Int) ≤ (Gz.length : Int) - 1 := w2; omega
 cases hd : decide ((i : Int) ≥ ln GF)
 rotate_left
 ·have hd := of_decide_eq_true hd
  have iD := fun k t pt s p o c ep m => WQ GK GM GS GU GV Hw GW Gz GX GF Hv GN GO GP GQ GC GD GL Gg GR (i := (i : Int)) (by omega) k t pt s p o c ep m
  cases hu : Lk GC GD GL Gg p2 p3 GK
  ·exact ⟨GK, GM, GS, GU, GV, Hw, GW, Gz, GX, GF, Hv, GN, GO, GP, GQ, GC, GD, GL, Gg, GR, false, rfl, rfl, Ka, by omega, Kc, by omega, KC, by omega, KD, by omega, KE, by omega, Jm, by omega, KF, by omega, HU, by omega, Kw, by omega, Kb, by omega, Kx, by omega, Ky, by omega, Kz, by omega, KA, by omega, Jl, by omega, KB, by omega⟩
  unfold Lk at hu
  simp only [Bool.and_eq_true] at hu
  obtain ⟨j1, j2, j3⟩ := Od (by omega) hu.2.1
  rw [j2, GH j1]
  generalize LM.c = L at iD ⊢
  refine ⟨GK, GM, GS, GU, GV, Hw, GW, Gz, GX, GF, Hv, GN, GO, GP, GQ, GC, GD, GL, Gg, GR, false, rfl, ?_, Ka, by omega, Kc, by omega, KC, by omega, KD, by omega, KE, by omega, Jm, by omega, KF, by omega, HU, by omega, Kw, by omega, Kb, by omega, Kx, by omega, Ky, by omega, Kz, by omega, KA, by omega, Jl, by omega, KB, by omega⟩
  simp only [q0, SM, RK, RJ, SN, MN, zw, iD, Vl, SO, Bool.not_false, Bool.not_true]
  kernel_rfl
 have hd := of_decide_eq_false hd
 have Jk : i < GF.length := by have : ¬ (i : Int) ≥ (GF.length : Int) := hd; omega
 cases hu : Lk GC GD GL Gg p2 p3 GK
 ·exact ⟨GK, GM, GS, GU, GV, Hw, GW, Gz, GX, GF, Hv, GN, GO, GP, GQ, GC, GD, GL, Gg, GR, false, rfl, rfl, Ka, by omega, Kc, by omega, KC, by omega, KD, by omega, KE, by omega, Jm, by omega, KF, by omega, HU, by omega, Kw, by omega, Kb, by omega, Kx, by omega, Ky, by omega, Kz, by omega, KA, by omega, Jl, by omega, KB, by omega⟩
 obtain ⟨u1, u2⟩ := Ku.use (ps := GC) (os := GD) (sp := GL) (id := p2) (now := GK) hE (by omega) MQ
 have RZ := hu
 unfold Lk at RZ
 simp only [Bool.and_eq_true] at RZ
 obtain ⟨j1, j2, j3⟩ := Od (by omega) RZ.2.1
 rw [j2, GH j1]
 have hg : Lr (gi Gg (HV Gg p2 : Int) 1) := by
  have Lm := Jl.2 _ (FB j1 (z := []))
  obtain ⟨a, b, c, d, u, e, hr, _⟩ := Lx Lm
  show Lr (ui (Gg.getD (HV Gg p2) []) 1)
  rw [hr] at Lm ⊢
  exact wi (Lm.2 1 _ _ rfl rfl)
 obtain ⟨g1, g2⟩ := XD (a0 := GK) Jm hi HU LQ Jk (k := 2) (s := p2) (p := gi Gg (HV Gg p2 : Int) 1) (o := p3) (c := 1) (by omega) BN hg MQ (by omega)
 have es := Yj GK GM GS GU GV Hw GW Gz GX GF Hv GN GO GP GQ GC GD GL Gg GR hi HU LQ Jk 2 0 0 p2 (gi Gg (HV Gg p2 : Int) 1) p3 1 0 0
 have ei := WO GK GM GS GU GV Hw GW Gz GX GF Hv GN GO GP GQ GC GD GL Gg GR hi HU LQ Jk 2 0 0 p2 (gi Gg (HV Gg p2 : Int) 1) p3 1 0 0
 generalize LM.c = L at ei ⊢
 generalize Ns.c = LS at es ⊢
 simp only [q0, SM, RK, RJ, MN, zw, SO, Bool.not_false, Bool.not_true, es, ei, qb]
 have rk := XV GK GM GS GU GV Hw GW Gz GX GF Hv GN GO GP GQ GC GD GL Gg GR (t := [U.bool false]) (m := [])
 cases hb : LZ GK GF i 2
 ·simp only [Vm, SN]
  exact ⟨GK, GM, GS, GU, GV, Hw, GW, Gz, GX, GF, Hv, GN, GO, GP, GQ, GC, GD, GL, Gg, GR, false, rfl, rfl, Ka, by omega, Kc, by omega, KC, by omega, KD, by omega, KE, by omega, Jm, by omega, KF, by omega, HU, by omega, Kw, by omega, Kb, by omega, Kx, by omega, Ky, by omega, Kz, by omega, KA, by omega, Jl, by omega, KB, by omega⟩
 simp only [RK, RJ]
 refine ⟨GK, GM, GS, GU, GV, Hw, GW, Gz, GX, Qb GF i (Ln GK Gz GF i 2 p2 (gi Gg (HV Gg p2 : Int) 1) p3 1), Hv, GN, GO, GP, GQ, GC, GD, GL, MH GC GD GL Gg p2 p3 GK, GR, true, ?_, ?_, Ka, by omega, Kc, by omega, KC, by omega, KD, by omega, KE, by omega, Jm, by omega, KF, by omega, g1, by omega, Kw, by omega, Kb, by omega, Kx, by omega, Ky, by omega, Kz, by omega, KA, by omega, u1, by omega, KB, by omega⟩
 ·rw [← SE HU Jk]
  show EK (dE (i : Int) GF.length) _ = _
  rw [GH Jk]; kernel_rfl
 ·kernel_rfl
end Go.Proofs.YtaghmjcfaplkiaaGreat.Eng
/- half -/
