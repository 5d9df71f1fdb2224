/- The functions' equations, written by a printer of ours (wip/bin/Sym.lean, emit2.py) for this claim. -/
import Derived.Test.YtbanfmadialnkaaGreatFD
namespace Go.Proofs.YtbanfmadialnkaaGreat.Eng
open Go.RowKit
set_option linter.unusedVariables false
set_option maxRecDepth 100000
set_option maxHeartbeats 0
variable [Sm]
variable {b0 b1 b2 b3 b4 b5 b6 b7 b8 b9 Ha Fi : Bool} {i0 i1 i2 i3 i4 i5 i6 i7 i8 i9 i10 i11 i12 i13 i14 i15 i16 i17 : Int} {s0 s1 s2 s3 s4 s5 s6 s7 s8 s9 Dv Ds Dw Dt Dp Dx DW Ep OA OB OC OD OE OF OG OH OI OJ OK OL OM ON : LL}
theorem GR.CZ : GR.l0 s0 i0 i1 i2 s1 i3 i4 s2 = bif decide (i4 < i3) then (Cu (dk i4 s1.length) (bif decide (gi s1 i4 0 = 1) then (bif decide (gi s1 i4 1 = i0) then ((Kw.c (gi s1 i4 0) (gi s1 i4 1) (gi s1 i4 2) (gi s1 i4 3) (gi s1 i4 4) (gi s1 i4 5) i1 i2).bind fun r0 => bif r0.b 0 then ((GS.c s0 (gi s1 i4 2)).bind fun r1 => Cu (room (s2.length + (r1.l 0).length) 8) (GR.l0 s0 i0 i1 i2 s1 i3 (CX (i4 + 1)) (s2 ++ r1.l 0))) else (GR.l0 s0 i0 i1 i2 s1 i3 (CX (i4 + 1)) s2)) else (GR.l0 s0 i0 i1 i2 s1 i3 (CX (i4 + 1)) s2)) else (GR.l0 s0 i0 i1 i2 s1 i3 (CX (i4 + 1)) s2))) else (Cu (room s2.length 8) (Cu (room (tc s2).length 8) (rL (uc (tc s2))))) := by apply Dl; intros; kernel_rfl
theorem GR.eq : GR.c s0 s1 i0 i1 i2 = GR.l0 s0 i0 i1 i2 s1 (ln s1) 0 [] := by apply Dc; intros; kernel_rfl
theorem Ir.CZ : Ir.l0 s0 i0 i1 i2 i3 i4 i5 i6 = bif decide (i6 < i5) then (Cu (dk i6 s0.length) ((Qf.c (gi s0 i6 0) (gi s0 i6 1) (gi s0 i6 2) (gi s0 i6 3) (gi s0 i6 4) (gi s0 i6 5) i0 i1 i2 i3 i4).bind fun r0 => bif r0.b 0 then rI i6 else (Ir.l0 s0 i0 i1 i2 i3 i4 i5 (CX (i6 + 1))))) else rI ((-1 : Int)) := by apply Dl; intros; kernel_rfl
theorem Ir.eq : Ir.c s0 i0 i1 i2 i3 i4 = Ir.l0 s0 i0 i1 i2 i3 i4 (ln s0) 0 := by apply Dc; intros; kernel_rfl
theorem Kw.eq : Kw.c i0 i1 i2 i3 i4 i5 i6 i7 = (Ln.c i0 i1 i2 i3 i4 i5).bind fun r0 => bif r0.b 0 then ((Lq.c i4 i5 i6).bind fun r1 => bif r1.b 0 then ((MB.c i4 i6).bind fun r2 => rB (decide (r2.i 0 ≤ i7))) else rB false) else rB false := by apply Dc; intros; kernel_rfl
theorem GS.CZ : GS.l0 i0 b0 b1 b2 b3 b4 b5 i1 s0 = bif decide (i1 < 6) then (Cu (dk i1 6) (bif [b0, b1, b2, b3, b4, b5].getD i1.toNat false then (Cu (room (s0.length + [[U.int i1]].length) 8) (GS.l0 i0 b0 b1 b2 b3 b4 b5 (CX (i1 + 1)) (s0 ++ [[U.int i1]]))) else (bif decide (i1 = i0) then (Cu (room (s0.length + [[U.int i1]].length) 8) (GS.l0 i0 b0 b1 b2 b3 b4 b5 (CX (i1 + 1)) (s0 ++ [[U.int i1]]))) else (GS.l0 i0 b0 b1 b2 b3 b4 b5 (CX (i1 + 1)) s0)))) else (rL s0) := by apply Dl; intros; kernel_rfl
theorem GS.eq : GS.c s0 i0 = (JY.c i0).bind fun r0 => bif !r0.b 0 then (rL []) else ((El.c s0 i0).bind fun r1 => GS.l0 i0 (r1.b 0) (r1.b 1) (r1.b 2) (r1.b 3) (r1.b 4) (r1.b 5) 0 []) := by apply Dc; intros; kernel_rfl
theorem Qf.eq : Qf.c i0 i1 i2 i3 i4 i5 i6 i7 i8 i9 i10 = bif decide (i0 = i6) then (bif decide (i1 = i7) then (bif decide (i2 = i8) then ((Kw.c i0 i1 i2 i3 i4 i5 i9 i10).bind fun r0 => rB (r0.b 0)) else rB false) else rB false) else rB false := by apply Dc; intros; kernel_rfl
theorem MB.eq : MB.c i0 i1 = (EP.c i0).bind fun r0 => bif !r0.b 0 then rI ((-1 : Int)) else ((EP.c i1).bind fun r1 => bif !r1.b 0 then rI ((-1 : Int)) else (bif decide (i0 > i1) then rI ((-1 : Int)) else rI (CX (i1 - i0)))) := by apply Dc; intros; kernel_rfl
end Go.Proofs.YtbanfmadialnkaaGreat.Eng
