/- The functions' equations, written by a printer of ours (wip/bin/Sym.lean, emit2.py) for this claim. -/
import Derived.Test.YtbanfmadialnkaaGreatFD
namespace Go.Proofs.YtbanfmadialnkaaGreat.Eng
open Go.RowKit
set_option linter.unusedVariables false
set_option maxRecDepth 100000
set_option maxHeartbeats 0
variable [Sm]
variable {b0 b1 b2 b3 b4 b5 b6 b7 b8 b9 jk fv : Bool} {i0 i1 i2 i3 i4 i5 i6 i7 i8 i9 i10 i11 i12 i13 i14 i15 i16 i17 : Int} {s0 s1 s2 s3 s4 s5 s6 s7 s8 s9 bc aW bd ba aP bf cO dE wI wJ wK wL wM wN wO wP wQ wR wS wT wU wV : LL}
theorem iS.ah : iS.l0 i0 b0 b1 b2 b3 b4 b5 i1 s0 = bif decide (i1 < 6) then (ae (an i1 6) (bif [b0, b1, b2, b3, b4, b5].getD i1.toNat false then (ae (room (s0.length + [[U.int i1]].length) 8) (iS.l0 i0 b0 b1 b2 b3 b4 b5 (ab (i1 + 1)) (s0 ++ [[U.int i1]]))) else (bif decide (i1 = i0) then (ae (room (s0.length + [[U.int i1]].length) 8) (iS.l0 i0 b0 b1 b2 b3 b4 b5 (ab (i1 + 1)) (s0 ++ [[U.int i1]]))) else (iS.l0 i0 b0 b1 b2 b3 b4 b5 (ab (i1 + 1)) s0)))) else (rL s0) := by apply aH; intros; kernel_rfl
theorem iS.eq : iS.c s0 i0 = (pY.c i0).bind fun r0 => bif !r0.b 0 then (rL []) else ((dz.c s0 i0).bind fun r1 => iS.l0 i0 (r1.b 0) (r1.b 1) (r1.b 2) (r1.b 3) (r1.b 4) (r1.b 5) 0 []) := by apply aq; intros; kernel_rfl
theorem A8.eq : A8.c i0 i1 i2 i3 i4 i5 i6 i7 i8 i9 i10 = bif decide (i0 = i6) then (bif decide (i1 = i7) then (bif decide (i2 = i8) then ((rA.c i0 i1 i2 i3 i4 i5 i9 i10).bind fun r0 => rB (r0.b 0)) else rB false) else rB false) else rB false := by apply aq; intros; kernel_rfl
theorem wx.eq : wx.c i0 i1 = (eS.c i0).bind fun r0 => bif !r0.b 0 then rI ((-1 : Int)) else ((eS.c i1).bind fun r1 => bif !r1.b 0 then rI ((-1 : Int)) else (bif decide (i0 > i1) then rI ((-1 : Int)) else rI (ab (i1 - i0)))) := by apply aq; intros; kernel_rfl
end Go.Proofs.YtbanfmadialnkaaGreat.Eng
