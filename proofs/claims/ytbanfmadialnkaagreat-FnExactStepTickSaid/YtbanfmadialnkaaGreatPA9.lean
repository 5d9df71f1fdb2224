/- What a point answers; whether a session is still good. -/
import Derived.Test.YtbanfmadialnkaaGreatPA8
namespace Go.Proofs.YtbanfmadialnkaaGreat.Eng
open Go.RowKit
set_option linter.unusedVariables false
set_option linter.unusedSimpArgs false
set_option linter.unusedSectionVars false
set_option maxRecDepth 100000
variable [Sm]
noncomputable def MZ (ps : LL) (v : Int) (rs s rv : LL) (sy : Int) (sv : LL) (k c0 c1 c2 c3 c4 c5 p d g a o now : Int) : Int :=
 bif Iq p d g a o now then (bif Kg k c0 c1 c2 c3 c4 c5 now then (bif decide (c1 = d) then (bif JE sy now 10 then (bif Lp rv c0 now then 3
  else bif decide (Ds sv (IQ p d g a o now) ≥ 0) then gi sv (Ds sv (IQ p d g a o now)) 6 else Ii ps s v rs p d g a o now) else 2) else 4) else 4) else 4
noncomputable def QE (ps : LL) (v : Int) (rs s rv : LL) (sy : Int) (sv : LL) (k c0 c1 c2 c3 c4 c5 p d g a o now : Int) : LL :=
 bif Iq p d g a o now then (bif Kg k c0 c1 c2 c3 c4 c5 now then (bif decide (c1 = d) then (bif JE sy now 10 then (bif Lp rv c0 now then sv
  else bif decide (Ds sv (IQ p d g a o now) ≥ 0) then sv else SG sv p d g a o now (Ii ps s v rs p d g a o now) (KI ps s v rs p d g a o now 10)) else sv) else sv) else sv) else sv
theorem aas (i n a : Int) (ps : LL) (v : Int) (rs s rv : LL) (sy : Int) (sv : LL) (now : Int) : PV.c i n a ps v rs s rv sy sv now = rB (JE sy now 10) := by simp only [PV.eq, Vm, q0, qb]
theorem Yn (i n a : Int) (ps : LL) (v : Int) (rs s rv : LL) (sy : Int) (sv : LL) (now : Int) : NR.c i n a ps v rs s rv sy sv now = rB (JE sy now 10) := by simp only [NR.eq, Yt, q0, qb]
theorem aaT (l s : LL) (v : Int) (rs : LL) (hl : l.length ≤ 4611686018427387904) (hs : s.length ≤ 4611686018427387904) (hr : Db rs ≤ 1099511627776) (p d g a o n m : Int) : LR.c l s v rs p d g a o n m = some ⟨[[.int p, .int d, .int g, .int a, .int o, .int n, .int (Ii l s v rs p d g a o n), .int (KI l s v rs p d g a o n m)]], []⟩ := by
 rw [LR.eq, Tr l s v rs hl hs hr, aaW l s v rs hl hs hr]; rfl
theorem YN (l s : LL) (v : Int) (rs : LL) (hl : l.length ≤ 4611686018427387904) (hs : s.length ≤ 1048576) (hr : Db rs ≤ 1099511627776) (p d g a o n m : Int) : LD.c l s v rs p d g a o n m = some ⟨[[.int p, .int d, .int g, .int a, .int o, .int n, .int (Ii l s v rs p d g a o n), .int (KI l s v rs p d g a o n m)]], []⟩ := by
 rw [LD.eq, Sr l s v rs hl hs hr, YQ l s v rs hl hs hr]; rfl
/-- A point's lists are of a size. -/
structure LX (ps rs s rv sv : LL) : Prop where
 ps : ps.length ≤ 1048576
 rs : Db rs ≤ 1099511627776
 s : s.length ≤ 1048576
 rv : rv.length ≤ 1048576
 sv : sv.length ≤ 1048576
theorem aag {i n a : Int} {ps : LL} {v : Int} {rs s rv : LL} {sy : Int} {sv : LL} (h : LX ps rs s rv sv) (k c0 c1 c2 c3 c4 c5 p d g ac o now : Int) :
  ML.c i n a ps v rs s rv sy sv k c0 c1 c2 c3 c4 c5 p d g ac o now = some ⟨[[.int i, .int n, .int a, .lst ps, .int v, .lst (FA rs), .lst s, .lst rv, .int sy, .lst (QE ps v rs s rv sy sv k c0 c1 c2 c3 c4 c5 p d g ac o now)], [.int (MZ ps v rs s rv sy sv k c0 c1 c2 c3 c4 c5 p d g ac o now)]], []⟩ := by
 obtain ⟨h1, h2, h3, h4, h5⟩ := h
 rw [ML.eq, Vk i n a ps v rs s rv sy sv (by omega) h2 (by omega) (by omega) (by omega), Tu, aaj, aas, aaN rv (by omega), aaU sv (by omega)]
 unfold MZ QE
 show (bif !Iq p d g ac o now then _ else bif !Kg k c0 c1 c2 c3 c4 c5 now then _ else bif !decide (c1 = d) then _ else bif !JE sy now 10 then _ else bif Lp rv c0 now then _ else
  bif decide (Ds sv (IQ p d g ac o now) ≥ 0) then Cu (dk (Ds sv (IQ p d g ac o now)) sv.length) _ else ((LR.c ps s v rs p d g ac o now 10).bind _)) = _
 cases Iq p d g ac o now
 ·rfl
 cases Kg k c0 c1 c2 c3 c4 c5 now
 ·rfl
 cases decide (c1 = d)
 ·rfl
 cases JE sy now 10
 ·rfl
 cases Lp rv c0 now
 ·rcases KU sv (IQ p d g ac o now) with ⟨hj, _⟩ | ⟨j, hj, eY, _⟩
  ·rw [hj]
   show ((LR.c ps s v rs p d g ac o now 10).bind _) = _
   rw [aaT ps s v rs (by omega) (by omega) h2]
   show ((It.c sv p d g ac o now (Ii ps s v rs p d g ac o now) (KI ps s v rs p d g ac o now 10)).bind _) = _
   rw [aaK sv (by omega)]; rfl
  ·rw [hj, decide_eq_true (show (j : Int) ≥ 0 by omega), Dw eY]; rfl
 ·rfl
theorem Yb {i n a : Int} {ps : LL} {v : Int} {rs s rv : LL} {sy : Int} {sv : LL} (h : LX ps rs s rv sv) (k c0 c1 c2 c3 c4 c5 p d g ac o now : Int) :
  Mf.c i n a ps v rs s rv sy sv k c0 c1 c2 c3 c4 c5 p d g ac o now = some ⟨[[.int i, .int n, .int a, .lst ps, .int v, .lst (FA rs), .lst s, .lst rv, .int sy, .lst (QE ps v rs s rv sy sv k c0 c1 c2 c3 c4 c5 p d g ac o now)], [.int (MZ ps v rs s rv sy sv k c0 c1 c2 c3 c4 c5 p d g ac o now)]], []⟩ := by
 obtain ⟨h1, h2, h3, h4, h5⟩ := h
 rw [Mf.eq, Uh i n a ps v rs s rv sy sv (by omega) h2 (by omega) (by omega) (by omega), Sv, Ye, Yn, YJ rv (by omega), YO sv (by omega)]
 unfold MZ QE
 show (bif !Iq p d g ac o now then _ else bif !Kg k c0 c1 c2 c3 c4 c5 now then _ else bif !decide (c1 = d) then _ else bif !JE sy now 10 then _ else bif Lp rv c0 now then _ else
  bif decide (Ds sv (IQ p d g ac o now) ≥ 0) then Cu (dk (Ds sv (IQ p d g ac o now)) sv.length) _ else ((LD.c ps s v rs p d g ac o now 10).bind _)) = _
 cases Iq p d g ac o now
 ·rfl
 cases Kg k c0 c1 c2 c3 c4 c5 now
 ·rfl
 cases decide (c1 = d)
 ·rfl
 cases JE sy now 10
 ·rfl
 cases Lp rv c0 now
 ·rcases KU sv (IQ p d g ac o now) with ⟨hj, _⟩ | ⟨j, hj, eY, _⟩
  ·rw [hj]
   show ((LD.c ps s v rs p d g ac o now 10).bind _) = _
   rw [YN ps s v rs (by omega) (by omega) h2]
   show ((Io.c sv p d g ac o now (Ii ps s v rs p d g ac o now) (KI ps s v rs p d g ac o now 10)).bind _) = _
   rw [YG sv (by omega)]; rfl
  ·rw [hj, decide_eq_true (show (j : Int) ≥ 0 by omega), Dw eY]; rfl
 ·rfl
noncomputable def KH (s1 s2 q0 q1 q2 q3 q4 q5 : Int) (op : Bool) (i : Int) (ps : LL) (v : Int) (rs s rv : LL) (sy : Int) (sv : LL) (k c0 c1 c2 c3 c4 c5 now : Int) : Bool :=
 op && (decide (i = s1) && (decide (c0 = s2) && (!decide (now < q5) && decide (MZ ps v rs s rv sy sv k c0 c1 c2 c3 c4 c5 q0 q1 q2 q3 q4 now = 1))))
theorem aay {i n a : Int} {ps : LL} {v : Int} {rs s rv : LL} {sy : Int} {sv : LL} (h : LX ps rs s rv sv) (s0 s1 s2 q0 q1 q2 q3 q4 q5 : Int) (op : Bool) (k c0 c1 c2 c3 c4 c5 now : Int) :
  MP.c s0 s1 s2 q0 q1 q2 q3 q4 q5 op i n a ps v rs s rv sy sv k c0 c1 c2 c3 c4 c5 now = rB (KH s1 s2 q0 q1 q2 q3 q4 q5 op i ps v rs s rv sy sv k c0 c1 c2 c3 c4 c5 now) := by
 rw [MP.eq, KG.eq]
 show (bif !op then _ else bif !decide (i = s1) then _ else bif !decide (c0 = s2) then _ else bif decide (now < q5) then _ else ((ML.c i n a ps v rs s rv sy sv k c0 c1 c2 c3 c4 c5 q0 q1 q2 q3 q4 now).bind _)) = _
 rw [aag h]
 unfold KH
 cases op
 ·rfl
 cases decide (i = s1)
 ·rfl
 cases decide (c0 = s2)
 ·rfl
 cases decide (now < q5) <;> rfl
theorem Yu {i n a : Int} {ps : LL} {v : Int} {rs s rv : LL} {sy : Int} {sv : LL} (h : LX ps rs s rv sv) (s0 s1 s2 q0 q1 q2 q3 q4 q5 : Int) (op : Bool) (k c0 c1 c2 c3 c4 c5 now : Int) :
  Mi.c s0 s1 s2 q0 q1 q2 q3 q4 q5 op i n a ps v rs s rv sy sv k c0 c1 c2 c3 c4 c5 now = rB (KH s1 s2 q0 q1 q2 q3 q4 q5 op i ps v rs s rv sy sv k c0 c1 c2 c3 c4 c5 now) := by
 rw [Mi.eq, KM.eq]
 show (bif !op then _ else bif !decide (i = s1) then _ else bif !decide (c0 = s2) then _ else bif decide (now < q5) then _ else ((Mf.c i n a ps v rs s rv sy sv k c0 c1 c2 c3 c4 c5 q0 q1 q2 q3 q4 now).bind _)) = _
 rw [Yb h]
 unfold KH
 cases op
 ·rfl
 cases decide (i = s1)
 ·rfl
 cases decide (c0 = s2)
 ·rfl
 cases decide (now < q5) <;> rfl
end Go.Proofs.YtbanfmadialnkaaGreat.Eng
/- half -/
