/- What a point answers; whether a session is still good. -/
import Derived.Test.YtbanfmadialnkaaGreatPA8
namespace Go.Proofs.YtbanfmadialnkaaGreat.Eng
open Go.RowKit
set_option linter.unusedVariables false
set_option linter.unusedSimpArgs false
set_option linter.unusedSectionVars false
set_option maxRecDepth 100000
variable [Sm]
noncomputable def JJ (ps : LL) (v : Int) (rs s rv : LL) (sy : Int) (sv : LL) (k c0 c1 c2 c3 c4 c5 p d g a o now : Int) : Int :=
 bif EA p d g a o now then (bif JU k c0 c1 c2 c3 c4 c5 now then (bif decide (c1 = d) then (bif IZ sy now 10 then (bif KS rv c0 now then 3
  else bif decide (DC sv (IA p d g a o now) ≥ 0) then gi sv (DC sv (IA p d g a o now)) 6 else Fs ps s v rs p d g a o now) else 2) else 4) else 4) else 4
noncomputable def Ky (ps : LL) (v : Int) (rs s rv : LL) (sy : Int) (sv : LL) (k c0 c1 c2 c3 c4 c5 p d g a o now : Int) : LL :=
 bif EA p d g a o now then (bif JU k c0 c1 c2 c3 c4 c5 now then (bif decide (c1 = d) then (bif IZ sy now 10 then (bif KS rv c0 now then sv
  else bif decide (DC sv (IA p d g a o now) ≥ 0) then sv else MK sv p d g a o now (Fs ps s v rs p d g a o now) (JR ps s v rs p d g a o now 10)) else sv) else sv) else sv) else sv
theorem aaD (i n a : Int) (ps : LL) (v : Int) (rs s rv : LL) (sy : Int) (sv : LL) (now : Int) : Qk.c i n a ps v rs s rv sy sv now = rB (IZ sy now 10) := by simp only [Qk.eq, Vu, q0, qb]
theorem YI (i n a : Int) (ps : LL) (v : Int) (rs s rv : LL) (sy : Int) (sv : LL) (now : Int) : Oh.c i n a ps v rs s rv sy sv now = rB (IZ sy now 10) := by simp only [Oh.eq, YO, q0, qb]
theorem aa1 (l s : LL) (v : Int) (rs : LL) (hl : l.length ≤ 4611686018427387904) (hs : s.length ≤ 4611686018427387904) (hr : Db rs ≤ 1099511627776) (p d g a o n m : Int) : Ml.c l s v rs p d g a o n m = some ⟨[[.int p, .int d, .int g, .int a, .int o, .int n, .int (Fs l s v rs p d g a o n), .int (JR l s v rs p d g a o n m)]], []⟩ := by
 rw [Ml.eq, TB l s v rs hl hs hr, aa5 l s v rs hl hs hr]; rfl
theorem Zf (l s : LL) (v : Int) (rs : LL) (hl : l.length ≤ 4611686018427387904) (hs : s.length ≤ 1048576) (hr : Db rs ≤ 1099511627776) (p d g a o n m : Int) : LW.c l s v rs p d g a o n m = some ⟨[[.int p, .int d, .int g, .int a, .int o, .int n, .int (Fs l s v rs p d g a o n), .int (JR l s v rs p d g a o n m)]], []⟩ := by
 rw [LW.eq, SL l s v rs hl hs hr, Zj l s v rs hl hs hr]; rfl
/-- A point's lists are of a size. -/
structure Mq (ps rs s rv sv : LL) : Prop where
 ps : ps.length ≤ 1048576
 rs : Db rs ≤ 1099511627776
 s : s.length ≤ 1048576
 rv : rv.length ≤ 1048576
 sv : sv.length ≤ 1048576
theorem aaq {i n a : Int} {ps : LL} {v : Int} {rs s rv : LL} {sy : Int} {sv : LL} (h : Mq ps rs s rv sv) (k c0 c1 c2 c3 c4 c5 p d g ac o now : Int) :
  Qf.c i n a ps v rs s rv sy sv k c0 c1 c2 c3 c4 c5 p d g ac o now = some ⟨[[.int i, .int n, .int a, .lst ps, .int v, .lst (EM rs), .lst s, .lst rv, .int sy, .lst (Ky ps v rs s rv sy sv k c0 c1 c2 c3 c4 c5 p d g ac o now)], [.int (JJ ps v rs s rv sy sv k c0 c1 c2 c3 c4 c5 p d g ac o now)]], []⟩ := by
 obtain ⟨h1, h2, h3, h4, h5⟩ := h
 rw [Qf.eq, TA i n a ps v rs s rv sy sv (by omega) h2 (by omega) (by omega) (by omega), Sa, aau, aaD, aaV rv (by omega), aa2 sv (by omega)]
 unfold JJ Ky
 show (bif !EA p d g ac o now then _ else bif !JU k c0 c1 c2 c3 c4 c5 now then _ else bif !decide (c1 = d) then _ else bif !IZ sy now 10 then _ else bif KS rv c0 now then _ else
  bif decide (DC sv (IA p d g ac o now) ≥ 0) then Cu (dk (DC sv (IA p d g ac o now)) sv.length) _ else ((Ml.c ps s v rs p d g ac o now 10).bind _)) = _
 cases EA p d g ac o now
 ·rfl
 cases JU k c0 c1 c2 c3 c4 c5 now
 ·rfl
 cases decide (c1 = d)
 ·rfl
 cases IZ sy now 10
 ·rfl
 cases KS rv c0 now
 ·rcases Md sv (IA p d g ac o now) with ⟨hj, _⟩ | ⟨j, hj, eY, _⟩
  ·rw [hj]
   show ((Ml.c ps s v rs p d g ac o now 10).bind _) = _
   rw [aa1 ps s v rs (by omega) (by omega) h2]
   show ((IC.c sv p d g ac o now (Fs ps s v rs p d g ac o now) (JR ps s v rs p d g ac o now 10)).bind _) = _
   rw [aaT sv (by omega)]; rfl
  ·rw [hj, decide_eq_true (show (j : Int) ≥ 0 by omega), DE eY]; rfl
 ·rfl
theorem Yv {i n a : Int} {ps : LL} {v : Int} {rs s rv : LL} {sy : Int} {sv : LL} (h : Mq ps rs s rv sv) (k c0 c1 c2 c3 c4 c5 p d g ac o now : Int) :
  NZ.c i n a ps v rs s rv sy sv k c0 c1 c2 c3 c4 c5 p d g ac o now = some ⟨[[.int i, .int n, .int a, .lst ps, .int v, .lst (EM rs), .lst s, .lst rv, .int sy, .lst (Ky ps v rs s rv sy sv k c0 c1 c2 c3 c4 c5 p d g ac o now)], [.int (JJ ps v rs s rv sy sv k c0 c1 c2 c3 c4 c5 p d g ac o now)]], []⟩ := by
 obtain ⟨h1, h2, h3, h4, h5⟩ := h
 rw [NZ.eq, SK i n a ps v rs s rv sy sv (by omega) h2 (by omega) (by omega) (by omega), Rv, Yz, YI, Zb rv (by omega), Zg sv (by omega)]
 unfold JJ Ky
 show (bif !EA p d g ac o now then _ else bif !JU k c0 c1 c2 c3 c4 c5 now then _ else bif !decide (c1 = d) then _ else bif !IZ sy now 10 then _ else bif KS rv c0 now then _ else
  bif decide (DC sv (IA p d g ac o now) ≥ 0) then Cu (dk (DC sv (IA p d g ac o now)) sv.length) _ else ((LW.c ps s v rs p d g ac o now 10).bind _)) = _
 cases EA p d g ac o now
 ·rfl
 cases JU k c0 c1 c2 c3 c4 c5 now
 ·rfl
 cases decide (c1 = d)
 ·rfl
 cases IZ sy now 10
 ·rfl
 cases KS rv c0 now
 ·rcases Md sv (IA p d g ac o now) with ⟨hj, _⟩ | ⟨j, hj, eY, _⟩
  ·rw [hj]
   show ((LW.c ps s v rs p d g ac o now 10).bind _) = _
   rw [Zf ps s v rs (by omega) (by omega) h2]
   show ((Iv.c sv p d g ac o now (Fs ps s v rs p d g ac o now) (JR ps s v rs p d g ac o now 10)).bind _) = _
   rw [YZ sv (by omega)]; rfl
  ·rw [hj, decide_eq_true (show (j : Int) ≥ 0 by omega), DE eY]; rfl
 ·rfl
end Go.Proofs.YtbanfmadialnkaaGreat.Eng
/- half -/
