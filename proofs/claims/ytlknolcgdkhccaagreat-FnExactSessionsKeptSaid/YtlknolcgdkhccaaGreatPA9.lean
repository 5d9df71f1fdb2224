/- What a point answers; whether a session is still good. -/
import Derived.Test.YtlknolcgdkhccaaGreatPA8
namespace Go.Proofs.YtlknolcgdkhccaaGreat.Eng
open Go.RowKit
set_option linter.unusedVariables false
set_option linter.unusedSimpArgs false
set_option linter.unusedSectionVars false
set_option maxRecDepth 100000
variable [Sm]
noncomputable def askCode (ps : LL) (v : Int) (rs s rv : LL) (sy : Int) (sv : LL) (k c0 c1 c2 c3 c4 c5 p d g a o now : Int) : Int :=
  bif isReq p d g a o now then (bif checkCert k c0 c1 c2 c3 c4 c5 now then (bif decide (c1 = d) then (bif youngAt sy now 10 then (bif revoked rv c0 now then 3
    else bif decide (posL sv (savedFor p d g a o now) ≥ 0) then gi sv (posL sv (savedFor p d g a o now)) 6 else decideBy ps s v rs p d g a o now) else 2) else 4) else 4) else 4
noncomputable def askSaved (ps : LL) (v : Int) (rs s rv : LL) (sy : Int) (sv : LL) (k c0 c1 c2 c3 c4 c5 p d g a o now : Int) : LL :=
  bif isReq p d g a o now then (bif checkCert k c0 c1 c2 c3 c4 c5 now then (bif decide (c1 = d) then (bif youngAt sy now 10 then (bif revoked rv c0 now then sv
    else bif decide (posL sv (savedFor p d g a o now) ≥ 0) then sv else keepS sv p d g a o now (decideBy ps s v rs p d g a o now) (until_ ps s v rs p d g a o now 10)) else sv) else sv) else sv) else sv
theorem s_current (i n a : Int) (ps : LL) (v : Int) (rs s rv : LL) (sy : Int) (sv : LL) (now : Int) : spec_IsCurrent.c i n a ps v rs s rv sy sv now = rB (youngAt sy now 10) := by simp only [spec_IsCurrent.eq, s_fresh, q0, qb]
theorem i_current (i n a : Int) (ps : LL) (v : Int) (rs s rv : LL) (sy : Int) (sv : LL) (now : Int) : impl_IsCurrent.c i n a ps v rs s rv sy sv now = rB (youngAt sy now 10) := by simp only [impl_IsCurrent.eq, i_fresh, q0, qb]
theorem s_save (l s : LL) (v : Int) (rs : LL) (hl : l.length ≤ 4611686018427387904) (hs : s.length ≤ 4611686018427387904) (hr : cntRs rs ≤ 1099511627776) (p d g a o n m : Int) : spec_SaveDecision.c l s v rs p d g a o n m = some ⟨[[.int p, .int d, .int g, .int a, .int o, .int n, .int (decideBy l s v rs p d g a o n), .int (until_ l s v rs p d g a o n m)]], []⟩ := by
  rw [spec_SaveDecision.eq, s_decide l s v rs hl hs hr, s_until l s v rs hl hs hr]; rfl
theorem i_save (l s : LL) (v : Int) (rs : LL) (hl : l.length ≤ 4611686018427387904) (hs : s.length ≤ 1048576) (hr : cntRs rs ≤ 1099511627776) (p d g a o n m : Int) : impl_SaveDecision.c l s v rs p d g a o n m = some ⟨[[.int p, .int d, .int g, .int a, .int o, .int n, .int (decideBy l s v rs p d g a o n), .int (until_ l s v rs p d g a o n m)]], []⟩ := by
  rw [impl_SaveDecision.eq, i_decide l s v rs hl hs hr, i_until l s v rs hl hs hr]; rfl
/-- A point's lists are of a size. -/
structure PtOk (ps rs s rv sv : LL) : Prop where
  ps : ps.length ≤ 1048576
  rs : cntRs rs ≤ 1099511627776
  s : s.length ≤ 1048576
  rv : rv.length ≤ 1048576
  sv : sv.length ≤ 1048576
theorem s_ask {i n a : Int} {ps : LL} {v : Int} {rs s rv : LL} {sy : Int} {sv : LL} (h : PtOk ps rs s rv sv) (k c0 c1 c2 c3 c4 c5 p d g ac o now : Int) :
    spec_AskPoint.c i n a ps v rs s rv sy sv k c0 c1 c2 c3 c4 c5 p d g ac o now = some ⟨[[.int i, .int n, .int a, .lst ps, .int v, .lst (copyR rs), .lst s, .lst rv, .int sy, .lst (askSaved ps v rs s rv sy sv k c0 c1 c2 c3 c4 c5 p d g ac o now)], [.int (askCode ps v rs s rv sy sv k c0 c1 c2 c3 c4 c5 p d g ac o now)]], []⟩ := by
  obtain ⟨h1, h2, h3, h4, h5⟩ := h
  rw [spec_AskPoint.eq, s_copyPt i n a ps v rs s rv sy sv (by omega) h2 (by omega) (by omega) (by omega), s_req, s_check, s_current, s_revoked rv (by omega), s_saved sv (by omega)]
  unfold askCode askSaved
  show (bif !isReq p d g ac o now then _ else bif !checkCert k c0 c1 c2 c3 c4 c5 now then _ else bif !decide (c1 = d) then _ else bif !youngAt sy now 10 then _ else bif revoked rv c0 now then _ else
    bif decide (posL sv (savedFor p d g ac o now) ≥ 0) then grd (inRange (posL sv (savedFor p d g ac o now)) sv.length) _ else ((spec_SaveDecision.c ps s v rs p d g ac o now 10).bind _)) = _
  cases isReq p d g ac o now
  · rfl
  cases checkCert k c0 c1 c2 c3 c4 c5 now
  · rfl
  cases decide (c1 = d)
  · rfl
  cases youngAt sy now 10
  · rfl
  cases revoked rv c0 now
  · rcases posL_cases sv (savedFor p d g ac o now) with ⟨hj, _⟩ | ⟨j, hj, hj2, _⟩
    · rw [hj]
      show ((spec_SaveDecision.c ps s v rs p d g ac o now 10).bind _) = _
      rw [s_save ps s v rs (by omega) (by omega) h2]
      show ((spec_PutSaved.c sv p d g ac o now (decideBy ps s v rs p d g ac o now) (until_ ps s v rs p d g ac o now 10)).bind _) = _
      rw [s_put sv (by omega)]; rfl
    · rw [hj, decide_eq_true (show (j : Int) ≥ 0 by omega), in_nat hj2]; rfl
  · rfl
theorem i_ask {i n a : Int} {ps : LL} {v : Int} {rs s rv : LL} {sy : Int} {sv : LL} (h : PtOk ps rs s rv sv) (k c0 c1 c2 c3 c4 c5 p d g ac o now : Int) :
    impl_AskPoint.c i n a ps v rs s rv sy sv k c0 c1 c2 c3 c4 c5 p d g ac o now = some ⟨[[.int i, .int n, .int a, .lst ps, .int v, .lst (copyR rs), .lst s, .lst rv, .int sy, .lst (askSaved ps v rs s rv sy sv k c0 c1 c2 c3 c4 c5 p d g ac o now)], [.int (askCode ps v rs s rv sy sv k c0 c1 c2 c3 c4 c5 p d g ac o now)]], []⟩ := by
  obtain ⟨h1, h2, h3, h4, h5⟩ := h
  rw [impl_AskPoint.eq, i_copyPt i n a ps v rs s rv sy sv (by omega) h2 (by omega) (by omega) (by omega), i_req, i_check, i_current, i_revoked rv (by omega), i_saved sv (by omega)]
  unfold askCode askSaved
  show (bif !isReq p d g ac o now then _ else bif !checkCert k c0 c1 c2 c3 c4 c5 now then _ else bif !decide (c1 = d) then _ else bif !youngAt sy now 10 then _ else bif revoked rv c0 now then _ else
    bif decide (posL sv (savedFor p d g ac o now) ≥ 0) then grd (inRange (posL sv (savedFor p d g ac o now)) sv.length) _ else ((impl_SaveDecision.c ps s v rs p d g ac o now 10).bind _)) = _
  cases isReq p d g ac o now
  · rfl
  cases checkCert k c0 c1 c2 c3 c4 c5 now
  · rfl
  cases decide (c1 = d)
  · rfl
  cases youngAt sy now 10
  · rfl
  cases revoked rv c0 now
  · rcases posL_cases sv (savedFor p d g ac o now) with ⟨hj, _⟩ | ⟨j, hj, hj2, _⟩
    · rw [hj]
      show ((impl_SaveDecision.c ps s v rs p d g ac o now 10).bind _) = _
      rw [i_save ps s v rs (by omega) (by omega) h2]
      show ((impl_PutSaved.c sv p d g ac o now (decideBy ps s v rs p d g ac o now) (until_ ps s v rs p d g ac o now 10)).bind _) = _
      rw [i_put sv (by omega)]; rfl
    · rw [hj, decide_eq_true (show (j : Int) ≥ 0 by omega), in_nat hj2]; rfl
  · rfl
noncomputable def stillGood (s1 s2 q0 q1 q2 q3 q4 q5 : Int) (op : Bool) (i : Int) (ps : LL) (v : Int) (rs s rv : LL) (sy : Int) (sv : LL) (k c0 c1 c2 c3 c4 c5 now : Int) : Bool :=
  op && (decide (i = s1) && (decide (c0 = s2) && (!decide (now < q5) && decide (askCode ps v rs s rv sy sv k c0 c1 c2 c3 c4 c5 q0 q1 q2 q3 q4 now = 1))))
theorem s_good {i n a : Int} {ps : LL} {v : Int} {rs s rv : LL} {sy : Int} {sv : LL} (h : PtOk ps rs s rv sv) (s0 s1 s2 q0 q1 q2 q3 q4 q5 : Int) (op : Bool) (k c0 c1 c2 c3 c4 c5 now : Int) :
    spec_IsStillGood.c s0 s1 s2 q0 q1 q2 q3 q4 q5 op i n a ps v rs s rv sy sv k c0 c1 c2 c3 c4 c5 now = rB (stillGood s1 s2 q0 q1 q2 q3 q4 q5 op i ps v rs s rv sy sv k c0 c1 c2 c3 c4 c5 now) := by
  rw [spec_IsStillGood.eq, spec_AtTime.eq]
  show (bif !op then _ else bif !decide (i = s1) then _ else bif !decide (c0 = s2) then _ else bif decide (now < q5) then _ else ((spec_AskPoint.c i n a ps v rs s rv sy sv k c0 c1 c2 c3 c4 c5 q0 q1 q2 q3 q4 now).bind _)) = _
  rw [s_ask h]
  unfold stillGood
  cases op
  · rfl
  cases decide (i = s1)
  · rfl
  cases decide (c0 = s2)
  · rfl
  cases decide (now < q5) <;> rfl
theorem i_good {i n a : Int} {ps : LL} {v : Int} {rs s rv : LL} {sy : Int} {sv : LL} (h : PtOk ps rs s rv sv) (s0 s1 s2 q0 q1 q2 q3 q4 q5 : Int) (op : Bool) (k c0 c1 c2 c3 c4 c5 now : Int) :
    impl_IsStillGood.c s0 s1 s2 q0 q1 q2 q3 q4 q5 op i n a ps v rs s rv sy sv k c0 c1 c2 c3 c4 c5 now = rB (stillGood s1 s2 q0 q1 q2 q3 q4 q5 op i ps v rs s rv sy sv k c0 c1 c2 c3 c4 c5 now) := by
  rw [impl_IsStillGood.eq, impl_AtTime.eq]
  show (bif !op then _ else bif !decide (i = s1) then _ else bif !decide (c0 = s2) then _ else bif decide (now < q5) then _ else ((impl_AskPoint.c i n a ps v rs s rv sy sv k c0 c1 c2 c3 c4 c5 q0 q1 q2 q3 q4 now).bind _)) = _
  rw [i_ask h]
  unfold stillGood
  cases op
  · rfl
  cases decide (i = s1)
  · rfl
  cases decide (c0 = s2)
  · rfl
  cases decide (now < q5) <;> rfl
end Go.Proofs.YtlknolcgdkhccaaGreat.Eng
