/- What a point answers; whether a session is still good. -/
import Derived.Test.YtaghmjcfaplkiaaGreatPA8
namespace Go.Proofs.YtaghmjcfaplkiaaGreat.Eng
open Go.RowKit
set_option linter.unusedVariables false
set_option linter.unusedSimpArgs false
set_option linter.unusedSectionVars false
set_option maxRecDepth 100000
variable [Sm]
noncomputable def Pg (ps : LL) (v : Int) (rs s rv : LL) (sy : Int) (sv : LL) (k c0 c1 c2 c3 c4 c5 p d g a o now : Int) : Int :=
 bif HR p d g a o now then (bif MK k c0 c1 c2 c3 c4 c5 now then (bif decide (c1 = d) then (bif Lv sy now 10 then (bif NM rv c0 now then 3
  else bif decide (Gb sv (KT p d g a o now) ≥ 0) then gi sv (Gb sv (KT p d g a o now)) 6 else HU ps s v rs p d g a o now) else 2) else 4) else 4) else 4
noncomputable def Ol (ps : LL) (v : Int) (rs s rv : LL) (sy : Int) (sv : LL) (k c0 c1 c2 c3 c4 c5 p d g a o now : Int) : LL :=
 bif HR p d g a o now then (bif MK k c0 c1 c2 c3 c4 c5 now then (bif decide (c1 = d) then (bif Lv sy now 10 then (bif NM rv c0 now then sv
  else bif decide (Gb sv (KT p d g a o now) ≥ 0) then sv else QR sv p d g a o now (HU ps s v rs p d g a o now) (MW ps s v rs p d g a o now 10)) else sv) else sv) else sv) else sv
theorem aeg (i n a : Int) (ps : LL) (v : Int) (rs s rv : LL) (sy : Int) (sv : LL) (now : Int) : Ur.c i n a ps v rs s rv sy sv now = rB (Lv sy now 10):=by simp only [Ur.eq,aai,q0,qb]
theorem acO (i n a : Int) (ps : LL) (v : Int) (rs s rv : LL) (sy : Int) (sv : LL) (now : Int) : Su.c i n a ps v rs s rv sy sv now = rB (Lv sy now 10):=by simp only [Su.eq,acU,q0,qb]
theorem aeG (l s : LL) (v : Int) (rs : LL) (hl : l.length ≤ 4611686018427387904) (hs : s.length ≤ 4611686018427387904) (hr : Fy rs ≤ 1099511627776) (p d g a o n m : Int) : Qb.c l s v rs p d g a o n m = some ⟨[[.int p,.int d,.int g,.int a,.int o,.int n,.int (HU l s v rs p d g a o n),.int (MW l s v rs p d g a o n m)]],[]⟩:=by
 rw [Qb.eq,XT l s v rs hl hs hr,aeO l s v rs hl hs hr]; rfl
theorem adi (l s : LL) (v : Int) (rs : LL) (hl : l.length ≤ 4611686018427387904) (hs : s.length ≤ 1048576) (hr : Fy rs ≤ 1099511627776) (p d g a o n m : Int) : Pu.c l s v rs p d g a o n m = some ⟨[[.int p,.int d,.int g,.int a,.int o,.int n,.int (HU l s v rs p d g a o n),.int (MW l s v rs p d g a o n m)]],[]⟩:=by
 rw [Pu.eq,Xa l s v rs hl hs hr,adr l s v rs hl hs hr]; rfl
/-- A point's lists are of a size. -/
structure Vh (ps rs s rv sv : LL) : Prop where
 ps : ps.length ≤ 1048576
 rs : Fy rs ≤ 1099511627776
 s : s.length ≤ 1048576
 rv : rv.length ≤ 1048576
 sv : sv.length ≤ 1048576
theorem ad3 {i n a : Int} {ps : LL} {v : Int} {rs s rv : LL} {sy : Int} {sv : LL} (h : Vh ps rs s rv sv) (k c0 c1 c2 c3 c4 c5 p d g ac o now : Int) :
  PU.c i n a ps v rs s rv sy sv k c0 c1 c2 c3 c4 c5 p d g ac o now = some ⟨[[.int i,.int n,.int a,.lst ps,.int v,.lst (GW rs),.lst s,.lst rv,.int sy,.lst (Ol ps v rs s rv sy sv k c0 c1 c2 c3 c4 c5 p d g ac o now)],[.int (Pg ps v rs s rv sy sv k c0 c1 c2 c3 c4 c5 p d g ac o now)]],[]⟩:=by
 obtain ⟨h1,h2,h3,h4,h5⟩:=h
 rw [PU.eq,aag i n a ps v rs s rv sy sv (by omega) h2 (by omega) (by omega) (by omega),XW,ad7,aeg,aeA rv (by omega),aeH sv (by omega)]
 unfold Pg Ol
 show (bif !HR p d g ac o now then _ else bif !MK k c0 c1 c2 c3 c4 c5 now then _ else bif !decide (c1 = d) then _ else bif !Lv sy now 10 then _ else bif NM rv c0 now then _ else
  bif decide (Gb sv (KT p d g ac o now) ≥ 0) then EK (dE (Gb sv (KT p d g ac o now)) sv.length) _ else ((Qb.c ps s v rs p d g ac o now 10).bind _)) = _
 cases HR p d g ac o now
 ·rfl
 cases MK k c0 c1 c2 c3 c4 c5 now
 ·rfl
 cases decide (c1 = d)
 ·rfl
 cases Lv sy now 10
 ·rfl
 cases NM rv c0 now
 ·rcases NK sv (KT p d g ac o now) with ⟨hj,_⟩ | ⟨j,hj,fH,_⟩
  ·rw [hj]
   show ((Qb.c ps s v rs p d g ac o now 10).bind _) = _
   rw [aeG ps s v rs (by omega) (by omega) h2]
   show ((Lp.c sv p d g ac o now (HU ps s v rs p d g ac o now) (MW ps s v rs p d g ac o now 10)).bind _) = _
   rw [aey sv (by omega)]; rfl
  ·rw [hj,qQa (show (j : Int) ≥ 0 by omega),FU fH]; rfl
 ·rfl
theorem acB {i n a : Int} {ps : LL} {v : Int} {rs s rv : LL} {sy : Int} {sv : LL} (h : Vh ps rs s rv sv) (k c0 c1 c2 c3 c4 c5 p d g ac o now : Int) :
  Pn.c i n a ps v rs s rv sy sv k c0 c1 c2 c3 c4 c5 p d g ac o now = some ⟨[[.int i,.int n,.int a,.lst ps,.int v,.lst (GW rs),.lst s,.lst rv,.int sy,.lst (Ol ps v rs s rv sy sv k c0 c1 c2 c3 c4 c5 p d g ac o now)],[.int (Pg ps v rs s rv sy sv k c0 c1 c2 c3 c4 c5 p d g ac o now)]],[]⟩:=by
 obtain ⟨h1,h2,h3,h4,h5⟩:=h
 rw [Pn.eq,YY i n a ps v rs s rv sy sv (by omega) h2 (by omega) (by omega) (by omega),Xd,acF,acO,ade rv (by omega),adk sv (by omega)]
 unfold Pg Ol
 show (bif !HR p d g ac o now then _ else bif !MK k c0 c1 c2 c3 c4 c5 now then _ else bif !decide (c1 = d) then _ else bif !Lv sy now 10 then _ else bif NM rv c0 now then _ else
  bif decide (Gb sv (KT p d g ac o now) ≥ 0) then EK (dE (Gb sv (KT p d g ac o now)) sv.length) _ else ((Pu.c ps s v rs p d g ac o now 10).bind _)) = _
 cases HR p d g ac o now
 ·rfl
 cases MK k c0 c1 c2 c3 c4 c5 now
 ·rfl
 cases decide (c1 = d)
 ·rfl
 cases Lv sy now 10
 ·rfl
 cases NM rv c0 now
 ·rcases NK sv (KT p d g ac o now) with ⟨hj,_⟩ | ⟨j,hj,fH,_⟩
  ·rw [hj]
   show ((Pu.c ps s v rs p d g ac o now 10).bind _) = _
   rw [adi ps s v rs (by omega) (by omega) h2]
   show ((Li.c sv p d g ac o now (HU ps s v rs p d g ac o now) (MW ps s v rs p d g ac o now 10)).bind _) = _
   rw [ada sv (by omega)]; rfl
  ·rw [hj,qQa (show (j : Int) ≥ 0 by omega),FU fH]; rfl
 ·rfl
end Go.Proofs.YtaghmjcfaplkiaaGreat.Eng
/- half -/
