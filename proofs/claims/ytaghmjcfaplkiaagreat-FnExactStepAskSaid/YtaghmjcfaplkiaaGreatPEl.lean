/- Emergencies: what declaring,using,settling do and keep. -/
import Derived.Test.YtaghmjcfaplkiaaGreatPC1
import Derived.Test.YtaghmjcfaplkiaaGreatPO
namespace Go.Proofs.YtaghmjcfaplkiaaGreat.Eng
open Go.RowKit
set_option linter.unusedVariables false
set_option linter.unusedSimpArgs false
set_option linter.unusedSectionVars false
set_option maxRecDepth 100000
variable [Sm]
theorem aca (xs : LL) (r : List U) : (xs ++ [r]).getD xs.length [] = r:=by
 rw [qQe,qQx (qQb _),qZn]; rfl
theorem aeQ {xs : LL} {i : Nat} (hi : i < xs.length) (r : List U) (j : Nat) : (xs.set i r).getD j [] = if i = j then r else xs.getD j []:=by
 rw [qQe,qQe,qQ9]
 split
 ·first | rfl | (rw [if_pos hi]; rfl)
 ·rfl
/-! ### What the functions give -/
def Vq (xs : LL) (MP now sp : Int) : List U:=[.int (Ft (ln xs + 1)),.int MP,.int now,.int (RW now sp),.lst [],.bool false]
def YB (ps os : LL) (sp : Int) (xs : LL) (MP now : Int) : Bool:=Yn ps os sp xs && Yn ps os sp (xs ++ [Vq xs MP now sp])
def YC (ps os : LL) (sp : Int) (xs : LL) (MP now : Int) : LL:=bif YB ps os sp xs MP now then xs ++ [Vq xs MP now sp] else xs
/-- What is known of emergencies: rows of their type,of no more than n parts. -/
def Qj (n : Nat) (xs : LL) : Prop:=WR Fv.ct 94 xs ∧ Fy xs ≤ n
theorem Qj.mono {n m : Nat} {xs : LL} (h : Qj n xs) (nJ : n ≤ m) : Qj m xs:=⟨h.1,qZd h.2 nJ⟩
theorem Qj.decl {n : Nat} {ps os : LL} {sp : Int} {xs : LL} (h : Qj n xs) (hn : n ≤ 1048576) {MP now : Int} (hp : -9223372036854775808 ≤ MP ∧ MP ≤ 9223372036854775807) (hw : -9223372036854775808 ≤ now ∧ now ≤ 9223372036854775807) : Qj (n + 2) (YC ps os sp xs MP now):=by
 obtain ⟨h1,h2⟩:=h
 have hl:=FP xs
 unfold YC
 cases YB ps os sp xs MP now
 ·exact ⟨h1,by show Fy xs ≤ n + 2; omega⟩
 ·have e1 : Ft (ln xs + 1) = ((xs.length + 1 : Nat) : Int):=FZ (by omega)
  have e2 : 0 ≤ RW now sp ∧ RW now sp ≤ 20000:=by
   unfold RW
   split
   ·rename_i hc
    rw [qQi] at hc
    obtain ⟨q1,q2⟩:=Gx hc.1
    obtain ⟨q3,q4⟩:=Gx hc.2
    omega
   ·omega
  refine ⟨WR.app h1 (WR.one ?_) (by simp; omega),?_⟩
  ·show zx Fv.ct [.int .i64,.int .i64,.int .i64,.int .i64,.aj 3,.bool] _
   exact Hu (HC (by rw [e1]; omega)) (Hu (HC hp) (Hu (HC hw) (Hu (HC (by omega)) (Hu (WR.XZ ⟨by simp,fun x hx=>by simp at hx⟩) (Hu (.bool false) UJ)))))
  ·show Fy (xs ++ [Vq xs MP now sp]) ≤ n + 2
   rw [Vl]
   simp [Vq,Fy,FQ,FX]
   omega
end Go.Proofs.YtaghmjcfaplkiaaGreat.Eng
/- half -/
