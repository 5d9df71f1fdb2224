/- A world's trails: an entry more. -/
import Derived.Test.YtaghmjcfaplkiaaGreatPCw
import Derived.Test.YtaghmjcfaplkiaaGreatPEl
import Derived.Test.YtaghmjcfaplkiaaGreatPC2
namespace Go.Proofs.YtaghmjcfaplkiaaGreat.Eng
open Go.RowKit
set_option linter.unusedVariables false
set_option linter.unusedSimpArgs false
set_option linter.unusedSectionVars false
set_option maxRecDepth 100000
variable [Sm]
theorem acr (d : Int) (x : List U) : -2147483647 ≤ lN d x ∧ lN d x ≤ 2147483647:=by
 have h : ∀ n : Int,-2147483647 ≤ n.tmod 2147483647 ∧ n.tmod 2147483647 ≤ 2147483647:=fun n=>by
  have h1:=Int.tmod_lt_of_pos n (b:=2147483647) (by omega)
  have h2:=Int.lt_tmod_of_pos n (b:=2147483647) (by omega)
  omega
 exact h _
theorem YL : ∀ (xs : LL) (d : Int),-2147483647 ≤ d ∧ d ≤ 2147483647 → -2147483647 ≤ xs.foldl lN d ∧ xs.foldl lN d ≤ 2147483647
 | [],d,h=>h
 | x :: xs,d,_=>YL xs _ (acr d x)
theorem ach (xs : LL) : -2147483647 ≤ Oo xs ∧ Oo xs ≤ 2147483647:=YL xs 11 (by omega)
abbrev Gr (n : Int) : Prop:=-9223372036854775808 ≤ n ∧ n ≤ 9223372036854775807
/-- A trail,of a world's. -/
def HT (a9 : LL) (i : Nat) : LL:=ul (a9.getD i []) 0
def OB (a0 : Int) (a9 : LL) (i : Nat) (k : Int) : Bool:=On (HT a9 i) k a0
def Ra (a0 : Int) (a7 a9 : LL) (i : Nat) (k s p o c : Int) : List U:=Qt (HT a9 i) k a0 (ui (a7.getD i []) 0) s p o c (ui (a7.getD i []) 1)
def Ll (a0 : Int) (a7 a9 : LL) (i : Nat) (k s p o c : Int) : LL:=bif OB a0 a9 i k then HT a9 i ++ [Ra a0 a7 a9 i k s p o c] else HT a9 i
def UH (a9 : LL) (i : Nat) (t : LL) : LL:=a9.set i [U.lst t]
theorem Yc {a9 : LL} (h : WR Fv.ct 90 a9) {i : Nat} (hi : i < a9.length) (t : LL) : bY a9 i 0 [U.lst t] = UH a9 i t:=by
 obtain ⟨c,hr,_⟩:=Rl (h.2 _ (FF hi (z:=[])))
 rw [Gp,hr]; rfl
theorem Yb {a9 : LL} (h : WR Fv.ct 90 a9) (b : Fy a9 ≤ 1048576) {i : Nat} (hi : i < a9.length) : a9.getD i [] = [U.lst (HT a9 i)] ∧ WR Fv.ct 96 (HT a9 i) ∧ Fy (HT a9 i) + 1 ≤ Fy a9:=by
 obtain ⟨c,hr,hc⟩:=Rl (h.2 _ (FF hi (z:=[])))
 have hm:=Gc (FF hi (z:=[]))
 unfold HT
 rw [hr] at hm ⊢
 simp only [FQ,FX] at hm
 exact ⟨rfl,hc,by show Fy c + 1 ≤ _; omega⟩
theorem aam (a0 : Int) (a1 a2 a3 a4 : List (List U)) (a5 : Int) (a6 a7 a8 a9 : List (List U)) (FB : Int) (FA a12 FD FE FG FI : List (List U)) (FL : Int) (FJ FK : List (List U)) {i : Nat} (hi : i < a7.length) (h9 : WR Fv.ct 90 a9) (b9 : Fy a9 ≤ 1048576) (Ji : i < a9.length) (k t pt s p o c ep m : Int) :
  RA.c a0 a1 a2 a3 a4 a5 a6 a7 a8 a9 FB FA a12 FD FE FG FI FL FJ FK (i : Int) k t pt s p o c ep m = some ⟨[[.lst (Ll a0 a7 a9 i k s p o c)],[.bool (OB a0 a9 i k)]],[]⟩:=by
 have hl:=FP (HT a9 i)
 have hx:=(Yb h9 b9 Ji).2.2
 rw [RA.eq,FU hi,FU Ji]
 show ((Ro.c (HT a9 i) k a0 (ui (a7.getD i []) 0) s p o c (ui (a7.getD i []) 1) m).bind _) = _
 rw [ad1 _ (by omega)]
 unfold Ll OB Ra
 cases On (HT a9 i) k a0 <;> rfl
theorem ac2 (a0 : Int) (a1 a2 a3 a4 : List (List U)) (a5 : Int) (a6 a7 a8 a9 : List (List U)) (FB : Int) (FA a12 FD FE FG FI : List (List U)) (FL : Int) (FJ FK : List (List U)) {i : Nat} (hi : i < a7.length) (h9 : WR Fv.ct 90 a9) (b9 : Fy a9 ≤ 1048576) (Ji : i < a9.length) (k t pt s p o c ep m : Int) :
  Pw.c (i : Int) k t pt s p o c ep m [[U.int a0,U.lst a1,U.lst a2,U.lst a3,U.lst a4,U.int a5,U.lst a6,U.lst a7,U.lst a8,U.lst a9,U.int FB,U.lst FA,U.lst a12,U.lst FD,U.lst FE,U.lst FG,U.lst FI,U.int FL,U.lst FJ,U.lst FK]] = some ⟨[[.bool (OB a0 a9 i k)]],[[[U.int a0,U.lst a1,U.lst a2,U.lst a3,U.lst a4,U.int a5,U.lst a6,U.lst a7,U.lst a8,U.lst (UH a9 i (Ll a0 a7 a9 i k s p o c)),U.int FB,U.lst FA,U.lst a12,U.lst FD,U.lst FE,U.lst FG,U.lst FI,U.int FL,U.lst FJ,U.lst FK]]]⟩:=by
 have hl:=FP (HT a9 i)
 have hx:=(Yb h9 b9 Ji).2.2
 rw [Pw.eq]
 show (bif decide ((i : Int) ≥ ln a9) then _ else EK (dE (i : Int) a7.length) (EK (dE (i : Int) a7.length) (EK (dE (i : Int) a9.length) ((QB.c (HT a9 i) k a0 (ui (a7.getD i []) 0) s p o c (ui (a7.getD i []) 1) m).bind fun r0=>EK (dE (i : Int) a9.length) (some ⟨[[.bool (r0.bj 1 0)]],[cD [[U.int a0,U.lst a1,U.lst a2,U.lst a3,U.lst a4,U.int a5,U.lst a6,U.lst a7,U.lst a8,U.lst a9,U.int FB,U.lst FA,U.lst a12,U.lst FD,U.lst FE,U.lst FG,U.lst FI,U.int FL,U.lst FJ,U.lst FK]] [(0,9)] (bY a9 i 0 [U.lst (r0.l 0)])]⟩))))) = _
 rw [qQm (show ¬ (i : Int) ≥ ln a9 by show ¬ (i : Int) ≥ (a9.length : Int); omega),FU hi,FU Ji,acy _ (by omega)]
 unfold Ll OB Ra
 cases On (HT a9 i) k a0
 ·show (some ⟨[[.bool false]],[cD [[U.int a0,U.lst a1,U.lst a2,U.lst a3,U.lst a4,U.int a5,U.lst a6,U.lst a7,U.lst a8,U.lst a9,U.int FB,U.lst FA,U.lst a12,U.lst FD,U.lst FE,U.lst FG,U.lst FI,U.int FL,U.lst FJ,U.lst FK]] [(0,9)] (bY a9 i 0 [U.lst (HT a9 i)])]⟩ : O) = _
  rw [Yc h9 Ji]; rfl
 ·show (some ⟨[[.bool true]],[cD [[U.int a0,U.lst a1,U.lst a2,U.lst a3,U.lst a4,U.int a5,U.lst a6,U.lst a7,U.lst a8,U.lst a9,U.int FB,U.lst FA,U.lst a12,U.lst FD,U.lst FE,U.lst FG,U.lst FI,U.int FL,U.lst FJ,U.lst FK]] [(0,9)] (bY a9 i 0 [U.lst (HT a9 i ++ [Qt (HT a9 i) k a0 (ui (a7.getD i []) 0) s p o c (ui (a7.getD i []) 1)])])]⟩ : O) = _
  rw [Yc h9 Ji]; rfl
theorem ac3 (a0 : Int) (a1 a2 a3 a4 : List (List U)) (a5 : Int) (a6 a7 a8 a9 : List (List U)) (FB : Int) (FA a12 FD FE FG FI : List (List U)) (FL : Int) (FJ FK : List (List U)) {i : Int} (hi : ¬ i < ln a9) (k t pt s p o c ep m : Int) :
  Pw.c i k t pt s p o c ep m [[U.int a0,U.lst a1,U.lst a2,U.lst a3,U.lst a4,U.int a5,U.lst a6,U.lst a7,U.lst a8,U.lst a9,U.int FB,U.lst FA,U.lst a12,U.lst FD,U.lst FE,U.lst FG,U.lst FI,U.int FL,U.lst FJ,U.lst FK]] = some ⟨[[.bool false]],[[[U.int a0,U.lst a1,U.lst a2,U.lst a3,U.lst a4,U.int a5,U.lst a6,U.lst a7,U.lst a8,U.lst a9,U.int FB,U.lst FA,U.lst a12,U.lst FD,U.lst FE,U.lst FG,U.lst FI,U.int FL,U.lst FJ,U.lst FK]]]⟩:=by
 rw [Pw.eq]
 show (bif decide (i ≥ ln a9) then _ else _) = _
 rw [qQa (show i ≥ ln a9 by omega)]; rfl
theorem adC {a0 : Int} {a7 a9 : LL} (h7 : WR Fv.ct 167 a7) {i : Nat} (hi : i < a7.length) (h9 : WR Fv.ct 90 a9) (b9 : Fy a9 ≤ 1048576) (Ji : i < a9.length) {k s p o c : Int} (hk : Gr k) (hs : Gr s) (hp : Gr p) (ho : Gr o) (hc : Gr c) :
  WR Fv.ct 90 (UH a9 i (Ll a0 a7 a9 i k s p o c)) ∧ Fy (UH a9 i (Ll a0 a7 a9 i k s p o c)) ≤ 1048577:=by
 obtain ⟨e1,e2,e3⟩:=Yb h9 b9 Ji
 have hl:=FP (HT a9 i)
 have key : WR Fv.ct 96 (Ll a0 a7 a9 i k s p o c) ∧ Fy (Ll a0 a7 a9 i k s p o c) ≤ Fy (HT a9 i) + 1:=by
  unfold Ll
  cases hB : OB a0 a9 i k
  ·exact ⟨e2,Nat.le_succ _⟩
  ·have ha0 : Gr a0:=by
    unfold OB On at hB
    simp only [qQi] at hB
    have:=Gx hB.2.2.1
    omega
   obtain ⟨q0,q1,q2,q3,q4,q5,q6,q7,q8,q9,hr,_⟩:=OY (h7.2 _ (FF hi (z:=[])))
   have HA:=h7.2 _ (FF hi (z:=[]))
   rw [hr] at HA
   have g0 : Gr (ui (a7.getD i []) 0):=by rw [hr]; exact wi (HA.2 0 _ _ rfl rfl)
   have g1 : Gr (ui (a7.getD i []) 1):=by rw [hr]; exact wi (HA.2 1 _ _ rfl rfl)
   have hm:=ach
   refine ⟨WR.app e2 (WR.one ?_) (by show _ + 1 ≤ _; omega),?_⟩
   ·show zx Fv.ct [.int .i64,.int .i64,.int .i64,.int .i64,.int .i64,.int .i64,.int .i64,.int .i64,.int .i64] (Qt (HT a9 i) k a0 (ui (a7.getD i []) 0) s p o c (ui (a7.getD i []) 1))
    refine Hu (HC hk) (Hu (HC ha0) (Hu (HC g0) (Hu (HC hs) (Hu (HC hp) (Hu (HC ho) (Hu (HC hc) (Hu (HC g1) (Hu (HC ?_) UJ))))))))
    have:=hm ([[U.int (NI (HT a9 i))]] ++ [[U.int k],[U.int a0],[U.int (ui (a7.getD i []) 0)],[U.int s],[U.int p],[U.int o],[U.int c],[U.int (ui (a7.getD i []) 1)]])
    omega
   ·show Fy (HT a9 i ++ [Ra a0 a7 a9 i k s p o c]) ≤ _
    rw [Vl]
    simp [Ra,Qt,Fy,FQ,FX]
 have xq:=Vm (r:=[U.lst (Ll a0 a7 a9 i k s p o c)]) Ji
 rw [e1] at xq
 simp only [FQ,FX] at xq
 refine ⟨⟨by show (a9.set i _).length ≤ _; rw [qQl]; exact h9.1,fun x hx=>?_⟩,by show Fy (a9.set i _) ≤ _; omega⟩
 rcases qXt hx with hx | rfl
 ·exact h9.2 x hx
 ·show zx Fv.ct [.aj 96] _
  exact Hu key.1.XZ UJ
end Go.Proofs.YtaghmjcfaplkiaaGreat.Eng
/- half -/
