/- Grants,uses,shares: whom one may act for,a use more,a share less. -/
import Derived.Test.YtaghmjcfaplkiaaGreatPSt2
import Derived.Test.YtaghmjcfaplkiaaGreatPSep
import Derived.Test.YtaghmjcfaplkiaaGreatPB2
namespace Go.Proofs.YtaghmjcfaplkiaaGreat.Eng
open Go.RowKit
set_option linter.unusedVariables false
set_option linter.unusedSimpArgs false
set_option linter.unusedSectionVars false
set_option maxRecDepth 100000
variable [Sm]
theorem aeN (xs ys : LL) (hx : xs.length ≤ 1048576) (hy : ys.length ≤ 1048576) : MC.c xs ys = rB (xs.all fun x=>has ys (v0 x)):=by
 rw [MC.eq]
 refine (Oj (l0:=fun i=>MC.l0 xs ys i) (n:=xs.length) (p:=fun i=>has ys (v0 (xs.getD i []))) (b:=true) ?_ fun i hi=>?_).trans (by rw [qXs]; exact qQq rB (XH xs [] fun x=>has ys (v0 x)))
 ·rw [MC.Fx,FO (qQb _)]; rfl
 ·rw [MC.Fx,FN hi,FU hi,FZ (by omega),XU ys (by omega)]
  show (bif !has ys (v0 (xs.getD i [])) then _ else _) = _
  cases has ys (v0 (xs.getD i [])) <;> rfl
theorem adq (xs ys : LL) (hx : xs.length ≤ 1048576) (hy : ys.length ≤ 1048576) (a b c d e : Int) (f : Bool) : Ul.c xs a b c ys d e f = rB (!(xs.all fun x=>has ys (v0 x))):=by
 have : Mt.c xs a b c ys d e f = rI (pos (fun i=>!has ys (v0 (xs.getD i []))) xs.length 0):=by
  rw [Mt.eq]
  refine La (l0:=fun i=>Mt.l0 xs a b c ys d e f _ i) (n:=xs.length) (p:=fun i=>!has ys (v0 (xs.getD i []))) ?_ fun i hi=>?_
  ·rw [Mt.Fx,FO (qQb _)]; rfl
  ·rw [Mt.Fx,FN hi,FU hi,FZ (by omega),VX.eq,Xb ys (by omega)]; rfl
 rw [Ul.eq,this]
 show rB (decide (pos _ _ _ ≥ 0)) = _
 rw [Ql fun x=>!has ys (v0 x),List.not_all_eq_any_not]
theorem YK {xs : LL} (hg : NQ xs = true) {i : Nat} (hi : i < xs.length) : 0 ≤ ui (xs.getD i []) 5 ∧ ui (xs.getD i []) 5 ≤ (i : Int):=by
 unfold NQ at hg
 rw [qQi,qQp] at hg
 have h:=hg.1 i (qZt.2 hi)
 unfold Qw at h
 simp only [qQi] at h
 exact Gx h.2.2.2.2.2.1
theorem NZ {i : Nat} (h : i ≤ 1048576) : Ft (((i + 1 : Nat) : Int) - 1) = (i : Int):=by
 rw [Jg (by omega) (by omega)]; omega
theorem acd {xs : LL} (hg : NQ xs = true) (hl : xs.length ≤ 1048576) (hs : ∀ x ∈ xs,(ul x 3).length ≤ 1048576) {now : Int} (hn : within now 0 10000 = true) :
  ∀ n i : Nat,i < n → i < xs.length → ∃ b,Qc.c xs ((i + 1 : Nat) : Int) now = rB b ∧ Py.c xs ((i + 1 : Nat) : Int) now = rB b:=by
 intro n
 induction n with
 | zero=>intro i h; omega
 | succ n ih =>
  intro i bH hi
  obtain ⟨h5,h5'⟩:=YK hg hi
  have hw : within ((i + 1 : Nat) : Int) 1 (ln xs) = true:=Yd (by omega) (by show _ ≤ (xs.length : Int); omega)
  have e5 : gi xs (i : Int) 5 = ui (xs.getD i []) 5:=rfl
  rw [Qc.eq,Py.eq,Ij,hw,NZ (by omega),FU hi,NG,hn,e5]
  simp only [NR,Hv,qb,qXa,qQ3]
  cases gb xs (i : Int) 6
  rotate_left
  ·exact ⟨false,rfl,rfl⟩
  cases decide (now > gi xs (i : Int) 4)
  rotate_left
  ·exact ⟨false,rfl,rfl⟩
  simp only [qQ3]
  by_cases h0 : ui (xs.getD i []) 5 = 0
  ·rw [qQa h0]; exact ⟨true,rfl,rfl⟩
  rw [qQm h0]
  obtain ⟨j,hj⟩ : ∃ j : Nat,ui (xs.getD i []) 5 = ((j + 1 : Nat) : Int):=⟨(ui (xs.getD i []) 5).toNat - 1,by omega⟩
  have dg : j < i:=by omega
  obtain ⟨b,gh,aT⟩:=ih j (by omega) (by omega)
  have g1 : gl xs (i : Int) 3 = ul (xs.getD i []) 3:=rfl
  have g2 : gl xs (j : Int) 3 = ul (xs.getD j []) 3:=rfl
  rw [hj,NZ (by omega),FU (by omega : j < xs.length),gh,aT,g1,g2,aeN _ _ (hs _ (FF hi)) (hs _ (FF (by omega : j < xs.length))),adq _ _ (hs _ (FF hi)) (hs _ (FF (by omega : j < xs.length)))]
  simp only [NR,Hv,qb,qQ3]
  cases decide (gi xs (i : Int) 1 = gi xs (j : Int) 2)
  ·exact ⟨false,rfl,by cases b <;> rfl⟩
  generalize (List.all _ _) = u
  cases u <;> cases b <;> first | exact ⟨true,rfl,rfl⟩ | exact ⟨false,rfl,rfl⟩
theorem ace {xs : LL} (hl : xs.length ≤ 1048576) (hs : ∀ x ∈ xs,(ul x 3).length ≤ 1048576) (id now : Int) : ∃ b,Uu.c xs id now = rB b ∧ Sy.c xs id now = rB b ∧ (b = true → NQ xs = true ∧ within id 1 (ln xs) = true):=by
 rw [Uu.eq,Sy.eq,QM.eq,aaj xs hl hs,Za xs hl hs,NN,HQ]
 simp only [NR,qb]
 cases hg : NQ xs
 ·exact ⟨false,rfl,rfl,fun h=>by cases h⟩
 cases hw : within id 1 (ln xs)
 ·refine ⟨false,?_,rfl,fun h=>by cases h⟩
  rw [Qc.eq,Ij,hw]
  cases within now 0 10000 <;> rfl
 obtain ⟨w1,w2⟩:=Gx hw
 have w2 : id ≤ (xs.length : Int):=w2
 obtain ⟨i,rfl⟩ : ∃ i : Nat,id = ((i + 1 : Nat) : Int):=⟨id.toNat - 1,by omega⟩
 have hi : i < xs.length:=by omega
 cases hn : within now 0 10000
 ·refine ⟨false,rfl,?_,fun h=>by cases h⟩
  rw [Py.eq,NZ (by omega),FU hi,NG,hn]
  simp only [NR,Hv,qb,qQh]
  cases gb xs (i : Int) 6 <;> rfl
 ·obtain ⟨b,gh,aT⟩:=acd hg hl hs hn (i + 1) i (by omega) hi
  rw [gh,aT]
  exact ⟨b,by cases b <;> rfl,by cases b <;> rfl,fun _=>⟨rfl,rfl⟩⟩
theorem abi {xs : LL} (hg : NQ xs = true) (hl : xs.length ≤ 1048576) :
  ∀ n i : Nat,i < n → i < xs.length → ∀ acc : LL,acc.length + i ≤ 1048576 → ∃ (ls : LL) (j : Nat),j < xs.length ∧ MU.l0 xs ((i + 1 : Nat) : Int) acc = rL (ls ++ [[U.int ((j + 1 : Nat) : Int)]]) ∧ MN.l0 xs ((i + 1 : Nat) : Int) acc = rL (ls ++ [[U.int ((j + 1 : Nat) : Int)]]) ∧ ls.length ≤ 1048576:=by
 intro n
 induction n with
 | zero=>intro i h; omega
 | succ n ih =>
  intro i bH hi acc ha
  obtain ⟨h5,h5'⟩:=YK hg hi
  have e5 : gi xs (i : Int) 5 = ui (xs.getD i []) 5:=rfl
  have hr : room (acc.length + [[U.int ((i + 1 : Nat) : Int)]].length) 8 = true:=FV (by show (_ + 1) * 8 ≤ _; omega) (by show _ + 1 ≤ _; omega)
  rw [MU.Fx,MN.Fx,NZ (by omega),FU hi,e5,hr,qQa (show ((i + 1 : Nat) : Int) > 0 by omega),qQm (show ¬ ((i + 1 : Nat) : Int) = 0 by omega)]
  simp only [qQh,Bool.not_false,Hv]
  by_cases h0 : ui (xs.getD i []) 5 = 0
  ·rw [h0,MU.Fx,MN.Fx,qQm (show ¬ (0 : Int) > 0 by omega),qQa (show (0 : Int) = 0 from rfl)]
   exact ⟨acc,i,hi,rfl,rfl,by omega⟩
  ·obtain ⟨j,hj⟩ : ∃ j : Nat,ui (xs.getD i []) 5 = ((j + 1 : Nat) : Int):=⟨(ui (xs.getD i []) 5).toNat - 1,by omega⟩
   rw [hj]
   exact ih j (by omega) (by omega) _ (by rw [qQ6]; show acc.length + 1 + j ≤ _; omega)
theorem adR {xs : LL} (hg : NQ xs = true) (hw : WR Fv.ct 185 xs) (hl : xs.length ≤ 1048576) (hs : ∀ x ∈ xs,(ul x 3).length ≤ 1048576) {i : Nat} (hi : i < xs.length) : ∃ r,UC.c xs ((i + 1 : Nat) : Int) = rI r ∧ SI.c xs ((i + 1 : Nat) : Int) = rI r ∧ Gr r:=by
 obtain ⟨ls,j,hj,h1,h2,h3⟩:=abi hg hl (i + 1) i (by omega) hi [] (by show 0 + i ≤ _; omega)
 have hw1 : within ((i + 1 : Nat) : Int) 1 (ln xs) = true:=Yd (by omega) (by show _ ≤ (xs.length : Int); omega)
 rw [UC.eq,SI.eq,MU.eq,MN.eq,QM.eq,aaj xs hl hs,Za xs hl hs,Ij,HQ,hw1,hg]
 simp only [NR,qb,qXa,qQ3,qQh,h1,h2]
 have hq : ∀ f : aJ → O,(rL (ls ++ [[U.int ((j + 1 : Nat) : Int)]])).bind f = f ⟨[[.lst (ls ++ [[U.int ((j + 1 : Nat) : Int)]])]],[]⟩:=fun _=>rfl
 have hlen : ln (ls ++ [[U.int ((j + 1 : Nat) : Int)]]) = ((ls.length + 1 : Nat) : Int):=by unfold ln; rw [qQ6]; rfl
 have YO : gi (ls ++ [[U.int ((j + 1 : Nat) : Int)]]) (ls.length : Int) 0 = ((j + 1 : Nat) : Int):=by
  show ui ((ls ++ [[U.int ((j + 1 : Nat) : Int)]]).getD ls.length []) 0 = _
  rw [aca]; rfl
 refine ⟨gi xs (j : Int) 1,?_,?_,?_⟩
 ·rw [hq,ql,hlen,qQm (show ¬ ((ls.length + 1 : Nat) : Int) = 0 by omega),NZ h3,FU (by simp),YO,NZ (by omega),FU hj]; rfl
 ·rw [hq,ql,hlen,qQm (show ¬ ((ls.length + 1 : Nat) : Int) = 0 by omega),NZ h3,FU (by simp),YO,NZ (by omega),FU hj]; rfl
 ·have HA:=hw.2 _ (FF hj (z:=[]))
  obtain ⟨c0,c1,c2,c3,c4,c5,c6,hr,_⟩:=PK HA
  show Gr (ui (xs.getD j []) 1)
  rw [hr] at HA ⊢
  exact wi (HA.2 1 _ _ rfl rfl)
theorem adG {xs : LL} (hw : WR Fv.ct 185 xs) (hc : Fy xs ≤ 1048576) (i0 i1 i2 now : Int) : ∃ r,Qa.c xs i0 i1 i2 now = rI r ∧ Pt.c xs i0 i1 i2 now = rI r ∧ Gr r:=by
 have hl:=FP xs
 have hs : ∀ x ∈ xs,(ul x 3).length ≤ 1048576:=fun x hx=>by
  have h1:=Gc hx
  obtain ⟨c0,c1,c2,c3,c4,c5,c6,hr,_⟩:=PK (hw.2 _ hx)
  rw [hr] at h1 ⊢
  have h2:=FP c3
  simp only [FQ,FX] at h1
  show c3.length ≤ _
  omega
 have z : Gr 0:=by unfold Gr; omega
 obtain ⟨b,h1,h2,h3⟩:=ace (by omega) hs i0 now
 rw [Qa.eq,Pt.eq,h1,h2]
 simp only [NR,qb]
 cases b
 ·exact ⟨0,rfl,rfl,z⟩
 obtain ⟨hg,hwi⟩:=h3 rfl
 obtain ⟨w1,w2⟩:=Gx hwi
 have w2 : i0 ≤ (xs.length : Int):=w2
 obtain ⟨i,rfl⟩ : ∃ i : Nat,i0 = ((i + 1 : Nat) : Int):=⟨i0.toNat - 1,by omega⟩
 have hi : i < xs.length:=by omega
 obtain ⟨r,r1,r2,r3⟩:=adR hg hw (by omega) hs hi
 have hgl : gl xs (i : Int) 3 = ul (xs.getD i []) 3:=rfl
 have AI:=hs _ (FF hi (z:=[]))
 rw [NZ (by omega),FU hi,hgl,XU _ (by omega),Xb _ (by omega),r1,r2]
 simp only [NR,qb,Hv]
 cases decide (gi xs (i : Int) 2 = i1)
 ·exact ⟨0,rfl,rfl,z⟩
 cases has (ul (xs.getD i []) 3) i2
 ·exact ⟨0,rfl,rfl,z⟩
 ·exact ⟨r,rfl,rfl,r3⟩
/-! ### A use more -/
theorem aaN (l : LL) (a b o : Int) : apart l a b o = apart l b a o:=by
 unfold apart
 congr 1
 funext x
 rw [Bool.or_comm]
theorem aeu (l us : LL) (hl : l.length ≤ 1048576) (hu : us.length ≤ 1048576) (i0 i1 i2 : Int) : Lo.c l us i0 i1 i2 = rB (!(us.any fun x=>LR l [U.int i0,U.int i1,U.int i2] x)):=by
 rw [Lo.eq]
 refine (Ym (l0:=fun i=>Lo.l0 l us i0 i1 i2 i) (n:=us.length) (p:=fun i=>LR l [U.int i0,U.int i1,U.int i2] (us.getD i [])) (R:=rB true) (F:=rB false) ?_ fun i hi=>?_).trans ?_
 ·rw [Lo.Fx,FO (qQb _)]; rfl
 ·rw [Lo.Fx,FN hi,FU hi,FZ (by omega),ad0 _ hl,aaN]
  simp only [NR,qb,Hv,qQh]
  unfold LR
  show (bif decide (v0 (us.getD i []) = i0) then (bif decide (ui (us.getD i []) 2 = i2) then (bif apart l i1 (ui (us.getD i []) 1) i2 then rB false else _) else _) else _) = bif (decide (i0 = v0 (us.getD i [])) && (decide (i2 = ui (us.getD i []) 2) && apart l i1 (ui (us.getD i []) 1) i2)) then rB false else _
  rw [show decide (i0 = v0 (us.getD i [])) = decide (v0 (us.getD i []) = i0) by simp only [eq_comm],show decide (i2 = ui (us.getD i []) 2) = decide (ui (us.getD i []) 2 = i2) by simp only [eq_comm]]
  cases decide (v0 (us.getD i []) = i0) <;> cases decide (ui (us.getD i []) 2 = i2) <;> cases apart l i1 (ui (us.getD i []) 1) i2 <;> rfl
 ·rw [Ri us [] fun x=>LR l [U.int i0,U.int i1,U.int i2] x]
  cases us.any _ <;> rfl
theorem ac7 (l us : LL) (hl : l.length ≤ 1048576) (hu : us.length ≤ 1048576) (i0 i1 i2 : Int) : QG.c l us i0 i1 i2 = rB (!(us.any fun x=>LR l [U.int i0,U.int i1,U.int i2] x)):=ac6 l us hl hu [U.int i0,U.int i1,U.int i2]
def Pe (i0 i1 i2 i3 : Int) : Bool:=Hw i0 1 && (Hw i2 4 && (within i1 0 5 && within i3 0 10000))
theorem aen (i0 i1 i2 i3 : Int) : Uw.c i0 i1 i2 i3 = rB (Pe i0 i1 i2 i3):=by
 rw [Uw.eq,PQ,PQ,Ij,NN]
 unfold Pe
 cases Hw i0 1 <;> cases Hw i2 4 <;> cases within i1 0 5 <;> cases within i3 0 10000 <;> rfl
theorem acX (i0 i1 i2 i3 : Int) : SA.c i0 i1 i2 i3 = rB (Pe i0 i1 i2 i3):=by
 rw [SA.eq,Pm,Pm,HQ,NG]
 unfold Pe
 cases Hw i0 1 <;> cases Hw i2 4 <;> cases within i1 0 5 <;> cases within i3 0 10000 <;> rfl
def MJ (l us : LL) (i0 i1 i2 i3 : Int) : Bool:=Pe i0 i1 i2 i3 && (!(us.any fun x=>LR l [U.int i0,U.int i1,U.int i2] x) && !decide (ln us ≥ 40))
def Oh (l us : LL) (i0 i1 i2 i3 : Int) : LL:=bif MJ l us i0 i1 i2 i3 then us ++ [[U.int i0,U.int i1,U.int i2,U.int i3]] else us
theorem adY (l us : LL) (hl : l.length ≤ 1048576) (hu : us.length ≤ 1048576) (i0 i1 i2 i3 : Int) : OZ.c l us i0 i1 i2 i3 = some ⟨[[.lst (Oh l us i0 i1 i2 i3)],[.bool (MJ l us i0 i1 i2 i3)]],[]⟩:=by
 rw [OZ.eq,aen,aeu _ _ hl hu,FV (by omega) (by omega),FV (by show (_ + 1) * _ ≤ _; omega) (by show _ + 1 ≤ _; omega)]
 unfold Oh MJ
 cases Pe i0 i1 i2 i3
 ·rfl
 cases us.any fun x=>LR l [U.int i0,U.int i1,U.int i2] x
 ·cases decide (ln us ≥ 40) <;> rfl
 ·rfl
theorem acw (l us : LL) (hl : l.length ≤ 1048576) (hu : us.length ≤ 1048576) (i0 i1 i2 i3 : Int) : Ot.c l us i0 i1 i2 i3 = some ⟨[[.lst (Oh l us i0 i1 i2 i3)],[.bool (MJ l us i0 i1 i2 i3)]],[]⟩:=by
 rw [Ot.eq,acX,ac7 _ _ hl hu,FV (by omega) (by omega),FV (by show (_ + 1) * _ ≤ _; omega) (by show _ + 1 ≤ _; omega)]
 unfold Oh MJ
 cases Pe i0 i1 i2 i3
 ·rfl
 cases us.any fun x=>LR l [U.int i0,U.int i1,U.int i2] x
 ·cases decide (ln us ≥ 40) <;> rfl
 ·rfl
theorem aaK {l us : LL} (hw : WR Fv.ct 192 us) (hc : Fy us ≤ 1048576) {i0 i1 i2 i3 : Int} (h0 : Gr i0) (h1 : Gr i1) (h2 : Gr i2) (h3 : Gr i3) : WR Fv.ct 192 (Oh l us i0 i1 i2 i3) ∧ Fy (Oh l us i0 i1 i2 i3) ≤ 1048577:=by
 have hl:=FP us
 unfold Oh
 cases MJ l us i0 i1 i2 i3
 ·exact ⟨hw,by show Fy us ≤ _; omega⟩
 ·refine ⟨hw.app (WR.one (e:=192) (Hu (HC h0) (Hu (HC h1) (Hu (HC h2) (Hu (HC h3) UJ))))) (by show _ + 1 ≤ _; omega),?_⟩
  show Fy (us ++ [[U.int i0,U.int i1,U.int i2,U.int i3]]) ≤ _
  rw [Vl]
  simp [Fy,FQ,FX]
  omega
/-! ### A share less -/
theorem aeI (xs : LL) (hx : xs.length ≤ 1048576) (v : Int) : MD.c xs v = rI (Gb xs fun x=>decide (v0 x = v)):=by
 rw [MD.eq]
 refine La (l0:=fun i=>MD.l0 xs v i) (n:=xs.length) (p:=fun i=>decide (v0 (xs.getD i []) = v)) ?_ fun i hi=>?_
 ·rw [MD.Fx,FO (qQb _)]; rfl
 ·rw [MD.Fx,FN hi,FU hi,FZ (by omega)]; rfl
theorem adl (xs : LL) (hx : xs.length ≤ 1048576) (v : Int) : SM.c xs v = rI (Gb xs fun x=>decide (v0 x = v)):=by
 have : Mu.c xs v = rI (Gb xs fun x=>decide (v0 x = v)):=by
  rw [Mu.eq]
  refine La (l0:=fun i=>Mu.l0 xs v _ i) (n:=xs.length) (p:=fun i=>decide (v0 (xs.getD i []) = v)) ?_ fun i hi=>?_
  ·rw [Mu.Fx,FO (qQb _)]; rfl
  ·rw [Mu.Fx,FN hi,FU hi,FZ (by omega),VY.eq]; rfl
 rw [SM.eq,this]; rfl
def MV (xs : LL) (v k : Int) : Bool:=Wz xs && (!decide (k < 0) && (!decide (Gb xs (fun x=>decide (v0 x = v)) < 0) && !decide (gi xs (Gb xs fun x=>decide (v0 x = v)) 1 < k)))
def Pd (xs : LL) (v k : Int) : LL:=bif MV xs v k then bY xs (Gb xs fun x=>decide (v0 x = v)).toNat 1 [U.int (Ft (gi xs (Gb xs fun x=>decide (v0 x = v)) 1 - k))] else xs
theorem aeL (xs : LL) (hx : xs.length ≤ 1048576) (v k : Int) : Pa.c xs v k = some ⟨[[.lst (Pd xs v k)],[.bool (MV xs v k)]],[]⟩:=by
 rw [Pa.eq,aeI xs hx,aeJ xs hx,FV (by omega) (by omega)]
 unfold Pd MV Wz
 generalize (ordered Nv Jf xs && (decide (ln xs ≤ 6) && decide (NC xs ≤ 100))) = b
 cases b
 ·rfl
 cases decide (k < 0)
 ·rcases NK xs (fun x=>decide (v0 x = v)) with ⟨hj,_⟩ | ⟨j,hj,fH,_⟩
  ·rw [hj]; rfl
  ·rw [hj]
   refine Eq.trans (b:=bif decide ((j : Int) < 0) then (some ⟨[[.lst xs],[.bool false]],[]⟩) else EK (dE (j : Int) xs.length) (bif decide (gi xs (j : Int) 1 < k) then (some ⟨[[.lst xs],[.bool false]],[]⟩) else EK (dE (j : Int) xs.length) (EK (dE (j : Int) xs.length) (some ⟨[[.lst (bY xs j 1 [U.int (Ft (gi xs (j : Int) 1 - k))])],[.bool true]],[]⟩)))) (by kernel_rfl) ?_
   rw [Ho (by omega),FU fH]
   cases decide (gi xs (j : Int) 1 < k) <;> kernel_rfl
 ·rfl
theorem ado (xs : LL) (hx : xs.length ≤ 1048576) (v k : Int) : Ow.c xs v k = some ⟨[[.lst (Pd xs v k)],[.bool (MV xs v k)]],[]⟩:=by
 rw [Ow.eq,adl xs hx,adm xs hx,FV (by omega) (by omega)]
 unfold Pd MV Wz
 generalize (ordered Nv Jf xs && (decide (ln xs ≤ 6) && decide (NC xs ≤ 100))) = b
 cases b
 ·rfl
 cases decide (k < 0)
 ·rcases NK xs (fun x=>decide (v0 x = v)) with ⟨hj,_⟩ | ⟨j,hj,fH,_⟩
  ·rw [hj]; rfl
  ·rw [hj]
   refine Eq.trans (b:=bif decide ((j : Int) < 0) then (some ⟨[[.lst xs],[.bool false]],[]⟩) else EK (dE (j : Int) xs.length) (bif decide (gi xs (j : Int) 1 < k) then (some ⟨[[.lst xs],[.bool false]],[]⟩) else EK (dE (j : Int) xs.length) (EK (dE (j : Int) xs.length) (some ⟨[[.lst (bY xs j 1 [U.int (Ft (gi xs (j : Int) 1 - k))])],[.bool true]],[]⟩)))) (by kernel_rfl) ?_
   rw [Ho (by omega),FU fH]
   cases decide (gi xs (j : Int) 1 < k) <;> kernel_rfl
 ·rfl
theorem afo {xs : LL} (hw : WR Fv.ct 182 xs) (hc : Fy xs ≤ 1048576) (v k : Int) : WR Fv.ct 182 (Pd xs v k) ∧ Fy (Pd xs v k) ≤ 1048577:=by
 unfold Pd
 cases hb : MV xs v k
 ·exact ⟨hw,by show Fy xs ≤ _; omega⟩
 ·unfold MV at hb
  simp only [qQi] at hb
  rcases NK xs (fun x=>decide (v0 x = v)) with ⟨hj,_⟩ | ⟨j,hj,fH,_⟩
  ·rw [hj] at hb; exact absurd hb.2.2.1 (by decide)
  ·rw [hj]
   show WR Fv.ct 182 (bY xs j 1 [U.int (Ft (gi xs (j : Int) 1 - k))]) ∧ Fy (bY xs j 1 [U.int (Ft (gi xs (j : Int) 1 - k))]) ≤ 1048577
   have HA:=hw.2 _ (FF fH (z:=[]))
   obtain ⟨c0,c1,hr⟩:=Wl HA
   have e : bY xs j 1 [U.int (Ft (gi xs (j : Int) 1 - k))] = xs.set j [U.int c0,U.int (Ft (gi xs (j : Int) 1 - k))]:=by rw [Gp,hr]; rfl
   have xq:=Vm (r:=[U.int c0,U.int (Ft (gi xs (j : Int) 1 - k))]) fH
   have sR : gi xs (j : Int) 1 = c1:=by show ui (xs.getD j []) 1 = _; rw [hr]; rfl
   rw [hr] at xq HA
   have sG : Gr c1:=wi (HA.2 1 _ _ rfl rfl)
   have lA : ¬ k < 0:=by simpa using hb.2.1
   have hk1 : ¬ c1 < k:=by
    have:=hb.2.2.2
    rw [hj,sR] at this
    simpa using this
   have hwk : Gr (Ft (gi xs (j : Int) 1 - k)):=by rw [sR,Jg (by omega) (by omega)]; unfold Gr; omega
   simp only [FQ,FX] at xq
   rw [e]
   refine ⟨⟨by rw [qQl]; exact hw.1,fun x hx=>?_⟩,by omega⟩
   rcases qXt hx with hx | rfl
   ·exact hw.2 x hx
   ·exact HA.set (i:=1) (ct:=.int .i64) rfl (HC hwk)
end Go.Proofs.YtaghmjcfaplkiaaGreat.Eng
/- half -/
