/- What the laws' helpers do,written by a program of ours (wip/bin/har2.py) for this claim. -/
import Derived.Test.YtaghmjcfaplkiaaGreatPM
import Derived.Test.YtaghmjcfaplkiaaGreatBase
import Derived.Test.YtaghmjcfaplkiaaGreatFAll
namespace Go.Proofs.YtaghmjcfaplkiaaGreat.Eng
open Go.RowKit
set_option linter.unusedVariables false
set_option linter.unusedSimpArgs false
set_option maxRecDepth 100000
set_option linter.unusedSectionVars false
variable [Sm]
theorem SB : (∀ {α β : Type} (a : α) (f : α → Option β),(some a).bind f = f a) ∧ (∀ (r : List (List U)) (m : List (List (List U))) (j i : Nat),(aJ.mk r m).u j i = (r.getD j []).getD i U0) ∧ (∀ (r : List (List U)) (m : List (List (List U))) (j : Nat),(aJ.mk r m).m j = m.getD j []) ∧ (∀ {α : Type} (a : α) (l : List α) (d : α),(a :: l).getD 0 d = a) ∧ (∀ {α : Type} (a : α) (l : List α) (n : Nat) (d : α),(a :: l).getD (n + 1) d = l.getD n d) ∧ (∀ n,(U.int n).toInt = n) ∧ (∀ b,(U.bool b).toBool = b) ∧ (∀ s,(U.str s).toStr = s) ∧ (∀ l,(U.lst l).bB = l) ∧ (∀ {α : Type} (a b : α),(bif true then a else b) = a) ∧ (∀ {α : Type} (a b : α),(bif false then a else b) = b):=⟨fun _ _=>rfl,fun _ _ _ _=>rfl,fun _ _ _=>rfl,fun _ _ _=>rfl,fun _ _ _ _=>rfl,fun _=>rfl,fun _=>rfl,fun _=>rfl,fun _=>rfl,fun _ _=>rfl,fun _ _=>rfl⟩
theorem zx.cI {T : bl} {k : IntKind} {ab : List CT} {x : List U} (h : zx T (.int k :: ab) x) : ∃ c y,x = .int c :: y ∧ zx T ab y:=by
 obtain ⟨u,y,rfl,k,g⟩:=h.cons
 obtain ⟨c,rfl,_⟩:=k.nY
 exact ⟨c,y,rfl,g⟩
theorem zx.cB {T : bl} {ab : List CT} {x : List U} (h : zx T (.bool :: ab) x) : ∃ c y,x = .bool c :: y ∧ zx T ab y:=by
 obtain ⟨u,y,rfl,k,g⟩:=h.cons
 obtain ⟨c,rfl⟩:=k.pf
 exact ⟨c,y,rfl,g⟩
theorem zx.cS {T : bl} {e : TypeId} {ab : List CT} {x : List U} (h : zx T (.aj e :: ab) x) : ∃ c y,x = .lst c :: y ∧ WR T e c ∧ zx T ab y:=by
 obtain ⟨u,y,rfl,k,g⟩:=h.cons
 obtain ⟨c,rfl,w⟩:=k.qR
 exact ⟨c,y,rfl,w,g⟩
theorem Uf {x : List U} (h : zx Fv.ct (Fv.ct 3) x) : ∃ (c0 : Int),x = [.int c0]:=by
 obtain ⟨c0,x,rfl,h0⟩:=h.cI
 obtain rfl:=h0.nil
 exact ⟨c0,rfl⟩
theorem Ug {x : List U} (h : zx Fv.ct (Fv.ct 4) x) : ∃ (c0 : Bool),x = [.bool c0]:=by
 obtain ⟨c0,x,rfl,h0⟩:=h.cB
 obtain rfl:=h0.nil
 exact ⟨c0,rfl⟩
theorem adS {x : List U} (h : zx Fv.ct (Fv.ct 42) x) : ∃ (c0 : Int) (c1 c2 c3 c4 : LL) (c5 : Int) (c6 c7 c8 c9 : LL) (KY : Int) (Gn Gq Gy Gz GL GN : LL) (Ki : Int) (GS : LL) (Hm : List (List U)),x = [.int c0,.lst c1,.lst c2,.lst c3,.lst c4,.int c5,.lst c6,.lst c7,.lst c8,.lst c9,.int KY,.lst Gn,.lst Gq,.lst Gy,.lst Gz,.lst GL,.lst GN,.int Ki,.lst GS,.lst Hm] ∧ WR Fv.ct 238 c1 ∧ WR Fv.ct 146 c2 ∧ WR Fv.ct 258 c3 ∧ WR Fv.ct 262 c4 ∧ WR Fv.ct 264 c6 ∧ WR Fv.ct 149 c7 ∧ WR Fv.ct 4 c8 ∧ WR Fv.ct 151 c9 ∧ WR Fv.ct 184 Gn ∧ WR Fv.ct 154 Gq ∧ WR Fv.ct 190 Gy ∧ WR Fv.ct 194 Gz ∧ WR Fv.ct 3 GL ∧ WR Fv.ct 3 GN ∧ WR Fv.ct 157 GS ∧ WR Fv.ct 201 Hm:=by
 obtain ⟨c0,x,rfl,h0⟩:=h.cI
 obtain ⟨c1,x,rfl,w1,h1⟩:=h0.cS
 obtain ⟨c2,x,rfl,w2,h2⟩:=h1.cS
 obtain ⟨c3,x,rfl,w3,h3⟩:=h2.cS
 obtain ⟨c4,x,rfl,w4,h4⟩:=h3.cS
 obtain ⟨c5,x,rfl,h5⟩:=h4.cI
 obtain ⟨c6,x,rfl,w6,h6⟩:=h5.cS
 obtain ⟨c7,x,rfl,w7,h7⟩:=h6.cS
 obtain ⟨c8,x,rfl,w8,h8⟩:=h7.cS
 obtain ⟨c9,x,rfl,w9,h9⟩:=h8.cS
 obtain ⟨KY,x,rfl,dM⟩:=h9.cI
 obtain ⟨Gn,x,rfl,w11,lf⟩:=dM.cS
 obtain ⟨Gq,x,rfl,w12,Pj⟩:=lf.cS
 obtain ⟨Gy,x,rfl,w13,Lb⟩:=Pj.cS
 obtain ⟨Gz,x,rfl,w14,Lc⟩:=Lb.cS
 obtain ⟨GL,x,rfl,w15,h15⟩:=Lc.cS
 obtain ⟨GN,x,rfl,w16,h16⟩:=h15.cS
 obtain ⟨Ki,x,rfl,h17⟩:=h16.cI
 obtain ⟨GS,x,rfl,w18,RY⟩:=h17.cS
 obtain ⟨Hm,x,rfl,w19,h19⟩:=RY.cS
 obtain rfl:=h19.nil
 exact ⟨c0,c1,c2,c3,c4,c5,c6,c7,c8,c9,KY,Gn,Gq,Gy,Gz,GL,GN,Ki,GS,Hm,rfl,w1,w2,w3,w4,w6,w7,w8,w9,w11,w12,w13,w14,w15,w16,w18,w19⟩
theorem adT {x : List U} (h : zx Fv.ct (Fv.ct 69) x) : ∃ (c0 c1 c2 c3 c4 c5 : Int),x = [.int c0,.int c1,.int c2,.int c3,.int c4,.int c5]:=by
 obtain ⟨c0,x,rfl,h0⟩:=h.cI
 obtain ⟨c1,x,rfl,h1⟩:=h0.cI
 obtain ⟨c2,x,rfl,h2⟩:=h1.cI
 obtain ⟨c3,x,rfl,h3⟩:=h2.cI
 obtain ⟨c4,x,rfl,h4⟩:=h3.cI
 obtain ⟨c5,x,rfl,h5⟩:=h4.cI
 obtain rfl:=h5.nil
 exact ⟨c0,c1,c2,c3,c4,c5,rfl⟩
theorem Rl {x : List U} (h : zx Fv.ct (Fv.ct 90) x) : ∃ (c0 : List (List U)),x = [.lst c0] ∧ WR Fv.ct 96 c0:=by
 obtain ⟨c0,x,rfl,w0,h0⟩:=h.cS
 obtain rfl:=h0.nil
 exact ⟨c0,rfl,w0⟩
theorem Ui {x : List U} (h : zx Fv.ct (Fv.ct 94) x) : ∃ (c0 c1 c2 c3 : Int) (c4 : LL) (c5 : Bool),x = [.int c0,.int c1,.int c2,.int c3,.lst c4,.bool c5] ∧ WR Fv.ct 3 c4:=by
 obtain ⟨c0,x,rfl,h0⟩:=h.cI
 obtain ⟨c1,x,rfl,h1⟩:=h0.cI
 obtain ⟨c2,x,rfl,h2⟩:=h1.cI
 obtain ⟨c3,x,rfl,h3⟩:=h2.cI
 obtain ⟨c4,x,rfl,w4,h4⟩:=h3.cS
 obtain ⟨c5,x,rfl,h5⟩:=h4.cB
 obtain rfl:=h5.nil
 exact ⟨c0,c1,c2,c3,c4,c5,rfl,w4⟩
theorem XQ {x : List U} (h : zx Fv.ct (Fv.ct 96) x) : ∃ (c0 c1 c2 c3 c4 c5 c6 c7 c8 : Int),x = [.int c0,.int c1,.int c2,.int c3,.int c4,.int c5,.int c6,.int c7,.int c8]:=by
 obtain ⟨c0,x,rfl,h0⟩:=h.cI
 obtain ⟨c1,x,rfl,h1⟩:=h0.cI
 obtain ⟨c2,x,rfl,h2⟩:=h1.cI
 obtain ⟨c3,x,rfl,h3⟩:=h2.cI
 obtain ⟨c4,x,rfl,h4⟩:=h3.cI
 obtain ⟨c5,x,rfl,h5⟩:=h4.cI
 obtain ⟨c6,x,rfl,h6⟩:=h5.cI
 obtain ⟨c7,x,rfl,h7⟩:=h6.cI
 obtain ⟨c8,x,rfl,h8⟩:=h7.cI
 obtain rfl:=h8.nil
 exact ⟨c0,c1,c2,c3,c4,c5,c6,c7,c8,rfl⟩
theorem ZJ {x : List U} (h : zx Fv.ct (Fv.ct 146) x) : ∃ (c0 c1 : Int) (c2 : LL) (c3 : Int) (c4 : List (List U)),x = [.int c0,.int c1,.lst c2,.int c3,.lst c4] ∧ WR Fv.ct 330 c2 ∧ WR Fv.ct 350 c4:=by
 obtain ⟨c0,x,rfl,h0⟩:=h.cI
 obtain ⟨c1,x,rfl,h1⟩:=h0.cI
 obtain ⟨c2,x,rfl,w2,h2⟩:=h1.cS
 obtain ⟨c3,x,rfl,h3⟩:=h2.cI
 obtain ⟨c4,x,rfl,w4,h4⟩:=h3.cS
 obtain rfl:=h4.nil
 exact ⟨c0,c1,c2,c3,c4,rfl,w2,w4⟩
theorem ZK {x : List U} (h : zx Fv.ct (Fv.ct 149) x) : ∃ (c0 c1 c2 : Int) (c3 : LL) (c4 : Int) (c5 c6 c7 : LL) (c8 : Int) (c9 : List (List U)),x = [.int c0,.int c1,.int c2,.lst c3,.int c4,.lst c5,.lst c6,.lst c7,.int c8,.lst c9] ∧ WR Fv.ct 330 c3 ∧ WR Fv.ct 350 c5 ∧ WR Fv.ct 258 c6 ∧ WR Fv.ct 262 c7 ∧ WR Fv.ct 305 c9:=by
 obtain ⟨c0,x,rfl,h0⟩:=h.cI
 obtain ⟨c1,x,rfl,h1⟩:=h0.cI
 obtain ⟨c2,x,rfl,h2⟩:=h1.cI
 obtain ⟨c3,x,rfl,w3,h3⟩:=h2.cS
 obtain ⟨c4,x,rfl,h4⟩:=h3.cI
 obtain ⟨c5,x,rfl,w5,h5⟩:=h4.cS
 obtain ⟨c6,x,rfl,w6,h6⟩:=h5.cS
 obtain ⟨c7,x,rfl,w7,h7⟩:=h6.cS
 obtain ⟨c8,x,rfl,h8⟩:=h7.cI
 obtain ⟨c9,x,rfl,w9,h9⟩:=h8.cS
 obtain rfl:=h9.nil
 exact ⟨c0,c1,c2,c3,c4,c5,c6,c7,c8,c9,rfl,w3,w5,w6,w7,w9⟩
theorem ZL {x : List U} (h : zx Fv.ct (Fv.ct 151) x) : ∃ (c0 : List (List U)),x = [.lst c0] ∧ WR Fv.ct 267 c0:=by
 obtain ⟨c0,x,rfl,w0,h0⟩:=h.cS
 obtain rfl:=h0.nil
 exact ⟨c0,rfl,w0⟩
theorem ZM {x : List U} (h : zx Fv.ct (Fv.ct 154) x) : ∃ (c0 c1 c2 : Int) (c3 : LL) (c4 c5 : Int) (c6 : Bool),x = [.int c0,.int c1,.int c2,.lst c3,.int c4,.int c5,.bool c6] ∧ WR Fv.ct 3 c3:=by
 obtain ⟨c0,x,rfl,h0⟩:=h.cI
 obtain ⟨c1,x,rfl,h1⟩:=h0.cI
 obtain ⟨c2,x,rfl,h2⟩:=h1.cI
 obtain ⟨c3,x,rfl,w3,h3⟩:=h2.cS
 obtain ⟨c4,x,rfl,h4⟩:=h3.cI
 obtain ⟨c5,x,rfl,h5⟩:=h4.cI
 obtain ⟨c6,x,rfl,h6⟩:=h5.cB
 obtain rfl:=h6.nil
 exact ⟨c0,c1,c2,c3,c4,c5,c6,rfl,w3⟩
theorem ZN {x : List U} (h : zx Fv.ct (Fv.ct 157) x) : ∃ (c0 c1 c2 c3 : Int) (c4 : LL) (c5 : Bool),x = [.int c0,.int c1,.int c2,.int c3,.lst c4,.bool c5] ∧ WR Fv.ct 3 c4:=by
 obtain ⟨c0,x,rfl,h0⟩:=h.cI
 obtain ⟨c1,x,rfl,h1⟩:=h0.cI
 obtain ⟨c2,x,rfl,h2⟩:=h1.cI
 obtain ⟨c3,x,rfl,h3⟩:=h2.cI
 obtain ⟨c4,x,rfl,w4,h4⟩:=h3.cS
 obtain ⟨c5,x,rfl,h5⟩:=h4.cB
 obtain rfl:=h5.nil
 exact ⟨c0,c1,c2,c3,c4,c5,rfl,w4⟩
theorem Ud {x : List U} (h : zx Fv.ct (Fv.ct 164) x) : ∃ (c0 c1 : Int) (c2 : LL) (c3 : Int) (c4 : List (List U)),x = [.int c0,.int c1,.lst c2,.int c3,.lst c4] ∧ WR Fv.ct 278 c2 ∧ WR Fv.ct 283 c4:=by
 obtain ⟨c0,x,rfl,h0⟩:=h.cI
 obtain ⟨c1,x,rfl,h1⟩:=h0.cI
 obtain ⟨c2,x,rfl,w2,h2⟩:=h1.cS
 obtain ⟨c3,x,rfl,h3⟩:=h2.cI
 obtain ⟨c4,x,rfl,w4,h4⟩:=h3.cS
 obtain rfl:=h4.nil
 exact ⟨c0,c1,c2,c3,c4,rfl,w2,w4⟩
theorem OY {x : List U} (h : zx Fv.ct (Fv.ct 167) x) : ∃ (c0 c1 c2 : Int) (c3 : LL) (c4 : Int) (c5 c6 c7 : LL) (c8 : Int) (c9 : List (List U)),x = [.int c0,.int c1,.int c2,.lst c3,.int c4,.lst c5,.lst c6,.lst c7,.int c8,.lst c9] ∧ WR Fv.ct 278 c3 ∧ WR Fv.ct 283 c5 ∧ WR Fv.ct 256 c6 ∧ WR Fv.ct 260 c7 ∧ WR Fv.ct 286 c9:=by
 obtain ⟨c0,x,rfl,h0⟩:=h.cI
 obtain ⟨c1,x,rfl,h1⟩:=h0.cI
 obtain ⟨c2,x,rfl,h2⟩:=h1.cI
 obtain ⟨c3,x,rfl,w3,h3⟩:=h2.cS
 obtain ⟨c4,x,rfl,h4⟩:=h3.cI
 obtain ⟨c5,x,rfl,w5,h5⟩:=h4.cS
 obtain ⟨c6,x,rfl,w6,h6⟩:=h5.cS
 obtain ⟨c7,x,rfl,w7,h7⟩:=h6.cS
 obtain ⟨c8,x,rfl,h8⟩:=h7.cI
 obtain ⟨c9,x,rfl,w9,h9⟩:=h8.cS
 obtain rfl:=h9.nil
 exact ⟨c0,c1,c2,c3,c4,c5,c6,c7,c8,c9,rfl,w3,w5,w6,w7,w9⟩
theorem Wl {x : List U} (h : zx Fv.ct (Fv.ct 182) x) : ∃ (c0 c1 : Int),x = [.int c0,.int c1]:=by
 obtain ⟨c0,x,rfl,h0⟩:=h.cI
 obtain ⟨c1,x,rfl,h1⟩:=h0.cI
 obtain rfl:=h1.nil
 exact ⟨c0,c1,rfl⟩
theorem ZO {x : List U} (h : zx Fv.ct (Fv.ct 184) x) : ∃ (c0 c1 : Int),x = [.int c0,.int c1]:=by
 obtain ⟨c0,x,rfl,h0⟩:=h.cI
 obtain ⟨c1,x,rfl,h1⟩:=h0.cI
 obtain rfl:=h1.nil
 exact ⟨c0,c1,rfl⟩
theorem PK {x : List U} (h : zx Fv.ct (Fv.ct 185) x) : ∃ (c0 c1 c2 : Int) (c3 : LL) (c4 c5 : Int) (c6 : Bool),x = [.int c0,.int c1,.int c2,.lst c3,.int c4,.int c5,.bool c6] ∧ WR Fv.ct 3 c3:=by
 obtain ⟨c0,x,rfl,h0⟩:=h.cI
 obtain ⟨c1,x,rfl,h1⟩:=h0.cI
 obtain ⟨c2,x,rfl,h2⟩:=h1.cI
 obtain ⟨c3,x,rfl,w3,h3⟩:=h2.cS
 obtain ⟨c4,x,rfl,h4⟩:=h3.cI
 obtain ⟨c5,x,rfl,h5⟩:=h4.cI
 obtain ⟨c6,x,rfl,h6⟩:=h5.cB
 obtain rfl:=h6.nil
 exact ⟨c0,c1,c2,c3,c4,c5,c6,rfl,w3⟩
theorem XJ {x : List U} (h : zx Fv.ct (Fv.ct 188) x) : ∃ (c0 c1 c2 : Int),x = [.int c0,.int c1,.int c2]:=by
 obtain ⟨c0,x,rfl,h0⟩:=h.cI
 obtain ⟨c1,x,rfl,h1⟩:=h0.cI
 obtain ⟨c2,x,rfl,h2⟩:=h1.cI
 obtain rfl:=h2.nil
 exact ⟨c0,c1,c2,rfl⟩
theorem ZP {x : List U} (h : zx Fv.ct (Fv.ct 190) x) : ∃ (c0 c1 c2 : Int),x = [.int c0,.int c1,.int c2]:=by
 obtain ⟨c0,x,rfl,h0⟩:=h.cI
 obtain ⟨c1,x,rfl,h1⟩:=h0.cI
 obtain ⟨c2,x,rfl,h2⟩:=h1.cI
 obtain rfl:=h2.nil
 exact ⟨c0,c1,c2,rfl⟩
theorem XK {x : List U} (h : zx Fv.ct (Fv.ct 192) x) : ∃ (c0 c1 c2 c3 : Int),x = [.int c0,.int c1,.int c2,.int c3]:=by
 obtain ⟨c0,x,rfl,h0⟩:=h.cI
 obtain ⟨c1,x,rfl,h1⟩:=h0.cI
 obtain ⟨c2,x,rfl,h2⟩:=h1.cI
 obtain ⟨c3,x,rfl,h3⟩:=h2.cI
 obtain rfl:=h3.nil
 exact ⟨c0,c1,c2,c3,rfl⟩
theorem ZQ {x : List U} (h : zx Fv.ct (Fv.ct 194) x) : ∃ (c0 c1 c2 c3 : Int),x = [.int c0,.int c1,.int c2,.int c3]:=by
 obtain ⟨c0,x,rfl,h0⟩:=h.cI
 obtain ⟨c1,x,rfl,h1⟩:=h0.cI
 obtain ⟨c2,x,rfl,h2⟩:=h1.cI
 obtain ⟨c3,x,rfl,h3⟩:=h2.cI
 obtain rfl:=h3.nil
 exact ⟨c0,c1,c2,c3,rfl⟩
theorem XL {x : List U} (h : zx Fv.ct (Fv.ct 198) x) : ∃ (c0 c1 c2 c3 c4 c5 c6 c7 c8 : Int) (c9 : Bool),x = [.int c0,.int c1,.int c2,.int c3,.int c4,.int c5,.int c6,.int c7,.int c8,.bool c9]:=by
 obtain ⟨c0,x,rfl,h0⟩:=h.cI
 obtain ⟨c1,x,rfl,h1⟩:=h0.cI
 obtain ⟨c2,x,rfl,h2⟩:=h1.cI
 obtain ⟨c3,x,rfl,h3⟩:=h2.cI
 obtain ⟨c4,x,rfl,h4⟩:=h3.cI
 obtain ⟨c5,x,rfl,h5⟩:=h4.cI
 obtain ⟨c6,x,rfl,h6⟩:=h5.cI
 obtain ⟨c7,x,rfl,h7⟩:=h6.cI
 obtain ⟨c8,x,rfl,h8⟩:=h7.cI
 obtain ⟨c9,x,rfl,h9⟩:=h8.cB
 obtain rfl:=h9.nil
 exact ⟨c0,c1,c2,c3,c4,c5,c6,c7,c8,c9,rfl⟩
theorem ZR {x : List U} (h : zx Fv.ct (Fv.ct 201) x) : ∃ (c0 c1 c2 c3 c4 c5 c6 c7 c8 : Int) (c9 : Bool),x = [.int c0,.int c1,.int c2,.int c3,.int c4,.int c5,.int c6,.int c7,.int c8,.bool c9]:=by
 obtain ⟨c0,x,rfl,h0⟩:=h.cI
 obtain ⟨c1,x,rfl,h1⟩:=h0.cI
 obtain ⟨c2,x,rfl,h2⟩:=h1.cI
 obtain ⟨c3,x,rfl,h3⟩:=h2.cI
 obtain ⟨c4,x,rfl,h4⟩:=h3.cI
 obtain ⟨c5,x,rfl,h5⟩:=h4.cI
 obtain ⟨c6,x,rfl,h6⟩:=h5.cI
 obtain ⟨c7,x,rfl,h7⟩:=h6.cI
 obtain ⟨c8,x,rfl,h8⟩:=h7.cI
 obtain ⟨c9,x,rfl,h9⟩:=h8.cB
 obtain rfl:=h9.nil
 exact ⟨c0,c1,c2,c3,c4,c5,c6,c7,c8,c9,rfl⟩
theorem XM {x : List U} (h : zx Fv.ct (Fv.ct 230) x) : ∃ (c0 c1 c2 c3 c4 c5 : Int),x = [.int c0,.int c1,.int c2,.int c3,.int c4,.int c5]:=by
 obtain ⟨c0,x,rfl,h0⟩:=h.cI
 obtain ⟨c1,x,rfl,h1⟩:=h0.cI
 obtain ⟨c2,x,rfl,h2⟩:=h1.cI
 obtain ⟨c3,x,rfl,h3⟩:=h2.cI
 obtain ⟨c4,x,rfl,h4⟩:=h3.cI
 obtain ⟨c5,x,rfl,h5⟩:=h4.cI
 obtain rfl:=h5.nil
 exact ⟨c0,c1,c2,c3,c4,c5,rfl⟩
theorem ZS {x : List U} (h : zx Fv.ct (Fv.ct 238) x) : ∃ (c0 : Int) (c1 : LL) (c2 : Int),x = [.int c0,.lst c1,.int c2] ∧ WR Fv.ct 3 c1:=by
 obtain ⟨c0,x,rfl,h0⟩:=h.cI
 obtain ⟨c1,x,rfl,w1,h1⟩:=h0.cS
 obtain ⟨c2,x,rfl,h2⟩:=h1.cI
 obtain rfl:=h2.nil
 exact ⟨c0,c1,c2,rfl,w1⟩
theorem Ue {x : List U} (h : zx Fv.ct (Fv.ct 252) x) : ∃ (c0 : Int) (c1 : LL) (c2 : Int),x = [.int c0,.lst c1,.int c2] ∧ WR Fv.ct 3 c1:=by
 obtain ⟨c0,x,rfl,h0⟩:=h.cI
 obtain ⟨c1,x,rfl,w1,h1⟩:=h0.cS
 obtain ⟨c2,x,rfl,h2⟩:=h1.cI
 obtain rfl:=h2.nil
 exact ⟨c0,c1,c2,rfl,w1⟩
theorem XN {x : List U} (h : zx Fv.ct (Fv.ct 256) x) : ∃ (c0 c1 c2 c3 c4 c5 : Int),x = [.int c0,.int c1,.int c2,.int c3,.int c4,.int c5]:=by
 obtain ⟨c0,x,rfl,h0⟩:=h.cI
 obtain ⟨c1,x,rfl,h1⟩:=h0.cI
 obtain ⟨c2,x,rfl,h2⟩:=h1.cI
 obtain ⟨c3,x,rfl,h3⟩:=h2.cI
 obtain ⟨c4,x,rfl,h4⟩:=h3.cI
 obtain ⟨c5,x,rfl,h5⟩:=h4.cI
 obtain rfl:=h5.nil
 exact ⟨c0,c1,c2,c3,c4,c5,rfl⟩
theorem ZT {x : List U} (h : zx Fv.ct (Fv.ct 258) x) : ∃ (c0 c1 c2 c3 c4 c5 : Int),x = [.int c0,.int c1,.int c2,.int c3,.int c4,.int c5]:=by
 obtain ⟨c0,x,rfl,h0⟩:=h.cI
 obtain ⟨c1,x,rfl,h1⟩:=h0.cI
 obtain ⟨c2,x,rfl,h2⟩:=h1.cI
 obtain ⟨c3,x,rfl,h3⟩:=h2.cI
 obtain ⟨c4,x,rfl,h4⟩:=h3.cI
 obtain ⟨c5,x,rfl,h5⟩:=h4.cI
 obtain rfl:=h5.nil
 exact ⟨c0,c1,c2,c3,c4,c5,rfl⟩
theorem XO {x : List U} (h : zx Fv.ct (Fv.ct 260) x) : ∃ (c0 c1 : Int),x = [.int c0,.int c1]:=by
 obtain ⟨c0,x,rfl,h0⟩:=h.cI
 obtain ⟨c1,x,rfl,h1⟩:=h0.cI
 obtain rfl:=h1.nil
 exact ⟨c0,c1,rfl⟩
theorem ZU {x : List U} (h : zx Fv.ct (Fv.ct 262) x) : ∃ (c0 c1 : Int),x = [.int c0,.int c1]:=by
 obtain ⟨c0,x,rfl,h0⟩:=h.cI
 obtain ⟨c1,x,rfl,h1⟩:=h0.cI
 obtain rfl:=h1.nil
 exact ⟨c0,c1,rfl⟩
theorem ZV {x : List U} (h : zx Fv.ct (Fv.ct 264) x) : ∃ (c0 c1 c2 c3 c4 c5 : Int),x = [.int c0,.int c1,.int c2,.int c3,.int c4,.int c5]:=by
 obtain ⟨c0,x,rfl,h0⟩:=h.cI
 obtain ⟨c1,x,rfl,h1⟩:=h0.cI
 obtain ⟨c2,x,rfl,h2⟩:=h1.cI
 obtain ⟨c3,x,rfl,h3⟩:=h2.cI
 obtain ⟨c4,x,rfl,h4⟩:=h3.cI
 obtain ⟨c5,x,rfl,h5⟩:=h4.cI
 obtain rfl:=h5.nil
 exact ⟨c0,c1,c2,c3,c4,c5,rfl⟩
theorem ZW {x : List U} (h : zx Fv.ct (Fv.ct 267) x) : ∃ (c0 c1 c2 c3 c4 c5 c6 c7 c8 : Int),x = [.int c0,.int c1,.int c2,.int c3,.int c4,.int c5,.int c6,.int c7,.int c8]:=by
 obtain ⟨c0,x,rfl,h0⟩:=h.cI
 obtain ⟨c1,x,rfl,h1⟩:=h0.cI
 obtain ⟨c2,x,rfl,h2⟩:=h1.cI
 obtain ⟨c3,x,rfl,h3⟩:=h2.cI
 obtain ⟨c4,x,rfl,h4⟩:=h3.cI
 obtain ⟨c5,x,rfl,h5⟩:=h4.cI
 obtain ⟨c6,x,rfl,h6⟩:=h5.cI
 obtain ⟨c7,x,rfl,h7⟩:=h6.cI
 obtain ⟨c8,x,rfl,h8⟩:=h7.cI
 obtain rfl:=h8.nil
 exact ⟨c0,c1,c2,c3,c4,c5,c6,c7,c8,rfl⟩
theorem XP {x : List U} (h : zx Fv.ct (Fv.ct 278) x) : ∃ (c0 c1 : Int),x = [.int c0,.int c1]:=by
 obtain ⟨c0,x,rfl,h0⟩:=h.cI
 obtain ⟨c1,x,rfl,h1⟩:=h0.cI
 obtain rfl:=h1.nil
 exact ⟨c0,c1,rfl⟩
theorem Wm {x : List U} (h : zx Fv.ct (Fv.ct 281) x) : ∃ (c0 c1 c2 : Int) (c3 : List (List U)),x = [.int c0,.int c1,.int c2,.lst c3] ∧ WR Fv.ct 281 c3:=by
 obtain ⟨c0,x,rfl,h0⟩:=h.cI
 obtain ⟨c1,x,rfl,h1⟩:=h0.cI
 obtain ⟨c2,x,rfl,h2⟩:=h1.cI
 obtain ⟨c3,x,rfl,w3,h3⟩:=h2.cS
 obtain rfl:=h3.nil
 exact ⟨c0,c1,c2,c3,rfl,w3⟩
theorem Wn {x : List U} (h : zx Fv.ct (Fv.ct 283) x) : ∃ (c0 c1 c2 c3 c4 c5 : Int) (c6 : List (List U)),x = [.int c0,.int c1,.int c2,.int c3,.int c4,.int c5,.lst c6] ∧ WR Fv.ct 281 c6:=by
 obtain ⟨c0,x,rfl,h0⟩:=h.cI
 obtain ⟨c1,x,rfl,h1⟩:=h0.cI
 obtain ⟨c2,x,rfl,h2⟩:=h1.cI
 obtain ⟨c3,x,rfl,h3⟩:=h2.cI
 obtain ⟨c4,x,rfl,h4⟩:=h3.cI
 obtain ⟨c5,x,rfl,h5⟩:=h4.cI
 obtain ⟨c6,x,rfl,w6,h6⟩:=h5.cS
 obtain rfl:=h6.nil
 exact ⟨c0,c1,c2,c3,c4,c5,c6,rfl,w6⟩
theorem Rk {x : List U} (h : zx Fv.ct (Fv.ct 286) x) : ∃ (c0 c1 c2 c3 c4 c5 c6 c7 : Int),x = [.int c0,.int c1,.int c2,.int c3,.int c4,.int c5,.int c6,.int c7]:=by
 obtain ⟨c0,x,rfl,h0⟩:=h.cI
 obtain ⟨c1,x,rfl,h1⟩:=h0.cI
 obtain ⟨c2,x,rfl,h2⟩:=h1.cI
 obtain ⟨c3,x,rfl,h3⟩:=h2.cI
 obtain ⟨c4,x,rfl,h4⟩:=h3.cI
 obtain ⟨c5,x,rfl,h5⟩:=h4.cI
 obtain ⟨c6,x,rfl,h6⟩:=h5.cI
 obtain ⟨c7,x,rfl,h7⟩:=h6.cI
 obtain rfl:=h7.nil
 exact ⟨c0,c1,c2,c3,c4,c5,c6,c7,rfl⟩
theorem ZX {x : List U} (h : zx Fv.ct (Fv.ct 305) x) : ∃ (c0 c1 c2 c3 c4 c5 c6 c7 : Int),x = [.int c0,.int c1,.int c2,.int c3,.int c4,.int c5,.int c6,.int c7]:=by
 obtain ⟨c0,x,rfl,h0⟩:=h.cI
 obtain ⟨c1,x,rfl,h1⟩:=h0.cI
 obtain ⟨c2,x,rfl,h2⟩:=h1.cI
 obtain ⟨c3,x,rfl,h3⟩:=h2.cI
 obtain ⟨c4,x,rfl,h4⟩:=h3.cI
 obtain ⟨c5,x,rfl,h5⟩:=h4.cI
 obtain ⟨c6,x,rfl,h6⟩:=h5.cI
 obtain ⟨c7,x,rfl,h7⟩:=h6.cI
 obtain rfl:=h7.nil
 exact ⟨c0,c1,c2,c3,c4,c5,c6,c7,rfl⟩
theorem ZY {x : List U} (h : zx Fv.ct (Fv.ct 330) x) : ∃ (c0 c1 : Int),x = [.int c0,.int c1]:=by
 obtain ⟨c0,x,rfl,h0⟩:=h.cI
 obtain ⟨c1,x,rfl,h1⟩:=h0.cI
 obtain rfl:=h1.nil
 exact ⟨c0,c1,rfl⟩
theorem ZZ {x : List U} (h : zx Fv.ct (Fv.ct 348) x) : ∃ (c0 c1 c2 : Int) (c3 : List (List U)),x = [.int c0,.int c1,.int c2,.lst c3] ∧ WR Fv.ct 348 c3:=by
 obtain ⟨c0,x,rfl,h0⟩:=h.cI
 obtain ⟨c1,x,rfl,h1⟩:=h0.cI
 obtain ⟨c2,x,rfl,h2⟩:=h1.cI
 obtain ⟨c3,x,rfl,w3,h3⟩:=h2.cS
 obtain rfl:=h3.nil
 exact ⟨c0,c1,c2,c3,rfl,w3⟩
theorem aaa {x : List U} (h : zx Fv.ct (Fv.ct 350) x) : ∃ (c0 c1 c2 c3 c4 c5 : Int) (c6 : List (List U)),x = [.int c0,.int c1,.int c2,.int c3,.int c4,.int c5,.lst c6] ∧ WR Fv.ct 348 c6:=by
 obtain ⟨c0,x,rfl,h0⟩:=h.cI
 obtain ⟨c1,x,rfl,h1⟩:=h0.cI
 obtain ⟨c2,x,rfl,h2⟩:=h1.cI
 obtain ⟨c3,x,rfl,h3⟩:=h2.cI
 obtain ⟨c4,x,rfl,h4⟩:=h3.cI
 obtain ⟨c5,x,rfl,h5⟩:=h4.cI
 obtain ⟨c6,x,rfl,w6,h6⟩:=h5.cS
 obtain rfl:=h6.nil
 exact ⟨c0,c1,c2,c3,c4,c5,c6,rfl,w6⟩
theorem Wv (xs : LL) (h : WR Fv.ct 3 xs) (hc : Fy xs ≤ 1048576) : Ic.c xs = some ⟨[[.lst xs]],[]⟩:=by
 have hl:=FP xs
 rw [Ic.eq]; (try dsimp only [gr,gi,gl,gb,gt,Ft,ln,EK,aJ.i,aJ.l,aJ.b,aJ.t]); rw [qQd,FV (by omega) (by omega),qQa (by omega)]
 show Ic.l0 xs 0 (List.replicate xs.length _) = _
 refine (Ip (l0:=fun i s=>Ic.l0 xs i s) (row:=fun i=>xs.getD i []) (R:=fun s=>some ⟨[[.lst s]],[]⟩) (fun s hs=>?_) (fun i hi s hs hz=>?_)).trans (by rw [HN])
 ·show Ic.l0 xs _ s = _
  rw [Ic.Fx]; (try dsimp only [gr,gi,gl,gb,gt,Ft,ln,EK,aJ.i,aJ.l,aJ.b,aJ.t]); rw [FO (qQb _)]; rfl
 ·obtain ⟨c0,aB⟩:=Uf (h.2 _ (FF hi (z:=[])))
  have sJ:=Gc (FF hi (z:=[]))
  rw [aB] at sJ
  simp only [FQ,FX] at sJ
  show Ic.l0 xs _ s = Ic.l0 xs _ _
  rw [Ic.Fx]; (try dsimp only [gr,gi,gl,gb,gt,Ft,ln,EK,aJ.i,aJ.l,aJ.b,aJ.t]); rw [FN hi,FR,FR,qQa hi,qQa (by omega : i < s.length),qQd,aB,FW (by omega)]
  simp (disch:=first | assumption | omega) only [SB,Gp,hz,GH,GG,qQs,qQr,qYi]
theorem afK (c0 : Int) (c1 : LL) (c2 : Int) (sG : WR Fv.ct 3 c1) (NS : Fy c1 ≤ 1048576) : TO.c c0 c1 c2 = some ⟨[[.int c0,.lst c1,.int c2]],[]⟩:=by
 rw [TO.eq]; (try dsimp only [gr,gi,gl,gb,gt,Ft,ln,EK,aJ.i,aJ.l,aJ.b,aJ.t])
 try simp (disch:=first | assumption | omega) only [SB,Wv]
theorem afL (xs : LL) (h : WR Fv.ct 238 xs) (hc : Fy xs ≤ 1048576) : JS.c xs = some ⟨[[.lst xs]],[]⟩:=by
 have hl:=FP xs
 rw [JS.eq]; (try dsimp only [gr,gi,gl,gb,gt,Ft,ln,EK,aJ.i,aJ.l,aJ.b,aJ.t]); rw [qQd,FV (by omega) (by omega),qQa (by omega)]
 show JS.l0 xs 0 (List.replicate xs.length _) = _
 refine (Ip (l0:=fun i s=>JS.l0 xs i s) (row:=fun i=>xs.getD i []) (R:=fun s=>some ⟨[[.lst s]],[]⟩) (fun s hs=>?_) (fun i hi s hs hz=>?_)).trans (by rw [HN])
 ·show JS.l0 xs _ s = _
  rw [JS.Fx]; (try dsimp only [gr,gi,gl,gb,gt,Ft,ln,EK,aJ.i,aJ.l,aJ.b,aJ.t]); rw [FO (qQb _)]; rfl
 ·obtain ⟨c0,c1,c2,aB,sG⟩:=ZS (h.2 _ (FF hi (z:=[])))
  have sJ:=Gc (FF hi (z:=[]))
  rw [aB] at sJ
  simp only [FQ,FX] at sJ
  show JS.l0 xs _ s = JS.l0 xs _ _
  rw [JS.Fx]; (try dsimp only [gr,gi,gl,gb,gt,Ft,ln,EK,aJ.i,aJ.l,aJ.b,aJ.t]); rw [FN hi,FR,FR,qQa hi,qQa (by omega : i < s.length),qQd,aB,FW (by omega)]
  simp (disch:=first | assumption | omega) only [SB,Gp,hz,GH,GG,qQs,qQr,afK]
theorem afI (c0 c1 : Int) : TN.c c0 c1 = some ⟨[[.int c0,.int c1]],[]⟩:=by
 rw [TN.eq]; (try dsimp only [gr,gi,gl,gb,gt,Ft,ln,EK,aJ.i,aJ.l,aJ.b,aJ.t])
 try simp (disch:=first | assumption | omega) only [SB]
theorem afJ (xs : LL) (h : WR Fv.ct 330 xs) (hc : Fy xs ≤ 1048576) : JR.c xs = some ⟨[[.lst xs]],[]⟩:=by
 have hl:=FP xs
 rw [JR.eq]; (try dsimp only [gr,gi,gl,gb,gt,Ft,ln,EK,aJ.i,aJ.l,aJ.b,aJ.t]); rw [qQd,FV (by omega) (by omega),qQa (by omega)]
 show JR.l0 xs 0 (List.replicate xs.length _) = _
 refine (Ip (l0:=fun i s=>JR.l0 xs i s) (row:=fun i=>xs.getD i []) (R:=fun s=>some ⟨[[.lst s]],[]⟩) (fun s hs=>?_) (fun i hi s hs hz=>?_)).trans (by rw [HN])
 ·show JR.l0 xs _ s = _
  rw [JR.Fx]; (try dsimp only [gr,gi,gl,gb,gt,Ft,ln,EK,aJ.i,aJ.l,aJ.b,aJ.t]); rw [FO (qQb _)]; rfl
 ·obtain ⟨c0,c1,aB⟩:=ZY (h.2 _ (FF hi (z:=[])))
  have sJ:=Gc (FF hi (z:=[]))
  rw [aB] at sJ
  simp only [FQ,FX] at sJ
  show JR.l0 xs _ s = JR.l0 xs _ _
  rw [JR.Fx]; (try dsimp only [gr,gi,gl,gb,gt,Ft,ln,EK,aJ.i,aJ.l,aJ.b,aJ.t]); rw [FN hi,FR,FR,qQa hi,qQa (by omega : i < s.length),qQd,aB,FW (by omega)]
  simp (disch:=first | assumption | omega) only [SB,Gp,hz,GH,GG,qQs,qQr,afI]
theorem afy : ∀ (n : Nat) (xs : LL),Fy xs ≤ n → WR Fv.ct 348 xs → Fy xs ≤ 1048576 → Ib.c xs = some ⟨[[.lst xs]],[]⟩:=by
 intro n
 induction n with
 | zero =>
  intro xs hn h hc
  have hl:=FP xs
  obtain rfl : xs = []:=qZz (by omega)
  rw [Ib.eq]; (try dsimp only [gr,gi,gl,gb,gt,Ft,ln,EK,aJ.i,aJ.l,aJ.b,aJ.t])
  show Ib.l0 [] 0 [] = _
  rw [Ib.Fx]; (try dsimp only [gr,gi,gl,gb,gt,Ft,ln,EK,aJ.i,aJ.l,aJ.b,aJ.t]); rfl
 | succ n ih =>
  intro xs hn h hc
  have hl:=FP xs
  rw [Ib.eq]; (try dsimp only [gr,gi,gl,gb,gt,Ft,ln,EK,aJ.i,aJ.l,aJ.b,aJ.t]); rw [qQd,FV (by omega) (by omega),qQa (by omega)]
  show Ib.l0 xs 0 (List.replicate xs.length _) = _
  refine (Ip (l0:=fun i s=>Ib.l0 xs i s) (row:=fun i=>xs.getD i []) (R:=fun s=>some ⟨[[.lst s]],[]⟩) (fun s hs=>?_) (fun i hi s hs hz=>?_)).trans (by rw [HN])
  ·show Ib.l0 xs _ s = _
   rw [Ib.Fx]; (try dsimp only [gr,gi,gl,gb,gt,Ft,ln,EK,aJ.i,aJ.l,aJ.b,aJ.t]); rw [FO (qQb _)]; rfl
  ·obtain ⟨c0,c1,c2,c3,aB,Gu⟩:=ZZ (h.2 _ (FF hi (z:=[])))
   have sJ:=Gc (FF hi (z:=[]))
   rw [aB] at sJ
   simp only [FQ,FX] at sJ
   show Ib.l0 xs _ s = Ib.l0 xs _ _
   rw [Ib.Fx]; (try dsimp only [gr,gi,gl,gb,gt,Ft,ln,EK,aJ.i,aJ.l,aJ.b,aJ.t]); rw [FN hi,FR,FR,qQa hi,qQa (by omega : i < s.length),qQd,aB,FW (by omega)]
   simp (disch:=first | assumption | omega) only [SB,Gp,hz,GH,GG,qQs,qQr,PC.eq,ih,gr,gi,gl,gb,gt,Ft,ln,EK,aJ.i,aJ.l,aJ.b,aJ.t]
theorem afx (xs : LL) (h : WR Fv.ct 348 xs) (hc : Fy xs ≤ 1048576) : Ib.c xs = some ⟨[[.lst xs]],[]⟩:=afy _ xs (qQb _) h hc
theorem afw (c0 c1 c2 : Int) (c3 : LL) (Gu : WR Fv.ct 348 c3) (NT : Fy c3 ≤ 1048576) : PC.c c0 c1 c2 c3 = some ⟨[[.int c0,.int c1,.int c2,.lst c3]],[]⟩:=by
 rw [PC.eq]; (try dsimp only [gr,gi,gl,gb,gt,Ft,ln,EK,aJ.i,aJ.l,aJ.b,aJ.t])
 try simp (disch:=first | assumption | omega) only [SB,afx]
theorem afR (c0 c1 c2 c3 c4 c5 : Int) (c6 : LL) (HE : WR Fv.ct 348 c6) (RF : Fy c6 ≤ 1048576) : TU.c c0 c1 c2 c3 c4 c5 c6 = some ⟨[[.int c0,.int c1,.int c2,.int c3,.int c4,.int c5,.lst c6]],[]⟩:=by
 rw [TU.eq]; (try dsimp only [gr,gi,gl,gb,gt,Ft,ln,EK,aJ.i,aJ.l,aJ.b,aJ.t])
 try simp (disch:=first | assumption | omega) only [SB,afw]
theorem afS (xs : LL) (h : WR Fv.ct 350 xs) (hc : Fy xs ≤ 1048576) : JV.c xs = some ⟨[[.lst xs]],[]⟩:=by
 have hl:=FP xs
 rw [JV.eq]; (try dsimp only [gr,gi,gl,gb,gt,Ft,ln,EK,aJ.i,aJ.l,aJ.b,aJ.t]); rw [qQd,FV (by omega) (by omega),qQa (by omega)]
 show JV.l0 xs 0 (List.replicate xs.length _) = _
 refine (Ip (l0:=fun i s=>JV.l0 xs i s) (row:=fun i=>xs.getD i []) (R:=fun s=>some ⟨[[.lst s]],[]⟩) (fun s hs=>?_) (fun i hi s hs hz=>?_)).trans (by rw [HN])
 ·show JV.l0 xs _ s = _
  rw [JV.Fx]; (try dsimp only [gr,gi,gl,gb,gt,Ft,ln,EK,aJ.i,aJ.l,aJ.b,aJ.t]); rw [FO (qQb _)]; rfl
 ·obtain ⟨c0,c1,c2,c3,c4,c5,c6,aB,HE⟩:=aaa (h.2 _ (FF hi (z:=[])))
  have sJ:=Gc (FF hi (z:=[]))
  rw [aB] at sJ
  simp only [FQ,FX] at sJ
  show JV.l0 xs _ s = JV.l0 xs _ _
  rw [JV.Fx]; (try dsimp only [gr,gi,gl,gb,gt,Ft,ln,EK,aJ.i,aJ.l,aJ.b,aJ.t]); rw [FN hi,FR,FR,qQa hi,qQa (by omega : i < s.length),qQd,aB,FW (by omega)]
  simp (disch:=first | assumption | omega) only [SB,Gp,hz,GH,GG,qQs,qQr,afR]
theorem afP (c0 : Int) (c1 : LL) (sG : WR Fv.ct 350 c1) (NS : Fy c1 ≤ 1048576) : TR.c c0 c1 = some ⟨[[.int c0,.lst c1]],[]⟩:=by
 rw [TR.eq]; (try dsimp only [gr,gi,gl,gb,gt,Ft,ln,EK,aJ.i,aJ.l,aJ.b,aJ.t])
 try simp (disch:=first | assumption | omega) only [SB,afS]
theorem aaC (c0 c1 : Int) (c2 : LL) (c3 : Int) (c4 : LL) (fG : WR Fv.ct 330 c2) (RD : Fy c2 ≤ 1048576) (HD : WR Fv.ct 350 c4) (RE : Fy c4 ≤ 1048576) : QZ.c c0 c1 c2 c3 c4 = some ⟨[[.int c0,.int c1,.lst c2,.int c3,.lst c4]],[]⟩:=by
 rw [QZ.eq]; (try dsimp only [gr,gi,gl,gb,gt,Ft,ln,EK,aJ.i,aJ.l,aJ.b,aJ.t])
 try simp (disch:=first | assumption | omega) only [SB,afJ,afP]
theorem afE (xs : LL) (h : WR Fv.ct 146 xs) (hc : Fy xs ≤ 1048576) : JP.c xs = some ⟨[[.lst xs]],[]⟩:=by
 have hl:=FP xs
 rw [JP.eq]; (try dsimp only [gr,gi,gl,gb,gt,Ft,ln,EK,aJ.i,aJ.l,aJ.b,aJ.t]); rw [qQd,FV (by omega) (by omega),qQa (by omega)]
 show JP.l0 xs 0 (List.replicate xs.length _) = _
 refine (Ip (l0:=fun i s=>JP.l0 xs i s) (row:=fun i=>xs.getD i []) (R:=fun s=>some ⟨[[.lst s]],[]⟩) (fun s hs=>?_) (fun i hi s hs hz=>?_)).trans (by rw [HN])
 ·show JP.l0 xs _ s = _
  rw [JP.Fx]; (try dsimp only [gr,gi,gl,gb,gt,Ft,ln,EK,aJ.i,aJ.l,aJ.b,aJ.t]); rw [FO (qQb _)]; rfl
 ·obtain ⟨c0,c1,c2,c3,c4,aB,fG,HD⟩:=ZJ (h.2 _ (FF hi (z:=[])))
  have sJ:=Gc (FF hi (z:=[]))
  rw [aB] at sJ
  simp only [FQ,FX] at sJ
  show JP.l0 xs _ s = JP.l0 xs _ _
  rw [JP.Fx]; (try dsimp only [gr,gi,gl,gb,gt,Ft,ln,EK,aJ.i,aJ.l,aJ.b,aJ.t]); rw [FN hi,FR,FR,qQa hi,qQa (by omega : i < s.length),qQd,aB,FW (by omega)]
  simp (disch:=first | assumption | omega) only [SB,Gp,hz,GH,GG,qQs,qQr,aaC]
theorem afF (c0 c1 c2 c3 c4 c5 : Int) : TL.c c0 c1 c2 c3 c4 c5 = some ⟨[[.int c0,.int c1,.int c2,.int c3,.int c4,.int c5]],[]⟩:=by
 rw [TL.eq]; (try dsimp only [gr,gi,gl,gb,gt,Ft,ln,EK,aJ.i,aJ.l,aJ.b,aJ.t])
 try simp (disch:=first | assumption | omega) only [SB]
theorem aaD (xs : LL) (h : WR Fv.ct 258 xs) (hc : Fy xs ≤ 1048576) : Ja.c xs = some ⟨[[.lst xs]],[]⟩:=by
 have hl:=FP xs
 rw [Ja.eq]; (try dsimp only [gr,gi,gl,gb,gt,Ft,ln,EK,aJ.i,aJ.l,aJ.b,aJ.t]); rw [qQd,FV (by omega) (by omega),qQa (by omega)]
 show Ja.l0 xs 0 (List.replicate xs.length _) = _
 refine (Ip (l0:=fun i s=>Ja.l0 xs i s) (row:=fun i=>xs.getD i []) (R:=fun s=>some ⟨[[.lst s]],[]⟩) (fun s hs=>?_) (fun i hi s hs hz=>?_)).trans (by rw [HN])
 ·show Ja.l0 xs _ s = _
  rw [Ja.Fx]; (try dsimp only [gr,gi,gl,gb,gt,Ft,ln,EK,aJ.i,aJ.l,aJ.b,aJ.t]); rw [FO (qQb _)]; rfl
 ·obtain ⟨c0,c1,c2,c3,c4,c5,aB⟩:=ZT (h.2 _ (FF hi (z:=[])))
  have sJ:=Gc (FF hi (z:=[]))
  rw [aB] at sJ
  simp only [FQ,FX] at sJ
  show Ja.l0 xs _ s = Ja.l0 xs _ _
  rw [Ja.Fx]; (try dsimp only [gr,gi,gl,gb,gt,Ft,ln,EK,aJ.i,aJ.l,aJ.b,aJ.t]); rw [FN hi,FR,FR,qQa hi,qQa (by omega : i < s.length),qQd,aB,FW (by omega)]
  simp (disch:=first | assumption | omega) only [SB,Gp,hz,GH,GG,qQs,qQr,afF]
theorem afQ (c0 c1 : Int) : TS.c c0 c1 = some ⟨[[.int c0,.int c1]],[]⟩:=by
 rw [TS.eq]; (try dsimp only [gr,gi,gl,gb,gt,Ft,ln,EK,aJ.i,aJ.l,aJ.b,aJ.t])
 try simp (disch:=first | assumption | omega) only [SB]
theorem aaE (xs : LL) (h : WR Fv.ct 262 xs) (hc : Fy xs ≤ 1048576) : Jb.c xs = some ⟨[[.lst xs]],[]⟩:=by
 have hl:=FP xs
 rw [Jb.eq]; (try dsimp only [gr,gi,gl,gb,gt,Ft,ln,EK,aJ.i,aJ.l,aJ.b,aJ.t]); rw [qQd,FV (by omega) (by omega),qQa (by omega)]
 show Jb.l0 xs 0 (List.replicate xs.length _) = _
 refine (Ip (l0:=fun i s=>Jb.l0 xs i s) (row:=fun i=>xs.getD i []) (R:=fun s=>some ⟨[[.lst s]],[]⟩) (fun s hs=>?_) (fun i hi s hs hz=>?_)).trans (by rw [HN])
 ·show Jb.l0 xs _ s = _
  rw [Jb.Fx]; (try dsimp only [gr,gi,gl,gb,gt,Ft,ln,EK,aJ.i,aJ.l,aJ.b,aJ.t]); rw [FO (qQb _)]; rfl
 ·obtain ⟨c0,c1,aB⟩:=ZU (h.2 _ (FF hi (z:=[])))
  have sJ:=Gc (FF hi (z:=[]))
  rw [aB] at sJ
  simp only [FQ,FX] at sJ
  show Jb.l0 xs _ s = Jb.l0 xs _ _
  rw [Jb.Fx]; (try dsimp only [gr,gi,gl,gb,gt,Ft,ln,EK,aJ.i,aJ.l,aJ.b,aJ.t]); rw [FN hi,FR,FR,qQa hi,qQa (by omega : i < s.length),qQd,aB,FW (by omega)]
  simp (disch:=first | assumption | omega) only [SB,Gp,hz,GH,GG,qQs,qQr,afQ]
theorem afu (c0 c1 c2 c3 c4 c5 : Int) : TI.c c0 c1 c2 c3 c4 c5 = some ⟨[[.int c0,.int c1,.int c2,.int c3,.int c4,.int c5]],[]⟩:=by
 rw [TI.eq]; (try dsimp only [gr,gi,gl,gb,gt,Ft,ln,EK,aJ.i,aJ.l,aJ.b,aJ.t])
 try simp (disch:=first | assumption | omega) only [SB]
theorem afv (xs : LL) (h : WR Fv.ct 264 xs) (hc : Fy xs ≤ 1048576) : JL.c xs = some ⟨[[.lst xs]],[]⟩:=by
 have hl:=FP xs
 rw [JL.eq]; (try dsimp only [gr,gi,gl,gb,gt,Ft,ln,EK,aJ.i,aJ.l,aJ.b,aJ.t]); rw [qQd,FV (by omega) (by omega),qQa (by omega)]
 show JL.l0 xs 0 (List.replicate xs.length _) = _
 refine (Ip (l0:=fun i s=>JL.l0 xs i s) (row:=fun i=>xs.getD i []) (R:=fun s=>some ⟨[[.lst s]],[]⟩) (fun s hs=>?_) (fun i hi s hs hz=>?_)).trans (by rw [HN])
 ·show JL.l0 xs _ s = _
  rw [JL.Fx]; (try dsimp only [gr,gi,gl,gb,gt,Ft,ln,EK,aJ.i,aJ.l,aJ.b,aJ.t]); rw [FO (qQb _)]; rfl
 ·obtain ⟨c0,c1,c2,c3,c4,c5,aB⟩:=ZV (h.2 _ (FF hi (z:=[])))
  have sJ:=Gc (FF hi (z:=[]))
  rw [aB] at sJ
  simp only [FQ,FX] at sJ
  show JL.l0 xs _ s = JL.l0 xs _ _
  rw [JL.Fx]; (try dsimp only [gr,gi,gl,gb,gt,Ft,ln,EK,aJ.i,aJ.l,aJ.b,aJ.t]); rw [FN hi,FR,FR,qQa hi,qQa (by omega : i < s.length),qQd,aB,FW (by omega)]
  simp (disch:=first | assumption | omega) only [SB,Gp,hz,GH,GG,qQs,qQr,afu]
theorem aft (c0 c1 c2 c3 : LL) (c4 : Int) (c5 : LL) (jz : WR Fv.ct 238 c0) (WC : Fy c0 ≤ 1048576) (sG : WR Fv.ct 146 c1) (NS : Fy c1 ≤ 1048576) (fG : WR Fv.ct 258 c2) (RD : Fy c2 ≤ 1048576) (Gu : WR Fv.ct 262 c3) (NT : Fy c3 ≤ 1048576) (Ld : WR Fv.ct 264 c5) (WD : Fy c5 ≤ 1048576) : TH.c c0 c1 c2 c3 c4 c5 = some ⟨[[.lst c0,.lst c1,.lst c2,.lst c3,.int c4,.lst c5]],[]⟩:=by
 rw [TH.eq]; (try dsimp only [gr,gi,gl,gb,gt,Ft,ln,EK,aJ.i,aJ.l,aJ.b,aJ.t])
 try simp (disch:=first | assumption | omega) only [SB,afL,afE,aaD,aaE,afv]
theorem Ya (c0 c1 c2 c3 c4 c5 : Int) : Oc.c c0 c1 c2 c3 c4 c5 = some ⟨[[.int c0,.int c1,.int c2,.int c3,.int c4,.int c5]],[]⟩:=by
 rw [Oc.eq]; (try dsimp only [gr,gi,gl,gb,gt,Ft,ln,EK,aJ.i,aJ.l,aJ.b,aJ.t])
 try simp (disch:=first | assumption | omega) only [SB]
theorem afT (c0 c1 c2 c3 c4 c5 c6 c7 : Int) : TV.c c0 c1 c2 c3 c4 c5 c6 c7 = some ⟨[[.int c0,.int c1,.int c2,.int c3,.int c4,.int c5,.int c6,.int c7]],[]⟩:=by
 rw [TV.eq]; (try dsimp only [gr,gi,gl,gb,gt,Ft,ln,EK,aJ.i,aJ.l,aJ.b,aJ.t])
 try simp (disch:=first | assumption | omega) only [SB,Ya]
theorem afU (xs : LL) (h : WR Fv.ct 305 xs) (hc : Fy xs ≤ 1048576) : JW.c xs = some ⟨[[.lst xs]],[]⟩:=by
 have hl:=FP xs
 rw [JW.eq]; (try dsimp only [gr,gi,gl,gb,gt,Ft,ln,EK,aJ.i,aJ.l,aJ.b,aJ.t]); rw [qQd,FV (by omega) (by omega),qQa (by omega)]
 show JW.l0 xs 0 (List.replicate xs.length _) = _
 refine (Ip (l0:=fun i s=>JW.l0 xs i s) (row:=fun i=>xs.getD i []) (R:=fun s=>some ⟨[[.lst s]],[]⟩) (fun s hs=>?_) (fun i hi s hs hz=>?_)).trans (by rw [HN])
 ·show JW.l0 xs _ s = _
  rw [JW.Fx]; (try dsimp only [gr,gi,gl,gb,gt,Ft,ln,EK,aJ.i,aJ.l,aJ.b,aJ.t]); rw [FO (qQb _)]; rfl
 ·obtain ⟨c0,c1,c2,c3,c4,c5,c6,c7,aB⟩:=ZX (h.2 _ (FF hi (z:=[])))
  have sJ:=Gc (FF hi (z:=[]))
  rw [aB] at sJ
  simp only [FQ,FX] at sJ
  show JW.l0 xs _ s = JW.l0 xs _ _
  rw [JW.Fx]; (try dsimp only [gr,gi,gl,gb,gt,Ft,ln,EK,aJ.i,aJ.l,aJ.b,aJ.t]); rw [FN hi,FR,FR,qQa hi,qQa (by omega : i < s.length),qQd,aB,FW (by omega)]
  simp (disch:=first | assumption | omega) only [SB,Gp,hz,GH,GG,qQs,qQr,afT]
theorem afN (c0 c1 c2 : Int) (c3 : LL) (c4 : Int) (c5 c6 c7 : LL) (c8 : Int) (c9 : LL) (Gu : WR Fv.ct 330 c3) (NT : Fy c3 ≤ 1048576) (Ld : WR Fv.ct 350 c5) (WD : Fy c5 ≤ 1048576) (HE : WR Fv.ct 258 c6) (RF : Fy c6 ≤ 1048576) (Le : WR Fv.ct 262 c7) (WE : Fy c7 ≤ 1048576) (Lg : WR Fv.ct 305 c9) (WG : Fy c9 ≤ 1048576) : TQ.c c0 c1 c2 c3 c4 c5 c6 c7 c8 c9 = some ⟨[[.int c0,.int c1,.int c2,.lst c3,.int c4,.lst c5,.lst c6,.lst c7,.int c8,.lst c9]],[]⟩:=by
 rw [TQ.eq]; (try dsimp only [gr,gi,gl,gb,gt,Ft,ln,EK,aJ.i,aJ.l,aJ.b,aJ.t])
 try simp (disch:=first | assumption | omega) only [SB,aaC,aaD,aaE,afU]
theorem afO (xs : LL) (h : WR Fv.ct 149 xs) (hc : Fy xs ≤ 1048576) : JU.c xs = some ⟨[[.lst xs]],[]⟩:=by
 have hl:=FP xs
 rw [JU.eq]; (try dsimp only [gr,gi,gl,gb,gt,Ft,ln,EK,aJ.i,aJ.l,aJ.b,aJ.t]); rw [qQd,FV (by omega) (by omega),qQa (by omega)]
 show JU.l0 xs 0 (List.replicate xs.length _) = _
 refine (Ip (l0:=fun i s=>JU.l0 xs i s) (row:=fun i=>xs.getD i []) (R:=fun s=>some ⟨[[.lst s]],[]⟩) (fun s hs=>?_) (fun i hi s hs hz=>?_)).trans (by rw [HN])
 ·show JU.l0 xs _ s = _
  rw [JU.Fx]; (try dsimp only [gr,gi,gl,gb,gt,Ft,ln,EK,aJ.i,aJ.l,aJ.b,aJ.t]); rw [FO (qQb _)]; rfl
 ·obtain ⟨c0,c1,c2,c3,c4,c5,c6,c7,c8,c9,aB,Gu,Ld,HE,Le,Lg⟩:=ZK (h.2 _ (FF hi (z:=[])))
  have sJ:=Gc (FF hi (z:=[]))
  rw [aB] at sJ
  simp only [FQ,FX] at sJ
  show JU.l0 xs _ s = JU.l0 xs _ _
  rw [JU.Fx]; (try dsimp only [gr,gi,gl,gb,gt,Ft,ln,EK,aJ.i,aJ.l,aJ.b,aJ.t]); rw [FN hi,FR,FR,qQa hi,qQa (by omega : i < s.length),qQd,aB,FW (by omega)]
  simp (disch:=first | assumption | omega) only [SB,Gp,hz,GH,GG,qQs,qQr,afN]
theorem afs (xs : LL) (h : WR Fv.ct 4 xs) (hc : Fy xs ≤ 1048576) : JK.c xs = some ⟨[[.lst xs]],[]⟩:=by
 have hl:=FP xs
 rw [JK.eq]; (try dsimp only [gr,gi,gl,gb,gt,Ft,ln,EK,aJ.i,aJ.l,aJ.b,aJ.t]); rw [qQd,FV (by omega) (by omega),qQa (by omega)]
 show JK.l0 xs 0 (List.replicate xs.length _) = _
 refine (Ip (l0:=fun i s=>JK.l0 xs i s) (row:=fun i=>xs.getD i []) (R:=fun s=>some ⟨[[.lst s]],[]⟩) (fun s hs=>?_) (fun i hi s hs hz=>?_)).trans (by rw [HN])
 ·show JK.l0 xs _ s = _
  rw [JK.Fx]; (try dsimp only [gr,gi,gl,gb,gt,Ft,ln,EK,aJ.i,aJ.l,aJ.b,aJ.t]); rw [FO (qQb _)]; rfl
 ·obtain ⟨c0,aB⟩:=Ug (h.2 _ (FF hi (z:=[])))
  have sJ:=Gc (FF hi (z:=[]))
  rw [aB] at sJ
  simp only [FQ,FX] at sJ
  show JK.l0 xs _ s = JK.l0 xs _ _
  rw [JK.Fx]; (try dsimp only [gr,gi,gl,gb,gt,Ft,ln,EK,aJ.i,aJ.l,aJ.b,aJ.t]); rw [FN hi,FR,FR,qQa hi,qQa (by omega : i < s.length),qQd,aB,FW (by omega)]
  simp (disch:=first | assumption | omega) only [SB,Gp,hz,GH,GG,qQs,qQr]
theorem afB (c0 c1 c2 c3 c4 c5 c6 c7 c8 : Int) : TK.c c0 c1 c2 c3 c4 c5 c6 c7 c8 = some ⟨[[.int c0,.int c1,.int c2,.int c3,.int c4,.int c5,.int c6,.int c7,.int c8]],[]⟩:=by
 rw [TK.eq]; (try dsimp only [gr,gi,gl,gb,gt,Ft,ln,EK,aJ.i,aJ.l,aJ.b,aJ.t])
 try simp (disch:=first | assumption | omega) only [SB]
theorem afC (xs : LL) (h : WR Fv.ct 267 xs) (hc : Fy xs ≤ 1048576) : JN.c xs = some ⟨[[.lst xs]],[]⟩:=by
 have hl:=FP xs
 rw [JN.eq]; (try dsimp only [gr,gi,gl,gb,gt,Ft,ln,EK,aJ.i,aJ.l,aJ.b,aJ.t]); rw [qQd,FV (by omega) (by omega),qQa (by omega)]
 show JN.l0 xs 0 (List.replicate xs.length _) = _
 refine (Ip (l0:=fun i s=>JN.l0 xs i s) (row:=fun i=>xs.getD i []) (R:=fun s=>some ⟨[[.lst s]],[]⟩) (fun s hs=>?_) (fun i hi s hs hz=>?_)).trans (by rw [HN])
 ·show JN.l0 xs _ s = _
  rw [JN.Fx]; (try dsimp only [gr,gi,gl,gb,gt,Ft,ln,EK,aJ.i,aJ.l,aJ.b,aJ.t]); rw [FO (qQb _)]; rfl
 ·obtain ⟨c0,c1,c2,c3,c4,c5,c6,c7,c8,aB⟩:=ZW (h.2 _ (FF hi (z:=[])))
  have sJ:=Gc (FF hi (z:=[]))
  rw [aB] at sJ
  simp only [FQ,FX] at sJ
  show JN.l0 xs _ s = JN.l0 xs _ _
  rw [JN.Fx]; (try dsimp only [gr,gi,gl,gb,gt,Ft,ln,EK,aJ.i,aJ.l,aJ.b,aJ.t]); rw [FN hi,FR,FR,qQa hi,qQa (by omega : i < s.length),qQd,aB,FW (by omega)]
  simp (disch:=first | assumption | omega) only [SB,Gp,hz,GH,GG,qQs,qQr,afB]
theorem afD (xs : LL) (h : WR Fv.ct 151 xs) (hc : Fy xs ≤ 1048576) : JO.c xs = some ⟨[[.lst xs]],[]⟩:=by
 have hl:=FP xs
 rw [JO.eq]; (try dsimp only [gr,gi,gl,gb,gt,Ft,ln,EK,aJ.i,aJ.l,aJ.b,aJ.t]); rw [qQd,FV (by omega) (by omega),qQa (by omega)]
 show JO.l0 xs 0 (List.replicate xs.length _) = _
 refine (Ip (l0:=fun i s=>JO.l0 xs i s) (row:=fun i=>xs.getD i []) (R:=fun s=>some ⟨[[.lst s]],[]⟩) (fun s hs=>?_) (fun i hi s hs hz=>?_)).trans (by rw [HN])
 ·show JO.l0 xs _ s = _
  rw [JO.Fx]; (try dsimp only [gr,gi,gl,gb,gt,Ft,ln,EK,aJ.i,aJ.l,aJ.b,aJ.t]); rw [FO (qQb _)]; rfl
 ·obtain ⟨c0,aB,jz⟩:=ZL (h.2 _ (FF hi (z:=[])))
  have sJ:=Gc (FF hi (z:=[]))
  rw [aB] at sJ
  simp only [FQ,FX] at sJ
  show JO.l0 xs _ s = JO.l0 xs _ _
  rw [JO.Fx]; (try dsimp only [gr,gi,gl,gb,gt,Ft,ln,EK,aJ.i,aJ.l,aJ.b,aJ.t]); rw [FN hi,FR,FR,qQa hi,qQa (by omega : i < s.length),qQd,aB,FW (by omega)]
  simp (disch:=first | assumption | omega) only [SB,Gp,hz,GH,GG,qQs,qQr,afC]
theorem afX (c0 c1 : Int) : TX.c c0 c1 = some ⟨[[.int c0,.int c1]],[]⟩:=by
 rw [TX.eq]; (try dsimp only [gr,gi,gl,gb,gt,Ft,ln,EK,aJ.i,aJ.l,aJ.b,aJ.t])
 try simp (disch:=first | assumption | omega) only [SB]
theorem afY (xs : LL) (h : WR Fv.ct 184 xs) (hc : Fy xs ≤ 1048576) : JY.c xs = some ⟨[[.lst xs]],[]⟩:=by
 have hl:=FP xs
 rw [JY.eq]; (try dsimp only [gr,gi,gl,gb,gt,Ft,ln,EK,aJ.i,aJ.l,aJ.b,aJ.t]); rw [qQd,FV (by omega) (by omega),qQa (by omega)]
 show JY.l0 xs 0 (List.replicate xs.length _) = _
 refine (Ip (l0:=fun i s=>JY.l0 xs i s) (row:=fun i=>xs.getD i []) (R:=fun s=>some ⟨[[.lst s]],[]⟩) (fun s hs=>?_) (fun i hi s hs hz=>?_)).trans (by rw [HN])
 ·show JY.l0 xs _ s = _
  rw [JY.Fx]; (try dsimp only [gr,gi,gl,gb,gt,Ft,ln,EK,aJ.i,aJ.l,aJ.b,aJ.t]); rw [FO (qQb _)]; rfl
 ·obtain ⟨c0,c1,aB⟩:=ZO (h.2 _ (FF hi (z:=[])))
  have sJ:=Gc (FF hi (z:=[]))
  rw [aB] at sJ
  simp only [FQ,FX] at sJ
  show JY.l0 xs _ s = JY.l0 xs _ _
  rw [JY.Fx]; (try dsimp only [gr,gi,gl,gb,gt,Ft,ln,EK,aJ.i,aJ.l,aJ.b,aJ.t]); rw [FN hi,FR,FR,qQa hi,qQa (by omega : i < s.length),qQd,aB,FW (by omega)]
  simp (disch:=first | assumption | omega) only [SB,Gp,hz,GH,GG,qQs,qQr,afX]
theorem afG (c0 c1 c2 : Int) (c3 : LL) (c4 c5 : Int) (c6 : Bool) (Gu : WR Fv.ct 3 c3) (NT : Fy c3 ≤ 1048576) : TM.c c0 c1 c2 c3 c4 c5 c6 = some ⟨[[.int c0,.int c1,.int c2,.lst c3,.int c4,.int c5,.bool c6]],[]⟩:=by
 rw [TM.eq]; (try dsimp only [gr,gi,gl,gb,gt,Ft,ln,EK,aJ.i,aJ.l,aJ.b,aJ.t])
 try simp (disch:=first | assumption | omega) only [SB,Wv]
theorem afH (xs : LL) (h : WR Fv.ct 154 xs) (hc : Fy xs ≤ 1048576) : JQ.c xs = some ⟨[[.lst xs]],[]⟩:=by
 have hl:=FP xs
 rw [JQ.eq]; (try dsimp only [gr,gi,gl,gb,gt,Ft,ln,EK,aJ.i,aJ.l,aJ.b,aJ.t]); rw [qQd,FV (by omega) (by omega),qQa (by omega)]
 show JQ.l0 xs 0 (List.replicate xs.length _) = _
 refine (Ip (l0:=fun i s=>JQ.l0 xs i s) (row:=fun i=>xs.getD i []) (R:=fun s=>some ⟨[[.lst s]],[]⟩) (fun s hs=>?_) (fun i hi s hs hz=>?_)).trans (by rw [HN])
 ·show JQ.l0 xs _ s = _
  rw [JQ.Fx]; (try dsimp only [gr,gi,gl,gb,gt,Ft,ln,EK,aJ.i,aJ.l,aJ.b,aJ.t]); rw [FO (qQb _)]; rfl
 ·obtain ⟨c0,c1,c2,c3,c4,c5,c6,aB,Gu⟩:=ZM (h.2 _ (FF hi (z:=[])))
  have sJ:=Gc (FF hi (z:=[]))
  rw [aB] at sJ
  simp only [FQ,FX] at sJ
  show JQ.l0 xs _ s = JQ.l0 xs _ _
  rw [JQ.Fx]; (try dsimp only [gr,gi,gl,gb,gt,Ft,ln,EK,aJ.i,aJ.l,aJ.b,aJ.t]); rw [FN hi,FR,FR,qQa hi,qQa (by omega : i < s.length),qQd,aB,FW (by omega)]
  simp (disch:=first | assumption | omega) only [SB,Gp,hz,GH,GG,qQs,qQr,afG]
theorem afq (c0 c1 c2 : Int) : TG.c c0 c1 c2 = some ⟨[[.int c0,.int c1,.int c2]],[]⟩:=by
 rw [TG.eq]; (try dsimp only [gr,gi,gl,gb,gt,Ft,ln,EK,aJ.i,aJ.l,aJ.b,aJ.t])
 try simp (disch:=first | assumption | omega) only [SB]
theorem afr (xs : LL) (h : WR Fv.ct 190 xs) (hc : Fy xs ≤ 1048576) : JJ.c xs = some ⟨[[.lst xs]],[]⟩:=by
 have hl:=FP xs
 rw [JJ.eq]; (try dsimp only [gr,gi,gl,gb,gt,Ft,ln,EK,aJ.i,aJ.l,aJ.b,aJ.t]); rw [qQd,FV (by omega) (by omega),qQa (by omega)]
 show JJ.l0 xs 0 (List.replicate xs.length _) = _
 refine (Ip (l0:=fun i s=>JJ.l0 xs i s) (row:=fun i=>xs.getD i []) (R:=fun s=>some ⟨[[.lst s]],[]⟩) (fun s hs=>?_) (fun i hi s hs hz=>?_)).trans (by rw [HN])
 ·show JJ.l0 xs _ s = _
  rw [JJ.Fx]; (try dsimp only [gr,gi,gl,gb,gt,Ft,ln,EK,aJ.i,aJ.l,aJ.b,aJ.t]); rw [FO (qQb _)]; rfl
 ·obtain ⟨c0,c1,c2,aB⟩:=ZP (h.2 _ (FF hi (z:=[])))
  have sJ:=Gc (FF hi (z:=[]))
  rw [aB] at sJ
  simp only [FQ,FX] at sJ
  show JJ.l0 xs _ s = JJ.l0 xs _ _
  rw [JJ.Fx]; (try dsimp only [gr,gi,gl,gb,gt,Ft,ln,EK,aJ.i,aJ.l,aJ.b,aJ.t]); rw [FN hi,FR,FR,qQa hi,qQa (by omega : i < s.length),qQd,aB,FW (by omega)]
  simp (disch:=first | assumption | omega) only [SB,Gp,hz,GH,GG,qQs,qQr,afq]
theorem afZ (c0 c1 c2 c3 : Int) : TY.c c0 c1 c2 c3 = some ⟨[[.int c0,.int c1,.int c2,.int c3]],[]⟩:=by
 rw [TY.eq]; (try dsimp only [gr,gi,gl,gb,gt,Ft,ln,EK,aJ.i,aJ.l,aJ.b,aJ.t])
 try simp (disch:=first | assumption | omega) only [SB]
theorem af0 (xs : LL) (h : WR Fv.ct 194 xs) (hc : Fy xs ≤ 1048576) : JZ.c xs = some ⟨[[.lst xs]],[]⟩:=by
 have hl:=FP xs
 rw [JZ.eq]; (try dsimp only [gr,gi,gl,gb,gt,Ft,ln,EK,aJ.i,aJ.l,aJ.b,aJ.t]); rw [qQd,FV (by omega) (by omega),qQa (by omega)]
 show JZ.l0 xs 0 (List.replicate xs.length _) = _
 refine (Ip (l0:=fun i s=>JZ.l0 xs i s) (row:=fun i=>xs.getD i []) (R:=fun s=>some ⟨[[.lst s]],[]⟩) (fun s hs=>?_) (fun i hi s hs hz=>?_)).trans (by rw [HN])
 ·show JZ.l0 xs _ s = _
  rw [JZ.Fx]; (try dsimp only [gr,gi,gl,gb,gt,Ft,ln,EK,aJ.i,aJ.l,aJ.b,aJ.t]); rw [FO (qQb _)]; rfl
 ·obtain ⟨c0,c1,c2,c3,aB⟩:=ZQ (h.2 _ (FF hi (z:=[])))
  have sJ:=Gc (FF hi (z:=[]))
  rw [aB] at sJ
  simp only [FQ,FX] at sJ
  show JZ.l0 xs _ s = JZ.l0 xs _ _
  rw [JZ.Fx]; (try dsimp only [gr,gi,gl,gb,gt,Ft,ln,EK,aJ.i,aJ.l,aJ.b,aJ.t]); rw [FN hi,FR,FR,qQa hi,qQa (by omega : i < s.length),qQd,aB,FW (by omega)]
  simp (disch:=first | assumption | omega) only [SB,Gp,hz,GH,GG,qQs,qQr,afZ]
theorem afM (c0 c1 : LL) (c2 : Int) (jz : WR Fv.ct 3 c0) (WC : Fy c0 ≤ 1048576) (sG : WR Fv.ct 3 c1) (NS : Fy c1 ≤ 1048576) : TP.c c0 c1 c2 = some ⟨[[.lst c0,.lst c1,.int c2]],[]⟩:=by
 rw [TP.eq]; (try dsimp only [gr,gi,gl,gb,gt,Ft,ln,EK,aJ.i,aJ.l,aJ.b,aJ.t])
 try simp (disch:=first | assumption | omega) only [SB,Wv]
theorem afz (c0 c1 c2 c3 : Int) (c4 : LL) (c5 : Bool) (HD : WR Fv.ct 3 c4) (RE : Fy c4 ≤ 1048576) : TJ.c c0 c1 c2 c3 c4 c5 = some ⟨[[.int c0,.int c1,.int c2,.int c3,.lst c4,.bool c5]],[]⟩:=by
 rw [TJ.eq]; (try dsimp only [gr,gi,gl,gb,gt,Ft,ln,EK,aJ.i,aJ.l,aJ.b,aJ.t])
 try simp (disch:=first | assumption | omega) only [SB,Wv]
theorem afA (xs : LL) (h : WR Fv.ct 157 xs) (hc : Fy xs ≤ 1048576) : JM.c xs = some ⟨[[.lst xs]],[]⟩:=by
 have hl:=FP xs
 rw [JM.eq]; (try dsimp only [gr,gi,gl,gb,gt,Ft,ln,EK,aJ.i,aJ.l,aJ.b,aJ.t]); rw [qQd,FV (by omega) (by omega),qQa (by omega)]
 show JM.l0 xs 0 (List.replicate xs.length _) = _
 refine (Ip (l0:=fun i s=>JM.l0 xs i s) (row:=fun i=>xs.getD i []) (R:=fun s=>some ⟨[[.lst s]],[]⟩) (fun s hs=>?_) (fun i hi s hs hz=>?_)).trans (by rw [HN])
 ·show JM.l0 xs _ s = _
  rw [JM.Fx]; (try dsimp only [gr,gi,gl,gb,gt,Ft,ln,EK,aJ.i,aJ.l,aJ.b,aJ.t]); rw [FO (qQb _)]; rfl
 ·obtain ⟨c0,c1,c2,c3,c4,c5,aB,HD⟩:=ZN (h.2 _ (FF hi (z:=[])))
  have sJ:=Gc (FF hi (z:=[]))
  rw [aB] at sJ
  simp only [FQ,FX] at sJ
  show JM.l0 xs _ s = JM.l0 xs _ _
  rw [JM.Fx]; (try dsimp only [gr,gi,gl,gb,gt,Ft,ln,EK,aJ.i,aJ.l,aJ.b,aJ.t]); rw [FN hi,FR,FR,qQa hi,qQa (by omega : i < s.length),qQd,aB,FW (by omega)]
  simp (disch:=first | assumption | omega) only [SB,Gp,hz,GH,GG,qQs,qQr,afz]
theorem afV (c0 c1 c2 c3 c4 c5 c6 c7 c8 : Int) (c9 : Bool) : TW.c c0 c1 c2 c3 c4 c5 c6 c7 c8 c9 = some ⟨[[.int c0,.int c1,.int c2,.int c3,.int c4,.int c5,.int c6,.int c7,.int c8,.bool c9]],[]⟩:=by
 rw [TW.eq]; (try dsimp only [gr,gi,gl,gb,gt,Ft,ln,EK,aJ.i,aJ.l,aJ.b,aJ.t])
 try simp (disch:=first | assumption | omega) only [SB,Ya]
theorem afW (xs : LL) (h : WR Fv.ct 201 xs) (hc : Fy xs ≤ 1048576) : JX.c xs = some ⟨[[.lst xs]],[]⟩:=by
 have hl:=FP xs
 rw [JX.eq]; (try dsimp only [gr,gi,gl,gb,gt,Ft,ln,EK,aJ.i,aJ.l,aJ.b,aJ.t]); rw [qQd,FV (by omega) (by omega),qQa (by omega)]
 show JX.l0 xs 0 (List.replicate xs.length _) = _
 refine (Ip (l0:=fun i s=>JX.l0 xs i s) (row:=fun i=>xs.getD i []) (R:=fun s=>some ⟨[[.lst s]],[]⟩) (fun s hs=>?_) (fun i hi s hs hz=>?_)).trans (by rw [HN])
 ·show JX.l0 xs _ s = _
  rw [JX.Fx]; (try dsimp only [gr,gi,gl,gb,gt,Ft,ln,EK,aJ.i,aJ.l,aJ.b,aJ.t]); rw [FO (qQb _)]; rfl
 ·obtain ⟨c0,c1,c2,c3,c4,c5,c6,c7,c8,c9,aB⟩:=ZR (h.2 _ (FF hi (z:=[])))
  have sJ:=Gc (FF hi (z:=[]))
  rw [aB] at sJ
  simp only [FQ,FX] at sJ
  show JX.l0 xs _ s = JX.l0 xs _ _
  rw [JX.Fx]; (try dsimp only [gr,gi,gl,gb,gt,Ft,ln,EK,aJ.i,aJ.l,aJ.b,aJ.t]); rw [FN hi,FR,FR,qQa hi,qQa (by omega : i < s.length),qQd,aB,FW (by omega)]
  simp (disch:=first | assumption | omega) only [SB,Gp,hz,GH,GG,qQs,qQr,afV]
theorem af1 (c0 : Int) (c1 c2 c3 c4 : LL) (c5 : Int) (c6 c7 c8 c9 : LL) (KY : Int) (Gn Gq Gy Gz GL GN : LL) (Ki : Int) (GS Hm : LL) (sG : WR Fv.ct 238 c1) (NS : Fy c1 ≤ 1048576) (fG : WR Fv.ct 146 c2) (RD : Fy c2 ≤ 1048576) (Gu : WR Fv.ct 258 c3) (NT : Fy c3 ≤ 1048576) (HD : WR Fv.ct 262 c4) (RE : Fy c4 ≤ 1048576) (HE : WR Fv.ct 264 c6) (RF : Fy c6 ≤ 1048576) (Le : WR Fv.ct 149 c7) (WE : Fy c7 ≤ 1048576) (Sh : WR Fv.ct 4 c8) (bc8 : Fy c8 ≤ 1048576) (Lg : WR Fv.ct 151 c9) (WG : Fy c9 ≤ 1048576) (RZ : WR Fv.ct 184 Gn) (aaS : Fy Gn ≤ 1048576) (Sa : WR Fv.ct 154 Gq) (aaT : Fy Gq ≤ 1048576) (Sb : WR Fv.ct 190 Gy) (aaU : Fy Gy ≤ 1048576) (Sc : WR Fv.ct 194 Gz) (aaV : Fy Gz ≤ 1048576) (Sd : WR Fv.ct 3 GL) (aaW : Fy GL ≤ 1048576) (Se : WR Fv.ct 3 GN) (aaX : Fy GN ≤ 1048576) (Sf : WR Fv.ct 157 GS) (aaY : Fy GS ≤ 1048576) (Sg : WR Fv.ct 201 Hm) (aaZ : Fy Hm ≤ 1048576) : OA.c c0 c1 c2 c3 c4 c5 c6 c7 c8 c9 KY Gn Gq Gy Gz GL GN Ki GS Hm = some ⟨[[.int c0,.lst c1,.lst c2,.lst c3,.lst c4,.int c5,.lst c6,.lst c7,.lst c8,.lst c9,.int KY,.lst Gn,.lst Gq,.lst Gy,.lst Gz,.lst GL,.lst GN,.int Ki,.lst GS,.lst Hm]],[]⟩:=by
 rw [OA.eq]; (try dsimp only [gr,gi,gl,gb,gt,Ft,ln,EK,aJ.i,aJ.l,aJ.b,aJ.t])
 try simp (disch:=first | assumption | omega) only [SB,aft,afO,afs,afD,afY,afH,afr,af0,afM,afA,afW]
theorem Vr (xs : LL) (h : WR Fv.ct 3 xs) (hc : Fy xs ≤ 1099511627776) : HY.c xs xs = some ⟨[[.bool true]],[]⟩:=by
 have hl:=FP xs
 rw [HY.eq]; (try dsimp only [gr,gi,gl,gb,gt,Ft,ln,EK,aJ.i,aJ.l,aJ.b,aJ.t]); rw [qQa rfl]
 show HY.l0 xs xs 0 = _
 refine Io (l0:=fun i=>HY.l0 xs xs i) (n:=xs.length) ?_ (fun i hi=>?_)
 ·show HY.l0 xs xs _ = _
  rw [HY.Fx]; (try dsimp only [gr,gi,gl,gb,gt,Ft,ln,EK,aJ.i,aJ.l,aJ.b,aJ.t]); rw [FO (qQb _)]; rfl
 ·obtain ⟨c0,aB⟩:=Uf (h.2 _ (FF hi (z:=[])))
  have sJ:=Gc (FF hi (z:=[]))
  rw [aB] at sJ
  simp only [FQ,FX] at sJ
  show HY.l0 xs xs _ = HY.l0 xs xs _
  rw [HY.Fx]; (try dsimp only [gr,gi,gl,gb,gt,Ft,ln,EK,aJ.i,aJ.l,aJ.b,aJ.t]); rw [FN hi,FR,qQa hi,FW (by omega)]
  simp only [qQd,aB]
  simp (disch:=first | assumption | omega) [-List.getD_eq_getElem?_getD,SB]
theorem abP (c0 : Int) (c1 : LL) (c2 : Int) (sG : WR Fv.ct 3 c1) (NS : Fy c1 ≤ 1099511627776) : SZ.c c0 c1 c2 c0 c1 c2 = some ⟨[[.bool true]],[]⟩:=by
 rw [SZ.eq]; (try dsimp only [gr,gi,gl,gb,gt,Ft,ln,EK,aJ.i,aJ.l,aJ.b,aJ.t])
 simp (disch:=first | assumption | omega) [-List.getD_eq_getElem?_getD,SB,Vr]
theorem abQ (xs : LL) (h : WR Fv.ct 252 xs) (hc : Fy xs ≤ 1099511627776) : Ju.c xs xs = some ⟨[[.bool true]],[]⟩:=by
 have hl:=FP xs
 rw [Ju.eq]; (try dsimp only [gr,gi,gl,gb,gt,Ft,ln,EK,aJ.i,aJ.l,aJ.b,aJ.t]); rw [qQa rfl]
 show Ju.l0 xs xs 0 = _
 refine Io (l0:=fun i=>Ju.l0 xs xs i) (n:=xs.length) ?_ (fun i hi=>?_)
 ·show Ju.l0 xs xs _ = _
  rw [Ju.Fx]; (try dsimp only [gr,gi,gl,gb,gt,Ft,ln,EK,aJ.i,aJ.l,aJ.b,aJ.t]); rw [FO (qQb _)]; rfl
 ·obtain ⟨c0,c1,c2,aB,sG⟩:=Ue (h.2 _ (FF hi (z:=[])))
  have sJ:=Gc (FF hi (z:=[]))
  rw [aB] at sJ
  simp only [FQ,FX] at sJ
  show Ju.l0 xs xs _ = Ju.l0 xs xs _
  rw [Ju.Fx]; (try dsimp only [gr,gi,gl,gb,gt,Ft,ln,EK,aJ.i,aJ.l,aJ.b,aJ.t]); rw [FN hi,FR,qQa hi,FW (by omega)]
  simp only [qQd,aB]
  simp (disch:=first | assumption | omega) [-List.getD_eq_getElem?_getD,SB,abP]
theorem abN (c0 c1 : Int) : SY.c c0 c1 c0 c1 = some ⟨[[.bool true]],[]⟩:=by
 rw [SY.eq]; (try dsimp only [gr,gi,gl,gb,gt,Ft,ln,EK,aJ.i,aJ.l,aJ.b,aJ.t])
 simp (disch:=first | assumption | omega) [-List.getD_eq_getElem?_getD,SB]
theorem abO (xs : LL) (h : WR Fv.ct 278 xs) (hc : Fy xs ≤ 1099511627776) : Jt.c xs xs = some ⟨[[.bool true]],[]⟩:=by
 have hl:=FP xs
 rw [Jt.eq]; (try dsimp only [gr,gi,gl,gb,gt,Ft,ln,EK,aJ.i,aJ.l,aJ.b,aJ.t]); rw [qQa rfl]
 show Jt.l0 xs xs 0 = _
 refine Io (l0:=fun i=>Jt.l0 xs xs i) (n:=xs.length) ?_ (fun i hi=>?_)
 ·show Jt.l0 xs xs _ = _
  rw [Jt.Fx]; (try dsimp only [gr,gi,gl,gb,gt,Ft,ln,EK,aJ.i,aJ.l,aJ.b,aJ.t]); rw [FO (qQb _)]; rfl
 ·obtain ⟨c0,c1,aB⟩:=XP (h.2 _ (FF hi (z:=[])))
  have sJ:=Gc (FF hi (z:=[]))
  rw [aB] at sJ
  simp only [FQ,FX] at sJ
  show Jt.l0 xs xs _ = Jt.l0 xs xs _
  rw [Jt.Fx]; (try dsimp only [gr,gi,gl,gb,gt,Ft,ln,EK,aJ.i,aJ.l,aJ.b,aJ.t]); rw [FN hi,FR,qQa hi,FW (by omega)]
  simp only [qQd,aB]
  simp (disch:=first | assumption | omega) [-List.getD_eq_getElem?_getD,SB,abN]
theorem abD : ∀ (n : Nat) (xs : LL),Fy xs ≤ n → WR Fv.ct 281 xs → Fy xs ≤ 1099511627776 → HX.c xs xs = some ⟨[[.bool true]],[]⟩:=by
 intro n
 induction n with
 | zero =>
  intro xs hn h hc
  have hl:=FP xs
  obtain rfl : xs = []:=qZz (by omega)
  rw [HX.eq]; (try dsimp only [gr,gi,gl,gb,gt,Ft,ln,EK,aJ.i,aJ.l,aJ.b,aJ.t])
  show HX.l0 [] [] 0 = _
  rw [HX.Fx]; (try dsimp only [gr,gi,gl,gb,gt,Ft,ln,EK,aJ.i,aJ.l,aJ.b,aJ.t]); rfl
 | succ n ih =>
  intro xs hn h hc
  have hl:=FP xs
  rw [HX.eq]; (try dsimp only [gr,gi,gl,gb,gt,Ft,ln,EK,aJ.i,aJ.l,aJ.b,aJ.t]); rw [qQa rfl]
  show HX.l0 xs xs 0 = _
  refine Io (l0:=fun i=>HX.l0 xs xs i) (n:=xs.length) ?_ (fun i hi=>?_)
  ·show HX.l0 xs xs _ = _
   rw [HX.Fx]; (try dsimp only [gr,gi,gl,gb,gt,Ft,ln,EK,aJ.i,aJ.l,aJ.b,aJ.t]); rw [FO (qQb _)]; rfl
  ·obtain ⟨c0,c1,c2,c3,aB,Gu⟩:=Wm (h.2 _ (FF hi (z:=[])))
   have sJ:=Gc (FF hi (z:=[]))
   rw [aB] at sJ
   simp only [FQ,FX] at sJ
   show HX.l0 xs xs _ = HX.l0 xs xs _
   rw [HX.Fx]; (try dsimp only [gr,gi,gl,gb,gt,Ft,ln,EK,aJ.i,aJ.l,aJ.b,aJ.t]); rw [FN hi,FR,qQa hi,FW (by omega)]
   simp only [qQd,aB]
   simp (disch:=first | assumption | omega) [-List.getD_eq_getElem?_getD,SB,PB.eq,ih,gr,gi,gl,gb,gt,Ft,ln,EK,aJ.i,aJ.l,aJ.b,aJ.t]
theorem abC (xs : LL) (h : WR Fv.ct 281 xs) (hc : Fy xs ≤ 1099511627776) : HX.c xs xs = some ⟨[[.bool true]],[]⟩:=abD _ xs (qQb _) h hc
theorem abB (c0 c1 c2 : Int) (c3 : LL) (Gu : WR Fv.ct 281 c3) (NT : Fy c3 ≤ 1099511627776) : PB.c c0 c1 c2 c3 c0 c1 c2 c3 = some ⟨[[.bool true]],[]⟩:=by
 rw [PB.eq]; (try dsimp only [gr,gi,gl,gb,gt,Ft,ln,EK,aJ.i,aJ.l,aJ.b,aJ.t])
 simp (disch:=first | assumption | omega) [-List.getD_eq_getElem?_getD,SB,abC]
theorem abW (c0 c1 c2 c3 c4 c5 : Int) (c6 : LL) (HE : WR Fv.ct 281 c6) (RF : Fy c6 ≤ 1099511627776) : Te.c c0 c1 c2 c3 c4 c5 c6 c0 c1 c2 c3 c4 c5 c6 = some ⟨[[.bool true]],[]⟩:=by
 rw [Te.eq]; (try dsimp only [gr,gi,gl,gb,gt,Ft,ln,EK,aJ.i,aJ.l,aJ.b,aJ.t])
 simp (disch:=first | assumption | omega) [-List.getD_eq_getElem?_getD,SB,abB]
theorem abX (xs : LL) (h : WR Fv.ct 283 xs) (hc : Fy xs ≤ 1099511627776) : Jw.c xs xs = some ⟨[[.bool true]],[]⟩:=by
 have hl:=FP xs
 rw [Jw.eq]; (try dsimp only [gr,gi,gl,gb,gt,Ft,ln,EK,aJ.i,aJ.l,aJ.b,aJ.t]); rw [qQa rfl]
 show Jw.l0 xs xs 0 = _
 refine Io (l0:=fun i=>Jw.l0 xs xs i) (n:=xs.length) ?_ (fun i hi=>?_)
 ·show Jw.l0 xs xs _ = _
  rw [Jw.Fx]; (try dsimp only [gr,gi,gl,gb,gt,Ft,ln,EK,aJ.i,aJ.l,aJ.b,aJ.t]); rw [FO (qQb _)]; rfl
 ·obtain ⟨c0,c1,c2,c3,c4,c5,c6,aB,HE⟩:=Wn (h.2 _ (FF hi (z:=[])))
  have sJ:=Gc (FF hi (z:=[]))
  rw [aB] at sJ
  simp only [FQ,FX] at sJ
  show Jw.l0 xs xs _ = Jw.l0 xs xs _
  rw [Jw.Fx]; (try dsimp only [gr,gi,gl,gb,gt,Ft,ln,EK,aJ.i,aJ.l,aJ.b,aJ.t]); rw [FN hi,FR,qQa hi,FW (by omega)]
  simp only [qQd,aB]
  simp (disch:=first | assumption | omega) [-List.getD_eq_getElem?_getD,SB,abW]
theorem abU (c0 : Int) (c1 : LL) (sG : WR Fv.ct 283 c1) (NS : Fy c1 ≤ 1099511627776) : Tc.c c0 c1 c0 c1 = some ⟨[[.bool true]],[]⟩:=by
 rw [Tc.eq]; (try dsimp only [gr,gi,gl,gb,gt,Ft,ln,EK,aJ.i,aJ.l,aJ.b,aJ.t])
 simp (disch:=first | assumption | omega) [-List.getD_eq_getElem?_getD,SB,abX]
theorem YF (c0 c1 : Int) (c2 : LL) (c3 : Int) (c4 : LL) (fG : WR Fv.ct 278 c2) (RD : Fy c2 ≤ 1099511627776) (HD : WR Fv.ct 283 c4) (RE : Fy c4 ≤ 1099511627776) : QS.c c0 c1 c2 c3 c4 c0 c1 c2 c3 c4 = some ⟨[[.bool true]],[]⟩:=by
 rw [QS.eq]; (try dsimp only [gr,gi,gl,gb,gt,Ft,ln,EK,aJ.i,aJ.l,aJ.b,aJ.t])
 simp (disch:=first | assumption | omega) [-List.getD_eq_getElem?_getD,SB,abO,abU]
theorem abJ (xs : LL) (h : WR Fv.ct 164 xs) (hc : Fy xs ≤ 1099511627776) : Jr.c xs xs = some ⟨[[.bool true]],[]⟩:=by
 have hl:=FP xs
 rw [Jr.eq]; (try dsimp only [gr,gi,gl,gb,gt,Ft,ln,EK,aJ.i,aJ.l,aJ.b,aJ.t]); rw [qQa rfl]
 show Jr.l0 xs xs 0 = _
 refine Io (l0:=fun i=>Jr.l0 xs xs i) (n:=xs.length) ?_ (fun i hi=>?_)
 ·show Jr.l0 xs xs _ = _
  rw [Jr.Fx]; (try dsimp only [gr,gi,gl,gb,gt,Ft,ln,EK,aJ.i,aJ.l,aJ.b,aJ.t]); rw [FO (qQb _)]; rfl
 ·obtain ⟨c0,c1,c2,c3,c4,aB,fG,HD⟩:=Ud (h.2 _ (FF hi (z:=[])))
  have sJ:=Gc (FF hi (z:=[]))
  rw [aB] at sJ
  simp only [FQ,FX] at sJ
  show Jr.l0 xs xs _ = Jr.l0 xs xs _
  rw [Jr.Fx]; (try dsimp only [gr,gi,gl,gb,gt,Ft,ln,EK,aJ.i,aJ.l,aJ.b,aJ.t]); rw [FN hi,FR,qQa hi,FW (by omega)]
  simp only [qQd,aB]
  simp (disch:=first | assumption | omega) [-List.getD_eq_getElem?_getD,SB,YF]
theorem abK (c0 c1 c2 c3 c4 c5 : Int) : SW.c c0 c1 c2 c3 c4 c5 c0 c1 c2 c3 c4 c5 = some ⟨[[.bool true]],[]⟩:=by
 rw [SW.eq]; (try dsimp only [gr,gi,gl,gb,gt,Ft,ln,EK,aJ.i,aJ.l,aJ.b,aJ.t])
 simp (disch:=first | assumption | omega) [-List.getD_eq_getElem?_getD,SB]
theorem YG (xs : LL) (h : WR Fv.ct 256 xs) (hc : Fy xs ≤ 1099511627776) : IQ.c xs xs = some ⟨[[.bool true]],[]⟩:=by
 have hl:=FP xs
 rw [IQ.eq]; (try dsimp only [gr,gi,gl,gb,gt,Ft,ln,EK,aJ.i,aJ.l,aJ.b,aJ.t]); rw [qQa rfl]
 show IQ.l0 xs xs 0 = _
 refine Io (l0:=fun i=>IQ.l0 xs xs i) (n:=xs.length) ?_ (fun i hi=>?_)
 ·show IQ.l0 xs xs _ = _
  rw [IQ.Fx]; (try dsimp only [gr,gi,gl,gb,gt,Ft,ln,EK,aJ.i,aJ.l,aJ.b,aJ.t]); rw [FO (qQb _)]; rfl
 ·obtain ⟨c0,c1,c2,c3,c4,c5,aB⟩:=XN (h.2 _ (FF hi (z:=[])))
  have sJ:=Gc (FF hi (z:=[]))
  rw [aB] at sJ
  simp only [FQ,FX] at sJ
  show IQ.l0 xs xs _ = IQ.l0 xs xs _
  rw [IQ.Fx]; (try dsimp only [gr,gi,gl,gb,gt,Ft,ln,EK,aJ.i,aJ.l,aJ.b,aJ.t]); rw [FN hi,FR,qQa hi,FW (by omega)]
  simp only [qQd,aB]
  simp (disch:=first | assumption | omega) [-List.getD_eq_getElem?_getD,SB,abK]
theorem abV (c0 c1 : Int) : Td.c c0 c1 c0 c1 = some ⟨[[.bool true]],[]⟩:=by
 rw [Td.eq]; (try dsimp only [gr,gi,gl,gb,gt,Ft,ln,EK,aJ.i,aJ.l,aJ.b,aJ.t])
 simp (disch:=first | assumption | omega) [-List.getD_eq_getElem?_getD,SB]
theorem YH (xs : LL) (h : WR Fv.ct 260 xs) (hc : Fy xs ≤ 1099511627776) : IS.c xs xs = some ⟨[[.bool true]],[]⟩:=by
 have hl:=FP xs
 rw [IS.eq]; (try dsimp only [gr,gi,gl,gb,gt,Ft,ln,EK,aJ.i,aJ.l,aJ.b,aJ.t]); rw [qQa rfl]
 show IS.l0 xs xs 0 = _
 refine Io (l0:=fun i=>IS.l0 xs xs i) (n:=xs.length) ?_ (fun i hi=>?_)
 ·show IS.l0 xs xs _ = _
  rw [IS.Fx]; (try dsimp only [gr,gi,gl,gb,gt,Ft,ln,EK,aJ.i,aJ.l,aJ.b,aJ.t]); rw [FO (qQb _)]; rfl
 ·obtain ⟨c0,c1,aB⟩:=XO (h.2 _ (FF hi (z:=[])))
  have sJ:=Gc (FF hi (z:=[]))
  rw [aB] at sJ
  simp only [FQ,FX] at sJ
  show IS.l0 xs xs _ = IS.l0 xs xs _
  rw [IS.Fx]; (try dsimp only [gr,gi,gl,gb,gt,Ft,ln,EK,aJ.i,aJ.l,aJ.b,aJ.t]); rw [FN hi,FR,qQa hi,FW (by omega)]
  simp only [qQd,aB]
  simp (disch:=first | assumption | omega) [-List.getD_eq_getElem?_getD,SB,abV]
theorem abz (c0 c1 c2 c3 c4 c5 : Int) : SR.c c0 c1 c2 c3 c4 c5 c0 c1 c2 c3 c4 c5 = some ⟨[[.bool true]],[]⟩:=by
 rw [SR.eq]; (try dsimp only [gr,gi,gl,gb,gt,Ft,ln,EK,aJ.i,aJ.l,aJ.b,aJ.t])
 simp (disch:=first | assumption | omega) [-List.getD_eq_getElem?_getD,SB]
theorem abA (xs : LL) (h : WR Fv.ct 230 xs) (hc : Fy xs ≤ 1099511627776) : Jn.c xs xs = some ⟨[[.bool true]],[]⟩:=by
 have hl:=FP xs
 rw [Jn.eq]; (try dsimp only [gr,gi,gl,gb,gt,Ft,ln,EK,aJ.i,aJ.l,aJ.b,aJ.t]); rw [qQa rfl]
 show Jn.l0 xs xs 0 = _
 refine Io (l0:=fun i=>Jn.l0 xs xs i) (n:=xs.length) ?_ (fun i hi=>?_)
 ·show Jn.l0 xs xs _ = _
  rw [Jn.Fx]; (try dsimp only [gr,gi,gl,gb,gt,Ft,ln,EK,aJ.i,aJ.l,aJ.b,aJ.t]); rw [FO (qQb _)]; rfl
 ·obtain ⟨c0,c1,c2,c3,c4,c5,aB⟩:=XM (h.2 _ (FF hi (z:=[])))
  have sJ:=Gc (FF hi (z:=[]))
  rw [aB] at sJ
  simp only [FQ,FX] at sJ
  show Jn.l0 xs xs _ = Jn.l0 xs xs _
  rw [Jn.Fx]; (try dsimp only [gr,gi,gl,gb,gt,Ft,ln,EK,aJ.i,aJ.l,aJ.b,aJ.t]); rw [FN hi,FR,qQa hi,FW (by omega)]
  simp only [qQd,aB]
  simp (disch:=first | assumption | omega) [-List.getD_eq_getElem?_getD,SB,abz]
theorem aby (c0 c1 c2 c3 : LL) (c4 : Int) (c5 : LL) (jz : WR Fv.ct 252 c0) (WC : Fy c0 ≤ 1099511627776) (sG : WR Fv.ct 164 c1) (NS : Fy c1 ≤ 1099511627776) (fG : WR Fv.ct 256 c2) (RD : Fy c2 ≤ 1099511627776) (Gu : WR Fv.ct 260 c3) (NT : Fy c3 ≤ 1099511627776) (Ld : WR Fv.ct 230 c5) (WD : Fy c5 ≤ 1099511627776) : SQ.c c0 c1 c2 c3 c4 c5 c0 c1 c2 c3 c4 c5 = some ⟨[[.bool true]],[]⟩:=by
 rw [SQ.eq]; (try dsimp only [gr,gi,gl,gb,gt,Ft,ln,EK,aJ.i,aJ.l,aJ.b,aJ.t])
 simp (disch:=first | assumption | omega) [-List.getD_eq_getElem?_getD,SB,abQ,abJ,YG,YH,abA]
theorem WX (c0 c1 c2 c3 c4 c5 : Int) : QT.c c0 c1 c2 c3 c4 c5 c0 c1 c2 c3 c4 c5 = some ⟨[[.bool true]],[]⟩:=by
 rw [QT.eq]; (try dsimp only [gr,gi,gl,gb,gt,Ft,ln,EK,aJ.i,aJ.l,aJ.b,aJ.t])
 simp (disch:=first | assumption | omega) [-List.getD_eq_getElem?_getD,SB]
theorem abY (c0 c1 c2 c3 c4 c5 c6 c7 : Int) : Tf.c c0 c1 c2 c3 c4 c5 c6 c7 c0 c1 c2 c3 c4 c5 c6 c7 = some ⟨[[.bool true]],[]⟩:=by
 rw [Tf.eq]; (try dsimp only [gr,gi,gl,gb,gt,Ft,ln,EK,aJ.i,aJ.l,aJ.b,aJ.t])
 simp (disch:=first | assumption | omega) [-List.getD_eq_getElem?_getD,SB,WX]
theorem abZ (xs : LL) (h : WR Fv.ct 286 xs) (hc : Fy xs ≤ 1099511627776) : Jx.c xs xs = some ⟨[[.bool true]],[]⟩:=by
 have hl:=FP xs
 rw [Jx.eq]; (try dsimp only [gr,gi,gl,gb,gt,Ft,ln,EK,aJ.i,aJ.l,aJ.b,aJ.t]); rw [qQa rfl]
 show Jx.l0 xs xs 0 = _
 refine Io (l0:=fun i=>Jx.l0 xs xs i) (n:=xs.length) ?_ (fun i hi=>?_)
 ·show Jx.l0 xs xs _ = _
  rw [Jx.Fx]; (try dsimp only [gr,gi,gl,gb,gt,Ft,ln,EK,aJ.i,aJ.l,aJ.b,aJ.t]); rw [FO (qQb _)]; rfl
 ·obtain ⟨c0,c1,c2,c3,c4,c5,c6,c7,aB⟩:=Rk (h.2 _ (FF hi (z:=[])))
  have sJ:=Gc (FF hi (z:=[]))
  rw [aB] at sJ
  simp only [FQ,FX] at sJ
  show Jx.l0 xs xs _ = Jx.l0 xs xs _
  rw [Jx.Fx]; (try dsimp only [gr,gi,gl,gb,gt,Ft,ln,EK,aJ.i,aJ.l,aJ.b,aJ.t]); rw [FN hi,FR,qQa hi,FW (by omega)]
  simp only [qQd,aB]
  simp (disch:=first | assumption | omega) [-List.getD_eq_getElem?_getD,SB,abY]
theorem abS (c0 c1 c2 : Int) (c3 : LL) (c4 : Int) (c5 c6 c7 : LL) (c8 : Int) (c9 : LL) (Gu : WR Fv.ct 278 c3) (NT : Fy c3 ≤ 1099511627776) (Ld : WR Fv.ct 283 c5) (WD : Fy c5 ≤ 1099511627776) (HE : WR Fv.ct 256 c6) (RF : Fy c6 ≤ 1099511627776) (Le : WR Fv.ct 260 c7) (WE : Fy c7 ≤ 1099511627776) (Lg : WR Fv.ct 286 c9) (WG : Fy c9 ≤ 1099511627776) : Tb.c c0 c1 c2 c3 c4 c5 c6 c7 c8 c9 c0 c1 c2 c3 c4 c5 c6 c7 c8 c9 = some ⟨[[.bool true]],[]⟩:=by
 rw [Tb.eq]; (try dsimp only [gr,gi,gl,gb,gt,Ft,ln,EK,aJ.i,aJ.l,aJ.b,aJ.t])
 simp (disch:=first | assumption | omega) [-List.getD_eq_getElem?_getD,SB,YF,YG,YH,abZ]
theorem abT (xs : LL) (h : WR Fv.ct 167 xs) (hc : Fy xs ≤ 1099511627776) : Jv.c xs xs = some ⟨[[.bool true]],[]⟩:=by
 have hl:=FP xs
 rw [Jv.eq]; (try dsimp only [gr,gi,gl,gb,gt,Ft,ln,EK,aJ.i,aJ.l,aJ.b,aJ.t]); rw [qQa rfl]
 show Jv.l0 xs xs 0 = _
 refine Io (l0:=fun i=>Jv.l0 xs xs i) (n:=xs.length) ?_ (fun i hi=>?_)
 ·show Jv.l0 xs xs _ = _
  rw [Jv.Fx]; (try dsimp only [gr,gi,gl,gb,gt,Ft,ln,EK,aJ.i,aJ.l,aJ.b,aJ.t]); rw [FO (qQb _)]; rfl
 ·obtain ⟨c0,c1,c2,c3,c4,c5,c6,c7,c8,c9,aB,Gu,Ld,HE,Le,Lg⟩:=OY (h.2 _ (FF hi (z:=[])))
  have sJ:=Gc (FF hi (z:=[]))
  rw [aB] at sJ
  simp only [FQ,FX] at sJ
  show Jv.l0 xs xs _ = Jv.l0 xs xs _
  rw [Jv.Fx]; (try dsimp only [gr,gi,gl,gb,gt,Ft,ln,EK,aJ.i,aJ.l,aJ.b,aJ.t]); rw [FN hi,FR,qQa hi,FW (by omega)]
  simp only [qQd,aB]
  simp (disch:=first | assumption | omega) [-List.getD_eq_getElem?_getD,SB,abS]
theorem abx (xs : LL) (h : WR Fv.ct 4 xs) (hc : Fy xs ≤ 1099511627776) : Jm.c xs xs = some ⟨[[.bool true]],[]⟩:=by
 have hl:=FP xs
 rw [Jm.eq]; (try dsimp only [gr,gi,gl,gb,gt,Ft,ln,EK,aJ.i,aJ.l,aJ.b,aJ.t]); rw [qQa rfl]
 show Jm.l0 xs xs 0 = _
 refine Io (l0:=fun i=>Jm.l0 xs xs i) (n:=xs.length) ?_ (fun i hi=>?_)
 ·show Jm.l0 xs xs _ = _
  rw [Jm.Fx]; (try dsimp only [gr,gi,gl,gb,gt,Ft,ln,EK,aJ.i,aJ.l,aJ.b,aJ.t]); rw [FO (qQb _)]; rfl
 ·obtain ⟨c0,aB⟩:=Ug (h.2 _ (FF hi (z:=[])))
  have sJ:=Gc (FF hi (z:=[]))
  rw [aB] at sJ
  simp only [FQ,FX] at sJ
  show Jm.l0 xs xs _ = Jm.l0 xs xs _
  rw [Jm.Fx]; (try dsimp only [gr,gi,gl,gb,gt,Ft,ln,EK,aJ.i,aJ.l,aJ.b,aJ.t]); rw [FN hi,FR,qQa hi,FW (by omega)]
  simp only [qQd,aB]
  simp (disch:=first | assumption | omega) [-List.getD_eq_getElem?_getD,SB]
theorem abG (c0 c1 c2 c3 c4 c5 c6 c7 c8 : Int) : SU.c c0 c1 c2 c3 c4 c5 c6 c7 c8 c0 c1 c2 c3 c4 c5 c6 c7 c8 = some ⟨[[.bool true]],[]⟩:=by
 rw [SU.eq]; (try dsimp only [gr,gi,gl,gb,gt,Ft,ln,EK,aJ.i,aJ.l,aJ.b,aJ.t])
 simp (disch:=first | assumption | omega) [-List.getD_eq_getElem?_getD,SB]
theorem abH (xs : LL) (h : WR Fv.ct 96 xs) (hc : Fy xs ≤ 1099511627776) : Jp.c xs xs = some ⟨[[.bool true]],[]⟩:=by
 have hl:=FP xs
 rw [Jp.eq]; (try dsimp only [gr,gi,gl,gb,gt,Ft,ln,EK,aJ.i,aJ.l,aJ.b,aJ.t]); rw [qQa rfl]
 show Jp.l0 xs xs 0 = _
 refine Io (l0:=fun i=>Jp.l0 xs xs i) (n:=xs.length) ?_ (fun i hi=>?_)
 ·show Jp.l0 xs xs _ = _
  rw [Jp.Fx]; (try dsimp only [gr,gi,gl,gb,gt,Ft,ln,EK,aJ.i,aJ.l,aJ.b,aJ.t]); rw [FO (qQb _)]; rfl
 ·obtain ⟨c0,c1,c2,c3,c4,c5,c6,c7,c8,aB⟩:=XQ (h.2 _ (FF hi (z:=[])))
  have sJ:=Gc (FF hi (z:=[]))
  rw [aB] at sJ
  simp only [FQ,FX] at sJ
  show Jp.l0 xs xs _ = Jp.l0 xs xs _
  rw [Jp.Fx]; (try dsimp only [gr,gi,gl,gb,gt,Ft,ln,EK,aJ.i,aJ.l,aJ.b,aJ.t]); rw [FN hi,FR,qQa hi,FW (by omega)]
  simp only [qQd,aB]
  simp (disch:=first | assumption | omega) [-List.getD_eq_getElem?_getD,SB,abG]
theorem abI (xs : LL) (h : WR Fv.ct 90 xs) (hc : Fy xs ≤ 1099511627776) : Jq.c xs xs = some ⟨[[.bool true]],[]⟩:=by
 have hl:=FP xs
 rw [Jq.eq]; (try dsimp only [gr,gi,gl,gb,gt,Ft,ln,EK,aJ.i,aJ.l,aJ.b,aJ.t]); rw [qQa rfl]
 show Jq.l0 xs xs 0 = _
 refine Io (l0:=fun i=>Jq.l0 xs xs i) (n:=xs.length) ?_ (fun i hi=>?_)
 ·show Jq.l0 xs xs _ = _
  rw [Jq.Fx]; (try dsimp only [gr,gi,gl,gb,gt,Ft,ln,EK,aJ.i,aJ.l,aJ.b,aJ.t]); rw [FO (qQb _)]; rfl
 ·obtain ⟨c0,aB,jz⟩:=Rl (h.2 _ (FF hi (z:=[])))
  have sJ:=Gc (FF hi (z:=[]))
  rw [aB] at sJ
  simp only [FQ,FX] at sJ
  show Jq.l0 xs xs _ = Jq.l0 xs xs _
  rw [Jq.Fx]; (try dsimp only [gr,gi,gl,gb,gt,Ft,ln,EK,aJ.i,aJ.l,aJ.b,aJ.t]); rw [FN hi,FR,qQa hi,FW (by omega)]
  simp only [qQd,aB]
  simp (disch:=first | assumption | omega) [-List.getD_eq_getElem?_getD,SB,abH]
theorem ab2 (c0 c1 : Int) : Th.c c0 c1 c0 c1 = some ⟨[[.bool true]],[]⟩:=by
 rw [Th.eq]; (try dsimp only [gr,gi,gl,gb,gt,Ft,ln,EK,aJ.i,aJ.l,aJ.b,aJ.t])
 simp (disch:=first | assumption | omega) [-List.getD_eq_getElem?_getD,SB]
theorem ab3 (xs : LL) (h : WR Fv.ct 182 xs) (hc : Fy xs ≤ 1099511627776) : Jz.c xs xs = some ⟨[[.bool true]],[]⟩:=by
 have hl:=FP xs
 rw [Jz.eq]; (try dsimp only [gr,gi,gl,gb,gt,Ft,ln,EK,aJ.i,aJ.l,aJ.b,aJ.t]); rw [qQa rfl]
 show Jz.l0 xs xs 0 = _
 refine Io (l0:=fun i=>Jz.l0 xs xs i) (n:=xs.length) ?_ (fun i hi=>?_)
 ·show Jz.l0 xs xs _ = _
  rw [Jz.Fx]; (try dsimp only [gr,gi,gl,gb,gt,Ft,ln,EK,aJ.i,aJ.l,aJ.b,aJ.t]); rw [FO (qQb _)]; rfl
 ·obtain ⟨c0,c1,aB⟩:=Wl (h.2 _ (FF hi (z:=[])))
  have sJ:=Gc (FF hi (z:=[]))
  rw [aB] at sJ
  simp only [FQ,FX] at sJ
  show Jz.l0 xs xs _ = Jz.l0 xs xs _
  rw [Jz.Fx]; (try dsimp only [gr,gi,gl,gb,gt,Ft,ln,EK,aJ.i,aJ.l,aJ.b,aJ.t]); rw [FN hi,FR,qQa hi,FW (by omega)]
  simp only [qQd,aB]
  simp (disch:=first | assumption | omega) [-List.getD_eq_getElem?_getD,SB,ab2]
theorem abL (c0 c1 c2 : Int) (c3 : LL) (c4 c5 : Int) (c6 : Bool) (Gu : WR Fv.ct 3 c3) (NT : Fy c3 ≤ 1099511627776) : SX.c c0 c1 c2 c3 c4 c5 c6 c0 c1 c2 c3 c4 c5 c6 = some ⟨[[.bool true]],[]⟩:=by
 rw [SX.eq]; (try dsimp only [gr,gi,gl,gb,gt,Ft,ln,EK,aJ.i,aJ.l,aJ.b,aJ.t])
 simp (disch:=first | assumption | omega) [-List.getD_eq_getElem?_getD,SB,Vr]
theorem abM (xs : LL) (h : WR Fv.ct 185 xs) (hc : Fy xs ≤ 1099511627776) : Js.c xs xs = some ⟨[[.bool true]],[]⟩:=by
 have hl:=FP xs
 rw [Js.eq]; (try dsimp only [gr,gi,gl,gb,gt,Ft,ln,EK,aJ.i,aJ.l,aJ.b,aJ.t]); rw [qQa rfl]
 show Js.l0 xs xs 0 = _
 refine Io (l0:=fun i=>Js.l0 xs xs i) (n:=xs.length) ?_ (fun i hi=>?_)
 ·show Js.l0 xs xs _ = _
  rw [Js.Fx]; (try dsimp only [gr,gi,gl,gb,gt,Ft,ln,EK,aJ.i,aJ.l,aJ.b,aJ.t]); rw [FO (qQb _)]; rfl
 ·obtain ⟨c0,c1,c2,c3,c4,c5,c6,aB,Gu⟩:=PK (h.2 _ (FF hi (z:=[])))
  have sJ:=Gc (FF hi (z:=[]))
  rw [aB] at sJ
  simp only [FQ,FX] at sJ
  show Js.l0 xs xs _ = Js.l0 xs xs _
  rw [Js.Fx]; (try dsimp only [gr,gi,gl,gb,gt,Ft,ln,EK,aJ.i,aJ.l,aJ.b,aJ.t]); rw [FN hi,FR,qQa hi,FW (by omega)]
  simp only [qQd,aB]
  simp (disch:=first | assumption | omega) [-List.getD_eq_getElem?_getD,SB,abL]
theorem abv (c0 c1 c2 : Int) : SP.c c0 c1 c2 c0 c1 c2 = some ⟨[[.bool true]],[]⟩:=by
 rw [SP.eq]; (try dsimp only [gr,gi,gl,gb,gt,Ft,ln,EK,aJ.i,aJ.l,aJ.b,aJ.t])
 simp (disch:=first | assumption | omega) [-List.getD_eq_getElem?_getD,SB]
theorem abw (xs : LL) (h : WR Fv.ct 188 xs) (hc : Fy xs ≤ 1099511627776) : Jl.c xs xs = some ⟨[[.bool true]],[]⟩:=by
 have hl:=FP xs
 rw [Jl.eq]; (try dsimp only [gr,gi,gl,gb,gt,Ft,ln,EK,aJ.i,aJ.l,aJ.b,aJ.t]); rw [qQa rfl]
 show Jl.l0 xs xs 0 = _
 refine Io (l0:=fun i=>Jl.l0 xs xs i) (n:=xs.length) ?_ (fun i hi=>?_)
 ·show Jl.l0 xs xs _ = _
  rw [Jl.Fx]; (try dsimp only [gr,gi,gl,gb,gt,Ft,ln,EK,aJ.i,aJ.l,aJ.b,aJ.t]); rw [FO (qQb _)]; rfl
 ·obtain ⟨c0,c1,c2,aB⟩:=XJ (h.2 _ (FF hi (z:=[])))
  have sJ:=Gc (FF hi (z:=[]))
  rw [aB] at sJ
  simp only [FQ,FX] at sJ
  show Jl.l0 xs xs _ = Jl.l0 xs xs _
  rw [Jl.Fx]; (try dsimp only [gr,gi,gl,gb,gt,Ft,ln,EK,aJ.i,aJ.l,aJ.b,aJ.t]); rw [FN hi,FR,qQa hi,FW (by omega)]
  simp only [qQd,aB]
  simp (disch:=first | assumption | omega) [-List.getD_eq_getElem?_getD,SB,abv]
theorem ab4 (c0 c1 c2 c3 : Int) : Ti.c c0 c1 c2 c3 c0 c1 c2 c3 = some ⟨[[.bool true]],[]⟩:=by
 rw [Ti.eq]; (try dsimp only [gr,gi,gl,gb,gt,Ft,ln,EK,aJ.i,aJ.l,aJ.b,aJ.t])
 simp (disch:=first | assumption | omega) [-List.getD_eq_getElem?_getD,SB]
theorem ab5 (xs : LL) (h : WR Fv.ct 192 xs) (hc : Fy xs ≤ 1099511627776) : JA.c xs xs = some ⟨[[.bool true]],[]⟩:=by
 have hl:=FP xs
 rw [JA.eq]; (try dsimp only [gr,gi,gl,gb,gt,Ft,ln,EK,aJ.i,aJ.l,aJ.b,aJ.t]); rw [qQa rfl]
 show JA.l0 xs xs 0 = _
 refine Io (l0:=fun i=>JA.l0 xs xs i) (n:=xs.length) ?_ (fun i hi=>?_)
 ·show JA.l0 xs xs _ = _
  rw [JA.Fx]; (try dsimp only [gr,gi,gl,gb,gt,Ft,ln,EK,aJ.i,aJ.l,aJ.b,aJ.t]); rw [FO (qQb _)]; rfl
 ·obtain ⟨c0,c1,c2,c3,aB⟩:=XK (h.2 _ (FF hi (z:=[])))
  have sJ:=Gc (FF hi (z:=[]))
  rw [aB] at sJ
  simp only [FQ,FX] at sJ
  show JA.l0 xs xs _ = JA.l0 xs xs _
  rw [JA.Fx]; (try dsimp only [gr,gi,gl,gb,gt,Ft,ln,EK,aJ.i,aJ.l,aJ.b,aJ.t]); rw [FN hi,FR,qQa hi,FW (by omega)]
  simp only [qQd,aB]
  simp (disch:=first | assumption | omega) [-List.getD_eq_getElem?_getD,SB,ab4]
theorem abR (c0 c1 : LL) (c2 : Int) (jz : WR Fv.ct 3 c0) (WC : Fy c0 ≤ 1099511627776) (sG : WR Fv.ct 3 c1) (NS : Fy c1 ≤ 1099511627776) : Ta.c c0 c1 c2 c0 c1 c2 = some ⟨[[.bool true]],[]⟩:=by
 rw [Ta.eq]; (try dsimp only [gr,gi,gl,gb,gt,Ft,ln,EK,aJ.i,aJ.l,aJ.b,aJ.t])
 simp (disch:=first | assumption | omega) [-List.getD_eq_getElem?_getD,SB,Vr]
theorem abE (c0 c1 c2 c3 : Int) (c4 : LL) (c5 : Bool) (HD : WR Fv.ct 3 c4) (RE : Fy c4 ≤ 1099511627776) : SS.c c0 c1 c2 c3 c4 c5 c0 c1 c2 c3 c4 c5 = some ⟨[[.bool true]],[]⟩:=by
 rw [SS.eq]; (try dsimp only [gr,gi,gl,gb,gt,Ft,ln,EK,aJ.i,aJ.l,aJ.b,aJ.t])
 simp (disch:=first | assumption | omega) [-List.getD_eq_getElem?_getD,SB,Vr]
theorem abF (xs : LL) (h : WR Fv.ct 94 xs) (hc : Fy xs ≤ 1099511627776) : Jo.c xs xs = some ⟨[[.bool true]],[]⟩:=by
 have hl:=FP xs
 rw [Jo.eq]; (try dsimp only [gr,gi,gl,gb,gt,Ft,ln,EK,aJ.i,aJ.l,aJ.b,aJ.t]); rw [qQa rfl]
 show Jo.l0 xs xs 0 = _
 refine Io (l0:=fun i=>Jo.l0 xs xs i) (n:=xs.length) ?_ (fun i hi=>?_)
 ·show Jo.l0 xs xs _ = _
  rw [Jo.Fx]; (try dsimp only [gr,gi,gl,gb,gt,Ft,ln,EK,aJ.i,aJ.l,aJ.b,aJ.t]); rw [FO (qQb _)]; rfl
 ·obtain ⟨c0,c1,c2,c3,c4,c5,aB,HD⟩:=Ui (h.2 _ (FF hi (z:=[])))
  have sJ:=Gc (FF hi (z:=[]))
  rw [aB] at sJ
  simp only [FQ,FX] at sJ
  show Jo.l0 xs xs _ = Jo.l0 xs xs _
  rw [Jo.Fx]; (try dsimp only [gr,gi,gl,gb,gt,Ft,ln,EK,aJ.i,aJ.l,aJ.b,aJ.t]); rw [FN hi,FR,qQa hi,FW (by omega)]
  simp only [qQd,aB]
  simp (disch:=first | assumption | omega) [-List.getD_eq_getElem?_getD,SB,abE]
theorem ab0 (c0 c1 c2 c3 c4 c5 c6 c7 c8 : Int) (c9 : Bool) : Tg.c c0 c1 c2 c3 c4 c5 c6 c7 c8 c9 c0 c1 c2 c3 c4 c5 c6 c7 c8 c9 = some ⟨[[.bool true]],[]⟩:=by
 rw [Tg.eq]; (try dsimp only [gr,gi,gl,gb,gt,Ft,ln,EK,aJ.i,aJ.l,aJ.b,aJ.t])
 simp (disch:=first | assumption | omega) [-List.getD_eq_getElem?_getD,SB,WX]
theorem ab1 (xs : LL) (h : WR Fv.ct 198 xs) (hc : Fy xs ≤ 1099511627776) : Jy.c xs xs = some ⟨[[.bool true]],[]⟩:=by
 have hl:=FP xs
 rw [Jy.eq]; (try dsimp only [gr,gi,gl,gb,gt,Ft,ln,EK,aJ.i,aJ.l,aJ.b,aJ.t]); rw [qQa rfl]
 show Jy.l0 xs xs 0 = _
 refine Io (l0:=fun i=>Jy.l0 xs xs i) (n:=xs.length) ?_ (fun i hi=>?_)
 ·show Jy.l0 xs xs _ = _
  rw [Jy.Fx]; (try dsimp only [gr,gi,gl,gb,gt,Ft,ln,EK,aJ.i,aJ.l,aJ.b,aJ.t]); rw [FO (qQb _)]; rfl
 ·obtain ⟨c0,c1,c2,c3,c4,c5,c6,c7,c8,c9,aB⟩:=XL (h.2 _ (FF hi (z:=[])))
  have sJ:=Gc (FF hi (z:=[]))
  rw [aB] at sJ
  simp only [FQ,FX] at sJ
  show Jy.l0 xs xs _ = Jy.l0 xs xs _
  rw [Jy.Fx]; (try dsimp only [gr,gi,gl,gb,gt,Ft,ln,EK,aJ.i,aJ.l,aJ.b,aJ.t]); rw [FN hi,FR,qQa hi,FW (by omega)]
  simp only [qQd,aB]
  simp (disch:=first | assumption | omega) [-List.getD_eq_getElem?_getD,SB,ab0]
theorem YI (c0 : Int) (c1 c2 c3 c4 : LL) (c5 : Int) (c6 c7 c8 c9 : LL) (KY : Int) (Gn Gq Gy Gz GL GN : LL) (Ki : Int) (GS Hm : LL) (sG : WR Fv.ct 252 c1) (NS : Fy c1 ≤ 1099511627776) (fG : WR Fv.ct 164 c2) (RD : Fy c2 ≤ 1099511627776) (Gu : WR Fv.ct 256 c3) (NT : Fy c3 ≤ 1099511627776) (HD : WR Fv.ct 260 c4) (RE : Fy c4 ≤ 1099511627776) (HE : WR Fv.ct 230 c6) (RF : Fy c6 ≤ 1099511627776) (Le : WR Fv.ct 167 c7) (WE : Fy c7 ≤ 1099511627776) (Sh : WR Fv.ct 4 c8) (bc8 : Fy c8 ≤ 1099511627776) (Lg : WR Fv.ct 90 c9) (WG : Fy c9 ≤ 1099511627776) (RZ : WR Fv.ct 182 Gn) (aaS : Fy Gn ≤ 1099511627776) (Sa : WR Fv.ct 185 Gq) (aaT : Fy Gq ≤ 1099511627776) (Sb : WR Fv.ct 188 Gy) (aaU : Fy Gy ≤ 1099511627776) (Sc : WR Fv.ct 192 Gz) (aaV : Fy Gz ≤ 1099511627776) (Sd : WR Fv.ct 3 GL) (aaW : Fy GL ≤ 1099511627776) (Se : WR Fv.ct 3 GN) (aaX : Fy GN ≤ 1099511627776) (Sf : WR Fv.ct 94 GS) (aaY : Fy GS ≤ 1099511627776) (Sg : WR Fv.ct 198 Hm) (aaZ : Fy Hm ≤ 1099511627776) : Oy.c c0 c1 c2 c3 c4 c5 c6 c7 c8 c9 KY Gn Gq Gy Gz GL GN Ki GS Hm c0 c1 c2 c3 c4 c5 c6 c7 c8 c9 KY Gn Gq Gy Gz GL GN Ki GS Hm = some ⟨[[.bool true]],[]⟩:=by
 rw [Oy.eq]; (try dsimp only [gr,gi,gl,gb,gt,Ft,ln,EK,aJ.i,aJ.l,aJ.b,aJ.t])
 simp (disch:=first | assumption | omega) [-List.getD_eq_getElem?_getD,SB,aby,abT,abx,abI,ab3,abM,abw,ab5,abR,abF,ab1]
theorem UG (xs : LL) (h : WR Fv.ct 3 xs) {l : Int} (p0 : 0 ≤ l) (q0 : l ≤ 1048576) : Ob.c xs l = some ⟨[[.int (Gd (Fy xs) l)]],[]⟩:=by
 rw [Ob.eq]; (try dsimp only [gr,gi,gl,gb,gt,Ft,ln,EK,aJ.i,aJ.l,aJ.b,aJ.t]); rw [HP]
 refine Il (l0:=fun v=>some ⟨[[.int v]],[]⟩) h.1 p0 q0 fun hl=>?_
 rw [MH fun x hx=>?_]
 ·exact HK (by omega)
 ·obtain ⟨c0,rfl⟩:=Uf (h.2 x hx)
  simp [FQ,FX]
theorem afb (c0 : Int) (c1 : LL) (c2 : Int) (sG : WR Fv.ct 3 c1) {l : Int} (p0 : 0 ≤ l) (q0 : l ≤ 1048576) : Tv.c c0 c1 c2 l = some ⟨[[.int (Gd (Fy c1 + 0) l)]],[]⟩:=by
 rw [Tv.eq]; (try dsimp only [gr,gi,gl,gb,gt,Ft,ln,EK,aJ.i,aJ.l,aJ.b,aJ.t])
 exact Hk p0 q0 (UG c1 sG p0 q0) fun l1 p1 q1=>HK p1
theorem afc (xs : LL) (h : WR Fv.ct 238 xs) {l : Int} (p0 : 0 ≤ l) (q0 : l ≤ 1048576) : IX.c xs l = some ⟨[[.int (Gd (Fy xs) l)]],[]⟩:=by
 rw [IX.eq]; (try dsimp only [gr,gi,gl,gb,gt,Ft,ln,EK,aJ.i,aJ.l,aJ.b,aJ.t]); rw [HP]
 refine Il (l0:=fun v=>IX.l0 xs v 0) h.1 p0 q0 fun hl=>?_
 refine Pb (l0:=fun l i=>IX.l0 xs l i) (c:=FQ) (fun l=>?_) (fun i hi l p0 q0=>?_) (by omega) (by omega)
 ·show IX.l0 xs l _ = _
  rw [IX.Fx]; (try dsimp only [gr,gi,gl,gb,gt,Ft,ln,EK,aJ.i,aJ.l,aJ.b,aJ.t]); rw [FO (qQb _)]; rfl
 ·obtain ⟨c0,c1,c2,aB,sG⟩:=ZS (h.2 _ (FF hi (z:=[])))
  have sJ:=Gc (FF hi (z:=[]))
  rw [aB] at sJ
  simp only [FQ,FX] at sJ
  show IX.l0 xs l _ = if _ then IX.l0 xs _ _ else _
  have hlen:=h.1
  rw [IX.Fx]; (try dsimp only [gr,gi,gl,gb,gt,Ft,ln,EK,aJ.i,aJ.l,aJ.b,aJ.t]); rw [FN hi,FR,qQa hi,qQd,aB,FW (by omega)]
  simp only [qYm,qZ9,U.toInt_int,U.Fk,U.Fq,U.oI,qQh]
  have e1 : FQ [.int c0,.lst c1,.int c2] = Fy c1 + 0:=by simp only [FQ,FX]; omega
  rw [e1]
  exact Pc (G:=fun v=>IX.l0 xs v ((i + 1 : Nat) : Int)) p0 (afb c0 c1 c2 sG p0 q0)
theorem afa (xs : LL) (h : WR Fv.ct 330 xs) {l : Int} (p0 : 0 ≤ l) (q0 : l ≤ 1048576) : Tu.c xs l = some ⟨[[.int (Gd (Fy xs) l)]],[]⟩:=by
 rw [Tu.eq]; (try dsimp only [gr,gi,gl,gb,gt,Ft,ln,EK,aJ.i,aJ.l,aJ.b,aJ.t]); rw [HP]
 refine Il (l0:=fun v=>some ⟨[[.int v]],[]⟩) h.1 p0 q0 fun hl=>?_
 rw [MH fun x hx=>?_]
 ·exact HK (by omega)
 ·obtain ⟨c0,c1,rfl⟩:=ZY (h.2 x hx)
  simp [FQ,FX]
theorem ae2 : ∀ (n : Nat) (xs : LL),Fy xs ≤ n → WR Fv.ct 348 xs → ∀ {l : Int},0 ≤ l → l ≤ 1048576 → HM.c xs l = some ⟨[[.int (Gd (Fy xs) l)]],[]⟩:=by
 intro n
 induction n with
 | zero =>
  intro xs hn h l p0 q0
  have hl:=FP xs
  obtain rfl : xs = []:=qZz (by omega)
  rw [HM.eq]; (try dsimp only [gr,gi,gl,gb,gt,Ft,ln,EK,aJ.i,aJ.l,aJ.b,aJ.t])
  refine (Il (l0:=fun l=>HM.l0 [] l 0) (n:=0) (m:=0) (by omega) p0 q0 fun _=>?_).trans (by simp [Fy])
  show HM.l0 [] _ 0 = _
  rw [HM.Fx]; (try dsimp only [gr,gi,gl,gb,gt,Ft,ln,EK,aJ.i,aJ.l,aJ.b,aJ.t])
  exact HK (by omega)
 | succ n ih =>
  intro xs hn h l p0 q0
  rw [HM.eq]; (try dsimp only [gr,gi,gl,gb,gt,Ft,ln,EK,aJ.i,aJ.l,aJ.b,aJ.t]); rw [HP]
  refine Il (l0:=fun v=>HM.l0 xs v 0) h.1 p0 q0 fun hl=>?_
  refine Pb (l0:=fun l i=>HM.l0 xs l i) (c:=FQ) (fun l=>?_) (fun i hi l p0 q0=>?_) (by omega) (by omega)
  ·show HM.l0 xs l _ = _
   rw [HM.Fx]; (try dsimp only [gr,gi,gl,gb,gt,Ft,ln,EK,aJ.i,aJ.l,aJ.b,aJ.t]); rw [FO (qQb _)]; rfl
  ·obtain ⟨c0,c1,c2,c3,aB,Gu⟩:=ZZ (h.2 _ (FF hi (z:=[])))
   have sJ:=Gc (FF hi (z:=[]))
   rw [aB] at sJ
   simp only [FQ,FX] at sJ
   show HM.l0 xs l _ = if _ then HM.l0 xs _ _ else _
   have hlen:=h.1
   rw [HM.Fx]; (try dsimp only [gr,gi,gl,gb,gt,Ft,ln,EK,aJ.i,aJ.l,aJ.b,aJ.t]); rw [FN hi,FR,qQa hi,qQd,aB,FW (by omega)]
   simp only [qYm,qZ9,U.toInt_int,U.Fk,U.Fq,U.oI,qQh]
   have e1 : FQ [.int c0,.int c1,.int c2,.lst c3] = Fy c3 + 0:=by simp only [FQ,FX]; omega
   rw [e1]
   have aR : Oz.c c0 c1 c2 c3 l = some ⟨[[.int (Gd (Fy c3 + 0) l)]],[]⟩:=by rw [Oz.eq]; (try dsimp only [gr,gi,gl,gb,gt,Ft,ln,EK,aJ.i,aJ.l,aJ.b,aJ.t]); exact Hk p0 q0 (ih c3 (by omega) Gu p0 q0) fun l1 p1 q1=>HK p1
   exact Pc (G:=fun v=>HM.l0 xs v ((i + 1 : Nat) : Int)) p0 (aR)
theorem ae1 (xs : LL) (h : WR Fv.ct 348 xs) {l : Int} (p0 : 0 ≤ l) (q0 : l ≤ 1048576) : HM.c xs l = some ⟨[[.int (Gd (Fy xs) l)]],[]⟩:=ae2 _ xs (qQb _) h p0 q0
theorem ae0 (c0 c1 c2 : Int) (c3 : LL) (Gu : WR Fv.ct 348 c3) {l : Int} (p0 : 0 ≤ l) (q0 : l ≤ 1048576) : Oz.c c0 c1 c2 c3 l = some ⟨[[.int (Gd (Fy c3 + 0) l)]],[]⟩:=by
 rw [Oz.eq]; (try dsimp only [gr,gi,gl,gb,gt,Ft,ln,EK,aJ.i,aJ.l,aJ.b,aJ.t])
 exact Hk p0 q0 (ae1 c3 Gu p0 q0) fun l1 p1 q1=>HK p1
theorem afh (c0 c1 c2 c3 c4 c5 : Int) (c6 : LL) (HE : WR Fv.ct 348 c6) {l : Int} (p0 : 0 ≤ l) (q0 : l ≤ 1048576) : Tz.c c0 c1 c2 c3 c4 c5 c6 l = some ⟨[[.int (Gd ((Fy c6 + 0) + 0) l)]],[]⟩:=by
 rw [Tz.eq]; (try dsimp only [gr,gi,gl,gb,gt,Ft,ln,EK,aJ.i,aJ.l,aJ.b,aJ.t])
 exact Hk p0 q0 (ae0 c3 c4 c5 c6 HE p0 q0) fun l1 p1 q1=>HK p1
theorem afi (xs : LL) (h : WR Fv.ct 350 xs) {l : Int} (p0 : 0 ≤ l) (q0 : l ≤ 1048576) : IZ.c xs l = some ⟨[[.int (Gd (Fy xs) l)]],[]⟩:=by
 rw [IZ.eq]; (try dsimp only [gr,gi,gl,gb,gt,Ft,ln,EK,aJ.i,aJ.l,aJ.b,aJ.t]); rw [HP]
 refine Il (l0:=fun v=>IZ.l0 xs v 0) h.1 p0 q0 fun hl=>?_
 refine Pb (l0:=fun l i=>IZ.l0 xs l i) (c:=FQ) (fun l=>?_) (fun i hi l p0 q0=>?_) (by omega) (by omega)
 ·show IZ.l0 xs l _ = _
  rw [IZ.Fx]; (try dsimp only [gr,gi,gl,gb,gt,Ft,ln,EK,aJ.i,aJ.l,aJ.b,aJ.t]); rw [FO (qQb _)]; rfl
 ·obtain ⟨c0,c1,c2,c3,c4,c5,c6,aB,HE⟩:=aaa (h.2 _ (FF hi (z:=[])))
  have sJ:=Gc (FF hi (z:=[]))
  rw [aB] at sJ
  simp only [FQ,FX] at sJ
  show IZ.l0 xs l _ = if _ then IZ.l0 xs _ _ else _
  have hlen:=h.1
  rw [IZ.Fx]; (try dsimp only [gr,gi,gl,gb,gt,Ft,ln,EK,aJ.i,aJ.l,aJ.b,aJ.t]); rw [FN hi,FR,qQa hi,qQd,aB,FW (by omega)]
  simp only [qYm,qZ9,U.toInt_int,U.Fk,U.Fq,U.oI,qQh]
  have e1 : FQ [.int c0,.int c1,.int c2,.int c3,.int c4,.int c5,.lst c6] = (Fy c6 + 0) + 0:=by simp only [FQ,FX]; omega
  rw [e1]
  exact Pc (G:=fun v=>IZ.l0 xs v ((i + 1 : Nat) : Int)) p0 (afh c0 c1 c2 c3 c4 c5 c6 HE p0 q0)
theorem afg (c0 : Int) (c1 : LL) (sG : WR Fv.ct 350 c1) {l : Int} (p0 : 0 ≤ l) (q0 : l ≤ 1048576) : Ty.c c0 c1 l = some ⟨[[.int (Gd (Fy c1 + 0) l)]],[]⟩:=by
 rw [Ty.eq]; (try dsimp only [gr,gi,gl,gb,gt,Ft,ln,EK,aJ.i,aJ.l,aJ.b,aJ.t])
 exact Hk p0 q0 (afi c1 sG p0 q0) fun l1 p1 q1=>HK p1
theorem aaz (c0 c1 : Int) (c2 : LL) (c3 : Int) (c4 : LL) (fG : WR Fv.ct 330 c2) (HD : WR Fv.ct 350 c4) {l : Int} (p0 : 0 ≤ l) (q0 : l ≤ 1048576) : QW.c c0 c1 c2 c3 c4 l = some ⟨[[.int (Gd (Fy c2 + ((Fy c4 + 0) + 0)) l)]],[]⟩:=by
 rw [QW.eq]; (try dsimp only [gr,gi,gl,gb,gt,Ft,ln,EK,aJ.i,aJ.l,aJ.b,aJ.t])
 exact Hk p0 q0 (afa c2 fG p0 q0) fun l1 p1 q1=>Hk p1 q1 (afg c3 c4 HD p1 q1) fun l2 p2 q2=>HK p2
theorem ae7 (xs : LL) (h : WR Fv.ct 146 xs) {l : Int} (p0 : 0 ≤ l) (q0 : l ≤ 1048576) : IV.c xs l = some ⟨[[.int (Gd (Fy xs) l)]],[]⟩:=by
 rw [IV.eq]; (try dsimp only [gr,gi,gl,gb,gt,Ft,ln,EK,aJ.i,aJ.l,aJ.b,aJ.t]); rw [HP]
 refine Il (l0:=fun v=>IV.l0 xs v 0) h.1 p0 q0 fun hl=>?_
 refine Pb (l0:=fun l i=>IV.l0 xs l i) (c:=FQ) (fun l=>?_) (fun i hi l p0 q0=>?_) (by omega) (by omega)
 ·show IV.l0 xs l _ = _
  rw [IV.Fx]; (try dsimp only [gr,gi,gl,gb,gt,Ft,ln,EK,aJ.i,aJ.l,aJ.b,aJ.t]); rw [FO (qQb _)]; rfl
 ·obtain ⟨c0,c1,c2,c3,c4,aB,fG,HD⟩:=ZJ (h.2 _ (FF hi (z:=[])))
  have sJ:=Gc (FF hi (z:=[]))
  rw [aB] at sJ
  simp only [FQ,FX] at sJ
  show IV.l0 xs l _ = if _ then IV.l0 xs _ _ else _
  have hlen:=h.1
  rw [IV.Fx]; (try dsimp only [gr,gi,gl,gb,gt,Ft,ln,EK,aJ.i,aJ.l,aJ.b,aJ.t]); rw [FN hi,FR,qQa hi,qQd,aB,FW (by omega)]
  simp only [qYm,qZ9,U.toInt_int,U.Fk,U.Fq,U.oI,qQh]
  have e1 : FQ [.int c0,.int c1,.lst c2,.int c3,.lst c4] = Fy c2 + ((Fy c4 + 0) + 0):=by simp only [FQ,FX]; omega
  rw [e1]
  exact Pc (G:=fun v=>IV.l0 xs v ((i + 1 : Nat) : Int)) p0 (aaz c0 c1 c2 c3 c4 fG HD p0 q0)
theorem aaA (xs : LL) (h : WR Fv.ct 258 xs) {l : Int} (p0 : 0 ≤ l) (q0 : l ≤ 1048576) : QX.c xs l = some ⟨[[.int (Gd (Fy xs) l)]],[]⟩:=by
 rw [QX.eq]; (try dsimp only [gr,gi,gl,gb,gt,Ft,ln,EK,aJ.i,aJ.l,aJ.b,aJ.t]); rw [HP]
 refine Il (l0:=fun v=>some ⟨[[.int v]],[]⟩) h.1 p0 q0 fun hl=>?_
 rw [MH fun x hx=>?_]
 ·exact HK (by omega)
 ·obtain ⟨c0,c1,c2,c3,c4,c5,rfl⟩:=ZT (h.2 x hx)
  simp [FQ,FX]
theorem aaB (xs : LL) (h : WR Fv.ct 262 xs) {l : Int} (p0 : 0 ≤ l) (q0 : l ≤ 1048576) : QY.c xs l = some ⟨[[.int (Gd (Fy xs) l)]],[]⟩:=by
 rw [QY.eq]; (try dsimp only [gr,gi,gl,gb,gt,Ft,ln,EK,aJ.i,aJ.l,aJ.b,aJ.t]); rw [HP]
 refine Il (l0:=fun v=>some ⟨[[.int v]],[]⟩) h.1 p0 q0 fun hl=>?_
 rw [MH fun x hx=>?_]
 ·exact HK (by omega)
 ·obtain ⟨c0,c1,rfl⟩:=ZU (h.2 x hx)
  simp [FQ,FX]
theorem aeZ (xs : LL) (h : WR Fv.ct 264 xs) {l : Int} (p0 : 0 ≤ l) (q0 : l ≤ 1048576) : Tq.c xs l = some ⟨[[.int (Gd (Fy xs) l)]],[]⟩:=by
 rw [Tq.eq]; (try dsimp only [gr,gi,gl,gb,gt,Ft,ln,EK,aJ.i,aJ.l,aJ.b,aJ.t]); rw [HP]
 refine Il (l0:=fun v=>some ⟨[[.int v]],[]⟩) h.1 p0 q0 fun hl=>?_
 rw [MH fun x hx=>?_]
 ·exact HK (by omega)
 ·obtain ⟨c0,c1,c2,c3,c4,c5,rfl⟩:=ZV (h.2 x hx)
  simp [FQ,FX]
theorem aeY (c0 c1 c2 c3 : LL) (c4 : Int) (c5 : LL) (jz : WR Fv.ct 238 c0) (sG : WR Fv.ct 146 c1) (fG : WR Fv.ct 258 c2) (Gu : WR Fv.ct 262 c3) (Ld : WR Fv.ct 264 c5) {l : Int} (p0 : 0 ≤ l) (q0 : l ≤ 1048576) : Tp.c c0 c1 c2 c3 c4 c5 l = some ⟨[[.int (Gd (Fy c0 + (Fy c1 + (Fy c2 + (Fy c3 + (Fy c5 + 0))))) l)]],[]⟩:=by
 rw [Tp.eq]; (try dsimp only [gr,gi,gl,gb,gt,Ft,ln,EK,aJ.i,aJ.l,aJ.b,aJ.t])
 exact Hk p0 q0 (afc c0 jz p0 q0) fun l1 p1 q1=>Hk p1 q1 (ae7 c1 sG p1 q1) fun l2 p2 q2=>Hk p2 q2 (aaA c2 fG p2 q2) fun l3 p3 q3=>Hk p3 q3 (aaB c3 Gu p3 q3) fun l4 p4 q4=>Hk p4 q4 (aeZ c5 Ld p4 q4) fun l5 p5 q5=>HK p5
theorem afj (xs : LL) (h : WR Fv.ct 305 xs) {l : Int} (p0 : 0 ≤ l) (q0 : l ≤ 1048576) : TA.c xs l = some ⟨[[.int (Gd (Fy xs) l)]],[]⟩:=by
 rw [TA.eq]; (try dsimp only [gr,gi,gl,gb,gt,Ft,ln,EK,aJ.i,aJ.l,aJ.b,aJ.t]); rw [HP]
 refine Il (l0:=fun v=>some ⟨[[.int v]],[]⟩) h.1 p0 q0 fun hl=>?_
 rw [MH fun x hx=>?_]
 ·exact HK (by omega)
 ·obtain ⟨c0,c1,c2,c3,c4,c5,c6,c7,rfl⟩:=ZX (h.2 x hx)
  simp [FQ,FX]
theorem afe (c0 c1 c2 : Int) (c3 : LL) (c4 : Int) (c5 c6 c7 : LL) (c8 : Int) (c9 : LL) (Gu : WR Fv.ct 330 c3) (Ld : WR Fv.ct 350 c5) (HE : WR Fv.ct 258 c6) (Le : WR Fv.ct 262 c7) (Lg : WR Fv.ct 305 c9) {l : Int} (p0 : 0 ≤ l) (q0 : l ≤ 1048576) : Tx.c c0 c1 c2 c3 c4 c5 c6 c7 c8 c9 l = some ⟨[[.int (Gd ((Fy c3 + ((Fy c5 + 0) + 0)) + (Fy c6 + (Fy c7 + (Fy c9 + 0)))) l)]],[]⟩:=by
 rw [Tx.eq]; (try dsimp only [gr,gi,gl,gb,gt,Ft,ln,EK,aJ.i,aJ.l,aJ.b,aJ.t])
 exact Hk p0 q0 (aaz c1 c2 c3 c4 c5 Gu Ld p0 q0) fun l1 p1 q1=>Hk p1 q1 (aaA c6 HE p1 q1) fun l2 p2 q2=>Hk p2 q2 (aaB c7 Le p2 q2) fun l3 p3 q3=>Hk p3 q3 (afj c9 Lg p3 q3) fun l4 p4 q4=>HK p4
theorem aff (xs : LL) (h : WR Fv.ct 149 xs) {l : Int} (p0 : 0 ≤ l) (q0 : l ≤ 1048576) : IY.c xs l = some ⟨[[.int (Gd (Fy xs) l)]],[]⟩:=by
 rw [IY.eq]; (try dsimp only [gr,gi,gl,gb,gt,Ft,ln,EK,aJ.i,aJ.l,aJ.b,aJ.t]); rw [HP]
 refine Il (l0:=fun v=>IY.l0 xs v 0) h.1 p0 q0 fun hl=>?_
 refine Pb (l0:=fun l i=>IY.l0 xs l i) (c:=FQ) (fun l=>?_) (fun i hi l p0 q0=>?_) (by omega) (by omega)
 ·show IY.l0 xs l _ = _
  rw [IY.Fx]; (try dsimp only [gr,gi,gl,gb,gt,Ft,ln,EK,aJ.i,aJ.l,aJ.b,aJ.t]); rw [FO (qQb _)]; rfl
 ·obtain ⟨c0,c1,c2,c3,c4,c5,c6,c7,c8,c9,aB,Gu,Ld,HE,Le,Lg⟩:=ZK (h.2 _ (FF hi (z:=[])))
  have sJ:=Gc (FF hi (z:=[]))
  rw [aB] at sJ
  simp only [FQ,FX] at sJ
  show IY.l0 xs l _ = if _ then IY.l0 xs _ _ else _
  have hlen:=h.1
  rw [IY.Fx]; (try dsimp only [gr,gi,gl,gb,gt,Ft,ln,EK,aJ.i,aJ.l,aJ.b,aJ.t]); rw [FN hi,FR,qQa hi,qQd,aB,FW (by omega)]
  simp only [qYm,qZ9,U.toInt_int,U.Fk,U.Fq,U.oI,qQh]
  have e1 : FQ [.int c0,.int c1,.int c2,.lst c3,.int c4,.lst c5,.lst c6,.lst c7,.int c8,.lst c9] = (Fy c3 + ((Fy c5 + 0) + 0)) + (Fy c6 + (Fy c7 + (Fy c9 + 0))):=by simp only [FQ,FX]; omega
  rw [e1]
  exact Pc (G:=fun v=>IY.l0 xs v ((i + 1 : Nat) : Int)) p0 (afe c0 c1 c2 c3 c4 c5 c6 c7 c8 c9 Gu Ld HE Le Lg p0 q0)
theorem aeX (xs : LL) (h : WR Fv.ct 4 xs) {l : Int} (p0 : 0 ≤ l) (q0 : l ≤ 1048576) : To.c xs l = some ⟨[[.int (Gd (Fy xs) l)]],[]⟩:=by
 rw [To.eq]; (try dsimp only [gr,gi,gl,gb,gt,Ft,ln,EK,aJ.i,aJ.l,aJ.b,aJ.t]); rw [HP]
 refine Il (l0:=fun v=>some ⟨[[.int v]],[]⟩) h.1 p0 q0 fun hl=>?_
 rw [MH fun x hx=>?_]
 ·exact HK (by omega)
 ·obtain ⟨c0,rfl⟩:=Ug (h.2 x hx)
  simp [FQ,FX]
theorem ae5 (xs : LL) (h : WR Fv.ct 267 xs) {l : Int} (p0 : 0 ≤ l) (q0 : l ≤ 1048576) : Ts.c xs l = some ⟨[[.int (Gd (Fy xs) l)]],[]⟩:=by
 rw [Ts.eq]; (try dsimp only [gr,gi,gl,gb,gt,Ft,ln,EK,aJ.i,aJ.l,aJ.b,aJ.t]); rw [HP]
 refine Il (l0:=fun v=>some ⟨[[.int v]],[]⟩) h.1 p0 q0 fun hl=>?_
 rw [MH fun x hx=>?_]
 ·exact HK (by omega)
 ·obtain ⟨c0,c1,c2,c3,c4,c5,c6,c7,c8,rfl⟩:=ZW (h.2 x hx)
  simp [FQ,FX]
theorem ae6 (xs : LL) (h : WR Fv.ct 151 xs) {l : Int} (p0 : 0 ≤ l) (q0 : l ≤ 1048576) : IU.c xs l = some ⟨[[.int (Gd (Fy xs) l)]],[]⟩:=by
 rw [IU.eq]; (try dsimp only [gr,gi,gl,gb,gt,Ft,ln,EK,aJ.i,aJ.l,aJ.b,aJ.t]); rw [HP]
 refine Il (l0:=fun v=>IU.l0 xs v 0) h.1 p0 q0 fun hl=>?_
 refine Pb (l0:=fun l i=>IU.l0 xs l i) (c:=FQ) (fun l=>?_) (fun i hi l p0 q0=>?_) (by omega) (by omega)
 ·show IU.l0 xs l _ = _
  rw [IU.Fx]; (try dsimp only [gr,gi,gl,gb,gt,Ft,ln,EK,aJ.i,aJ.l,aJ.b,aJ.t]); rw [FO (qQb _)]; rfl
 ·obtain ⟨c0,aB,jz⟩:=ZL (h.2 _ (FF hi (z:=[])))
  have sJ:=Gc (FF hi (z:=[]))
  rw [aB] at sJ
  simp only [FQ,FX] at sJ
  show IU.l0 xs l _ = if _ then IU.l0 xs _ _ else _
  have hlen:=h.1
  rw [IU.Fx]; (try dsimp only [gr,gi,gl,gb,gt,Ft,ln,EK,aJ.i,aJ.l,aJ.b,aJ.t]); rw [FN hi,FR,qQa hi,qQd,aB,FW (by omega)]
  simp only [qYm,qZ9,U.toInt_int,U.Fk,U.Fq,U.oI,qQh]
  have e1 : FQ [.lst c0] = Fy c0:=by simp only [FQ,FX]; omega
  rw [e1]
  exact Pc (G:=fun v=>IU.l0 xs v ((i + 1 : Nat) : Int)) p0 (ae5 c0 jz p0 q0)
theorem afl (xs : LL) (h : WR Fv.ct 184 xs) {l : Int} (p0 : 0 ≤ l) (q0 : l ≤ 1048576) : TC.c xs l = some ⟨[[.int (Gd (Fy xs) l)]],[]⟩:=by
 rw [TC.eq]; (try dsimp only [gr,gi,gl,gb,gt,Ft,ln,EK,aJ.i,aJ.l,aJ.b,aJ.t]); rw [HP]
 refine Il (l0:=fun v=>some ⟨[[.int v]],[]⟩) h.1 p0 q0 fun hl=>?_
 rw [MH fun x hx=>?_]
 ·exact HK (by omega)
 ·obtain ⟨c0,c1,rfl⟩:=ZO (h.2 x hx)
  simp [FQ,FX]
theorem ae8 (c0 c1 c2 : Int) (c3 : LL) (c4 c5 : Int) (c6 : Bool) (Gu : WR Fv.ct 3 c3) {l : Int} (p0 : 0 ≤ l) (q0 : l ≤ 1048576) : Tt.c c0 c1 c2 c3 c4 c5 c6 l = some ⟨[[.int (Gd (Fy c3 + 0) l)]],[]⟩:=by
 rw [Tt.eq]; (try dsimp only [gr,gi,gl,gb,gt,Ft,ln,EK,aJ.i,aJ.l,aJ.b,aJ.t])
 exact Hk p0 q0 (UG c3 Gu p0 q0) fun l1 p1 q1=>HK p1
theorem ae9 (xs : LL) (h : WR Fv.ct 154 xs) {l : Int} (p0 : 0 ≤ l) (q0 : l ≤ 1048576) : IW.c xs l = some ⟨[[.int (Gd (Fy xs) l)]],[]⟩:=by
 rw [IW.eq]; (try dsimp only [gr,gi,gl,gb,gt,Ft,ln,EK,aJ.i,aJ.l,aJ.b,aJ.t]); rw [HP]
 refine Il (l0:=fun v=>IW.l0 xs v 0) h.1 p0 q0 fun hl=>?_
 refine Pb (l0:=fun l i=>IW.l0 xs l i) (c:=FQ) (fun l=>?_) (fun i hi l p0 q0=>?_) (by omega) (by omega)
 ·show IW.l0 xs l _ = _
  rw [IW.Fx]; (try dsimp only [gr,gi,gl,gb,gt,Ft,ln,EK,aJ.i,aJ.l,aJ.b,aJ.t]); rw [FO (qQb _)]; rfl
 ·obtain ⟨c0,c1,c2,c3,c4,c5,c6,aB,Gu⟩:=ZM (h.2 _ (FF hi (z:=[])))
  have sJ:=Gc (FF hi (z:=[]))
  rw [aB] at sJ
  simp only [FQ,FX] at sJ
  show IW.l0 xs l _ = if _ then IW.l0 xs _ _ else _
  have hlen:=h.1
  rw [IW.Fx]; (try dsimp only [gr,gi,gl,gb,gt,Ft,ln,EK,aJ.i,aJ.l,aJ.b,aJ.t]); rw [FN hi,FR,qQa hi,qQd,aB,FW (by omega)]
  simp only [qYm,qZ9,U.toInt_int,U.Fk,U.Fq,U.oI,qQh]
  have e1 : FQ [.int c0,.int c1,.int c2,.lst c3,.int c4,.int c5,.bool c6] = Fy c3 + 0:=by simp only [FQ,FX]; omega
  rw [e1]
  exact Pc (G:=fun v=>IW.l0 xs v ((i + 1 : Nat) : Int)) p0 (ae8 c0 c1 c2 c3 c4 c5 c6 Gu p0 q0)
theorem aeW (xs : LL) (h : WR Fv.ct 190 xs) {l : Int} (p0 : 0 ≤ l) (q0 : l ≤ 1048576) : Tn.c xs l = some ⟨[[.int (Gd (Fy xs) l)]],[]⟩:=by
 rw [Tn.eq]; (try dsimp only [gr,gi,gl,gb,gt,Ft,ln,EK,aJ.i,aJ.l,aJ.b,aJ.t]); rw [HP]
 refine Il (l0:=fun v=>some ⟨[[.int v]],[]⟩) h.1 p0 q0 fun hl=>?_
 rw [MH fun x hx=>?_]
 ·exact HK (by omega)
 ·obtain ⟨c0,c1,c2,rfl⟩:=ZP (h.2 x hx)
  simp [FQ,FX]
theorem afm (xs : LL) (h : WR Fv.ct 194 xs) {l : Int} (p0 : 0 ≤ l) (q0 : l ≤ 1048576) : TE.c xs l = some ⟨[[.int (Gd (Fy xs) l)]],[]⟩:=by
 rw [TE.eq]; (try dsimp only [gr,gi,gl,gb,gt,Ft,ln,EK,aJ.i,aJ.l,aJ.b,aJ.t]); rw [HP]
 refine Il (l0:=fun v=>some ⟨[[.int v]],[]⟩) h.1 p0 q0 fun hl=>?_
 rw [MH fun x hx=>?_]
 ·exact HK (by omega)
 ·obtain ⟨c0,c1,c2,c3,rfl⟩:=ZQ (h.2 x hx)
  simp [FQ,FX]
theorem afd (c0 c1 : LL) (c2 : Int) (jz : WR Fv.ct 3 c0) (sG : WR Fv.ct 3 c1) {l : Int} (p0 : 0 ≤ l) (q0 : l ≤ 1048576) : Tw.c c0 c1 c2 l = some ⟨[[.int (Gd (Fy c0 + (Fy c1 + 0)) l)]],[]⟩:=by
 rw [Tw.eq]; (try dsimp only [gr,gi,gl,gb,gt,Ft,ln,EK,aJ.i,aJ.l,aJ.b,aJ.t])
 exact Hk p0 q0 (UG c0 jz p0 q0) fun l1 p1 q1=>Hk p1 q1 (UG c1 sG p1 q1) fun l2 p2 q2=>HK p2
theorem ae3 (c0 c1 c2 c3 : Int) (c4 : LL) (c5 : Bool) (HD : WR Fv.ct 3 c4) {l : Int} (p0 : 0 ≤ l) (q0 : l ≤ 1048576) : Tr.c c0 c1 c2 c3 c4 c5 l = some ⟨[[.int (Gd (Fy c4 + 0) l)]],[]⟩:=by
 rw [Tr.eq]; (try dsimp only [gr,gi,gl,gb,gt,Ft,ln,EK,aJ.i,aJ.l,aJ.b,aJ.t])
 exact Hk p0 q0 (UG c4 HD p0 q0) fun l1 p1 q1=>HK p1
theorem ae4 (xs : LL) (h : WR Fv.ct 157 xs) {l : Int} (p0 : 0 ≤ l) (q0 : l ≤ 1048576) : IT.c xs l = some ⟨[[.int (Gd (Fy xs) l)]],[]⟩:=by
 rw [IT.eq]; (try dsimp only [gr,gi,gl,gb,gt,Ft,ln,EK,aJ.i,aJ.l,aJ.b,aJ.t]); rw [HP]
 refine Il (l0:=fun v=>IT.l0 xs v 0) h.1 p0 q0 fun hl=>?_
 refine Pb (l0:=fun l i=>IT.l0 xs l i) (c:=FQ) (fun l=>?_) (fun i hi l p0 q0=>?_) (by omega) (by omega)
 ·show IT.l0 xs l _ = _
  rw [IT.Fx]; (try dsimp only [gr,gi,gl,gb,gt,Ft,ln,EK,aJ.i,aJ.l,aJ.b,aJ.t]); rw [FO (qQb _)]; rfl
 ·obtain ⟨c0,c1,c2,c3,c4,c5,aB,HD⟩:=ZN (h.2 _ (FF hi (z:=[])))
  have sJ:=Gc (FF hi (z:=[]))
  rw [aB] at sJ
  simp only [FQ,FX] at sJ
  show IT.l0 xs l _ = if _ then IT.l0 xs _ _ else _
  have hlen:=h.1
  rw [IT.Fx]; (try dsimp only [gr,gi,gl,gb,gt,Ft,ln,EK,aJ.i,aJ.l,aJ.b,aJ.t]); rw [FN hi,FR,qQa hi,qQd,aB,FW (by omega)]
  simp only [qYm,qZ9,U.toInt_int,U.Fk,U.Fq,U.oI,qQh]
  have e1 : FQ [.int c0,.int c1,.int c2,.int c3,.lst c4,.bool c5] = Fy c4 + 0:=by simp only [FQ,FX]; omega
  rw [e1]
  exact Pc (G:=fun v=>IT.l0 xs v ((i + 1 : Nat) : Int)) p0 (ae3 c0 c1 c2 c3 c4 c5 HD p0 q0)
theorem afk (xs : LL) (h : WR Fv.ct 201 xs) {l : Int} (p0 : 0 ≤ l) (q0 : l ≤ 1048576) : TB.c xs l = some ⟨[[.int (Gd (Fy xs) l)]],[]⟩:=by
 rw [TB.eq]; (try dsimp only [gr,gi,gl,gb,gt,Ft,ln,EK,aJ.i,aJ.l,aJ.b,aJ.t]); rw [HP]
 refine Il (l0:=fun v=>some ⟨[[.int v]],[]⟩) h.1 p0 q0 fun hl=>?_
 rw [MH fun x hx=>?_]
 ·exact HK (by omega)
 ·obtain ⟨c0,c1,c2,c3,c4,c5,c6,c7,c8,c9,rfl⟩:=ZR (h.2 x hx)
  simp [FQ,FX]
theorem afn (c0 : Int) (c1 c2 c3 c4 : LL) (c5 : Int) (c6 c7 c8 c9 : LL) (KY : Int) (Gn Gq Gy Gz GL GN : LL) (Ki : Int) (GS Hm : LL) (sG : WR Fv.ct 238 c1) (fG : WR Fv.ct 146 c2) (Gu : WR Fv.ct 258 c3) (HD : WR Fv.ct 262 c4) (HE : WR Fv.ct 264 c6) (Le : WR Fv.ct 149 c7) (Sh : WR Fv.ct 4 c8) (Lg : WR Fv.ct 151 c9) (RZ : WR Fv.ct 184 Gn) (Sa : WR Fv.ct 154 Gq) (Sb : WR Fv.ct 190 Gy) (Sc : WR Fv.ct 194 Gz) (Sd : WR Fv.ct 3 GL) (Se : WR Fv.ct 3 GN) (Sf : WR Fv.ct 157 GS) (Sg : WR Fv.ct 201 Hm) {l : Int} (p0 : 0 ≤ l) (q0 : l ≤ 1048576) : TF.c c0 c1 c2 c3 c4 c5 c6 c7 c8 c9 KY Gn Gq Gy Gz GL GN Ki GS Hm l = some ⟨[[.int (Gd ((Fy c1 + (Fy c2 + (Fy c3 + (Fy c4 + (Fy c6 + 0))))) + (Fy c7 + (Fy c8 + (Fy c9 + (Fy Gn + (Fy Gq + (Fy Gy + (Fy Gz + ((Fy GL + (Fy GN + 0)) + (Fy GS + (Fy Hm + 0))))))))))) l)]],[]⟩:=by
 rw [TF.eq]; (try dsimp only [gr,gi,gl,gb,gt,Ft,ln,EK,aJ.i,aJ.l,aJ.b,aJ.t])
 exact Hk p0 q0 (aeY c1 c2 c3 c4 c5 c6 sG fG Gu HD HE p0 q0) fun l1 p1 q1=>Hk p1 q1 (aff c7 Le p1 q1) fun l2 p2 q2=>Hk p2 q2 (aeX c8 Sh p2 q2) fun l3 p3 q3=>Hk p3 q3 (ae6 c9 Lg p3 q3) fun l4 p4 q4=>Hk p4 q4 (afl Gn RZ p4 q4) fun l5 p5 q5=>Hk p5 q5 (ae9 Gq Sa p5 q5) fun l6 p6 q6=>Hk p6 q6 (aeW Gy Sb p6 q6) fun l7 p7 q7=>Hk p7 q7 (afm Gz Sc p7 q7) fun l8 p8 q8=>Hk p8 q8 (afd GL GN Ki Sd Se p8 q8) fun l9 p9 q9=>Hk p9 q9 (ae4 GS Sf p9 q9) fun l10 Zv yw=>Hk Zv yw (afk Hm Sg Zv yw) fun Xm p11 q11=>HK p11
theorem Ie (xs : LL) (h : WR Fv.ct 3 xs) {k : Int} (p0 : 0 ≤ k) (q0 : k + (Fw xs : Int) ≤ 4611686018427387904) : Iu.c k xs = some ⟨[[.int (k + (Fw xs : Int))]],[FH FC xs k]⟩:=by
 rw [Iu.eq]; (try dsimp only [gr,gi,gl,gb,gt,Ft,ln,EK,aJ.i,aJ.l,aJ.b,aJ.t])
 refine Iw FC (l0:=fun k i s=>Iu.l0 k i s) (fun k s hs=>?_) (fun i hi k s hs aB h0 hk=>?_) p0 q0
 ·show Iu.l0 _ _ s = _
  rw [Iu.Fx]; (try dsimp only [gr,gi,gl,gb,gt,Ft,ln,EK,aJ.i,aJ.l,aJ.b,aJ.t]); rw [← hs,FO (qQb _)]; rfl
 ·obtain ⟨c0,hr⟩:=Uf (h.2 _ (FF hi (z:=[])))
  have hn:=Ih (FF hi (z:=[]))
  have dw : i < s.length:=by omega
  have hlen:=h.1
  rw [hr] at aB hk hn ⊢
  have e1 : k + (nR [.int c0] : Int) = k + 1:=by simp only [nR,nU]; omega
  rw [e1] at hk ⊢
  have e2 : i < 9223372036854775807:=by omega
  show Iu.l0 _ _ s = Iu.l0 _ _ _
  rw [Iu.Fx]; (try dsimp only [gr,gi,gl,gb,gt,Ft,ln,EK,aJ.i,aJ.l,aJ.b,aJ.t]); rw [FN dw,FW (by omega)]
  simp (disch:=first | assumption | omega) only [SB,Ix,qQl,qQd,FR,qQa dw,Gp s,Iy dw,uQ,Iz,Iq dw,IA,aB,GH,GG,qQs,qQr,Gs,GD,GB,GA,GC]
theorem Iv (xs : LL) (h : WR Fv.ct 252 xs) {k : Int} (p0 : 0 ≤ k) (q0 : k + (Fw xs : Int) ≤ 4611686018427387904) : KL.c k xs = some ⟨[[.int (k + (Fw xs : Int))]],[FH FC xs k]⟩:=by
 rw [KL.eq]; (try dsimp only [gr,gi,gl,gb,gt,Ft,ln,EK,aJ.i,aJ.l,aJ.b,aJ.t])
 refine Iw FC (l0:=fun k i s=>KL.l0 k i s) (fun k s hs=>?_) (fun i hi k s hs aB h0 hk=>?_) p0 q0
 ·show KL.l0 _ _ s = _
  rw [KL.Fx]; (try dsimp only [gr,gi,gl,gb,gt,Ft,ln,EK,aJ.i,aJ.l,aJ.b,aJ.t]); rw [← hs,FO (qQb _)]; rfl
 ·obtain ⟨c0,c1,c2,hr,sG⟩:=Ue (h.2 _ (FF hi (z:=[])))
  have hn:=Ih (FF hi (z:=[]))
  have dw : i < s.length:=by omega
  have hlen:=h.1
  rw [hr] at aB hk hn ⊢
  have e1 : k + (nR [.int c0,.lst c1,.int c2] : Int) = k + 1 + (Fw c1 : Int) + 1:=by simp only [nR,nU]; omega
  rw [e1] at hk ⊢
  have e2 : i < 9223372036854775807:=by omega
  show KL.l0 _ _ s = KL.l0 _ _ _
  rw [KL.Fx]; (try dsimp only [gr,gi,gl,gb,gt,Ft,ln,EK,aJ.i,aJ.l,aJ.b,aJ.t]); rw [FN dw,FW (by omega)]
  simp (disch:=first | assumption | omega) only [SB,Ix,qQl,qQd,FR,qQa dw,Gp s,Iy dw,uQ,Iz,Iq dw,IA,aB,GH,GG,qQs,qQr,Gs,GD,GB,GA,GC,Ie]
theorem IG (xs : LL) (h : WR Fv.ct 278 xs) {k : Int} (p0 : 0 ≤ k) (q0 : k + (Fw xs : Int) ≤ 4611686018427387904) : JG.c k xs = some ⟨[[.int (k + (Fw xs : Int))]],[FH FC xs k]⟩:=by
 rw [JG.eq]; (try dsimp only [gr,gi,gl,gb,gt,Ft,ln,EK,aJ.i,aJ.l,aJ.b,aJ.t])
 refine Iw FC (l0:=fun k i s=>JG.l0 k i s) (fun k s hs=>?_) (fun i hi k s hs aB h0 hk=>?_) p0 q0
 ·show JG.l0 _ _ s = _
  rw [JG.Fx]; (try dsimp only [gr,gi,gl,gb,gt,Ft,ln,EK,aJ.i,aJ.l,aJ.b,aJ.t]); rw [← hs,FO (qQb _)]; rfl
 ·obtain ⟨c0,c1,hr⟩:=XP (h.2 _ (FF hi (z:=[])))
  have hn:=Ih (FF hi (z:=[]))
  have dw : i < s.length:=by omega
  have hlen:=h.1
  rw [hr] at aB hk hn ⊢
  have e1 : k + (nR [.int c0,.int c1] : Int) = k + 1 + 1:=by simp only [nR,nU]; omega
  rw [e1] at hk ⊢
  have e2 : i < 9223372036854775807:=by omega
  show JG.l0 _ _ s = JG.l0 _ _ _
  rw [JG.Fx]; (try dsimp only [gr,gi,gl,gb,gt,Ft,ln,EK,aJ.i,aJ.l,aJ.b,aJ.t]); rw [FN dw,FW (by omega)]
  simp (disch:=first | assumption | omega) only [SB,Ix,qQl,qQd,FR,qQa dw,Gp s,Iy dw,uQ,Iz,Iq dw,IA,aB,GH,GG,qQs,qQr,Gs,GD,GB,GA,GC,Ie,Iv]
theorem adE : ∀ (n : Nat) (xs : LL),Fy xs ≤ n → WR Fv.ct 281 xs → ∀ {k : Int},0 ≤ k → k + (Fw xs : Int) ≤ 4611686018427387904 → Ia.c k xs = some ⟨[[.int (k + (Fw xs : Int))]],[FH FC xs k]⟩:=by
 intro n
 induction n with
 | zero =>
  intro xs hn h k p0 q0
  have hl:=FP xs
  obtain rfl : xs = []:=qZz (by omega)
  rw [Ia.eq]; (try dsimp only [gr,gi,gl,gb,gt,Ft,ln,EK,aJ.i,aJ.l,aJ.b,aJ.t])
  show Ia.l0 k 0 [] = _
  rw [Ia.Fx]; (try dsimp only [gr,gi,gl,gb,gt,Ft,ln,EK,aJ.i,aJ.l,aJ.b,aJ.t]); simp [Fw,FH]
 | succ n ih =>
  intro xs sJ h k p0 q0
  rw [Ia.eq]; (try dsimp only [gr,gi,gl,gb,gt,Ft,ln,EK,aJ.i,aJ.l,aJ.b,aJ.t])
  refine Iw FC (l0:=fun k i s=>Ia.l0 k i s) (fun k s hs=>?_) (fun i hi k s hs aB h0 hk=>?_) p0 q0
  ·show Ia.l0 _ _ s = _
   rw [Ia.Fx]; (try dsimp only [gr,gi,gl,gb,gt,Ft,ln,EK,aJ.i,aJ.l,aJ.b,aJ.t]); rw [← hs,FO (qQb _)]; rfl
  ·obtain ⟨c0,c1,c2,c3,hr,Gu⟩:=Wm (h.2 _ (FF hi (z:=[])))
   have EM:=Gc (FF hi (z:=[]))
   rw [hr] at EM
   simp only [FQ,FX] at EM
   have hn:=Ih (FF hi (z:=[]))
   have dw : i < s.length:=by omega
   have hlen:=h.1
   rw [hr] at aB hk hn ⊢
   have e1 : k + (nR [.int c0,.int c1,.int c2,.lst c3] : Int) = k + 1 + 1 + 1 + (Fw c3 : Int):=by simp only [nR,nU]; omega
   rw [e1] at hk ⊢
   have e2 : i < 9223372036854775807:=by omega
   show Ia.l0 _ _ s = Ia.l0 _ _ _
   rw [Ia.Fx]; (try dsimp only [gr,gi,gl,gb,gt,Ft,ln,EK,aJ.i,aJ.l,aJ.b,aJ.t]); rw [FN dw,FW (by omega)]
   simp (disch:=first | assumption | omega) only [SB,Ix,qQl,qQd,FR,qQa dw,Gp s,Iy dw,uQ,Iz,Iq dw,IA,aB,GH,GG,qQs,qQr,Gs,GD,GB,GA,GC,ih]
theorem IF (xs : LL) (h : WR Fv.ct 281 xs) {k : Int} (p0 : 0 ≤ k) (q0 : k + (Fw xs : Int) ≤ 4611686018427387904) : Ia.c k xs = some ⟨[[.int (k + (Fw xs : Int))]],[FH FC xs k]⟩:=adE _ xs (qQb _) h p0 q0
theorem Jc (xs : LL) (h : WR Fv.ct 283 xs) {k : Int} (p0 : 0 ≤ k) (q0 : k + (Fw xs : Int) ≤ 4611686018427387904) : JI.c k xs = some ⟨[[.int (k + (Fw xs : Int))]],[FH FC xs k]⟩:=by
 rw [JI.eq]; (try dsimp only [gr,gi,gl,gb,gt,Ft,ln,EK,aJ.i,aJ.l,aJ.b,aJ.t])
 refine Iw FC (l0:=fun k i s=>JI.l0 k i s) (fun k s hs=>?_) (fun i hi k s hs aB h0 hk=>?_) p0 q0
 ·show JI.l0 _ _ s = _
  rw [JI.Fx]; (try dsimp only [gr,gi,gl,gb,gt,Ft,ln,EK,aJ.i,aJ.l,aJ.b,aJ.t]); rw [← hs,FO (qQb _)]; rfl
 ·obtain ⟨c0,c1,c2,c3,c4,c5,c6,hr,HE⟩:=Wn (h.2 _ (FF hi (z:=[])))
  have hn:=Ih (FF hi (z:=[]))
  have dw : i < s.length:=by omega
  have hlen:=h.1
  rw [hr] at aB hk hn ⊢
  have e1 : k + (nR [.int c0,.int c1,.int c2,.int c3,.int c4,.int c5,.lst c6] : Int) = k + 1 + 1 + 1 + 1 + 1 + 1 + (Fw c6 : Int):=by simp only [nR,nU]; omega
  rw [e1] at hk ⊢
  have e2 : i < 9223372036854775807:=by omega
  show JI.l0 _ _ s = JI.l0 _ _ _
  rw [JI.Fx]; (try dsimp only [gr,gi,gl,gb,gt,Ft,ln,EK,aJ.i,aJ.l,aJ.b,aJ.t]); rw [FN dw,FW (by omega)]
  simp (disch:=first | assumption | omega) only [SB,Ix,qQl,qQd,FR,qQa dw,Gp s,Iy dw,uQ,Iz,Iq dw,IA,aB,GH,GG,qQs,qQr,Gs,GD,GB,GA,GC,Ie,Iv,IG,IF]
theorem Ka (xs : LL) (h : WR Fv.ct 164 xs) {k : Int} (p0 : 0 ≤ k) (q0 : k + (Fw xs : Int) ≤ 4611686018427387904) : KJ.c k xs = some ⟨[[.int (k + (Fw xs : Int))]],[FH FC xs k]⟩:=by
 rw [KJ.eq]; (try dsimp only [gr,gi,gl,gb,gt,Ft,ln,EK,aJ.i,aJ.l,aJ.b,aJ.t])
 refine Iw FC (l0:=fun k i s=>KJ.l0 k i s) (fun k s hs=>?_) (fun i hi k s hs aB h0 hk=>?_) p0 q0
 ·show KJ.l0 _ _ s = _
  rw [KJ.Fx]; (try dsimp only [gr,gi,gl,gb,gt,Ft,ln,EK,aJ.i,aJ.l,aJ.b,aJ.t]); rw [← hs,FO (qQb _)]; rfl
 ·obtain ⟨c0,c1,c2,c3,c4,hr,fG,HD⟩:=Ud (h.2 _ (FF hi (z:=[])))
  have hn:=Ih (FF hi (z:=[]))
  have dw : i < s.length:=by omega
  have hlen:=h.1
  rw [hr] at aB hk hn ⊢
  have e1 : k + (nR [.int c0,.int c1,.lst c2,.int c3,.lst c4] : Int) = k + 1 + 1 + (Fw c2 : Int) + 1 + (Fw c4 : Int):=by simp only [nR,nU]; omega
  rw [e1] at hk ⊢
  have e2 : i < 9223372036854775807:=by omega
  show KJ.l0 _ _ s = KJ.l0 _ _ _
  rw [KJ.Fx]; (try dsimp only [gr,gi,gl,gb,gt,Ft,ln,EK,aJ.i,aJ.l,aJ.b,aJ.t]); rw [FN dw,FW (by omega)]
  simp (disch:=first | assumption | omega) only [SB,Ix,qQl,qQd,FR,qQa dw,Gp s,Iy dw,uQ,Iz,Iq dw,IA,aB,GH,GG,qQs,qQr,Gs,GD,GB,GA,GC,Ie,Iv,IG,IF,Jc]
theorem KR (xs : LL) (h : WR Fv.ct 256 xs) {k : Int} (p0 : 0 ≤ k) (q0 : k + (Fw xs : Int) ≤ 4611686018427387904) : JF.c k xs = some ⟨[[.int (k + (Fw xs : Int))]],[FH FC xs k]⟩:=by
 rw [JF.eq]; (try dsimp only [gr,gi,gl,gb,gt,Ft,ln,EK,aJ.i,aJ.l,aJ.b,aJ.t])
 refine Iw FC (l0:=fun k i s=>JF.l0 k i s) (fun k s hs=>?_) (fun i hi k s hs aB h0 hk=>?_) p0 q0
 ·show JF.l0 _ _ s = _
  rw [JF.Fx]; (try dsimp only [gr,gi,gl,gb,gt,Ft,ln,EK,aJ.i,aJ.l,aJ.b,aJ.t]); rw [← hs,FO (qQb _)]; rfl
 ·obtain ⟨c0,c1,c2,c3,c4,c5,hr⟩:=XN (h.2 _ (FF hi (z:=[])))
  have hn:=Ih (FF hi (z:=[]))
  have dw : i < s.length:=by omega
  have hlen:=h.1
  rw [hr] at aB hk hn ⊢
  have e1 : k + (nR [.int c0,.int c1,.int c2,.int c3,.int c4,.int c5] : Int) = k + 1 + 1 + 1 + 1 + 1 + 1:=by simp only [nR,nU]; omega
  rw [e1] at hk ⊢
  have e2 : i < 9223372036854775807:=by omega
  show JF.l0 _ _ s = JF.l0 _ _ _
  rw [JF.Fx]; (try dsimp only [gr,gi,gl,gb,gt,Ft,ln,EK,aJ.i,aJ.l,aJ.b,aJ.t]); rw [FN dw,FW (by omega)]
  simp (disch:=first | assumption | omega) only [SB,Ix,qQl,qQd,FR,qQa dw,Gp s,Iy dw,uQ,Iz,Iq dw,IA,aB,GH,GG,qQs,qQr,Gs,GD,GB,GA,GC,Ie,Iv,IG,IF,Jc,Ka]
theorem Lm (xs : LL) (h : WR Fv.ct 260 xs) {k : Int} (p0 : 0 ≤ k) (q0 : k + (Fw xs : Int) ≤ 4611686018427387904) : JH.c k xs = some ⟨[[.int (k + (Fw xs : Int))]],[FH FC xs k]⟩:=by
 rw [JH.eq]; (try dsimp only [gr,gi,gl,gb,gt,Ft,ln,EK,aJ.i,aJ.l,aJ.b,aJ.t])
 refine Iw FC (l0:=fun k i s=>JH.l0 k i s) (fun k s hs=>?_) (fun i hi k s hs aB h0 hk=>?_) p0 q0
 ·show JH.l0 _ _ s = _
  rw [JH.Fx]; (try dsimp only [gr,gi,gl,gb,gt,Ft,ln,EK,aJ.i,aJ.l,aJ.b,aJ.t]); rw [← hs,FO (qQb _)]; rfl
 ·obtain ⟨c0,c1,hr⟩:=XO (h.2 _ (FF hi (z:=[])))
  have hn:=Ih (FF hi (z:=[]))
  have dw : i < s.length:=by omega
  have hlen:=h.1
  rw [hr] at aB hk hn ⊢
  have e1 : k + (nR [.int c0,.int c1] : Int) = k + 1 + 1:=by simp only [nR,nU]; omega
  rw [e1] at hk ⊢
  have e2 : i < 9223372036854775807:=by omega
  show JH.l0 _ _ s = JH.l0 _ _ _
  rw [JH.Fx]; (try dsimp only [gr,gi,gl,gb,gt,Ft,ln,EK,aJ.i,aJ.l,aJ.b,aJ.t]); rw [FN dw,FW (by omega)]
  simp (disch:=first | assumption | omega) only [SB,Ix,qQl,qQd,FR,qQa dw,Gp s,Iy dw,uQ,Iz,Iq dw,IA,aB,GH,GG,qQs,qQr,Gs,GD,GB,GA,GC,Ie,Iv,IG,IF,Jc,Ka,KR]
theorem LI (xs : LL) (h : WR Fv.ct 230 xs) {k : Int} (p0 : 0 ≤ k) (q0 : k + (Fw xs : Int) ≤ 4611686018427387904) : KF.c k xs = some ⟨[[.int (k + (Fw xs : Int))]],[FH FC xs k]⟩:=by
 rw [KF.eq]; (try dsimp only [gr,gi,gl,gb,gt,Ft,ln,EK,aJ.i,aJ.l,aJ.b,aJ.t])
 refine Iw FC (l0:=fun k i s=>KF.l0 k i s) (fun k s hs=>?_) (fun i hi k s hs aB h0 hk=>?_) p0 q0
 ·show KF.l0 _ _ s = _
  rw [KF.Fx]; (try dsimp only [gr,gi,gl,gb,gt,Ft,ln,EK,aJ.i,aJ.l,aJ.b,aJ.t]); rw [← hs,FO (qQb _)]; rfl
 ·obtain ⟨c0,c1,c2,c3,c4,c5,hr⟩:=XM (h.2 _ (FF hi (z:=[])))
  have hn:=Ih (FF hi (z:=[]))
  have dw : i < s.length:=by omega
  have hlen:=h.1
  rw [hr] at aB hk hn ⊢
  have e1 : k + (nR [.int c0,.int c1,.int c2,.int c3,.int c4,.int c5] : Int) = k + 1 + 1 + 1 + 1 + 1 + 1:=by simp only [nR,nU]; omega
  rw [e1] at hk ⊢
  have e2 : i < 9223372036854775807:=by omega
  show KF.l0 _ _ s = KF.l0 _ _ _
  rw [KF.Fx]; (try dsimp only [gr,gi,gl,gb,gt,Ft,ln,EK,aJ.i,aJ.l,aJ.b,aJ.t]); rw [FN dw,FW (by omega)]
  simp (disch:=first | assumption | omega) only [SB,Ix,qQl,qQd,FR,qQa dw,Gp s,Iy dw,uQ,Iz,Iq dw,IA,aB,GH,GG,qQs,qQr,Gs,GD,GB,GA,GC,Ie,Iv,IG,IF,Jc,Ka,KR,Lm]
theorem Mf (c0 c1 c2 c3 : LL) (c4 : Int) (c5 : LL) (jz : WR Fv.ct 252 c0) (sG : WR Fv.ct 164 c1) (fG : WR Fv.ct 256 c2) (Gu : WR Fv.ct 260 c3) (Ld : WR Fv.ct 230 c5) {k : Int} (p0 : 0 ≤ k) (q0 : k + (Fw c0 : Int) + (Fw c1 : Int) + (Fw c2 : Int) + (Fw c3 : Int) + (Fw c5 : Int) ≤ 4611686018427387904) : Tl.c c4 k c0 c1 c2 c3 c5 = some ⟨[[.int (k + (Fw c0 : Int) + (Fw c1 : Int) + (Fw c2 : Int) + (Fw c3 : Int) + (Fw c5 : Int))]],[FH FC c0 (k),FH FC c1 (k + (Fw c0 : Int)),FH FC c2 (k + (Fw c0 : Int) + (Fw c1 : Int)),FH FC c3 (k + (Fw c0 : Int) + (Fw c1 : Int) + (Fw c2 : Int)),FH FC c5 (k + (Fw c0 : Int) + (Fw c1 : Int) + (Fw c2 : Int) + (Fw c3 : Int))]⟩:=by
 rw [Tl.eq]; (try dsimp only [gr,gi,gl,gb,gt,Ft,ln,EK,aJ.i,aJ.l,aJ.b,aJ.t])
 simp (disch:=first | assumption | omega) only [SB,Ie,Iv,IG,IF,Jc,Ka,KR,Lm,LI]
theorem MO (xs : LL) (h : WR Fv.ct 286 xs) {k : Int} (p0 : 0 ≤ k) (q0 : k + (Fw xs : Int) ≤ 4611686018427387904) : KN.c k xs = some ⟨[[.int (k + (Fw xs : Int))]],[FH FC xs k]⟩:=by
 rw [KN.eq]; (try dsimp only [gr,gi,gl,gb,gt,Ft,ln,EK,aJ.i,aJ.l,aJ.b,aJ.t])
 refine Iw FC (l0:=fun k i s=>KN.l0 k i s) (fun k s hs=>?_) (fun i hi k s hs aB h0 hk=>?_) p0 q0
 ·show KN.l0 _ _ s = _
  rw [KN.Fx]; (try dsimp only [gr,gi,gl,gb,gt,Ft,ln,EK,aJ.i,aJ.l,aJ.b,aJ.t]); rw [← hs,FO (qQb _)]; rfl
 ·obtain ⟨c0,c1,c2,c3,c4,c5,c6,c7,hr⟩:=Rk (h.2 _ (FF hi (z:=[])))
  have hn:=Ih (FF hi (z:=[]))
  have dw : i < s.length:=by omega
  have hlen:=h.1
  rw [hr] at aB hk hn ⊢
  have e1 : k + (nR [.int c0,.int c1,.int c2,.int c3,.int c4,.int c5,.int c6,.int c7] : Int) = k + 1 + 1 + 1 + 1 + 1 + 1 + 1 + 1:=by simp only [nR,nU]; omega
  rw [e1] at hk ⊢
  have e2 : i < 9223372036854775807:=by omega
  show KN.l0 _ _ s = KN.l0 _ _ _
  rw [KN.Fx]; (try dsimp only [gr,gi,gl,gb,gt,Ft,ln,EK,aJ.i,aJ.l,aJ.b,aJ.t]); rw [FN dw,FW (by omega)]
  simp (disch:=first | assumption | omega) only [SB,Ix,qQl,qQd,FR,qQa dw,Gp s,Iy dw,uQ,Iz,Iq dw,IA,aB,GH,GG,qQs,qQr,Gs,GD,GB,GA,GC,Ie,Iv,IG,IF,Jc,Ka,KR,Lm,LI,Mf]
theorem Nt (xs : LL) (h : WR Fv.ct 167 xs) {k : Int} (p0 : 0 ≤ k) (q0 : k + (Fw xs : Int) ≤ 4611686018427387904) : KM.c k xs = some ⟨[[.int (k + (Fw xs : Int))]],[FH FC xs k]⟩:=by
 rw [KM.eq]; (try dsimp only [gr,gi,gl,gb,gt,Ft,ln,EK,aJ.i,aJ.l,aJ.b,aJ.t])
 refine Iw FC (l0:=fun k i s=>KM.l0 k i s) (fun k s hs=>?_) (fun i hi k s hs aB h0 hk=>?_) p0 q0
 ·show KM.l0 _ _ s = _
  rw [KM.Fx]; (try dsimp only [gr,gi,gl,gb,gt,Ft,ln,EK,aJ.i,aJ.l,aJ.b,aJ.t]); rw [← hs,FO (qQb _)]; rfl
 ·obtain ⟨c0,c1,c2,c3,c4,c5,c6,c7,c8,c9,hr,Gu,Ld,HE,Le,Lg⟩:=OY (h.2 _ (FF hi (z:=[])))
  have hn:=Ih (FF hi (z:=[]))
  have dw : i < s.length:=by omega
  have hlen:=h.1
  rw [hr] at aB hk hn ⊢
  have e1 : k + (nR [.int c0,.int c1,.int c2,.lst c3,.int c4,.lst c5,.lst c6,.lst c7,.int c8,.lst c9] : Int) = k + 1 + 1 + 1 + (Fw c3 : Int) + 1 + (Fw c5 : Int) + (Fw c6 : Int) + (Fw c7 : Int) + 1 + (Fw c9 : Int):=by simp only [nR,nU]; omega
  rw [e1] at hk ⊢
  have e2 : i < 9223372036854775807:=by omega
  show KM.l0 _ _ s = KM.l0 _ _ _
  rw [KM.Fx]; (try dsimp only [gr,gi,gl,gb,gt,Ft,ln,EK,aJ.i,aJ.l,aJ.b,aJ.t]); rw [FN dw,FW (by omega)]
  simp (disch:=first | assumption | omega) only [SB,Ix,qQl,qQd,FR,qQa dw,Gp s,Iy dw,uQ,Iz,Iq dw,IA,aB,GH,GG,qQs,qQr,Gs,GD,GB,GA,GC,Ie,Iv,IG,IF,Jc,Ka,KR,Lm,LI,Mf,MO]
theorem NJ (xs : LL) (h : WR Fv.ct 4 xs) {k : Int} (p0 : 0 ≤ k) (q0 : k + (Fw xs : Int) ≤ 4611686018427387904) : KE.c k xs = some ⟨[[.int (k + (Fw xs : Int))]],[FH FC xs k]⟩:=by
 rw [KE.eq]; (try dsimp only [gr,gi,gl,gb,gt,Ft,ln,EK,aJ.i,aJ.l,aJ.b,aJ.t])
 refine Iw FC (l0:=fun k i s=>KE.l0 k i s) (fun k s hs=>?_) (fun i hi k s hs aB h0 hk=>?_) p0 q0
 ·show KE.l0 _ _ s = _
  rw [KE.Fx]; (try dsimp only [gr,gi,gl,gb,gt,Ft,ln,EK,aJ.i,aJ.l,aJ.b,aJ.t]); rw [← hs,FO (qQb _)]; rfl
 ·obtain ⟨c0,hr⟩:=Ug (h.2 _ (FF hi (z:=[])))
  have hn:=Ih (FF hi (z:=[]))
  have dw : i < s.length:=by omega
  have hlen:=h.1
  rw [hr] at aB hk hn ⊢
  have e1 : k + (nR [.bool c0] : Int) = k + 1:=by simp only [nR,nU]; omega
  rw [e1] at hk ⊢
  have e2 : i < 9223372036854775807:=by omega
  show KE.l0 _ _ s = KE.l0 _ _ _
  rw [KE.Fx]; (try dsimp only [gr,gi,gl,gb,gt,Ft,ln,EK,aJ.i,aJ.l,aJ.b,aJ.t]); rw [FN dw,FW (by omega)]
  simp (disch:=first | assumption | omega) only [SB,Ix,qQl,qQd,FR,qQa dw,Gp s,Iy dw,uQ,Iz,Iq dw,IA,aB,GH,GG,qQs,qQr,Gs,GD,GB,GA,GC,Ie,Iv,IG,IF,Jc,Ka,KR,Lm,LI,Mf,MO,Nt]
theorem Od (xs : LL) (h : WR Fv.ct 96 xs) {k : Int} (p0 : 0 ≤ k) (q0 : k + (Fw xs : Int) ≤ 4611686018427387904) : KH.c k xs = some ⟨[[.int (k + (Fw xs : Int))]],[FH FC xs k]⟩:=by
 rw [KH.eq]; (try dsimp only [gr,gi,gl,gb,gt,Ft,ln,EK,aJ.i,aJ.l,aJ.b,aJ.t])
 refine Iw FC (l0:=fun k i s=>KH.l0 k i s) (fun k s hs=>?_) (fun i hi k s hs aB h0 hk=>?_) p0 q0
 ·show KH.l0 _ _ s = _
  rw [KH.Fx]; (try dsimp only [gr,gi,gl,gb,gt,Ft,ln,EK,aJ.i,aJ.l,aJ.b,aJ.t]); rw [← hs,FO (qQb _)]; rfl
 ·obtain ⟨c0,c1,c2,c3,c4,c5,c6,c7,c8,hr⟩:=XQ (h.2 _ (FF hi (z:=[])))
  have hn:=Ih (FF hi (z:=[]))
  have dw : i < s.length:=by omega
  have hlen:=h.1
  rw [hr] at aB hk hn ⊢
  have e1 : k + (nR [.int c0,.int c1,.int c2,.int c3,.int c4,.int c5,.int c6,.int c7,.int c8] : Int) = k + 1 + 1 + 1 + 1 + 1 + 1 + 1 + 1 + 1:=by simp only [nR,nU]; omega
  rw [e1] at hk ⊢
  have e2 : i < 9223372036854775807:=by omega
  show KH.l0 _ _ s = KH.l0 _ _ _
  rw [KH.Fx]; (try dsimp only [gr,gi,gl,gb,gt,Ft,ln,EK,aJ.i,aJ.l,aJ.b,aJ.t]); rw [FN dw,FW (by omega)]
  simp (disch:=first | assumption | omega) only [SB,Ix,qQl,qQd,FR,qQa dw,Gp s,Iy dw,uQ,Iz,Iq dw,IA,aB,GH,GG,qQs,qQr,Gs,GD,GB,GA,GC,Ie,Iv,IG,IF,Jc,Ka,KR,Lm,LI,Mf,MO,Nt,NJ]
theorem OD (xs : LL) (h : WR Fv.ct 90 xs) {k : Int} (p0 : 0 ≤ k) (q0 : k + (Fw xs : Int) ≤ 4611686018427387904) : KI.c k xs = some ⟨[[.int (k + (Fw xs : Int))]],[FH FC xs k]⟩:=by
 rw [KI.eq]; (try dsimp only [gr,gi,gl,gb,gt,Ft,ln,EK,aJ.i,aJ.l,aJ.b,aJ.t])
 refine Iw FC (l0:=fun k i s=>KI.l0 k i s) (fun k s hs=>?_) (fun i hi k s hs aB h0 hk=>?_) p0 q0
 ·show KI.l0 _ _ s = _
  rw [KI.Fx]; (try dsimp only [gr,gi,gl,gb,gt,Ft,ln,EK,aJ.i,aJ.l,aJ.b,aJ.t]); rw [← hs,FO (qQb _)]; rfl
 ·obtain ⟨c0,hr,jz⟩:=Rl (h.2 _ (FF hi (z:=[])))
  have hn:=Ih (FF hi (z:=[]))
  have dw : i < s.length:=by omega
  have hlen:=h.1
  rw [hr] at aB hk hn ⊢
  have e1 : k + (nR [.lst c0] : Int) = k + (Fw c0 : Int):=by simp only [nR,nU]; omega
  rw [e1] at hk ⊢
  have e2 : i < 9223372036854775807:=by omega
  show KI.l0 _ _ s = KI.l0 _ _ _
  rw [KI.Fx]; (try dsimp only [gr,gi,gl,gb,gt,Ft,ln,EK,aJ.i,aJ.l,aJ.b,aJ.t]); rw [FN dw,FW (by omega)]
  simp (disch:=first | assumption | omega) only [SB,Ix,qQl,qQd,FR,qQa dw,Gp s,Iy dw,uQ,Iz,Iq dw,IA,aB,GH,GG,qQs,qQr,Gs,GD,GB,GA,GC,Ie,Iv,IG,IF,Jc,Ka,KR,Lm,LI,Mf,MO,Nt,NJ,Od]
theorem PD (xs : LL) (h : WR Fv.ct 182 xs) {k : Int} (p0 : 0 ≤ k) (q0 : k + (Fw xs : Int) ≤ 4611686018427387904) : KP.c k xs = some ⟨[[.int (k + (Fw xs : Int))]],[FH FC xs k]⟩:=by
 rw [KP.eq]; (try dsimp only [gr,gi,gl,gb,gt,Ft,ln,EK,aJ.i,aJ.l,aJ.b,aJ.t])
 refine Iw FC (l0:=fun k i s=>KP.l0 k i s) (fun k s hs=>?_) (fun i hi k s hs aB h0 hk=>?_) p0 q0
 ·show KP.l0 _ _ s = _
  rw [KP.Fx]; (try dsimp only [gr,gi,gl,gb,gt,Ft,ln,EK,aJ.i,aJ.l,aJ.b,aJ.t]); rw [← hs,FO (qQb _)]; rfl
 ·obtain ⟨c0,c1,hr⟩:=Wl (h.2 _ (FF hi (z:=[])))
  have hn:=Ih (FF hi (z:=[]))
  have dw : i < s.length:=by omega
  have hlen:=h.1
  rw [hr] at aB hk hn ⊢
  have e1 : k + (nR [.int c0,.int c1] : Int) = k + 1 + 1:=by simp only [nR,nU]; omega
  rw [e1] at hk ⊢
  have e2 : i < 9223372036854775807:=by omega
  show KP.l0 _ _ s = KP.l0 _ _ _
  rw [KP.Fx]; (try dsimp only [gr,gi,gl,gb,gt,Ft,ln,EK,aJ.i,aJ.l,aJ.b,aJ.t]); rw [FN dw,FW (by omega)]
  simp (disch:=first | assumption | omega) only [SB,Ix,qQl,qQd,FR,qQa dw,Gp s,Iy dw,uQ,Iz,Iq dw,IA,aB,GH,GG,qQs,qQr,Gs,GD,GB,GA,GC,Ie,Iv,IG,IF,Jc,Ka,KR,Lm,LI,Mf,MO,Nt,NJ,Od,OD]
theorem Rb (xs : LL) (h : WR Fv.ct 185 xs) {k : Int} (p0 : 0 ≤ k) (q0 : k + (Fw xs : Int) ≤ 4611686018427387904) : KK.c k xs = some ⟨[[.int (k + (Fw xs : Int))]],[FH FC xs k]⟩:=by
 rw [KK.eq]; (try dsimp only [gr,gi,gl,gb,gt,Ft,ln,EK,aJ.i,aJ.l,aJ.b,aJ.t])
 refine Iw FC (l0:=fun k i s=>KK.l0 k i s) (fun k s hs=>?_) (fun i hi k s hs aB h0 hk=>?_) p0 q0
 ·show KK.l0 _ _ s = _
  rw [KK.Fx]; (try dsimp only [gr,gi,gl,gb,gt,Ft,ln,EK,aJ.i,aJ.l,aJ.b,aJ.t]); rw [← hs,FO (qQb _)]; rfl
 ·obtain ⟨c0,c1,c2,c3,c4,c5,c6,hr,Gu⟩:=PK (h.2 _ (FF hi (z:=[])))
  have hn:=Ih (FF hi (z:=[]))
  have dw : i < s.length:=by omega
  have hlen:=h.1
  rw [hr] at aB hk hn ⊢
  have e1 : k + (nR [.int c0,.int c1,.int c2,.lst c3,.int c4,.int c5,.bool c6] : Int) = k + 1 + 1 + 1 + (Fw c3 : Int) + 1 + 1 + 1:=by simp only [nR,nU]; omega
  rw [e1] at hk ⊢
  have e2 : i < 9223372036854775807:=by omega
  show KK.l0 _ _ s = KK.l0 _ _ _
  rw [KK.Fx]; (try dsimp only [gr,gi,gl,gb,gt,Ft,ln,EK,aJ.i,aJ.l,aJ.b,aJ.t]); rw [FN dw,FW (by omega)]
  simp (disch:=first | assumption | omega) only [SB,Ix,qQl,qQd,FR,qQa dw,Gp s,Iy dw,uQ,Iz,Iq dw,IA,aB,GH,GG,qQs,qQr,Gs,GD,GB,GA,GC,Ie,Iv,IG,IF,Jc,Ka,KR,Lm,LI,Mf,MO,Nt,NJ,Od,OD,PD]
theorem TZ (xs : LL) (h : WR Fv.ct 188 xs) {k : Int} (p0 : 0 ≤ k) (q0 : k + (Fw xs : Int) ≤ 4611686018427387904) : KD.c k xs = some ⟨[[.int (k + (Fw xs : Int))]],[FH FC xs k]⟩:=by
 rw [KD.eq]; (try dsimp only [gr,gi,gl,gb,gt,Ft,ln,EK,aJ.i,aJ.l,aJ.b,aJ.t])
 refine Iw FC (l0:=fun k i s=>KD.l0 k i s) (fun k s hs=>?_) (fun i hi k s hs aB h0 hk=>?_) p0 q0
 ·show KD.l0 _ _ s = _
  rw [KD.Fx]; (try dsimp only [gr,gi,gl,gb,gt,Ft,ln,EK,aJ.i,aJ.l,aJ.b,aJ.t]); rw [← hs,FO (qQb _)]; rfl
 ·obtain ⟨c0,c1,c2,hr⟩:=XJ (h.2 _ (FF hi (z:=[])))
  have hn:=Ih (FF hi (z:=[]))
  have dw : i < s.length:=by omega
  have hlen:=h.1
  rw [hr] at aB hk hn ⊢
  have e1 : k + (nR [.int c0,.int c1,.int c2] : Int) = k + 1 + 1 + 1:=by simp only [nR,nU]; omega
  rw [e1] at hk ⊢
  have e2 : i < 9223372036854775807:=by omega
  show KD.l0 _ _ s = KD.l0 _ _ _
  rw [KD.Fx]; (try dsimp only [gr,gi,gl,gb,gt,Ft,ln,EK,aJ.i,aJ.l,aJ.b,aJ.t]); rw [FN dw,FW (by omega)]
  simp (disch:=first | assumption | omega) only [SB,Ix,qQl,qQd,FR,qQa dw,Gp s,Iy dw,uQ,Iz,Iq dw,IA,aB,GH,GG,qQs,qQr,Gs,GD,GB,GA,GC,Ie,Iv,IG,IF,Jc,Ka,KR,Lm,LI,Mf,MO,Nt,NJ,Od,OD,PD,Rb]
theorem Wf (xs : LL) (h : WR Fv.ct 192 xs) {k : Int} (p0 : 0 ≤ k) (q0 : k + (Fw xs : Int) ≤ 4611686018427387904) : KQ.c k xs = some ⟨[[.int (k + (Fw xs : Int))]],[FH FC xs k]⟩:=by
 rw [KQ.eq]; (try dsimp only [gr,gi,gl,gb,gt,Ft,ln,EK,aJ.i,aJ.l,aJ.b,aJ.t])
 refine Iw FC (l0:=fun k i s=>KQ.l0 k i s) (fun k s hs=>?_) (fun i hi k s hs aB h0 hk=>?_) p0 q0
 ·show KQ.l0 _ _ s = _
  rw [KQ.Fx]; (try dsimp only [gr,gi,gl,gb,gt,Ft,ln,EK,aJ.i,aJ.l,aJ.b,aJ.t]); rw [← hs,FO (qQb _)]; rfl
 ·obtain ⟨c0,c1,c2,c3,hr⟩:=XK (h.2 _ (FF hi (z:=[])))
  have hn:=Ih (FF hi (z:=[]))
  have dw : i < s.length:=by omega
  have hlen:=h.1
  rw [hr] at aB hk hn ⊢
  have e1 : k + (nR [.int c0,.int c1,.int c2,.int c3] : Int) = k + 1 + 1 + 1 + 1:=by simp only [nR,nU]; omega
  rw [e1] at hk ⊢
  have e2 : i < 9223372036854775807:=by omega
  show KQ.l0 _ _ s = KQ.l0 _ _ _
  rw [KQ.Fx]; (try dsimp only [gr,gi,gl,gb,gt,Ft,ln,EK,aJ.i,aJ.l,aJ.b,aJ.t]); rw [FN dw,FW (by omega)]
  simp (disch:=first | assumption | omega) only [SB,Ix,qQl,qQd,FR,qQa dw,Gp s,Iy dw,uQ,Iz,Iq dw,IA,aB,GH,GG,qQs,qQr,Gs,GD,GB,GA,GC,Ie,Iv,IG,IF,Jc,Ka,KR,Lm,LI,Mf,MO,Nt,NJ,Od,OD,PD,Rb,TZ]
theorem Xo (c0 c1 : LL) (c2 : Int) (jz : WR Fv.ct 3 c0) (sG : WR Fv.ct 3 c1) {k : Int} (p0 : 0 ≤ k) (q0 : k + (Fw c0 : Int) + (Fw c1 : Int) ≤ 4611686018427387904) : Tm.c c2 k c0 c1 = some ⟨[[.int (k + (Fw c0 : Int) + (Fw c1 : Int))]],[FH FC c0 (k),FH FC c1 (k + (Fw c0 : Int))]⟩:=by
 rw [Tm.eq]; (try dsimp only [gr,gi,gl,gb,gt,Ft,ln,EK,aJ.i,aJ.l,aJ.b,aJ.t])
 simp (disch:=first | assumption | omega) only [SB,Ie,Iv,IG,IF,Jc,Ka,KR,Lm,LI,Mf,MO,Nt,NJ,Od,OD,PD,Rb,TZ,Wf]
theorem Zq (xs : LL) (h : WR Fv.ct 94 xs) {k : Int} (p0 : 0 ≤ k) (q0 : k + (Fw xs : Int) ≤ 4611686018427387904) : KG.c k xs = some ⟨[[.int (k + (Fw xs : Int))]],[FH FC xs k]⟩:=by
 rw [KG.eq]; (try dsimp only [gr,gi,gl,gb,gt,Ft,ln,EK,aJ.i,aJ.l,aJ.b,aJ.t])
 refine Iw FC (l0:=fun k i s=>KG.l0 k i s) (fun k s hs=>?_) (fun i hi k s hs aB h0 hk=>?_) p0 q0
 ·show KG.l0 _ _ s = _
  rw [KG.Fx]; (try dsimp only [gr,gi,gl,gb,gt,Ft,ln,EK,aJ.i,aJ.l,aJ.b,aJ.t]); rw [← hs,FO (qQb _)]; rfl
 ·obtain ⟨c0,c1,c2,c3,c4,c5,hr,HD⟩:=Ui (h.2 _ (FF hi (z:=[])))
  have hn:=Ih (FF hi (z:=[]))
  have dw : i < s.length:=by omega
  have hlen:=h.1
  rw [hr] at aB hk hn ⊢
  have e1 : k + (nR [.int c0,.int c1,.int c2,.int c3,.lst c4,.bool c5] : Int) = k + 1 + 1 + 1 + 1 + (Fw c4 : Int) + 1:=by simp only [nR,nU]; omega
  rw [e1] at hk ⊢
  have e2 : i < 9223372036854775807:=by omega
  show KG.l0 _ _ s = KG.l0 _ _ _
  rw [KG.Fx]; (try dsimp only [gr,gi,gl,gb,gt,Ft,ln,EK,aJ.i,aJ.l,aJ.b,aJ.t]); rw [FN dw,FW (by omega)]
  simp (disch:=first | assumption | omega) only [SB,Ix,qQl,qQd,FR,qQa dw,Gp s,Iy dw,uQ,Iz,Iq dw,IA,aB,GH,GG,qQs,qQr,Gs,GD,GB,GA,GC,Ie,Iv,IG,IF,Jc,Ka,KR,Lm,LI,Mf,MO,Nt,NJ,Od,OD,PD,Rb,TZ,Wf,Xo]
theorem adF (xs : LL) (h : WR Fv.ct 198 xs) {k : Int} (p0 : 0 ≤ k) (q0 : k + (Fw xs : Int) ≤ 4611686018427387904) : KO.c k xs = some ⟨[[.int (k + (Fw xs : Int))]],[FH FC xs k]⟩:=by
 rw [KO.eq]; (try dsimp only [gr,gi,gl,gb,gt,Ft,ln,EK,aJ.i,aJ.l,aJ.b,aJ.t])
 refine Iw FC (l0:=fun k i s=>KO.l0 k i s) (fun k s hs=>?_) (fun i hi k s hs aB h0 hk=>?_) p0 q0
 ·show KO.l0 _ _ s = _
  rw [KO.Fx]; (try dsimp only [gr,gi,gl,gb,gt,Ft,ln,EK,aJ.i,aJ.l,aJ.b,aJ.t]); rw [← hs,FO (qQb _)]; rfl
 ·obtain ⟨c0,c1,c2,c3,c4,c5,c6,c7,c8,c9,hr⟩:=XL (h.2 _ (FF hi (z:=[])))
  have hn:=Ih (FF hi (z:=[]))
  have dw : i < s.length:=by omega
  have hlen:=h.1
  rw [hr] at aB hk hn ⊢
  have e1 : k + (nR [.int c0,.int c1,.int c2,.int c3,.int c4,.int c5,.int c6,.int c7,.int c8,.bool c9] : Int) = k + 1 + 1 + 1 + 1 + 1 + 1 + 1 + 1 + 1 + 1:=by simp only [nR,nU]; omega
  rw [e1] at hk ⊢
  have e2 : i < 9223372036854775807:=by omega
  show KO.l0 _ _ s = KO.l0 _ _ _
  rw [KO.Fx]; (try dsimp only [gr,gi,gl,gb,gt,Ft,ln,EK,aJ.i,aJ.l,aJ.b,aJ.t]); rw [FN dw,FW (by omega)]
  simp (disch:=first | assumption | omega) only [SB,Ix,qQl,qQd,FR,qQa dw,Gp s,Iy dw,uQ,Iz,Iq dw,IA,aB,GH,GG,qQs,qQr,Gs,GD,GB,GA,GC,Ie,Iv,IG,IF,Jc,Ka,KR,Lm,LI,Mf,MO,Nt,NJ,Od,OD,PD,Rb,TZ,Wf,Xo,Zq]
theorem Zr (c0 : Int) (c1 c2 c3 c4 : LL) (c5 : Int) (c6 c7 c8 c9 : LL) (KY : Int) (Gn Gq Gy Gz GL GN : LL) (Ki : Int) (GS Hm : LL) (sG : WR Fv.ct 252 c1) (fG : WR Fv.ct 164 c2) (Gu : WR Fv.ct 256 c3) (HD : WR Fv.ct 260 c4) (HE : WR Fv.ct 230 c6) (Le : WR Fv.ct 167 c7) (Sh : WR Fv.ct 4 c8) (Lg : WR Fv.ct 90 c9) (RZ : WR Fv.ct 182 Gn) (Sa : WR Fv.ct 185 Gq) (Sb : WR Fv.ct 188 Gy) (Sc : WR Fv.ct 192 Gz) (Sd : WR Fv.ct 3 GL) (Se : WR Fv.ct 3 GN) (Sf : WR Fv.ct 94 GS) (Sg : WR Fv.ct 198 Hm) {k : Int} (p0 : 0 ≤ k) (q0 : k + (Fw c1 : Int) + (Fw c2 : Int) + (Fw c3 : Int) + (Fw c4 : Int) + (Fw c6 : Int) + (Fw c7 : Int) + (Fw c8 : Int) + (Fw c9 : Int) + (Fw Gn : Int) + (Fw Gq : Int) + (Fw Gy : Int) + (Fw Gz : Int) + (Fw GL : Int) + (Fw GN : Int) + (Fw GS : Int) + (Fw Hm : Int) ≤ 4611686018427387904) : QV.c c0 c5 KY Ki k c1 c2 c3 c4 c6 c7 c8 c9 Gn Gq Gy Gz GL GN GS Hm = some ⟨[[.int (k + (Fw c1 : Int) + (Fw c2 : Int) + (Fw c3 : Int) + (Fw c4 : Int) + (Fw c6 : Int) + (Fw c7 : Int) + (Fw c8 : Int) + (Fw c9 : Int) + (Fw Gn : Int) + (Fw Gq : Int) + (Fw Gy : Int) + (Fw Gz : Int) + (Fw GL : Int) + (Fw GN : Int) + (Fw GS : Int) + (Fw Hm : Int))]],[FH FC c1 (k),FH FC c2 (k + (Fw c1 : Int)),FH FC c3 (k + (Fw c1 : Int) + (Fw c2 : Int)),FH FC c4 (k + (Fw c1 : Int) + (Fw c2 : Int) + (Fw c3 : Int)),FH FC c6 (k + (Fw c1 : Int) + (Fw c2 : Int) + (Fw c3 : Int) + (Fw c4 : Int)),FH FC c7 (k + (Fw c1 : Int) + (Fw c2 : Int) + (Fw c3 : Int) + (Fw c4 : Int) + (Fw c6 : Int)),FH FC c8 (k + (Fw c1 : Int) + (Fw c2 : Int) + (Fw c3 : Int) + (Fw c4 : Int) + (Fw c6 : Int) + (Fw c7 : Int)),FH FC c9 (k + (Fw c1 : Int) + (Fw c2 : Int) + (Fw c3 : Int) + (Fw c4 : Int) + (Fw c6 : Int) + (Fw c7 : Int) + (Fw c8 : Int)),FH FC Gn (k + (Fw c1 : Int) + (Fw c2 : Int) + (Fw c3 : Int) + (Fw c4 : Int) + (Fw c6 : Int) + (Fw c7 : Int) + (Fw c8 : Int) + (Fw c9 : Int)),FH FC Gq (k + (Fw c1 : Int) + (Fw c2 : Int) + (Fw c3 : Int) + (Fw c4 : Int) + (Fw c6 : Int) + (Fw c7 : Int) + (Fw c8 : Int) + (Fw c9 : Int) + (Fw Gn : Int)),FH FC Gy (k + (Fw c1 : Int) + (Fw c2 : Int) + (Fw c3 : Int) + (Fw c4 : Int) + (Fw c6 : Int) + (Fw c7 : Int) + (Fw c8 : Int) + (Fw c9 : Int) + (Fw Gn : Int) + (Fw Gq : Int)),FH FC Gz (k + (Fw c1 : Int) + (Fw c2 : Int) + (Fw c3 : Int) + (Fw c4 : Int) + (Fw c6 : Int) + (Fw c7 : Int) + (Fw c8 : Int) + (Fw c9 : Int) + (Fw Gn : Int) + (Fw Gq : Int) + (Fw Gy : Int)),FH FC GL (k + (Fw c1 : Int) + (Fw c2 : Int) + (Fw c3 : Int) + (Fw c4 : Int) + (Fw c6 : Int) + (Fw c7 : Int) + (Fw c8 : Int) + (Fw c9 : Int) + (Fw Gn : Int) + (Fw Gq : Int) + (Fw Gy : Int) + (Fw Gz : Int)),FH FC GN (k + (Fw c1 : Int) + (Fw c2 : Int) + (Fw c3 : Int) + (Fw c4 : Int) + (Fw c6 : Int) + (Fw c7 : Int) + (Fw c8 : Int) + (Fw c9 : Int) + (Fw Gn : Int) + (Fw Gq : Int) + (Fw Gy : Int) + (Fw Gz : Int) + (Fw GL : Int)),FH FC GS (k + (Fw c1 : Int) + (Fw c2 : Int) + (Fw c3 : Int) + (Fw c4 : Int) + (Fw c6 : Int) + (Fw c7 : Int) + (Fw c8 : Int) + (Fw c9 : Int) + (Fw Gn : Int) + (Fw Gq : Int) + (Fw Gy : Int) + (Fw Gz : Int) + (Fw GL : Int) + (Fw GN : Int)),FH FC Hm (k + (Fw c1 : Int) + (Fw c2 : Int) + (Fw c3 : Int) + (Fw c4 : Int) + (Fw c6 : Int) + (Fw c7 : Int) + (Fw c8 : Int) + (Fw c9 : Int) + (Fw Gn : Int) + (Fw Gq : Int) + (Fw Gy : Int) + (Fw Gz : Int) + (Fw GL : Int) + (Fw GN : Int) + (Fw GS : Int))]⟩:=by
 rw [QV.eq]; (try dsimp only [gr,gi,gl,gb,gt,Ft,ln,EK,aJ.i,aJ.l,aJ.b,aJ.t])
 simp (disch:=first | assumption | omega) only [SB,Ie,Iv,IG,IF,Jc,Ka,KR,Lm,LI,Mf,MO,Nt,NJ,Od,OD,PD,Rb,TZ,Wf,Xo,Zq,adF]
theorem HV (xs : LL) (h : WR Fv.ct 3 xs) {m : Int} (p0 : 0 ≤ m) (q0 : m + (Fw xs : Int) ≤ 4611686018427387904) : It.c (FH FC xs m) m = some ⟨[[.int (m + (Fw xs : Int))]],[]⟩:=by
 rw [It.eq]; (try dsimp only [gr,gi,gl,gb,gt,Ft,ln,EK,aJ.i,aJ.l,aJ.b,aJ.t])
 have hm:=Ig FC xs m
 have hlen:=h.1
 refine Is FC (l0:=fun k i=>It.l0 (FH FC xs m) k i) p0 q0 (fun k=>?_) (fun i hi k aB h0 hk=>?_)
 ·show It.l0 _ _ _ = _
  rw [It.Fx]; (try dsimp only [gr,gi,gl,gb,gt,Ft,ln,EK,aJ.i,aJ.l,aJ.b,aJ.t]); rw [show decide ((xs.length : Int) < ((FH FC xs m).length : Int)) = false from by rw [hm]; exact FO (qQb _)]; rfl
 ·obtain ⟨c0,hr⟩:=Uf (h.2 _ (FF hi (z:=[])))
  have dw : i < (FH FC xs m).length:=by omega
  rw [hr] at aB hk ⊢
  simp only [GD,GB,GA,GC] at aB
  have e1 : k + (nR [.int c0] : Int) = k + 1:=by simp only [nR,nU]; omega
  rw [e1] at hk ⊢
  show It.l0 _ _ _ = It.l0 _ _ _
  rw [It.Fx]; (try dsimp only [gr,gi,gl,gb,gt,Ft,ln,EK,aJ.i,aJ.l,aJ.b,aJ.t]); rw [FN dw,FW (by omega)]
  simp (disch:=first | assumption | omega) [-List.getD_eq_getElem?_getD,SB,qQd,FR,qQa dw,aB,Gs,Ho]
theorem Ir (xs : LL) (h : WR Fv.ct 252 xs) {m : Int} (p0 : 0 ≤ m) (q0 : m + (Fw xs : Int) ≤ 4611686018427387904) : Kx.c (FH FC xs m) m = some ⟨[[.int (m + (Fw xs : Int))]],[]⟩:=by
 rw [Kx.eq]; (try dsimp only [gr,gi,gl,gb,gt,Ft,ln,EK,aJ.i,aJ.l,aJ.b,aJ.t])
 have hm:=Ig FC xs m
 have hlen:=h.1
 refine Is FC (l0:=fun k i=>Kx.l0 (FH FC xs m) k i) p0 q0 (fun k=>?_) (fun i hi k aB h0 hk=>?_)
 ·show Kx.l0 _ _ _ = _
  rw [Kx.Fx]; (try dsimp only [gr,gi,gl,gb,gt,Ft,ln,EK,aJ.i,aJ.l,aJ.b,aJ.t]); rw [show decide ((xs.length : Int) < ((FH FC xs m).length : Int)) = false from by rw [hm]; exact FO (qQb _)]; rfl
 ·obtain ⟨c0,c1,c2,hr,sG⟩:=Ue (h.2 _ (FF hi (z:=[])))
  have dw : i < (FH FC xs m).length:=by omega
  rw [hr] at aB hk ⊢
  simp only [GD,GB,GA,GC] at aB
  have e1 : k + (nR [.int c0,.lst c1,.int c2] : Int) = k + 1 + (Fw c1 : Int) + 1:=by simp only [nR,nU]; omega
  rw [e1] at hk ⊢
  show Kx.l0 _ _ _ = Kx.l0 _ _ _
  rw [Kx.Fx]; (try dsimp only [gr,gi,gl,gb,gt,Ft,ln,EK,aJ.i,aJ.l,aJ.b,aJ.t]); rw [FN dw,FW (by omega)]
  simp (disch:=first | assumption | omega) [-List.getD_eq_getElem?_getD,SB,qQd,FR,qQa dw,aB,Gs,Ho,HV]
theorem ID (xs : LL) (h : WR Fv.ct 278 xs) {m : Int} (p0 : 0 ≤ m) (q0 : m + (Fw xs : Int) ≤ 4611686018427387904) : JC.c (FH FC xs m) m = some ⟨[[.int (m + (Fw xs : Int))]],[]⟩:=by
 rw [JC.eq]; (try dsimp only [gr,gi,gl,gb,gt,Ft,ln,EK,aJ.i,aJ.l,aJ.b,aJ.t])
 have hm:=Ig FC xs m
 have hlen:=h.1
 refine Is FC (l0:=fun k i=>JC.l0 (FH FC xs m) k i) p0 q0 (fun k=>?_) (fun i hi k aB h0 hk=>?_)
 ·show JC.l0 _ _ _ = _
  rw [JC.Fx]; (try dsimp only [gr,gi,gl,gb,gt,Ft,ln,EK,aJ.i,aJ.l,aJ.b,aJ.t]); rw [show decide ((xs.length : Int) < ((FH FC xs m).length : Int)) = false from by rw [hm]; exact FO (qQb _)]; rfl
 ·obtain ⟨c0,c1,hr⟩:=XP (h.2 _ (FF hi (z:=[])))
  have dw : i < (FH FC xs m).length:=by omega
  rw [hr] at aB hk ⊢
  simp only [GD,GB,GA,GC] at aB
  have e1 : k + (nR [.int c0,.int c1] : Int) = k + 1 + 1:=by simp only [nR,nU]; omega
  rw [e1] at hk ⊢
  show JC.l0 _ _ _ = JC.l0 _ _ _
  rw [JC.Fx]; (try dsimp only [gr,gi,gl,gb,gt,Ft,ln,EK,aJ.i,aJ.l,aJ.b,aJ.t]); rw [FN dw,FW (by omega)]
  simp (disch:=first | assumption | omega) [-List.getD_eq_getElem?_getD,SB,qQd,FR,qQa dw,aB,Gs,Ho,HV,Ir]
theorem acj : ∀ (n : Nat) (xs : LL),Fy xs ≤ n → WR Fv.ct 281 xs → ∀ {m : Int},0 ≤ m → m + (Fw xs : Int) ≤ 4611686018427387904 → HZ.c (FH FC xs m) m = some ⟨[[.int (m + (Fw xs : Int))]],[]⟩:=by
 intro n
 induction n with
 | zero =>
  intro xs hn h m p0 q0
  have hl:=FP xs
  obtain rfl : xs = []:=qZz (by omega)
  rw [HZ.eq]; (try dsimp only [gr,gi,gl,gb,gt,Ft,ln,EK,aJ.i,aJ.l,aJ.b,aJ.t])
  show HZ.l0 (FH FC [] m) m 0 = _
  rw [HZ.Fx]; (try dsimp only [gr,gi,gl,gb,gt,Ft,ln,EK,aJ.i,aJ.l,aJ.b,aJ.t]); simp [Fw,FH]
 | succ n ih =>
  intro xs sJ h m p0 q0
  rw [HZ.eq]; (try dsimp only [gr,gi,gl,gb,gt,Ft,ln,EK,aJ.i,aJ.l,aJ.b,aJ.t])
  have hm:=Ig FC xs m
  have hlen:=h.1
  refine Is FC (l0:=fun k i=>HZ.l0 (FH FC xs m) k i) p0 q0 (fun k=>?_) (fun i hi k aB h0 hk=>?_)
  ·show HZ.l0 _ _ _ = _
   rw [HZ.Fx]; (try dsimp only [gr,gi,gl,gb,gt,Ft,ln,EK,aJ.i,aJ.l,aJ.b,aJ.t]); rw [show decide ((xs.length : Int) < ((FH FC xs m).length : Int)) = false from by rw [hm]; exact FO (qQb _)]; rfl
  ·obtain ⟨c0,c1,c2,c3,hr,Gu⟩:=Wm (h.2 _ (FF hi (z:=[])))
   have EM:=Gc (FF hi (z:=[]))
   rw [hr] at EM
   simp only [FQ,FX] at EM
   have dw : i < (FH FC xs m).length:=by omega
   rw [hr] at aB hk ⊢
   simp only [GD,GB,GA,GC] at aB
   have e1 : k + (nR [.int c0,.int c1,.int c2,.lst c3] : Int) = k + 1 + 1 + 1 + (Fw c3 : Int):=by simp only [nR,nU]; omega
   rw [e1] at hk ⊢
   show HZ.l0 _ _ _ = HZ.l0 _ _ _
   rw [HZ.Fx]; (try dsimp only [gr,gi,gl,gb,gt,Ft,ln,EK,aJ.i,aJ.l,aJ.b,aJ.t]); rw [FN dw,FW (by omega)]
   simp (disch:=first | assumption | omega) [-List.getD_eq_getElem?_getD,SB,qQd,FR,qQa dw,aB,Gs,Ho,ih]
theorem IC (xs : LL) (h : WR Fv.ct 281 xs) {m : Int} (p0 : 0 ≤ m) (q0 : m + (Fw xs : Int) ≤ 4611686018427387904) : HZ.c (FH FC xs m) m = some ⟨[[.int (m + (Fw xs : Int))]],[]⟩:=acj _ xs (qQb _) h p0 q0
theorem IL (xs : LL) (h : WR Fv.ct 283 xs) {m : Int} (p0 : 0 ≤ m) (q0 : m + (Fw xs : Int) ≤ 4611686018427387904) : JE.c (FH FC xs m) m = some ⟨[[.int (m + (Fw xs : Int))]],[]⟩:=by
 rw [JE.eq]; (try dsimp only [gr,gi,gl,gb,gt,Ft,ln,EK,aJ.i,aJ.l,aJ.b,aJ.t])
 have hm:=Ig FC xs m
 have hlen:=h.1
 refine Is FC (l0:=fun k i=>JE.l0 (FH FC xs m) k i) p0 q0 (fun k=>?_) (fun i hi k aB h0 hk=>?_)
 ·show JE.l0 _ _ _ = _
  rw [JE.Fx]; (try dsimp only [gr,gi,gl,gb,gt,Ft,ln,EK,aJ.i,aJ.l,aJ.b,aJ.t]); rw [show decide ((xs.length : Int) < ((FH FC xs m).length : Int)) = false from by rw [hm]; exact FO (qQb _)]; rfl
 ·obtain ⟨c0,c1,c2,c3,c4,c5,c6,hr,HE⟩:=Wn (h.2 _ (FF hi (z:=[])))
  have dw : i < (FH FC xs m).length:=by omega
  rw [hr] at aB hk ⊢
  simp only [GD,GB,GA,GC] at aB
  have e1 : k + (nR [.int c0,.int c1,.int c2,.int c3,.int c4,.int c5,.lst c6] : Int) = k + 1 + 1 + 1 + 1 + 1 + 1 + (Fw c6 : Int):=by simp only [nR,nU]; omega
  rw [e1] at hk ⊢
  show JE.l0 _ _ _ = JE.l0 _ _ _
  rw [JE.Fx]; (try dsimp only [gr,gi,gl,gb,gt,Ft,ln,EK,aJ.i,aJ.l,aJ.b,aJ.t]); rw [FN dw,FW (by omega)]
  simp (disch:=first | assumption | omega) [-List.getD_eq_getElem?_getD,SB,qQd,FR,qQa dw,aB,Gs,Ho,HV,Ir,ID,IC]
theorem Jh (xs : LL) (h : WR Fv.ct 164 xs) {m : Int} (p0 : 0 ≤ m) (q0 : m + (Fw xs : Int) ≤ 4611686018427387904) : Kv.c (FH FC xs m) m = some ⟨[[.int (m + (Fw xs : Int))]],[]⟩:=by
 rw [Kv.eq]; (try dsimp only [gr,gi,gl,gb,gt,Ft,ln,EK,aJ.i,aJ.l,aJ.b,aJ.t])
 have hm:=Ig FC xs m
 have hlen:=h.1
 refine Is FC (l0:=fun k i=>Kv.l0 (FH FC xs m) k i) p0 q0 (fun k=>?_) (fun i hi k aB h0 hk=>?_)
 ·show Kv.l0 _ _ _ = _
  rw [Kv.Fx]; (try dsimp only [gr,gi,gl,gb,gt,Ft,ln,EK,aJ.i,aJ.l,aJ.b,aJ.t]); rw [show decide ((xs.length : Int) < ((FH FC xs m).length : Int)) = false from by rw [hm]; exact FO (qQb _)]; rfl
 ·obtain ⟨c0,c1,c2,c3,c4,hr,fG,HD⟩:=Ud (h.2 _ (FF hi (z:=[])))
  have dw : i < (FH FC xs m).length:=by omega
  rw [hr] at aB hk ⊢
  simp only [GD,GB,GA,GC] at aB
  have e1 : k + (nR [.int c0,.int c1,.lst c2,.int c3,.lst c4] : Int) = k + 1 + 1 + (Fw c2 : Int) + 1 + (Fw c4 : Int):=by simp only [nR,nU]; omega
  rw [e1] at hk ⊢
  show Kv.l0 _ _ _ = Kv.l0 _ _ _
  rw [Kv.Fx]; (try dsimp only [gr,gi,gl,gb,gt,Ft,ln,EK,aJ.i,aJ.l,aJ.b,aJ.t]); rw [FN dw,FW (by omega)]
  simp (disch:=first | assumption | omega) [-List.getD_eq_getElem?_getD,SB,qQd,FR,qQa dw,aB,Gs,Ho,HV,Ir,ID,IC,IL]
theorem Kj (xs : LL) (h : WR Fv.ct 256 xs) {m : Int} (p0 : 0 ≤ m) (q0 : m + (Fw xs : Int) ≤ 4611686018427387904) : JB.c (FH FC xs m) m = some ⟨[[.int (m + (Fw xs : Int))]],[]⟩:=by
 rw [JB.eq]; (try dsimp only [gr,gi,gl,gb,gt,Ft,ln,EK,aJ.i,aJ.l,aJ.b,aJ.t])
 have hm:=Ig FC xs m
 have hlen:=h.1
 refine Is FC (l0:=fun k i=>JB.l0 (FH FC xs m) k i) p0 q0 (fun k=>?_) (fun i hi k aB h0 hk=>?_)
 ·show JB.l0 _ _ _ = _
  rw [JB.Fx]; (try dsimp only [gr,gi,gl,gb,gt,Ft,ln,EK,aJ.i,aJ.l,aJ.b,aJ.t]); rw [show decide ((xs.length : Int) < ((FH FC xs m).length : Int)) = false from by rw [hm]; exact FO (qQb _)]; rfl
 ·obtain ⟨c0,c1,c2,c3,c4,c5,hr⟩:=XN (h.2 _ (FF hi (z:=[])))
  have dw : i < (FH FC xs m).length:=by omega
  rw [hr] at aB hk ⊢
  simp only [GD,GB,GA,GC] at aB
  have e1 : k + (nR [.int c0,.int c1,.int c2,.int c3,.int c4,.int c5] : Int) = k + 1 + 1 + 1 + 1 + 1 + 1:=by simp only [nR,nU]; omega
  rw [e1] at hk ⊢
  show JB.l0 _ _ _ = JB.l0 _ _ _
  rw [JB.Fx]; (try dsimp only [gr,gi,gl,gb,gt,Ft,ln,EK,aJ.i,aJ.l,aJ.b,aJ.t]); rw [FN dw,FW (by omega)]
  simp (disch:=first | assumption | omega) [-List.getD_eq_getElem?_getD,SB,qQd,FR,qQa dw,aB,Gs,Ho,HV,Ir,ID,IC,IL,Jh]
theorem Lh (xs : LL) (h : WR Fv.ct 260 xs) {m : Int} (p0 : 0 ≤ m) (q0 : m + (Fw xs : Int) ≤ 4611686018427387904) : JD.c (FH FC xs m) m = some ⟨[[.int (m + (Fw xs : Int))]],[]⟩:=by
 rw [JD.eq]; (try dsimp only [gr,gi,gl,gb,gt,Ft,ln,EK,aJ.i,aJ.l,aJ.b,aJ.t])
 have hm:=Ig FC xs m
 have hlen:=h.1
 refine Is FC (l0:=fun k i=>JD.l0 (FH FC xs m) k i) p0 q0 (fun k=>?_) (fun i hi k aB h0 hk=>?_)
 ·show JD.l0 _ _ _ = _
  rw [JD.Fx]; (try dsimp only [gr,gi,gl,gb,gt,Ft,ln,EK,aJ.i,aJ.l,aJ.b,aJ.t]); rw [show decide ((xs.length : Int) < ((FH FC xs m).length : Int)) = false from by rw [hm]; exact FO (qQb _)]; rfl
 ·obtain ⟨c0,c1,hr⟩:=XO (h.2 _ (FF hi (z:=[])))
  have dw : i < (FH FC xs m).length:=by omega
  rw [hr] at aB hk ⊢
  simp only [GD,GB,GA,GC] at aB
  have e1 : k + (nR [.int c0,.int c1] : Int) = k + 1 + 1:=by simp only [nR,nU]; omega
  rw [e1] at hk ⊢
  show JD.l0 _ _ _ = JD.l0 _ _ _
  rw [JD.Fx]; (try dsimp only [gr,gi,gl,gb,gt,Ft,ln,EK,aJ.i,aJ.l,aJ.b,aJ.t]); rw [FN dw,FW (by omega)]
  simp (disch:=first | assumption | omega) [-List.getD_eq_getElem?_getD,SB,qQd,FR,qQa dw,aB,Gs,Ho,HV,Ir,ID,IC,IL,Jh,Kj]
theorem Ly (xs : LL) (h : WR Fv.ct 230 xs) {m : Int} (p0 : 0 ≤ m) (q0 : m + (Fw xs : Int) ≤ 4611686018427387904) : Kr.c (FH FC xs m) m = some ⟨[[.int (m + (Fw xs : Int))]],[]⟩:=by
 rw [Kr.eq]; (try dsimp only [gr,gi,gl,gb,gt,Ft,ln,EK,aJ.i,aJ.l,aJ.b,aJ.t])
 have hm:=Ig FC xs m
 have hlen:=h.1
 refine Is FC (l0:=fun k i=>Kr.l0 (FH FC xs m) k i) p0 q0 (fun k=>?_) (fun i hi k aB h0 hk=>?_)
 ·show Kr.l0 _ _ _ = _
  rw [Kr.Fx]; (try dsimp only [gr,gi,gl,gb,gt,Ft,ln,EK,aJ.i,aJ.l,aJ.b,aJ.t]); rw [show decide ((xs.length : Int) < ((FH FC xs m).length : Int)) = false from by rw [hm]; exact FO (qQb _)]; rfl
 ·obtain ⟨c0,c1,c2,c3,c4,c5,hr⟩:=XM (h.2 _ (FF hi (z:=[])))
  have dw : i < (FH FC xs m).length:=by omega
  rw [hr] at aB hk ⊢
  simp only [GD,GB,GA,GC] at aB
  have e1 : k + (nR [.int c0,.int c1,.int c2,.int c3,.int c4,.int c5] : Int) = k + 1 + 1 + 1 + 1 + 1 + 1:=by simp only [nR,nU]; omega
  rw [e1] at hk ⊢
  show Kr.l0 _ _ _ = Kr.l0 _ _ _
  rw [Kr.Fx]; (try dsimp only [gr,gi,gl,gb,gt,Ft,ln,EK,aJ.i,aJ.l,aJ.b,aJ.t]); rw [FN dw,FW (by omega)]
  simp (disch:=first | assumption | omega) [-List.getD_eq_getElem?_getD,SB,qQd,FR,qQa dw,aB,Gs,Ho,HV,Ir,ID,IC,IL,Jh,Kj,Lh]
theorem LU (c0 c1 c2 c3 : LL) (c4 : Int) (c5 : LL) (jz : WR Fv.ct 252 c0) (sG : WR Fv.ct 164 c1) (fG : WR Fv.ct 256 c2) (Gu : WR Fv.ct 260 c3) (Ld : WR Fv.ct 230 c5) {m : Int} (p0 : 0 ≤ m) (q0 : m + (Fw c0 : Int) + (Fw c1 : Int) + (Fw c2 : Int) + (Fw c3 : Int) + (Fw c5 : Int) ≤ 4611686018427387904) : Tj.c (FH FC c0 (m)) (FH FC c1 (m + (Fw c0 : Int))) (FH FC c2 (m + (Fw c0 : Int) + (Fw c1 : Int))) (FH FC c3 (m + (Fw c0 : Int) + (Fw c1 : Int) + (Fw c2 : Int))) c4 (FH FC c5 (m + (Fw c0 : Int) + (Fw c1 : Int) + (Fw c2 : Int) + (Fw c3 : Int))) m = some ⟨[[.int (m + (Fw c0 : Int) + (Fw c1 : Int) + (Fw c2 : Int) + (Fw c3 : Int) + (Fw c5 : Int))]],[]⟩:=by
 rw [Tj.eq]; (try dsimp only [gr,gi,gl,gb,gt,Ft,ln,EK,aJ.i,aJ.l,aJ.b,aJ.t])
 simp (disch:=first | assumption | omega) [-List.getD_eq_getElem?_getD,SB,Ho,HV,Ir,ID,IC,IL,Jh,Kj,Lh,Ly]
theorem MM (xs : LL) (h : WR Fv.ct 286 xs) {m : Int} (p0 : 0 ≤ m) (q0 : m + (Fw xs : Int) ≤ 4611686018427387904) : Kz.c (FH FC xs m) m = some ⟨[[.int (m + (Fw xs : Int))]],[]⟩:=by
 rw [Kz.eq]; (try dsimp only [gr,gi,gl,gb,gt,Ft,ln,EK,aJ.i,aJ.l,aJ.b,aJ.t])
 have hm:=Ig FC xs m
 have hlen:=h.1
 refine Is FC (l0:=fun k i=>Kz.l0 (FH FC xs m) k i) p0 q0 (fun k=>?_) (fun i hi k aB h0 hk=>?_)
 ·show Kz.l0 _ _ _ = _
  rw [Kz.Fx]; (try dsimp only [gr,gi,gl,gb,gt,Ft,ln,EK,aJ.i,aJ.l,aJ.b,aJ.t]); rw [show decide ((xs.length : Int) < ((FH FC xs m).length : Int)) = false from by rw [hm]; exact FO (qQb _)]; rfl
 ·obtain ⟨c0,c1,c2,c3,c4,c5,c6,c7,hr⟩:=Rk (h.2 _ (FF hi (z:=[])))
  have dw : i < (FH FC xs m).length:=by omega
  rw [hr] at aB hk ⊢
  simp only [GD,GB,GA,GC] at aB
  have e1 : k + (nR [.int c0,.int c1,.int c2,.int c3,.int c4,.int c5,.int c6,.int c7] : Int) = k + 1 + 1 + 1 + 1 + 1 + 1 + 1 + 1:=by simp only [nR,nU]; omega
  rw [e1] at hk ⊢
  show Kz.l0 _ _ _ = Kz.l0 _ _ _
  rw [Kz.Fx]; (try dsimp only [gr,gi,gl,gb,gt,Ft,ln,EK,aJ.i,aJ.l,aJ.b,aJ.t]); rw [FN dw,FW (by omega)]
  simp (disch:=first | assumption | omega) [-List.getD_eq_getElem?_getD,SB,qQd,FR,qQa dw,aB,Gs,Ho,HV,Ir,ID,IC,IL,Jh,Kj,Lh,Ly,LU]
theorem Nc (xs : LL) (h : WR Fv.ct 167 xs) {m : Int} (p0 : 0 ≤ m) (q0 : m + (Fw xs : Int) ≤ 4611686018427387904) : Ky.c (FH FC xs m) m = some ⟨[[.int (m + (Fw xs : Int))]],[]⟩:=by
 rw [Ky.eq]; (try dsimp only [gr,gi,gl,gb,gt,Ft,ln,EK,aJ.i,aJ.l,aJ.b,aJ.t])
 have hm:=Ig FC xs m
 have hlen:=h.1
 refine Is FC (l0:=fun k i=>Ky.l0 (FH FC xs m) k i) p0 q0 (fun k=>?_) (fun i hi k aB h0 hk=>?_)
 ·show Ky.l0 _ _ _ = _
  rw [Ky.Fx]; (try dsimp only [gr,gi,gl,gb,gt,Ft,ln,EK,aJ.i,aJ.l,aJ.b,aJ.t]); rw [show decide ((xs.length : Int) < ((FH FC xs m).length : Int)) = false from by rw [hm]; exact FO (qQb _)]; rfl
 ·obtain ⟨c0,c1,c2,c3,c4,c5,c6,c7,c8,c9,hr,Gu,Ld,HE,Le,Lg⟩:=OY (h.2 _ (FF hi (z:=[])))
  have dw : i < (FH FC xs m).length:=by omega
  rw [hr] at aB hk ⊢
  simp only [GD,GB,GA,GC] at aB
  have e1 : k + (nR [.int c0,.int c1,.int c2,.lst c3,.int c4,.lst c5,.lst c6,.lst c7,.int c8,.lst c9] : Int) = k + 1 + 1 + 1 + (Fw c3 : Int) + 1 + (Fw c5 : Int) + (Fw c6 : Int) + (Fw c7 : Int) + 1 + (Fw c9 : Int):=by simp only [nR,nU]; omega
  rw [e1] at hk ⊢
  show Ky.l0 _ _ _ = Ky.l0 _ _ _
  rw [Ky.Fx]; (try dsimp only [gr,gi,gl,gb,gt,Ft,ln,EK,aJ.i,aJ.l,aJ.b,aJ.t]); rw [FN dw,FW (by omega)]
  simp (disch:=first | assumption | omega) [-List.getD_eq_getElem?_getD,SB,qQd,FR,qQa dw,aB,Gs,Ho,HV,Ir,ID,IC,IL,Jh,Kj,Lh,Ly,LU,MM]
theorem NF (xs : LL) (h : WR Fv.ct 4 xs) {m : Int} (p0 : 0 ≤ m) (q0 : m + (Fw xs : Int) ≤ 4611686018427387904) : Kq.c (FH FC xs m) m = some ⟨[[.int (m + (Fw xs : Int))]],[]⟩:=by
 rw [Kq.eq]; (try dsimp only [gr,gi,gl,gb,gt,Ft,ln,EK,aJ.i,aJ.l,aJ.b,aJ.t])
 have hm:=Ig FC xs m
 have hlen:=h.1
 refine Is FC (l0:=fun k i=>Kq.l0 (FH FC xs m) k i) p0 q0 (fun k=>?_) (fun i hi k aB h0 hk=>?_)
 ·show Kq.l0 _ _ _ = _
  rw [Kq.Fx]; (try dsimp only [gr,gi,gl,gb,gt,Ft,ln,EK,aJ.i,aJ.l,aJ.b,aJ.t]); rw [show decide ((xs.length : Int) < ((FH FC xs m).length : Int)) = false from by rw [hm]; exact FO (qQb _)]; rfl
 ·obtain ⟨c0,hr⟩:=Ug (h.2 _ (FF hi (z:=[])))
  have dw : i < (FH FC xs m).length:=by omega
  rw [hr] at aB hk ⊢
  simp only [GD,GB,GA,GC] at aB
  have e1 : k + (nR [.bool c0] : Int) = k + 1:=by simp only [nR,nU]; omega
  rw [e1] at hk ⊢
  show Kq.l0 _ _ _ = Kq.l0 _ _ _
  rw [Kq.Fx]; (try dsimp only [gr,gi,gl,gb,gt,Ft,ln,EK,aJ.i,aJ.l,aJ.b,aJ.t]); rw [FN dw,FW (by omega)]
  simp (disch:=first | assumption | omega) [-List.getD_eq_getElem?_getD,SB,qQd,FR,qQa dw,aB,Gs,Ho,HV,Ir,ID,IC,IL,Jh,Kj,Lh,Ly,LU,MM,Nc]
theorem NX (xs : LL) (h : WR Fv.ct 96 xs) {m : Int} (p0 : 0 ≤ m) (q0 : m + (Fw xs : Int) ≤ 4611686018427387904) : Kt.c (FH FC xs m) m = some ⟨[[.int (m + (Fw xs : Int))]],[]⟩:=by
 rw [Kt.eq]; (try dsimp only [gr,gi,gl,gb,gt,Ft,ln,EK,aJ.i,aJ.l,aJ.b,aJ.t])
 have hm:=Ig FC xs m
 have hlen:=h.1
 refine Is FC (l0:=fun k i=>Kt.l0 (FH FC xs m) k i) p0 q0 (fun k=>?_) (fun i hi k aB h0 hk=>?_)
 ·show Kt.l0 _ _ _ = _
  rw [Kt.Fx]; (try dsimp only [gr,gi,gl,gb,gt,Ft,ln,EK,aJ.i,aJ.l,aJ.b,aJ.t]); rw [show decide ((xs.length : Int) < ((FH FC xs m).length : Int)) = false from by rw [hm]; exact FO (qQb _)]; rfl
 ·obtain ⟨c0,c1,c2,c3,c4,c5,c6,c7,c8,hr⟩:=XQ (h.2 _ (FF hi (z:=[])))
  have dw : i < (FH FC xs m).length:=by omega
  rw [hr] at aB hk ⊢
  simp only [GD,GB,GA,GC] at aB
  have e1 : k + (nR [.int c0,.int c1,.int c2,.int c3,.int c4,.int c5,.int c6,.int c7,.int c8] : Int) = k + 1 + 1 + 1 + 1 + 1 + 1 + 1 + 1 + 1:=by simp only [nR,nU]; omega
  rw [e1] at hk ⊢
  show Kt.l0 _ _ _ = Kt.l0 _ _ _
  rw [Kt.Fx]; (try dsimp only [gr,gi,gl,gb,gt,Ft,ln,EK,aJ.i,aJ.l,aJ.b,aJ.t]); rw [FN dw,FW (by omega)]
  simp (disch:=first | assumption | omega) [-List.getD_eq_getElem?_getD,SB,qQd,FR,qQa dw,aB,Gs,Ho,HV,Ir,ID,IC,IL,Jh,Kj,Lh,Ly,LU,MM,Nc,NF]
theorem Oq (xs : LL) (h : WR Fv.ct 90 xs) {m : Int} (p0 : 0 ≤ m) (q0 : m + (Fw xs : Int) ≤ 4611686018427387904) : Ku.c (FH FC xs m) m = some ⟨[[.int (m + (Fw xs : Int))]],[]⟩:=by
 rw [Ku.eq]; (try dsimp only [gr,gi,gl,gb,gt,Ft,ln,EK,aJ.i,aJ.l,aJ.b,aJ.t])
 have hm:=Ig FC xs m
 have hlen:=h.1
 refine Is FC (l0:=fun k i=>Ku.l0 (FH FC xs m) k i) p0 q0 (fun k=>?_) (fun i hi k aB h0 hk=>?_)
 ·show Ku.l0 _ _ _ = _
  rw [Ku.Fx]; (try dsimp only [gr,gi,gl,gb,gt,Ft,ln,EK,aJ.i,aJ.l,aJ.b,aJ.t]); rw [show decide ((xs.length : Int) < ((FH FC xs m).length : Int)) = false from by rw [hm]; exact FO (qQb _)]; rfl
 ·obtain ⟨c0,hr,jz⟩:=Rl (h.2 _ (FF hi (z:=[])))
  have dw : i < (FH FC xs m).length:=by omega
  rw [hr] at aB hk ⊢
  simp only [GD,GB,GA,GC] at aB
  have e1 : k + (nR [.lst c0] : Int) = k + (Fw c0 : Int):=by simp only [nR,nU]; omega
  rw [e1] at hk ⊢
  show Ku.l0 _ _ _ = Ku.l0 _ _ _
  rw [Ku.Fx]; (try dsimp only [gr,gi,gl,gb,gt,Ft,ln,EK,aJ.i,aJ.l,aJ.b,aJ.t]); rw [FN dw,FW (by omega)]
  simp (disch:=first | assumption | omega) [-List.getD_eq_getElem?_getD,SB,qQd,FR,qQa dw,aB,Gs,Ho,HV,Ir,ID,IC,IL,Jh,Kj,Lh,Ly,LU,MM,Nc,NF,NX]
theorem Pk (xs : LL) (h : WR Fv.ct 182 xs) {m : Int} (p0 : 0 ≤ m) (q0 : m + (Fw xs : Int) ≤ 4611686018427387904) : KB.c (FH FC xs m) m = some ⟨[[.int (m + (Fw xs : Int))]],[]⟩:=by
 rw [KB.eq]; (try dsimp only [gr,gi,gl,gb,gt,Ft,ln,EK,aJ.i,aJ.l,aJ.b,aJ.t])
 have hm:=Ig FC xs m
 have hlen:=h.1
 refine Is FC (l0:=fun k i=>KB.l0 (FH FC xs m) k i) p0 q0 (fun k=>?_) (fun i hi k aB h0 hk=>?_)
 ·show KB.l0 _ _ _ = _
  rw [KB.Fx]; (try dsimp only [gr,gi,gl,gb,gt,Ft,ln,EK,aJ.i,aJ.l,aJ.b,aJ.t]); rw [show decide ((xs.length : Int) < ((FH FC xs m).length : Int)) = false from by rw [hm]; exact FO (qQb _)]; rfl
 ·obtain ⟨c0,c1,hr⟩:=Wl (h.2 _ (FF hi (z:=[])))
  have dw : i < (FH FC xs m).length:=by omega
  rw [hr] at aB hk ⊢
  simp only [GD,GB,GA,GC] at aB
  have e1 : k + (nR [.int c0,.int c1] : Int) = k + 1 + 1:=by simp only [nR,nU]; omega
  rw [e1] at hk ⊢
  show KB.l0 _ _ _ = KB.l0 _ _ _
  rw [KB.Fx]; (try dsimp only [gr,gi,gl,gb,gt,Ft,ln,EK,aJ.i,aJ.l,aJ.b,aJ.t]); rw [FN dw,FW (by omega)]
  simp (disch:=first | assumption | omega) [-List.getD_eq_getElem?_getD,SB,qQd,FR,qQa dw,aB,Gs,Ho,HV,Ir,ID,IC,IL,Jh,Kj,Lh,Ly,LU,MM,Nc,NF,NX,Oq]
theorem Qy (xs : LL) (h : WR Fv.ct 185 xs) {m : Int} (p0 : 0 ≤ m) (q0 : m + (Fw xs : Int) ≤ 4611686018427387904) : Kw.c (FH FC xs m) m = some ⟨[[.int (m + (Fw xs : Int))]],[]⟩:=by
 rw [Kw.eq]; (try dsimp only [gr,gi,gl,gb,gt,Ft,ln,EK,aJ.i,aJ.l,aJ.b,aJ.t])
 have hm:=Ig FC xs m
 have hlen:=h.1
 refine Is FC (l0:=fun k i=>Kw.l0 (FH FC xs m) k i) p0 q0 (fun k=>?_) (fun i hi k aB h0 hk=>?_)
 ·show Kw.l0 _ _ _ = _
  rw [Kw.Fx]; (try dsimp only [gr,gi,gl,gb,gt,Ft,ln,EK,aJ.i,aJ.l,aJ.b,aJ.t]); rw [show decide ((xs.length : Int) < ((FH FC xs m).length : Int)) = false from by rw [hm]; exact FO (qQb _)]; rfl
 ·obtain ⟨c0,c1,c2,c3,c4,c5,c6,hr,Gu⟩:=PK (h.2 _ (FF hi (z:=[])))
  have dw : i < (FH FC xs m).length:=by omega
  rw [hr] at aB hk ⊢
  simp only [GD,GB,GA,GC] at aB
  have e1 : k + (nR [.int c0,.int c1,.int c2,.lst c3,.int c4,.int c5,.bool c6] : Int) = k + 1 + 1 + 1 + (Fw c3 : Int) + 1 + 1 + 1:=by simp only [nR,nU]; omega
  rw [e1] at hk ⊢
  show Kw.l0 _ _ _ = Kw.l0 _ _ _
  rw [Kw.Fx]; (try dsimp only [gr,gi,gl,gb,gt,Ft,ln,EK,aJ.i,aJ.l,aJ.b,aJ.t]); rw [FN dw,FW (by omega)]
  simp (disch:=first | assumption | omega) [-List.getD_eq_getElem?_getD,SB,qQd,FR,qQa dw,aB,Gs,Ho,HV,Ir,ID,IC,IL,Jh,Kj,Lh,Ly,LU,MM,Nc,NF,NX,Oq,Pk]
theorem Sj (xs : LL) (h : WR Fv.ct 188 xs) {m : Int} (p0 : 0 ≤ m) (q0 : m + (Fw xs : Int) ≤ 4611686018427387904) : Kp.c (FH FC xs m) m = some ⟨[[.int (m + (Fw xs : Int))]],[]⟩:=by
 rw [Kp.eq]; (try dsimp only [gr,gi,gl,gb,gt,Ft,ln,EK,aJ.i,aJ.l,aJ.b,aJ.t])
 have hm:=Ig FC xs m
 have hlen:=h.1
 refine Is FC (l0:=fun k i=>Kp.l0 (FH FC xs m) k i) p0 q0 (fun k=>?_) (fun i hi k aB h0 hk=>?_)
 ·show Kp.l0 _ _ _ = _
  rw [Kp.Fx]; (try dsimp only [gr,gi,gl,gb,gt,Ft,ln,EK,aJ.i,aJ.l,aJ.b,aJ.t]); rw [show decide ((xs.length : Int) < ((FH FC xs m).length : Int)) = false from by rw [hm]; exact FO (qQb _)]; rfl
 ·obtain ⟨c0,c1,c2,hr⟩:=XJ (h.2 _ (FF hi (z:=[])))
  have dw : i < (FH FC xs m).length:=by omega
  rw [hr] at aB hk ⊢
  simp only [GD,GB,GA,GC] at aB
  have e1 : k + (nR [.int c0,.int c1,.int c2] : Int) = k + 1 + 1 + 1:=by simp only [nR,nU]; omega
  rw [e1] at hk ⊢
  show Kp.l0 _ _ _ = Kp.l0 _ _ _
  rw [Kp.Fx]; (try dsimp only [gr,gi,gl,gb,gt,Ft,ln,EK,aJ.i,aJ.l,aJ.b,aJ.t]); rw [FN dw,FW (by omega)]
  simp (disch:=first | assumption | omega) [-List.getD_eq_getElem?_getD,SB,qQd,FR,qQa dw,aB,Gs,Ho,HV,Ir,ID,IC,IL,Jh,Kj,Lh,Ly,LU,MM,Nc,NF,NX,Oq,Pk,Qy]
theorem Vs (xs : LL) (h : WR Fv.ct 192 xs) {m : Int} (p0 : 0 ≤ m) (q0 : m + (Fw xs : Int) ≤ 4611686018427387904) : KC.c (FH FC xs m) m = some ⟨[[.int (m + (Fw xs : Int))]],[]⟩:=by
 rw [KC.eq]; (try dsimp only [gr,gi,gl,gb,gt,Ft,ln,EK,aJ.i,aJ.l,aJ.b,aJ.t])
 have hm:=Ig FC xs m
 have hlen:=h.1
 refine Is FC (l0:=fun k i=>KC.l0 (FH FC xs m) k i) p0 q0 (fun k=>?_) (fun i hi k aB h0 hk=>?_)
 ·show KC.l0 _ _ _ = _
  rw [KC.Fx]; (try dsimp only [gr,gi,gl,gb,gt,Ft,ln,EK,aJ.i,aJ.l,aJ.b,aJ.t]); rw [show decide ((xs.length : Int) < ((FH FC xs m).length : Int)) = false from by rw [hm]; exact FO (qQb _)]; rfl
 ·obtain ⟨c0,c1,c2,c3,hr⟩:=XK (h.2 _ (FF hi (z:=[])))
  have dw : i < (FH FC xs m).length:=by omega
  rw [hr] at aB hk ⊢
  simp only [GD,GB,GA,GC] at aB
  have e1 : k + (nR [.int c0,.int c1,.int c2,.int c3] : Int) = k + 1 + 1 + 1 + 1:=by simp only [nR,nU]; omega
  rw [e1] at hk ⊢
  show KC.l0 _ _ _ = KC.l0 _ _ _
  rw [KC.Fx]; (try dsimp only [gr,gi,gl,gb,gt,Ft,ln,EK,aJ.i,aJ.l,aJ.b,aJ.t]); rw [FN dw,FW (by omega)]
  simp (disch:=first | assumption | omega) [-List.getD_eq_getElem?_getD,SB,qQd,FR,qQa dw,aB,Gs,Ho,HV,Ir,ID,IC,IL,Jh,Kj,Lh,Ly,LU,MM,Nc,NF,NX,Oq,Pk,Qy,Sj]
theorem WZ (c0 c1 : LL) (c2 : Int) (jz : WR Fv.ct 3 c0) (sG : WR Fv.ct 3 c1) {m : Int} (p0 : 0 ≤ m) (q0 : m + (Fw c0 : Int) + (Fw c1 : Int) ≤ 4611686018427387904) : Tk.c (FH FC c0 (m)) (FH FC c1 (m + (Fw c0 : Int))) c2 m = some ⟨[[.int (m + (Fw c0 : Int) + (Fw c1 : Int))]],[]⟩:=by
 rw [Tk.eq]; (try dsimp only [gr,gi,gl,gb,gt,Ft,ln,EK,aJ.i,aJ.l,aJ.b,aJ.t])
 simp (disch:=first | assumption | omega) [-List.getD_eq_getElem?_getD,SB,Ho,HV,Ir,ID,IC,IL,Jh,Kj,Lh,Ly,LU,MM,Nc,NF,NX,Oq,Pk,Qy,Sj,Vs]
theorem YM (xs : LL) (h : WR Fv.ct 94 xs) {m : Int} (p0 : 0 ≤ m) (q0 : m + (Fw xs : Int) ≤ 4611686018427387904) : Ks.c (FH FC xs m) m = some ⟨[[.int (m + (Fw xs : Int))]],[]⟩:=by
 rw [Ks.eq]; (try dsimp only [gr,gi,gl,gb,gt,Ft,ln,EK,aJ.i,aJ.l,aJ.b,aJ.t])
 have hm:=Ig FC xs m
 have hlen:=h.1
 refine Is FC (l0:=fun k i=>Ks.l0 (FH FC xs m) k i) p0 q0 (fun k=>?_) (fun i hi k aB h0 hk=>?_)
 ·show Ks.l0 _ _ _ = _
  rw [Ks.Fx]; (try dsimp only [gr,gi,gl,gb,gt,Ft,ln,EK,aJ.i,aJ.l,aJ.b,aJ.t]); rw [show decide ((xs.length : Int) < ((FH FC xs m).length : Int)) = false from by rw [hm]; exact FO (qQb _)]; rfl
 ·obtain ⟨c0,c1,c2,c3,c4,c5,hr,HD⟩:=Ui (h.2 _ (FF hi (z:=[])))
  have dw : i < (FH FC xs m).length:=by omega
  rw [hr] at aB hk ⊢
  simp only [GD,GB,GA,GC] at aB
  have e1 : k + (nR [.int c0,.int c1,.int c2,.int c3,.lst c4,.bool c5] : Int) = k + 1 + 1 + 1 + 1 + (Fw c4 : Int) + 1:=by simp only [nR,nU]; omega
  rw [e1] at hk ⊢
  show Ks.l0 _ _ _ = Ks.l0 _ _ _
  rw [Ks.Fx]; (try dsimp only [gr,gi,gl,gb,gt,Ft,ln,EK,aJ.i,aJ.l,aJ.b,aJ.t]); rw [FN dw,FW (by omega)]
  simp (disch:=first | assumption | omega) [-List.getD_eq_getElem?_getD,SB,qQd,FR,qQa dw,aB,Gs,Ho,HV,Ir,ID,IC,IL,Jh,Kj,Lh,Ly,LU,MM,Nc,NF,NX,Oq,Pk,Qy,Sj,Vs,WZ]
theorem ack (xs : LL) (h : WR Fv.ct 198 xs) {m : Int} (p0 : 0 ≤ m) (q0 : m + (Fw xs : Int) ≤ 4611686018427387904) : KA.c (FH FC xs m) m = some ⟨[[.int (m + (Fw xs : Int))]],[]⟩:=by
 rw [KA.eq]; (try dsimp only [gr,gi,gl,gb,gt,Ft,ln,EK,aJ.i,aJ.l,aJ.b,aJ.t])
 have hm:=Ig FC xs m
 have hlen:=h.1
 refine Is FC (l0:=fun k i=>KA.l0 (FH FC xs m) k i) p0 q0 (fun k=>?_) (fun i hi k aB h0 hk=>?_)
 ·show KA.l0 _ _ _ = _
  rw [KA.Fx]; (try dsimp only [gr,gi,gl,gb,gt,Ft,ln,EK,aJ.i,aJ.l,aJ.b,aJ.t]); rw [show decide ((xs.length : Int) < ((FH FC xs m).length : Int)) = false from by rw [hm]; exact FO (qQb _)]; rfl
 ·obtain ⟨c0,c1,c2,c3,c4,c5,c6,c7,c8,c9,hr⟩:=XL (h.2 _ (FF hi (z:=[])))
  have dw : i < (FH FC xs m).length:=by omega
  rw [hr] at aB hk ⊢
  simp only [GD,GB,GA,GC] at aB
  have e1 : k + (nR [.int c0,.int c1,.int c2,.int c3,.int c4,.int c5,.int c6,.int c7,.int c8,.bool c9] : Int) = k + 1 + 1 + 1 + 1 + 1 + 1 + 1 + 1 + 1 + 1:=by simp only [nR,nU]; omega
  rw [e1] at hk ⊢
  show KA.l0 _ _ _ = KA.l0 _ _ _
  rw [KA.Fx]; (try dsimp only [gr,gi,gl,gb,gt,Ft,ln,EK,aJ.i,aJ.l,aJ.b,aJ.t]); rw [FN dw,FW (by omega)]
  simp (disch:=first | assumption | omega) [-List.getD_eq_getElem?_getD,SB,qQd,FR,qQa dw,aB,Gs,Ho,HV,Ir,ID,IC,IL,Jh,Kj,Lh,Ly,LU,MM,Nc,NF,NX,Oq,Pk,Qy,Sj,Vs,WZ,YM]
theorem acm (c0 : Int) (c1 c2 c3 c4 : LL) (c5 : Int) (c6 c7 c8 c9 : LL) (KY : Int) (Gn Gq Gy Gz GL GN : LL) (Ki : Int) (GS Hm : LL) (sG : WR Fv.ct 252 c1) (fG : WR Fv.ct 164 c2) (Gu : WR Fv.ct 256 c3) (HD : WR Fv.ct 260 c4) (HE : WR Fv.ct 230 c6) (Le : WR Fv.ct 167 c7) (Sh : WR Fv.ct 4 c8) (Lg : WR Fv.ct 90 c9) (RZ : WR Fv.ct 182 Gn) (Sa : WR Fv.ct 185 Gq) (Sb : WR Fv.ct 188 Gy) (Sc : WR Fv.ct 192 Gz) (Sd : WR Fv.ct 3 GL) (Se : WR Fv.ct 3 GN) (Sf : WR Fv.ct 94 GS) (Sg : WR Fv.ct 198 Hm) {m : Int} (p0 : 0 ≤ m) (q0 : m + (Fw c1 : Int) + (Fw c2 : Int) + (Fw c3 : Int) + (Fw c4 : Int) + (Fw c6 : Int) + (Fw c7 : Int) + (Fw c8 : Int) + (Fw c9 : Int) + (Fw Gn : Int) + (Fw Gq : Int) + (Fw Gy : Int) + (Fw Gz : Int) + (Fw GL : Int) + (Fw GN : Int) + (Fw GS : Int) + (Fw Hm : Int) ≤ 4611686018427387904) : QU.c c0 (FH FC c1 (m)) (FH FC c2 (m + (Fw c1 : Int))) (FH FC c3 (m + (Fw c1 : Int) + (Fw c2 : Int))) (FH FC c4 (m + (Fw c1 : Int) + (Fw c2 : Int) + (Fw c3 : Int))) c5 (FH FC c6 (m + (Fw c1 : Int) + (Fw c2 : Int) + (Fw c3 : Int) + (Fw c4 : Int))) (FH FC c7 (m + (Fw c1 : Int) + (Fw c2 : Int) + (Fw c3 : Int) + (Fw c4 : Int) + (Fw c6 : Int))) (FH FC c8 (m + (Fw c1 : Int) + (Fw c2 : Int) + (Fw c3 : Int) + (Fw c4 : Int) + (Fw c6 : Int) + (Fw c7 : Int))) (FH FC c9 (m + (Fw c1 : Int) + (Fw c2 : Int) + (Fw c3 : Int) + (Fw c4 : Int) + (Fw c6 : Int) + (Fw c7 : Int) + (Fw c8 : Int))) KY (FH FC Gn (m + (Fw c1 : Int) + (Fw c2 : Int) + (Fw c3 : Int) + (Fw c4 : Int) + (Fw c6 : Int) + (Fw c7 : Int) + (Fw c8 : Int) + (Fw c9 : Int))) (FH FC Gq (m + (Fw c1 : Int) + (Fw c2 : Int) + (Fw c3 : Int) + (Fw c4 : Int) + (Fw c6 : Int) + (Fw c7 : Int) + (Fw c8 : Int) + (Fw c9 : Int) + (Fw Gn : Int))) (FH FC Gy (m + (Fw c1 : Int) + (Fw c2 : Int) + (Fw c3 : Int) + (Fw c4 : Int) + (Fw c6 : Int) + (Fw c7 : Int) + (Fw c8 : Int) + (Fw c9 : Int) + (Fw Gn : Int) + (Fw Gq : Int))) (FH FC Gz (m + (Fw c1 : Int) + (Fw c2 : Int) + (Fw c3 : Int) + (Fw c4 : Int) + (Fw c6 : Int) + (Fw c7 : Int) + (Fw c8 : Int) + (Fw c9 : Int) + (Fw Gn : Int) + (Fw Gq : Int) + (Fw Gy : Int))) (FH FC GL (m + (Fw c1 : Int) + (Fw c2 : Int) + (Fw c3 : Int) + (Fw c4 : Int) + (Fw c6 : Int) + (Fw c7 : Int) + (Fw c8 : Int) + (Fw c9 : Int) + (Fw Gn : Int) + (Fw Gq : Int) + (Fw Gy : Int) + (Fw Gz : Int))) (FH FC GN (m + (Fw c1 : Int) + (Fw c2 : Int) + (Fw c3 : Int) + (Fw c4 : Int) + (Fw c6 : Int) + (Fw c7 : Int) + (Fw c8 : Int) + (Fw c9 : Int) + (Fw Gn : Int) + (Fw Gq : Int) + (Fw Gy : Int) + (Fw Gz : Int) + (Fw GL : Int))) Ki (FH FC GS (m + (Fw c1 : Int) + (Fw c2 : Int) + (Fw c3 : Int) + (Fw c4 : Int) + (Fw c6 : Int) + (Fw c7 : Int) + (Fw c8 : Int) + (Fw c9 : Int) + (Fw Gn : Int) + (Fw Gq : Int) + (Fw Gy : Int) + (Fw Gz : Int) + (Fw GL : Int) + (Fw GN : Int))) (FH FC Hm (m + (Fw c1 : Int) + (Fw c2 : Int) + (Fw c3 : Int) + (Fw c4 : Int) + (Fw c6 : Int) + (Fw c7 : Int) + (Fw c8 : Int) + (Fw c9 : Int) + (Fw Gn : Int) + (Fw Gq : Int) + (Fw Gy : Int) + (Fw Gz : Int) + (Fw GL : Int) + (Fw GN : Int) + (Fw GS : Int))) m = some ⟨[[.int (m + (Fw c1 : Int) + (Fw c2 : Int) + (Fw c3 : Int) + (Fw c4 : Int) + (Fw c6 : Int) + (Fw c7 : Int) + (Fw c8 : Int) + (Fw c9 : Int) + (Fw Gn : Int) + (Fw Gq : Int) + (Fw Gy : Int) + (Fw Gz : Int) + (Fw GL : Int) + (Fw GN : Int) + (Fw GS : Int) + (Fw Hm : Int))]],[]⟩:=by
 rw [QU.eq]; (try dsimp only [gr,gi,gl,gb,gt,Ft,ln,EK,aJ.i,aJ.l,aJ.b,aJ.t])
 simp (disch:=first | assumption | omega) [-List.getD_eq_getElem?_getD,SB,Ho,HV,Ir,ID,IC,IL,Jh,Kj,Lh,Ly,LU,MM,Nc,NF,NX,Oq,Pk,Qy,Sj,Vs,WZ,YM,ack]
def HI : List (TypeId × TypeId):=[(238,252),(330,278),(348,281),(350,283),(146,164),(258,256),(262,260),(264,230),(305,286),(149,167),(267,96),(151,90),(184,182),(154,185),(190,188),(194,192),(157,94),(201,198)]
/-- Numbers of 64 bits. -/
def Vg (l : List Int) : Prop:=∀ n ∈ l,-9223372036854775808 ≤ n ∧ n ≤ 9223372036854775807
theorem NO {T : bl} {n : Int} (h : WT T (.int .i64) (.int n)) : -9223372036854775808 ≤ n ∧ n ≤ 9223372036854775807:=by
 obtain ⟨m,e,h⟩:=h.nY
 cases e; exact UI h
theorem Gg : Wc Fv HI = true:=by kernel_rfl
end Go.Proofs.YtaghmjcfaplkiaaGreat.Eng
/- half -/
