/- The evaluator: parts 34 to 38. Of no program. -/
import Derived.Test.YtaghmjcfaplkiaaGreatE33
import Derived.ChangeArms
import Derived.WideShapes
import Derived.Laws.StructEq
namespace Go.Proofs.YtaghmjcfaplkiaaGreat.Eng
open Go.RowKit
set_option linter.unusedVariables false
set_option linter.unusedSimpArgs false
def ao {R : Type} (f : Nat → Option R) (g : Option R) : Prop:=(∀ k r,f k = some r → f (k + 1) = some r) ∧ ∀ r,g = some r ↔ ∃ k,f k = some r
section
variable {R S : Type}
theorem ao.up {f : Nat → Option R} {g : Option R} (h : ao f g) {k k' : Nat} {r : R} (hk : k ≤ k') (hf : f k = some r) : f k' = some r:=by
 obtain ⟨d,rfl⟩ : ∃ d,k' = k + d:=⟨k' - k,by omega⟩
 clear hk
 induction d with
 | zero=>exact hf
 | succ d ih=>exact h.1 _ _ ih
theorem ao.const (o : Option R) : ao (fun _=>o) o:=⟨fun _ _ h=>h,fun r=>⟨fun h=>⟨0,h⟩,fun ⟨_,h⟩=>h⟩⟩
theorem ao.bind {f : Nat → Option S} {g : Option S} {F : Nat → S → Option R} {G : S → Option R} (h : ao f g) (k : ∀ a,ao (fun n=>F n a) (G a)) : ao (fun n=>(f n).bind (F n)) (g.bind G):=by
 refine ⟨fun n r hr=>?_,fun r=>⟨fun hr=>?_,?_⟩⟩
 ·obtain ⟨a,h1,h2⟩:=qZi.1 hr
  exact qZi.2 ⟨a,h.1 _ _ h1,(k a).1 _ _ h2⟩
 ·obtain ⟨a,h1,h2⟩:=qZi.1 hr
  obtain ⟨k1,h3⟩:=(h.2 a).1 h1
  obtain ⟨k2,h4⟩:=((k a).2 r).1 h2
  exact ⟨max k1 k2,qZi.2 ⟨a,h.up (Nat.le_max_left _ _) h3,(k a).up (Nat.le_max_right _ _) h4⟩⟩
 ·rintro ⟨n,hr⟩
  obtain ⟨a,h1,h2⟩:=qZi.1 hr
  exact qZi.2 ⟨a,(h.2 a).2 ⟨n,h1⟩,((k a).2 r).2 ⟨n,h2⟩⟩
theorem ao.uniq {f : Nat → Option R} {g g' : Option R} (h : ao f g) (h' : ao f g') : g = g':=by
 cases g with
 | some r=>exact ((h'.2 r).2 ((h.2 r).1 rfl)).symm
 | none=>cases g' with
  | none=>rfl
  | some r=>have:=(h.2 r).2 ((h'.2 r).1 rfl); cases this
open Classical in
noncomputable def lim (f : Nat → Option R) : Option R:=if h : ∃ r k,f k = some r then some (Classical.choose h) else none
theorem ao.lim {f : Nat → Option R} (h : ∀ k r,f k = some r → f (k + 1) = some r) : ao f (lim f):=by
 have qf : ∀ {k k' r},k ≤ k' → f k = some r → f k' = some r:=fun {k k' r} hk hf=>by
  obtain ⟨d,rfl⟩ : ∃ d,k' = k + d:=⟨k' - k,by omega⟩
  clear hk
  induction d with
  | zero=>exact hf
  | succ d ih=>exact h _ _ ih
 refine ⟨h,fun r=>?_⟩
 unfold Eng.lim
 split
 ·rename_i hh
  obtain ⟨k,hk⟩:=Classical.choose_spec hh
  constructor
  ·intro e; obtain rfl:=qQc e; exact ⟨k,hk⟩
  ·rintro ⟨k',aK⟩
   have h1:=qf (Nat.le_max_left k k') hk
   have h2:=qf (Nat.le_max_right k k') aK
   rw [h1] at h2; exact h2
 ·rename_i hh
  constructor
  ·intro e; cases e
  ·rintro ⟨k,hk⟩; exact absurd ⟨r,k,hk⟩ hh
theorem ao.shift {f : Nat → Option R} {g : Option R} (h : ao f g) : ao (fun k=>f (k + 1)) g :=
 ⟨fun k r hr=>h.1 _ _ hr,fun r=>⟨fun e=>by obtain ⟨k,hk⟩:=(h.2 r).1 e; exact ⟨k,h.1 _ _ hk⟩,fun ⟨k,hk⟩=>(h.2 r).2 ⟨_,hk⟩⟩⟩
theorem ao.diag {f : Nat → Nat → Option R} {g : Nat → Option R} {o : Option R} (h : ∀ n,ao (fun k=>f k n) (g n)) (hg : ao g o) (hm : ∀ k n r,f k n = some r → f k (n + 1) = some r) : ao (fun k=>f k k) o:=by
 have qf : ∀ {k n n' r},n ≤ n' → f k n = some r → f k n' = some r:=fun {k n n' r} hk hf=>by
  obtain ⟨d,rfl⟩ : ∃ d,n' = n + d:=⟨n' - n,by omega⟩
  clear hk
  induction d with
  | zero=>exact hf
  | succ d ih=>exact hm _ _ _ ih
 refine ⟨fun k r hr=>(h (k + 1)).1 _ _ (hm _ _ _ hr),fun r=>⟨fun e=>?_,?_⟩⟩
 ·obtain ⟨n,hn⟩:=(hg.2 r).1 e
  obtain ⟨k,hk⟩:=((h n).2 r).1 hn
  exact ⟨max k n,qf (Nat.le_max_right k n) ((h n).up (Nat.le_max_left k n) hk)⟩
 ·rintro ⟨k,hk⟩
  exact (hg.2 r).2 ⟨k,((h k).2 r).2 ⟨k,hk⟩⟩
theorem ao.two {o o' : Option R} (h : ∀ r,o = some r → o' = some r) : ao (fun k=>match k with | 0=>o | _ + 1=>o') o' :=
 ⟨fun k r hr=>by cases k with | zero=>exact h r hr | succ k=>exact hr,fun r=>⟨fun e=>⟨1,e⟩,fun ⟨k,hk⟩=>by cases k with | zero=>exact h r hk | succ k=>exact hk⟩⟩
end
abbrev CK:=Ext → St → Option aJ
abbrev FT:=St → CK → Option aJ
abbrev Iter:=Code → (St → St) → FT → FT
def oR (Kf : Nat → CK) (K : CK) : Prop:=∀ x st,ao (fun k=>Kf k x st) (K x st)
def mG (Ff : Nat → FT) (F : FT) : Prop:=∀ Kf K st,oR Kf K → ao (fun k=>Ff k st (Kf k)) (F st K)
def gE (F : FT) : Prop:=mG (fun _=>F) F
theorem gE.mono {F : FT} (h : gE F) {K K' : CK} (hk : ∀ x st r,K x st = some r → K' x st = some r) {st : St} {r : aJ} (hr : F st K = some r) : F st K' = some r:=by
 have:=h (fun k=>match k with | 0=>K | _ + 1=>K') K' st (fun x st=>by
  have:=ao.two (hk x st)
  refine ⟨fun k r hr=>?_,fun r=>⟨fun e=>⟨1,e⟩,fun ⟨k,aK⟩=>?_⟩⟩
  ·cases k with
   | zero=>exact hk x st r hr
   | succ k=>exact hr
  ·cases k with
   | zero=>exact hk x st r aK
   | succ k=>exact aK)
 exact this.1 0 r hr
def fU (If : Nat → Iter) (I : Iter) : Prop:=∀ b cl Ff F Kf K st,mG Ff F → (∀ k,gE (Ff k)) → gE F → oR Kf K → ao (fun k=>If k b cl (Ff k) st (Kf k)) (I b cl F st K)
structure fi where
 E : Nat → Env
 L : Env
structure fi.Ok (f : fi) : Prop where
 T : ∀ k,(f.E k).T = f.L.T ∧ (f.E k).bh = f.L.bh ∧ (f.E k).sig = f.L.sig ∧ (f.E k).fns = f.L.fns ∧ (f.E k).hint = f.L.hint ∧ (f.E k).fy = f.L.fy ∧ (f.E k).ka = f.L.ka
 den : ∀ g s r,ao (fun k=>(f.E k).den g s r) (f.L.den g s r)
 it : fU (fun k=>(f.E k).iter) f.L.iter
 ug : ∀ k,fU (fun _=>(f.E k).iter) (f.E k).iter
 uf : fU (fun _=>f.L.iter) f.L.iter
theorem fi.Ok.ar {f : fi} (h : f.Ok) (k : Nat) : (f.E k).ka = f.L.ka:=(h.T k).2.2.2.2.2.2
theorem fi.Ok.vZ {f : fi} (h : f.Ok) (k : Nat) : fi.Ok ⟨fun _=>f.E k,f.E k⟩:=⟨fun _=>⟨rfl,rfl,rfl,rfl,rfl,rfl,rfl⟩,fun g s r=>ao.const ((f.E k).den g s r),h.ug k,fun _=>h.ug k,h.ug k⟩
theorem fi.Ok.wa {f : fi} (h : f.Ok) : fi.Ok ⟨fun _=>f.L,f.L⟩:=⟨fun _=>⟨rfl,rfl,rfl,rfl,rfl,rfl,rfl⟩,fun g s r=>ao.const (f.L.den g s r),h.uf,fun _=>h.uf,h.uf⟩
section
variable {R : Type}
end
section
variable {R : Type} {f : fi}
theorem vI (E : Env) (st : St) (g : FuncId) (args : List SV) (az : List aH) (d : Option Tmp) (K : St → Option R) : cA E st g args az d K = (cA E st g args az d some).bind K:=by
 unfold cA
 simp only [bZ fE,bZ kg,bT]
 split
 ·split
  ·split
   ·split
    ·rw [Option.bind_assoc]; rfl
    ·rfl
   ·rfl
  ·rfl
 ·rfl
theorem yt (T : ax) (st : St) (p : Prim) (args : List SV) (d : Option Tmp) (K : St → Option R) : iS T st p args d K = (iS T st p args d some).bind K:=by
 unfold iS
 split
 ·split
  ·split
   ·cases room _ 8 <;> rfl
   ·rfl
  ·rfl
 ·split
  ·split
   ·cases room _ 8 <;> rfl
   ·rfl
  ·rfl
 ·rename_i e n
  split
  ·cases decide (0 ≤ n) && room n.toNat 8 <;> rfl
  ·rfl
 ·rename_i e r e1 i r2 e2
  split
  ·rename_i xs e3 ys _ _
   split
   ·cases decide (0 ≤ i ∧ i ≤ (xs.length : Int)) && room (xs.length + ys.length) (T.row e).bytes <;> rfl
   ·rfl
  ·rfl
 ·rename_i e r e1
  split
  ·rename_i xs _
   split
   ·cases room xs.length (T.row e).bytes <;> rfl
   ·rfl
  ·rfl
 ·rename_i e c j r e1 c' n
  split
  ·rename_i xs _
   split
   ·cases room xs.length (T.row e).bytes <;> rfl
   ·rfl
  ·rfl
 ·rfl
theorem zR (E : Env) (st : St) (g : FuncId) (args : List SV) (az : List aH) (d : Option Tmp) : ∃ o : Option (List SV × List aa × (aJ → Option St)),∀ den : Den,cA { E with den:=den } st g args az d some = o.bind fun p=>(den g p.1 p.2.1).bind p.2.2:=by
 unfold cA
 dsimp only
 simp only [bZ fE,bZ kg,bT]
 split
 ·split
  ·split
   ·split
    ·exact ⟨some (_,_,_),fun den=>rfl⟩
    ·exact ⟨none,fun _=>rfl⟩
   ·exact ⟨none,fun _=>rfl⟩
  ·exact ⟨none,fun _=>rfl⟩
 ·exact ⟨none,fun _=>rfl⟩
theorem zP (h : f.Ok) {st : St} {g : FuncId} {args : List SV} {az : List aH} {d : Option Tmp} : ao (fun k=>cA (f.E k) st g args az d some) (cA f.L st g args az d some):=by
 have e : ∀ k,cA (f.E k) st g args az d some = cA { f.L with den:=(f.E k).den } st g args az d some:=fun k=>by
  obtain ⟨h1,h2,h3,h4,h5,h6⟩:=h.T k
  unfold cA
  simp only [h1,h3,h4]
 obtain ⟨o,ho⟩:=zR f.L st g args az d
 simp only [e,ho]
 exact ao.bind (ao.const _) fun p=>ao.bind (h.den _ _ _) fun _=>ao.const _
theorem vJ (h : f.Ok) {st : St} {g : FuncId} {args : List SV} {az : List aH} {d : Option Tmp} {Kf : Nat → St → Option R} {K : St → Option R} (hK : ∀ st,ao (fun k=>Kf k st) (K st)) : ao (fun k=>cA (f.E k) st g args az d (Kf k)) (cA f.L st g args az d K):=by
 have e : ∀ k,cA (f.E k) st g args az d (Kf k) = (cA (f.E k) st g args az d some).bind (Kf k):=fun k=>vI ..
 simp only [e]
 rw [vI (K:=K)]
 exact ao.bind (zP h) hK
theorem zN (E : Env) (st : St) (g : FuncId) (args : List SV) (az : List aH) : ∃ o : Option (List SV × (aJ → Option SV)),∀ den : Den,dX { E with den:=den } st g args az some = o.bind fun p=>(den g p.1 []).bind p.2:=by
 unfold dX
 dsimp only
 simp only [bZ fE]
 split
 ·split
  ·split
   ·split
    ·exact ⟨none,fun _=>rfl⟩
    ·exact ⟨some (_,_),fun den=>rfl⟩
   ·exact ⟨none,fun _=>rfl⟩
  ·exact ⟨none,fun _=>rfl⟩
 ·exact ⟨none,fun _=>rfl⟩
theorem vH (E : Env) (st : St) (g : FuncId) (args : List SV) (az : List aH) (K : SV → Option R) : dX E st g args az K = (dX E st g args az some).bind K:=by
 unfold dX
 simp only [bZ fE]
 split
 ·split
  ·split
   ·split
    ·rfl
    ·rw [Option.bind_assoc]; rfl
   ·rfl
  ·rfl
 ·rfl
theorem zM (h : f.Ok) {st : St} {g : FuncId} {args : List SV} {az : List aH} {Kf : Nat → SV → Option R} {K : SV → Option R} (hK : ∀ v,ao (fun k=>Kf k v) (K v)) : ao (fun k=>dX (f.E k) st g args az (Kf k)) (dX f.L st g args az K):=by
 have e : ∀ k,dX (f.E k) st g args az some = dX { f.L with den:=(f.E k).den } st g args az some:=fun k=>by
  obtain ⟨h1,h2,h3,h4,h5,h6⟩:=h.T k
  unfold dX
  simp only [h1,h3,h4]
 have e2 : ∀ k,dX (f.E k) st g args az (Kf k) = (dX (f.E k) st g args az some).bind (Kf k):=fun k=>vH ..
 obtain ⟨o,ho⟩:=zN f.L st g args az
 rw [vH (K:=K)]
 simp only [e2,e,ho]
 exact ao.bind (ao.bind (ao.const _) fun p=>ao.bind (h.den _ _ _) fun _=>ao.const _) hK
theorem qF (h : f.Ok) {rt : List aa} {ρ : Operand → SV} {op : Op} {Kf : Nat → SV → Option R} {K : SV → Option R} (hK : ∀ v,ao (fun k=>Kf k v) (K v)) : ao (fun k=>qK (f.E k).T (f.E k).bh rt ρ op (Kf k)) (qK f.L.T f.L.bh rt ρ op K):=by
 have e : ∀ k,qK (f.E k).T (f.E k).bh rt ρ op (Kf k) = (qK f.L.T f.L.bh rt ρ op some).bind (Kf k):=fun k=>by
  obtain ⟨h1,h2,_⟩:=h.T k
  rw [h1,h2,kK]
 simp only [e]
 rw [kK (K:=K)]
 exact ao.bind (ao.const _) hK
theorem Dh (h : f.Ok) {o : Oper} {st : St} {Kf : Nat → St → Option R} {K : St → Option R} (hK : ∀ st,ao (fun k=>Kf k st) (K st)) : ao (fun k=>lY (f.E k) o st (Kf k)) (lY f.L o st K):=by
 have hT : ∀ k,(f.E k).T = f.L.T:=fun k=>(h.T k).1
 have hr : ∀ k,rowAt (f.E k) o = rowAt f.L o:=fun k=>by unfold rowAt; rw [h.ar]
 have hq : ao (fun k=>qK (f.E k).T (f.E k).bh st.rt (ev st) o.op fun v=>Kf k (st.put o.dst v)) (qK f.L.T f.L.bh st.rt (ev st) o.op fun v=>K (st.put o.dst v)):=qF h fun v=>hK _
 have hb : ∀ (F : ax → (St → Option R) → Option R),(∀ T K,F T K = (F T K).bind some) → True:=fun _ _=>trivial
 unfold lY
 split
 ·rename_i t ho
  simp only [hT]
  have e : ∀ k,hJ f.L.T (rowAt f.L o) st t o.dst (Kf k) = (hJ f.L.T (rowAt f.L o) st t o.dst some).bind (Kf k):=fun k=>vo ..
  simp only [hr,e]
  rw [vo (K:=K)]
  exact ao.bind (ao.const _) hK
 ·rename_i t x ho
  simp only [hT]
  have e : ∀ k,jk f.L.T (rowAt f.L o) st t (ev st x) o.dst (Kf k) = (jk f.L.T (rowAt f.L o) st t (ev st x) o.dst some).bind (Kf k):=fun k=>vF ..
  simp only [hr,e]
  rw [vF (K:=K)]
  exact ao.bind (ao.const _) hK
 ·rename_i t x ho
  simp only [hr]
  split
  ·simp only [hT]
   have e : ∀ k,jV f.L.T st t (ev st x) o.dst (Kf k) = (jV f.L.T st t (ev st x) o.dst some).bind (Kf k):=fun k=>ze ..
   simp only [e]
   rw [ze (K:=K)]
   exact ao.bind (ao.const _) hK
  ·exact hq
 ·rename_i t parts ho
  simp only [hT]
  have e : ∀ k,(dL f.L.T (ev st) t parts.toList fun v=>Kf k (st.put o.dst v)) = (dL f.L.T (ev st) t parts.toList some).bind fun v=>Kf k (st.put o.dst v):=fun k=>ia ..
  simp only [e]
  rw [ia (K:=fun v=>K (st.put o.dst v))]
  exact ao.bind (ao.const _) fun v=>hK _
 ·rename_i t len parts ho
  simp only [hT]
  have e : ∀ k,eF f.L.T st t len parts.toList o.dst (Kf k) = (eF f.L.T st t len parts.toList o.dst some).bind (Kf k):=fun k=>mU ..
  simp only [e]
  rw [mU (K:=K)]
  exact ao.bind (ao.const _) hK
 ·rename_i t l c ho
  simp only [hT]
  have e : ∀ k,jN f.L.T st t l c o.dst (Kf k) = (jN f.L.T st t l c o.dst some).bind (Kf k):=fun k=>xP ..
  simp only [e]
  rw [xP (K:=K)]
  exact ao.bind (ao.const _) hK
 ·rename_i t x y ho
  simp only [hT]
  have e : ∀ k,dV f.L.T st t (ev st x) (ev st y) o.dst (Kf k) = (dV f.L.T st t (ev st x) (ev st y) o.dst some).bind (Kf k):=fun k=>oE ..
  simp only [e]
  rw [oE (K:=K)]
  exact ao.bind (ao.const _) hK
 ·rename_i c ho
  split
  ·split
   ·have hp : ∀ k,(f.E k).fy = f.L.fy:=fun k=>(h.T k).2.2.2.2.2.1
    simp only [hp]
    split
    ·split
     ·simp only [hT]
      have e : ∀ k p args,iS f.L.T st p args o.dst (Kf k) = (iS f.L.T st p args o.dst some).bind (Kf k):=fun k p args=>yt ..
      simp only [e]
      rw [yt (K:=K)]
      exact ao.bind (ao.const _) hK
     ·exact ao.const _
    ·exact vJ h hK
   ·exact ao.const _
  ·rename_i s x t t2 hc cu gR
   simp only [hT]
   have e : ∀ k,dW f.L.T st t t2 (ev st s) (ev st x) o.dst (Kf k) = (dW f.L.T st t t2 (ev st s) (ev st x) o.dst some).bind (Kf k):=fun k=>mM ..
   simp only [e]
   rw [mM (K:=K)]
   exact ao.bind (ao.const _) hK
  ·exact hq
 ·rename_i x ho
  simp only [hT]
  split
  ·exact hK _
  ·exact hK _
 ·rename_i t x lo hi ho
  split
  ·simp only [hT]
   have e : ∀ k,jq f.L.T st t (ev st x) (lo.map (ev st)) (hi.map (ev st)) o.dst (Kf k) = (jq f.L.T st t (ev st x) (lo.map (ev st)) (hi.map (ev st)) o.dst some).bind (Kf k):=fun k=>wg ..
   simp only [e]
   rw [wg (K:=K)]
   exact ao.bind (ao.const _) hK
  ·exact hq
 ·exact hq
theorem Db (h : f.Ok) {o : Oper} {st : St} {Kf : Nat → SV → Option R} {K : SV → Option R} (hK : ∀ v,ao (fun k=>Kf k v) (K v)) : ao (fun k=>eh (f.E k) o st (Kf k)) (eh f.L o st K):=by
 have hT : ∀ k,(f.E k).T = f.L.T:=fun k=>(h.T k).1
 have hq : ao (fun k=>qK (f.E k).T (f.E k).bh st.rt (ev st) o.op (Kf k)) (qK f.L.T f.L.bh st.rt (ev st) o.op K):=qF h hK
 unfold eh
 split
 ·rename_i t parts ho
  simp only [hT]
  have e : ∀ k,dL f.L.T (ev st) t parts.toList (Kf k) = (dL f.L.T (ev st) t parts.toList some).bind (Kf k):=fun k=>ia ..
  simp only [e]
  rw [ia (K:=K)]
  exact ao.bind (ao.const _) hK
 ·rename_i c ho
  split
  ·split
   ·exact zM h hK
   ·exact ao.const _
  ·exact hq
 ·exact hq
theorem zj {ops : List Oper} {o : Oper} {st : St} {yf nf : Nat → St → Option R} {y n : St → Option R} (hy : ∀ st,ao (fun k=>yf k st) (y st)) (hn : ∀ st,ao (fun k=>nf k st) (n st)) : ao (fun k=>jd ops o st (yf k) (nf k)) (jd ops o st y n):=by
 simp only [ve]
 split
 ·exact hy _
 ·exact hn _
 ·exact ao.const _
theorem yp (T : ax) (st : St) (t : TypeId) (a : SV) (x : Operand) (pd : fV) (d : Option Tmp) (K : St → Option R) : kI T st t a x pd d K = (kI T st t a x pd d some).bind K:=by
 rw [uB,uB]
 unfold uA
 split
 ·split
  ·split
   ·cases decide (_ = pd.i) <;> rfl
   ·rfl
  ·rfl
 ·rfl
theorem mo (h : f.Ok) {ops : List Oper} {Kf : Nat → St → Option R} {K : St → Option R} (hK : ∀ st,ao (fun k=>Kf k st) (K st)) : ∀ (os : List Oper) (pd : Option fV) (st : St),ao (fun k=>dU (f.E k) ops os pd st (Kf k)) (dU f.L ops os pd st K)
 | [],none,st=>hK st
 | [],some _,st=>ao.const _
 | o :: os,none,st=>by
  have hT : ∀ k,(f.E k).T = f.L.T:=fun k=>(h.T k).1
  unfold dU
  simp only [bT,hT]
  split
  ·rename_i pd n _
   cases room n (f.L.T.row pd.e).bytes with
   | false=>exact ao.const _
   | true=>exact mo h hK os _ _
  ·exact zj (fun st=>Dh h fun ae=>mo h hK os _ _) fun st=>mo h hK os _ _
 | o :: os,some pd,st=>by
  have hT : ∀ k,(f.E k).T = f.L.T:=fun k=>(h.T k).1
  unfold dU
  simp only [bT]
  split
  ·rename_i t x y _ _
   simp only [hT]
   have e : ∀ k,(kI f.L.T st t (ev st x) y pd o.dst fun ae=>dU (f.E k) ops os none ae (Kf k)) = (kI f.L.T st t (ev st x) y pd o.dst some).bind fun ae=>dU (f.E k) ops os none ae (Kf k):=fun k=>yp ..
   simp only [e]
   rw [yp (K:=fun ae=>dU f.L ops os none ae K)]
   exact ao.bind (ao.const _) fun ae=>mo h hK os _ _
  ·split
   ·exact ao.const _
   ·exact qF h fun v=>mo h hK os _ _
  ·exact ao.const _
theorem DU (h : f.Ok) {ops : List Oper} {Kf : Nat → St → Option R} {K : St → Option R} (hK : ∀ st,ao (fun k=>Kf k st) (K st)) (os : List Oper) (st : St) : ao (fun k=>qP (f.E k) ops os st (Kf k)) (qP f.L ops os st K):=mo h hK os none st
theorem uK (h : f.Ok) {ops : List Oper} {Kf : Nat → St → Option R} {K : St → Option R} (hK : ∀ st,ao (fun k=>Kf k st) (K st)) : ∀ (os : List Oper) (st : St),ao (fun k=>iX (f.E k) ops os st (Kf k)) (iX f.L ops os st K)
 | [],st=>hK st
 | o :: os,st=>by
  unfold iX
  simp only [bT]
  exact zj (fun st=>Db h fun v=>uK h hK os _) fun st=>uK h hK os _
theorem De (h : f.Ok) {o : Oper} {st : St} {Kf : Nat → St → Option R} {K : St → Option R} (hK : ∀ st,ao (fun k=>Kf k st) (K st)) : ao (fun k=>dG (f.E k) o st (Kf k)) (dG f.L o st K):=by
 have hT : ∀ k,(f.E k).T = f.L.T:=fun k=>(h.T k).1
 have hs : ∀ k,(f.E k).sig = f.L.sig:=fun k=>(h.T k).2.2.1
 unfold dG
 split
 ·simp only [hT]
  have e : ∀ k t a x,dV f.L.T st t a x o.dst (Kf k) = (dV f.L.T st t a x o.dst some).bind (Kf k):=fun k t a x=>oE ..
  simp only [e]
  rw [oE (K:=K)]
  exact ao.bind (ao.const _) hK
 ·simp only [hT]
  have e : ∀ k t len parts,eF f.L.T st t len parts o.dst (Kf k) = (eF f.L.T st t len parts o.dst some).bind (Kf k):=fun k t len parts=>mU ..
  simp only [e]
  rw [mU (K:=K)]
  exact ao.bind (ao.const _) hK
 ·split
  ·split
   ·simp only [hs]
    split
    ·exact ao.const _
    ·exact vJ h hK
   ·exact ao.const _
  ·simp only [hT]
   have e : ∀ k t t2 s x,dW f.L.T st t t2 s x o.dst (Kf k) = (dW f.L.T st t t2 s x o.dst some).bind (Kf k):=fun k t t2 s x=>mM ..
   simp only [e]
   rw [mM (K:=K)]
   exact ao.bind (ao.const _) hK
  ·exact ao.const _
 ·exact ao.const _
theorem Dk (h : f.Ok) {o : Oper} {st : St} {Kf : Nat → SV → Option R} {K : SV → Option R} (hK : ∀ v,ao (fun k=>Kf k v) (K v)) : ao (fun k=>gV (f.E k) o st (Kf k)) (gV f.L o st K):=by
 have hT : ∀ k,(f.E k).T = f.L.T:=fun k=>(h.T k).1
 unfold gV
 split
 ·rename_i t parts ho
  simp only [hT]
  have e : ∀ k,dL f.L.T (ev st) t parts.toList (Kf k) = (dL f.L.T (ev st) t parts.toList some).bind (Kf k):=fun k=>ia ..
  simp only [e]
  rw [ia (K:=K)]
  exact ao.bind (ao.const _) hK
 ·exact qF h hK
theorem Em (h : f.Ok) (k : Nat) (o : Oper) (st : St) : eo (f.E k) o st = eo f.L o st:=by
 obtain ⟨h1,h2,h3,h4,h5,h6⟩:=h.T k
 unfold eo
 rw [h1,h3,h4]
theorem AA {T : ax} {ρ : Operand → SV} {op : Op} {k : Nat} {Kf : Nat → aa → SV → Option R} {K : aa → SV → Option R} (hK : ∀ x v,ao (fun n=>Kf n x v) (K x v)) : ao (fun n=>eW T ρ op k (Kf n)) (eW T ρ op k K):=by
 have e : (fun n=>eW T ρ op k (Kf n)) = fun n=>(eW T ρ op k fun x v=>some (x,v)).bind fun p=>Kf n p.1 p.2:=funext fun n=>sq ..
 rw [e,sq (K:=K)]
 exact ao.bind (ao.const _) fun p=>hK _ _
theorem Aq {α : Type} (xs : List α) (K : List α → R) : cq (fun x (K : α → R)=>K x) xs K = K xs:=bZ (fun _ _=>rfl) xs K
theorem qN (h : f.Ok) {ops : List Oper} {aC : List (List Nat)} {pl : Nat → Nat} {Kf : Nat → St → Option R} {K : St → Option R} (hK : ∀ st,ao (fun k=>Kf k st) (K st)) : ∀ (L : List Nat) (ts : List (Nat × List Nat)) (st : St),ao (fun k=>runM (f.E k) ops aC pl L ts st (Kf k)) (runM f.L ops aC pl L ts st K)
 | [],ts,st=>hK st
 | i :: L,ts,st=>by
  have hT : ∀ k,(f.E k).T = f.L.T:=fun k=>(h.T k).1
  unfold runM
  split
  ·split
   ·exact ao.const _
   ·rename_i o ho
    split
    ·simp only [bT,jv,Em h]
     exact De h fun aD=>qN h hK L _ _
    ·simp only [jv]
     split
     ·simp only [hT]
      refine AA fun x v=>?_
      split
      ·simp only [bT]; exact qN h hK L _ _
      ·exact ao.const _
     ·refine Dk h fun v=>?_
      split
      ·simp only [bT]; exact qN h hK L _ _
      ·exact ao.const _
  ·exact ao.const _
theorem DS (h : f.Ok) {ops : List Oper} {st : St} {Kf : Nat → St → Option R} {K : St → Option R} (hK : ∀ st,ao (fun k=>Kf k st) (K st)) : ao (fun k=>mn (f.E k) ops st (Kf k)) (mn f.L ops st K):=by
 unfold mn
 simp only [jv,Aq]
 split
 ·simp only [bT]; exact qN h hK _ _ _
 ·exact ao.const _
end
theorem fA : ∀ (c : Code) {f : fi},f.Ok → mG (fun k=>bV (f.E k) c) (bV f.L c)
 | .skip,f,h=>fun Kf K st hK=>hK .normal st
 | .region id ops draw,f,h=>fun Kf K st hK=>by
  cases draw with
  | true =>
   have hs : ∀ k,(f.E k).sig = f.L.sig:=fun k=>(h.T k).2.2.1
   simp only [bV,if_true,hs]
   split
   ·exact DS h fun st=>hK .normal _
   ·split
    ·exact uK h (fun st=>hK .normal _) _ _
    ·exact ao.const _
  | false =>
   simp only [bV,qZv,qZe]
   exact DU h (fun st=>hK .normal st) _ _
 | .seq c d,f,h=>fun Kf K st hK=>by
  simp only [bV]
  refine fA c h _ _ st fun x ae=>?_
  cases x with
  | normal =>
   have hh : ∀ k,qu (f.E k) d = qu f.L d:=fun k=>by unfold qu dA; rw [(h.T k).2.2.2.2.1]
   simp only [oH,bT,hh]
   split
   ·exact h.it _ _ _ _ _ _ _ (fA d h) (fun k=>fA d (h.vZ k)) (fA d h.wa) hK
   ·exact fA d h _ _ ae hK
  | exit id=>exact hK _ _
  | ret=>exact hK _ _
 | .cond x c d,f,h=>fun Kf K st hK=>by
  simp only [bV]
  split
  ·rename_i z _
   cases z with
   | true=>exact fA c h _ _ st hK
   | false=>exact fA d h _ _ st hK
  ·exact ao.const _
 | .block id c,f,h=>fun Kf K st hK=>by
  simp only [bV]
  refine fA c h _ _ st fun x ae=>?_
  cases x with
  | normal=>exact hK _ _
  | exit i =>
   simp only
   split
   ·exact hK _ _
   ·exact hK _ _
  | ret=>exact hK _ _
 | .loop c,f,h=>fun Kf K st hK=>by
  have hh : ∀ k,dA (f.E k) c = dA f.L c:=fun k=>by unfold dA; rw [(h.T k).2.2.2.2.1]
  simp only [bV,bT,hh]
  exact h.it _ _ _ _ _ _ _ (fA c h) (fun k=>fA c (h.vZ k)) (fA c h.wa) hK
 | .exit id,f,h=>fun Kf K st hK=>hK _ _
 | .ret,f,h=>fun Kf K st hK=>hK _ _
 | .rangeFunc ..,f,h=>fun Kf K st hK=>ao.const _
 | .scope _,f,h=>fun Kf K st hK=>ao.const _
 | .label _,f,h=>fun Kf K st hK=>ao.const _
 | .goto _,f,h=>fun Kf K st hK=>ao.const _
 | .refuse _,f,h=>fun Kf K st hK=>ao.const _
theorem oy {cl : St → St} {Ff : Nat → FT} {F : FT} (hF : mG Ff F) {Kf : Nat → CK} {K : CK} (hK : oR Kf K) : ∀ (n : Nat) (st : St),ao (fun k=>rounds cl (Ff k) n st (Kf k)) (rounds cl F n st K)
 | 0,st=>ao.const _
 | n + 1,st=>by
  unfold rounds
  refine hF _ _ st fun x ae=>?_
  cases x with
  | normal=>simp only [iO,bT]; exact oy hF hK n _
  | exit id=>exact hK _ _
  | ret=>exact hK _ _
theorem oz {cl : St → St} {F : FT} (hF : gE F) {K : CK} : ∀ (n : Nat) (st : St) (r : aJ),rounds cl F n st K = some r → rounds cl F (n + 1) st K = some r
 | 0,st,r,h=>by cases h
 | n + 1,st,r,h=>by
  unfold rounds at h ⊢
  refine hF.mono (fun x ae r' h'=>?_) h
  cases x with
  | normal=>simp only [iO,bT] at h' ⊢; exact oz hF n _ _ h'
  | exit id=>exact h'
  | ret=>exact h'
noncomputable def ch : Iter:=fun b cl F st K=>match b with | .scope _=>F st K | _=>lim fun n=>rounds cl F n st K
def iQ (b : Code) : Prop:=∀ c,b ≠ .scope c
theorem Cy {b : Code} (hb : iQ b) (cl : St → St) (F : FT) (st : St) (K : CK) : ch b cl F st K = lim fun n=>rounds cl F n st K:=by
 cases b <;> first | rfl | exact absurd rfl (hb _)
theorem qt {b : Code} (hb : iQ b) (k : Nat) (cl : St → St) (F : FT) : fL k b cl F = rounds cl F k:=by
 cases b <;> first | rfl | exact absurd rfl (hb _)
theorem oa {cl : St → St} {F : FT} (hF : gE F) {K : CK} (st : St) {b : Code} (hb : iQ b) : ao (fun n=>rounds cl F n st K) (ch b cl F st K):=by
 rw [Cy hb]
 exact ao.lim fun k r h=>oz hF k st r h
theorem Cx {b : Code} (hb : iQ b) {cl : St → St} {F : FT} (hF : gE F) {K : CK} (st : St) : ch b cl F st K = F st (iO (fun ae=>cM (cl ae) fun ae=>ch b cl F ae K) K):=by
 refine (oa hF st hb).shift.uniq ?_
 unfold rounds
 refine hF _ _ st fun x ae=>?_
 cases x with
 | normal=>simp only [iO,bT]; exact oa hF _ hb
 | exit id=>exact ao.const _
 | ret=>exact ao.const _
theorem qj {If : Nat → Iter} {I : Iter} (h1 : ∀ k b cl F,If k (.scope b) cl F = F) (h2 : ∀ b cl F,I (.scope b) cl F = F) (h3 : ∀ b cl Ff F Kf K st,iQ b → mG Ff F → (∀ k,gE (Ff k)) → gE F → oR Kf K → ao (fun k=>If k b cl (Ff k) st (Kf k)) (I b cl F st K)) : fU If I:=by
 intro b cl Ff F Kf K st hF hk hL hK
 by_cases hb : iQ b
 ·exact h3 b cl Ff F Kf K st hb hF hk hL hK
 ·obtain ⟨c,rfl⟩ : ∃ c,b = .scope c:=by
   unfold iQ at hb
   simpa using hb
  simp only [h1,h2]
  exact hF _ _ st hK
theorem qk (k : Nat) : fU (fun _=>fL k) (fL k):=qj (fun _ _ _ _=>rfl) (fun _ _ _=>rfl) fun b cl Ff F Kf K st hb hF _ _ hK=>by
 simp only [qt hb]
 exact oy hF hK k st
theorem Ck : fU (fun k=>fL k) ch:=qj (fun _ _ _ _=>rfl) (fun _ _ _=>rfl) fun b cl Ff F Kf K st hb hF hk hL hK=>by
 simp only [qt hb]
 exact ao.diag (f:=fun k n=>rounds cl (Ff k) n st (Kf k)) (fun n=>oy hF hK n st) (oa hL st hb) fun k n r h=>oz (hk k) n st r h
theorem qh : fU (fun _=>ch) ch:=qj (fun _ _ _ _=>rfl) (fun _ _ _=>rfl) fun b cl Ff F Kf K st hb hF hk hL hK=>by
 have h1 : ∀ n,ao (fun k=>rounds cl (Ff k) n st (Kf k)) (rounds cl F n st K):=fun n=>oy hF hK n st
 have h2 : ∀ k,ao (fun n=>rounds cl (Ff k) n st (Kf k)) (ch b cl (Ff k) st (Kf k)):=fun k=>oa (hk k) st hb
 have h3:=oa hL st hb (cl:=cl) (K:=K)
 refine ⟨fun k r h=>?_,fun r=>⟨fun h=>?_,?_⟩⟩
 ·obtain ⟨n,hn⟩:=((h2 k).2 r).1 h
  exact ((h2 (k + 1)).2 r).2 ⟨n,(h1 n).1 _ _ hn⟩
 ·obtain ⟨n,hn⟩:=(h3.2 r).1 h
  obtain ⟨k,aK⟩:=((h1 n).2 r).1 hn
  exact ⟨k,((h2 k).2 r).2 ⟨n,aK⟩⟩
 ·rintro ⟨k,h⟩
  obtain ⟨n,hn⟩:=((h2 k).2 r).1 h
  exact (h3.2 r).2 ⟨n,((h1 n).2 r).2 ⟨k,hn⟩⟩
theorem Cj (k : Nat) : fU (fun j=>match j with | 0=>fL k | _ + 1=>fL (k + 1)) (fL (k + 1)):=qj (fun j _ _ _=>by cases j <;> rfl) (fun _ _ _=>rfl) fun b cl Ff F Kf K st hb hF hk hL hK=>by
 have h1:=oy (cl:=cl) hF hK (k + 1) st
 simp only [qt hb]
 have e : ∀ j,(match j with | 0=>fL k | _ + 1=>fL (k + 1) : Iter) b cl (Ff j) st (Kf j) = match j with | 0=>rounds cl (Ff 0) k st (Kf 0) | j + 1=>rounds cl (Ff (j + 1)) (k + 1) st (Kf (j + 1)):=fun j=>by
  cases j <;> simp only [qt hb]
 simp only [e]
 refine ⟨fun j r h=>?_,fun r=>⟨fun h=>?_,?_⟩⟩
 ·cases j with
  | zero=>exact h1.1 _ _ (oz (hk 0) k st r h)
  | succ j=>exact h1.1 _ _ h
 ·obtain ⟨j,hj⟩:=(h1.2 r).1 h
  exact ⟨j + 1,h1.1 _ _ hj⟩
 ·rintro ⟨j,h⟩
  cases j with
  | zero=>exact (h1.2 r).2 ⟨0,oz (hk 0) k st r h⟩
  | succ j=>exact (h1.2 r).2 ⟨j + 1,h⟩
section
variable {P : Program} {C : bM}
theorem vC {Df : Nat → Den} {D : Den} {If : Nat → Iter} {I : Iter} (hD : ∀ g s r,ao (fun k=>Df k g s r) (D g s r)) (h1 : fU If I) (h2 : ∀ k,fU (fun _=>If k) (If k)) (h3 : fU (fun _=>I) I) (g : FuncId) (aN : List SV) (af : List aa) :
  ao (fun k=>C.body P (Df k) (If k) g aN af) (C.body P D I g aN af):=by
 unfold bM.body
 split
 ·rename_i fn _
  split
  ·rename_i c _
   have hf : fi.Ok ⟨fun k=>C.env P (Df k) (If k) g,C.env P D I g⟩:=⟨fun _=>⟨rfl,rfl,rfl,rfl,rfl,rfl,rfl⟩,hD,h1,h2,h3⟩
   exact fA c hf _ _ _ fun x st=>ao.const _
  ·exact ao.const _
 ·exact ao.const _
theorem pz : ∀ (k : Nat) (g : FuncId) (aN : List SV) (af : List aa) (r : aJ),C.den P k g aN af = some r → C.den P (k + 1) g aN af = some r
 | 0,g,aN,af,r,h=>by cases h
 | k + 1,g,aN,af,r,h=>by
  have hl:=vC (P:=P) (C:=C) (Df:=fun j=>match j with | 0=>C.den P k | _ + 1=>C.den P (k + 1)) (D:=C.den P (k + 1)) (fun g s r=>by
   have:=ao.two (pz k g s r)
   refine ⟨fun j r' hr=>?_,fun r'=>⟨fun e=>⟨1,e⟩,fun ⟨j,hj⟩=>?_⟩⟩
   ·cases j with
    | zero=>exact pz k g s r r' hr
    | succ j=>exact hr
   ·cases j with
    | zero=>exact pz k g s r r' hj
    | succ j=>exact hj) (Cj k) (fun j=>by
     cases j with
     | zero=>exact qk k
     | succ j=>exact qk (k + 1)) (qk (k + 1)) g aN af
  exact hl.1 0 r h
noncomputable def bM.cP (C : bM) (P : Program) : Den:=fun g aN af=>lim fun k=>C.den P k g aN af
theorem rW (g : FuncId) (aN : List SV) (af : List aa) : ao (fun k=>C.den P k g aN af) (C.cP P g aN af):=ao.lim fun k r h=>pz k g aN af r h
theorem Af (g : FuncId) (aN : List SV) (af : List aa) : C.cP P g aN af = C.body P (C.cP P) ch g aN af:=by
 refine (rW g aN af).shift.uniq ?_
 exact vC (P:=P) (C:=C) rW Ck qk qh g aN af
theorem bM.Fg (C : bM) (hT : aX P C.T) (hq : kP P C.T C.bh) (pM : ∀ (g : FuncId) (fn : Func), P.funcs[g]? = some fn → (fn.name == "runtime.NumGoroutine") = false) (dh : P.follows .mixedOrders = true) (pZ : ∀ g p, C.fy g = some p → oS P C.T g p) : Sound P C.T C.sig (C.cP P) := by
 intro f aN af ret h
 obtain ⟨k,hk⟩:=((rW f aN af).2 ret).1 h
 exact C.sound hT hq pM dh pZ k f aN af ret hk
theorem DP (g : FuncId) (c : Code) : gE (bV (C.env P (C.cP P) ch g) c):=fA c (f:=⟨fun _=>C.env P (C.cP P) ch g,C.env P (C.cP P) ch g⟩) ⟨fun _=>⟨rfl,rfl,rfl,rfl,rfl,rfl,rfl⟩,fun g' s r=>ao.const ((C.env P (C.cP P) ch g).den g' s r),qh,fun _=>qh,qh⟩
end
def fM (E : Env) : Code → List Nat → CK → CK
 | .seq a b,i :: p,K=>if i = 0 then fM E a p (fun x ae=>match x with | .normal=>oH E b (bV E b) K ae | x=>K x ae) else fM E b p K
 | .cond _ a b,i :: p,K=>if i = 0 then fM E a p K else fM E b p K
 | .block id b,_ :: p,K=>fM E b p fun x ae=>match x with | .exit i=>if i = id then K .normal ae else K (.exit i) ae | x=>K x ae
 | .loop b,_ :: p,K=>fM E b p (iO (fun ae=>cM (ae.clean (dA E b)) fun ae=>E.iter b (fun st=>st.clean (dA E b)) (bV E b) ae K) K)
 | _,_,K=>K
def bM.jM (C : bM) (P : Program) (D : Den) (I : Iter) (g : FuncId) (ps : List (TypeId × Bool)) (path : List Nat) (st : St) : Option aJ:=match cat (ik P g) path with
 | .loop b=>I b (fun st=>st.clean (dA (C.env P D I g) b)) (bV (C.env P D I g) b) st (fM (C.env P D I g) (ik P g) path (C.ma P g ps))
 | b=>I (.scope b) (fun st=>st) (bV (C.env P D I g) b) st (fM (C.env P D I g) (ik P g) path (C.ma P g ps))
def bM.qv (C : bM) (P : Program) (D : Den) (I : Iter) (g : FuncId) (ps : List (TypeId × Bool)) (path : List Nat) (st : St) : Option aJ:=match cat (ik P g) path with
 | .loop b=>bV (C.env P D I g) b st (iO (fun ae=>cM (ae.clean (dA (C.env P D I g) b)) fun ae=>C.jM P D I g ps path ae) (fM (C.env P D I g) (ik P g) path (C.ma P g ps)))
 | b=>bV (C.env P D I g) b st (fM (C.env P D I g) (ik P g) path (C.ma P g ps))
structure Fix (C : bM) (P : Program) (D : Den) (I : Iter) : Prop where
 den : ∀ g aN af,D g aN af = C.body P D I g aN af
 it : ∀ g ps path st,C.jM P D I g ps path st = C.qv P D I g ps path st
theorem Av {C : bM} {P : Program} : Fix C P (C.cP P) ch:=by
 refine ⟨Af,fun g ps path st=>?_⟩
 cases hc : cat (ik P g) path with
 | loop b =>
  have e : ∀ st,C.jM P (C.cP P) ch g ps path st = ch b (fun st=>st.clean (dA (C.env P (C.cP P) ch g) b)) (bV (C.env P (C.cP P) ch g) b) st (fM (C.env P (C.cP P) ch g) (ik P g) path (C.ma P g ps)):=fun st=>by
   unfold bM.jM; rw [hc]
  have e2 : C.qv P (C.cP P) ch g ps path st = bV (C.env P (C.cP P) ch g) b st (iO (fun ae=>cM (ae.clean (dA (C.env P (C.cP P) ch g) b)) fun ae=>C.jM P (C.cP P) ch g ps path ae) (fM (C.env P (C.cP P) ch g) (ik P g) path (C.ma P g ps))):=by
   unfold bM.qv; rw [hc]
  rw [e2]
  simp only [e]
  by_cases hb : iQ b
  ·exact Cx hb (DP g b) st
  ·obtain ⟨c,rfl⟩ : ∃ c,b = .scope c:=by
    unfold iQ at hb
    simpa using hb
   rfl
 | _=>unfold bM.jM bM.qv; rw [hc]; rfl
def Fe : Nat → List (Nat × SV) → List SV
 | n,xs=>(List.range n).map fun i=>(xs.lookup i).getD .no
abbrev gr (xs : List (List U)) (i : Int) : List U:=xs.getD i.toNat []
abbrev gi (xs : List (List U)) (i : Int) (k : Nat) : Int:=((xs.getD i.toNat []).getD k U0).toInt
abbrev gl (xs : List (List U)) (i : Int) (k : Nat) : List (List U):=((xs.getD i.toNat []).getD k U0).bB
abbrev gb (xs : List (List U)) (i : Int) (k : Nat) : Bool:=((xs.getD i.toNat []).getD k U0).toBool
abbrev gt (xs : List (List U)) (i : Int) (k : Nat) : ByteArray:=((xs.getD i.toNat []).getD k U0).toStr
abbrev ui (u : List U) (k : Nat) : Int:=(u.getD k U0).toInt
abbrev ul (u : List U) (k : Nat) : List (List U):=(u.getD k U0).bB
abbrev ub (u : List U) (k : Nat) : Bool:=(u.getD k U0).toBool
abbrev ut (u : List U) (k : Nat) : ByteArray:=(u.getD k U0).toStr
abbrev aJ.i (r : aJ) (k : Nat) : Int:=(r.u 0 k).toInt
abbrev aJ.l (r : aJ) (k : Nat) : List (List U):=(r.u 0 k).bB
abbrev aJ.b (r : aJ) (k : Nat) : Bool:=(r.u 0 k).toBool
abbrev aJ.t (r : aJ) (k : Nat) : ByteArray:=(r.u 0 k).toStr
abbrev aJ.ij (r : aJ) (j k : Nat) : Int:=(r.u j k).toInt
abbrev aJ.lj (r : aJ) (j k : Nat) : List (List U):=(r.u j k).bB
abbrev aJ.bj (r : aJ) (j k : Nat) : Bool:=(r.u j k).toBool
abbrev aJ.tj (r : aJ) (j k : Nat) : ByteArray:=(r.u j k).toStr
abbrev Ft (n : Int) : Int:=IntKind.i64.wrap n
abbrev ln (xs : List (List U)) : Int:=(xs.length : Int)
abbrev EK (b : Bool) (x : Option aJ) : Option aJ:=bif b then x else none
abbrev LL:=List (List U)
abbrev O:=Option aJ
abbrev rB (b : Bool) : Option aJ:=some ⟨[[.bool b]],[]⟩
abbrev rI (n : Int) : Option aJ:=some ⟨[[.int n]],[]⟩
abbrev rL (xs : List (List U)) : Option aJ:=some ⟨[[.lst xs]],[]⟩
abbrev Cl.i (n : Int) : Cl:=.int .i64 n
end Go.Proofs.YtaghmjcfaplkiaaGreat.Eng
namespace Go.Proofs.YtaghmjcfaplkiaaGreat.Eng
open Go.RowKit Go.WideShapes
inductive WT (T : bl) : CT → U → Prop
 | int (k : IntKind) (n : Int) (h : (Lit.int k n).wf = true) : WT T (.int k) (.int n)
 | bool (b : Bool) : WT T .bool (.bool b)
 | str (s : ByteArray) (h : s.size ≤ maxLen) : WT T .str (.str s)
 | aj (e : TypeId) (xs : List (List U)) (hm : xs.length ≤ 9223372036854775807) (hs : ∀ (i : Nat) (x : List U),xs[i]? = some x → x.length = (T e).length)
   (h : ∀ (i j : Nat) (x : List U) (u : U) (ct : CT),xs[i]? = some x → x[j]? = some u → (T e)[j]? = some ct → WT T ct u) : WT T (.aj e) (.lst xs)
def zx (T : bl) (ab : List CT) (us : List U) : Prop:=us.length = ab.length ∧ ∀ (j : Nat) (ct : CT) (u : U),ab[j]? = some ct → us[j]? = some u → WT T ct u
def kG (T : ax) : Nat → List (TypeId × Nat) → List CT → Bool
 | _,[],ab=>ab.isEmpty
 | o,(ft,off) :: fs,ab=>off == o && decide (ab.take (T.size ft) = T.ct ft) && kG T (o + T.size ft) fs (ab.drop (T.size ft))
def vU (T : ax) (L : List TypeId) : Bool:=L.all fun t=>match (T.row t).d with
 | .one (.aj e)=>L.elem e && decide (T.size e ≠ 0)
 | .one _=>true
 | .st fs=>fs.all (fun f=>L.elem f.1) && kG T 0 fs (T.ct t)
 | _=>false
section
variable {P : Program} {T : ax} {H : Type} {enc : TypeId × Value → H} {w : World} {base : Nat} {spare : Nat → Bool} {held : Bool} {aq : Nat → Prop}
def dJ (T : ax) (w : World) (aq : Nat → Prop) (ab : List CT) (us : List U) (cs : List Value) : Prop :=
 us.length = ab.length ∧ cs.length = ab.length ∧ ∀ (j : Nat) ct u c,ab[j]? = some ct → us[j]? = some u → cs[j]? = some c → aE T.ct w aq ct u c ∧ WT T.ct ct u
theorem dJ.one {ct : CT} {u : U} {c : Value} (h : aE T.ct w aq ct u c) (h' : WT T.ct ct u) : dJ T w aq [ct] [u] [c]:=by
 refine ⟨rfl,rfl,fun j br u' c' h1 h2 h3=>?_⟩
 cases j with
 | zero=>simp at h1 h2 h3; subst h1 h2 h3; exact ⟨h,h'⟩
 | succ j=>simp at h1
theorem dJ.append {ab wc : List CT} {us mC : List U} {cs cs' : List Value} (h : dJ T w aq ab us cs) (h' : dJ T w aq wc mC cs') : dJ T w aq (ab ++ wc) (us ++ mC) (cs ++ cs'):=by
 obtain ⟨a1,a2,a3⟩:=h
 obtain ⟨b1,b2,b3⟩:=h'
 refine ⟨by simp [a1,b1],by simp [a2,b2],fun j ct u c h1 h2 h3=>?_⟩
 by_cases hj : j < ab.length
 ·rw [qQu hj] at h1
  rw [qQu (by omega)] at h2 h3
  exact a3 j ct u c h1 h2 h3
 ·rw [qQx (by omega)] at h1 h2 h3
  rw [a1] at h2
  rw [a2] at h3
  exact b3 _ ct u c h1 h2 h3
theorem wz {L : List TypeId} {n : Nat} (ih : ∀ (t : TypeId) (cs : List Value) (x : DataW H × List MemPlace),t ∈ L → DataW.trod enc P w base spare held n t cs = some x → ∃ us,dJ T w aq (T.ct t) us cs) {cs : List Value} : ∀ (fs : List (TypeId × Nat)) (o : Nat) (ab : List CT),kG T o fs ab = true → cs.length = o + ab.length →
  (∀ f ∈ fs,f.1 ∈ L ∧ ∃ x,DataW.trod enc P w base spare held n f.1 ((cs.drop f.2).take (T.size f.1)) = some x) → ∃ us,dJ T w aq ab us (cs.drop o)
 | [],o,ab,h,hl,_=>by
  have h : ab.isEmpty = true:=h
  obtain rfl : ab = []:=by simpa using h
  have : cs.drop o = []:=List.drop_eq_nil_of_le (by simp at hl; omega)
  rw [this]
  exact ⟨[],rfl,rfl,fun j ct u c h1=>by simp at h1⟩
 | (ft,off) :: fs,o,ab,h,hl,hf=>by
  simp only [kG,qQi,beq_iff_eq,qQw] at h
  obtain ⟨⟨rfl,h1⟩,h2⟩:=h
  have hle : (ab.take (T.size ft)).length = T.size ft:=by rw [h1]; rfl
  rw [qZc] at hle
  obtain ⟨m,x,hx⟩:=hf (ft,off) (by simp)
  obtain ⟨Er,q1⟩:=ih _ _ _ m hx
  obtain ⟨Es,q2⟩:=wz ih fs (off + T.size ft) (ab.drop (T.size ft)) h2 (by rw [qZl]; omega) (fun f sO=>hf f (by simp [sO]))
  refine ⟨Er ++ Es,?_⟩
  have:=q1.append q2
  have e1 : T.ct ft ++ ab.drop (T.size ft) = ab:=by rw [← h1,qXx]
  have e2 : (cs.drop off).take (T.size ft) ++ cs.drop (off + T.size ft) = cs.drop off:=by rw [← qXj,qXx]
  rw [e1] at this
  simp only at this
  rw [e2] at this
  exact this
theorem yj (hT : aX P T) {L : List TypeId} (hL : vU T L = true) (bn : ∀ b,b < w.heap.size → aq b) : ∀ (fuel : Nat) (t : TypeId) (cs : List Value) (x : DataW H × List MemPlace),t ∈ L → DataW.trod enc P w base spare held fuel t cs = some x → ∃ us,dJ T w aq (T.ct t) us cs
 | 0,t,cs,x,_,h=>by simp [DataW.trod] at h
 | n + 1,t,cs,x,ht,h=>by
  have ih:=yj hT hL bn n
  have hc:=qQp.1 hL t ht
  have cellsOf : ∀ {t},(T.row t).d.known = true → P.cellsOf t = T.size t:=fun {t} hk=>by
   obtain ⟨i,desc,h1,h2,h3,_⟩:=hT.ok t hk
   simp [Program.cellsOf,h1,h3]
  have known : ∀ {t},t ∈ L → (T.row t).d.known = true:=fun {t} ht=>by
   have:=qQp.1 hL t ht
   cases hd : (T.row t).d with
   | other=>rw [hd] at this; simp at this
   | _=>rfl
  obtain ⟨i,desc,h1,h2,h3,h4,h5,h6⟩:=hT.ok t (known ht)
  cases hd : (T.row t).d with
  | one c =>
   have ai:=hT.one t c hd
   rw [ai]
   rw [hd] at h6 hc
   cases c with
   | int k =>
    cases desc <;> simp only [cp] at h6
    subst h6
    obtain ⟨m,rfl,_,hw⟩:=DataW.trod_int h2 h
    exact ⟨[.int m],dJ.one (.int _ _) (.int _ _ hw)⟩
   | bool =>
    cases desc <;> simp only [cp] at h6
    obtain ⟨b,rfl,_⟩:=DataW.trod_bool h2 h
    exact ⟨[.bool b],dJ.one (.bool _) (.bool _)⟩
   | str =>
    cases desc <;> simp only [cp] at h6
    obtain ⟨s,rfl,_,hs⟩:=DataW.trod_string h2 h
    exact ⟨[.str s],dJ.one (.str _) (.str _ hs)⟩
   | aj e =>
    cases desc <;> simp only [cp] at h6
    subst h6
    simp only [qQi,qQw] at hc
    have he : e ∈ L:=by simpa using hc.1
    have Bd:=cellsOf (known he)
    rcases DataW.trod_slice h2 h with ⟨rfl,_⟩ | ⟨a,len,cap,elems,rest,m,Bs,rfl,_,_,nE,ki,dB,bD,_,_⟩
    ·exact ⟨[.lst []],dJ.one (aE.nil e 0 none) (.aj e [] (by simp) (fun i x h=>by simp at h) (fun i j x u ct h=>by simp at h))⟩
    ·obtain rfl : n = m:=by omega
     have key : ∀ i,i < len → ∃ us : List U,∃ cs',w.cells? base (a.add (i * T.size e)) (T.size e) = some cs' ∧ dJ T w aq (T.ct e) us cs':=by
      intro i hi
      have q1:=bD i hi
      rw [qQg (by omega),Bd] at q1
      obtain ⟨cs',q2,q3⟩:=qZi.1 q1
      obtain ⟨us,q4⟩:=ih e cs' _ he q3
      exact ⟨us,cs',q2,q4⟩
     classical
     have hex : ∃ xs : List (List U),xs.length = len ∧ ∀ i x,xs[i]? = some x → ∃ cs',w.cells? base (a.add (i * T.size e)) (T.size e) = some cs' ∧ dJ T w aq (T.ct e) x cs':=by
      refine ⟨List.ofFn (fun i : Fin len=>Classical.choose (key i.1 i.2)),by simp,?_⟩
      intro i p hp
      have hi : i < len:=by
       have:=(qYa.1 hp).1
       simpa using this
      rw [qQg (by simpa using hi)] at hp
      simp only [List.getElem_ofFn,qZo] at hp
      rw [← hp]
      exact Classical.choose_spec (key i hi)
     obtain ⟨xs,hl,jK⟩:=hex
     have hlen : xs.length ≤ 9223372036854775807:=by rw [hl]; exact qZd nE ki
     
     have db : ∀ (i j : Nat) (x : List U),xs[i]? = some x → j < T.size e → ∃ cs' : List Value,∃ c,dJ T w aq (T.ct e) x cs' ∧ cs'[j]? = some c ∧ w.cell? ((a.add (i * T.size e)).add j) = some c:=by
      intro i j x hx hj
      obtain ⟨cs',q1,q2⟩:=jK i x hx
      obtain ⟨_,q3,q4⟩:=World.cells?_some q1
      have eJ : j < cs'.length:=by rw [q3]; exact hj
      exact ⟨cs',cs'[j],q2,qQg eJ,by rw [q4 j hj]; exact qQg eJ⟩
     have BW : 0 < xs.length → ∃ b o,a = ⟨b,o,none⟩ ∧ b < w.heap.size:=by
      intro h0
      obtain ⟨cs',c,_,_,q3⟩:=db 0 0 xs[0] (qQg h0) (qY0 hc.2)
      rw [qXe] at q3
      have e0 : (a.add 0).add 0 = a:=rfl
      rw [e0] at q3
      have xx:=World.cell?_spot q3
      obtain ⟨b,o,sp⟩:=a
      simp only at xx
      subst xx
      refine ⟨b,o,rfl,?_⟩
      unfold World.cell? at q3
      split at q3
      ·rename_i hb; exact (qYb.1 hb).1
      ·cases q3
     let V : Nat → Nat → Value:=fun i j=>((w.cell? ((a.add (i * T.size e)).add j))).getD undef
     have hV : ∀ (i j : Nat) (x : List U) c,xs[i]? = some x → w.cell? ((a.add (i * T.size e)).add j) = some c → V i j = c:=fun i j x c _ nj=>by show (w.cell? _).getD undef = c; rw [nj]; rfl
     have aR : ∀ (i : Nat) (x : List U),xs[i]? = some x → x.length = (T.ct e).length:=fun i x hx=>(jK i x hx).choose_spec.2.1
     have eL : ∀ (i j : Nat) (x : List U) (u : U) (ct : CT),xs[i]? = some x → x[j]? = some u → (T.ct e)[j]? = some ct → aE T.ct w aq ct u (V i j) ∧ WT T.ct ct u:=by
      intro i j x u ct hx hu ai
      obtain ⟨cs',c,q1,q2,q3⟩:=db i j x hx (aA ai)
      rw [hV i j x c hx q3]
      exact q1.2.2 j ct u c ai hu q2
     refine ⟨[.lst xs],dJ.one ?_ (.aj e xs hlen aR fun i j x u ct hx hu ai=>(eL i j x u ct hx hu ai).2)⟩
     rw [← hl]
     refine .aj e xs (some a) cap V (by omega) hlen (fun h0=>?_) aR fun i j x u ct hx hu ai=>(eL i j x u ct hx hu ai).1
     obtain ⟨b,o,rfl,hb⟩:=BW h0
     refine ⟨b,o,rfl,bn b hb,fun i j x hx hj=>?_⟩
     obtain ⟨cs',c,q1,q2,q3⟩:=db i j x hx (by rw [aR i x hx] at hj; exact hj)
     rw [hV i j x c hx q3,← q3,Addr.add_lit,Addr.add_lit,qQ4]
     rfl
  | st fs =>
   rw [hd] at h6 hc
   cases desc <;> simp only [cp] at h6
   rename_i fields
   simp only [qQi] at hc
   obtain ⟨xs,m,Bs,rfl,aL,hn,hg⟩:=DataW.trod_struct h2 h
   obtain rfl : n = m:=by omega
   have aR:=cellsOf (known ht)
   obtain ⟨us,xB⟩:=wz (L:=L) (T:=T) ih fs 0 (T.ct t) hc.2 (by rw [aL,aR,qQy]; rfl) (fun f hf=>by
    have wV : f.1 ∈ L:=by simpa using qQp.1 hc.1 f hf
    refine ⟨wV,?_⟩
    rw [← h6] at hf
    obtain ⟨mY,Br,rfl⟩:=qQo.1 hf
    obtain ⟨k,hk⟩:=qZ0 Br
    have aK : fields[k]? = some mY:=by simpa using hk
    have av : k < fields.size:=(qYb.1 aK).1
    exact ⟨xs[k]'(by omega),by
     show DataW.trod enc P w base spare held n mY.type ((cs.drop mY.offset).take (T.size mY.type)) = _
     rw [← cellsOf (known wV),hg k mY aK,qQg (by omega)]⟩)
   exact ⟨us,by rw [qYp] at xB; exact xB⟩
  | arr k e=>rw [hd] at hc; simp at hc
  | other=>rw [hd] at hc; simp at hc
def vB (T : ax) (t : TypeId) (us : List U) : SV:=pack (T.agg t) (ib (T.ct t) us 0 (T.size t))
theorem CW (hT : aX P T) {t : TypeId} (ht : (T.row t).d.known = true) {v : Value} (h : Value.okWide P w .any base t v) : (T.agg t = true → ∃ cs,v = .agg cs) ∧ (T.agg t = false → v.cells = #[v]):=by
 obtain ⟨i,desc,h1,h2,h3,h4,h5,h6⟩:=hT.ok t ht
 cases hd : (T.row t).d with
 | one c =>
  rw [hd] at h6
  refine ⟨fun ha=>(by rw [ax.agg,hd] at ha; cases ha),fun _=>?_⟩
  cases c with
  | int k =>
   cases desc <;> simp only [cp] at h6
   obtain ⟨n,rfl⟩:=okWide_int h2 h; rfl
  | bool =>
   cases desc <;> simp only [cp] at h6
   obtain ⟨n,rfl⟩:=okWide_bool h2 h; rfl
  | str =>
   cases desc <;> simp only [cp] at h6
   obtain ⟨n,rfl⟩:=okWide_string h2 h; rfl
  | aj e =>
   cases desc <;> simp only [cp] at h6
   obtain ⟨a,l,c,rfl⟩:=okWide_slice h2 h; rfl
 | st fs =>
  rw [hd] at h6
  refine ⟨fun _=>?_,fun ha=>(by rw [ax.agg,hd] at ha; cases ha)⟩
  cases desc <;> simp only [cp] at h6
  unfold Value.okWide at h
  rw [h2] at h
  exact ⟨_,h.choose_spec.1⟩
 | arr k e =>
  rw [hd] at h6
  refine ⟨fun _=>?_,fun ha=>(by rw [ax.agg,hd] at ha; cases ha)⟩
  cases desc <;> simp only [cp] at h6
  unfold Value.okWide at h
  rw [h2] at h
  exact ⟨_,h.choose_spec.1⟩
 | other=>rw [hd] at ht; cases ht
end
def kd (T : ax) (w : World) : Ctx:=⟨T,fun b=>b < w.heap.size,fun b=>w.heap.size ≤ b,0,fun _=>undef,fun _=>none⟩
def ld : Gh:=⟨fun _=>none,fun _=>undef,fun _=>0⟩
theorem CJ (T : ax) (w : World) (aN : List SV) : Mem (kd T w) ⟨aN,[],0⟩ w ld :=
 ⟨fun r x hx=>by simp at hx,fun b hb=>absurd rfl hb,fun b r hb=>(by cases hb),fun b hb=>hb,rfl,qQt _,fun b r hb=>(by cases hb),fun r hr=>absurd hr (Nat.not_lt_zero _)⟩
theorem Ey {P : Program} {T : ax} (hT : aX P T) {L : List TypeId} (hL : vU T L = true) {H : Type} {enc : TypeId × Value → H} {w : World} {spare : Nat → Bool} {held : Bool} {t : TypeId} (ht : t ∈ L) {v : Value} {d : DataW H} {ps : List MemPlace}
  (h : DataW.Trod enc P w 0 spare held t v d ps) {base : Nat} (hv : Value.okWide P w .any base t v) : ∃ us,zx T.ct (T.ct t) us ∧ ay (kd T w) w [] ld (vB T t us) v:=by
 obtain ⟨fuel,hf⟩:=h
 obtain ⟨us,h1,h2,h3⟩:=yj (aq:=aq (kd T w) w ld) hT hL (fun b hb=>⟨rfl,hb,.inl hb⟩) fuel t _ _ ht hf
 have known : (T.row t).d.known = true:=by
  have:=qQp.1 hL t ht
  cases hd : (T.row t).d with
  | other=>rw [hd] at this; simp at this
  | _=>rfl
 refine ⟨us,⟨h1,fun j ct u ai hu=>?_⟩,?_⟩
 ·have hj : j < v.cells.toList.length:=by rw [h2]; exact aA ai
  exact (h3 j ct u _ ai hu (qQg hj)).2
 ·have aL : aw (kd T w) w [] ld (ib (T.ct t) us 0 (T.size t)) v.cells.toList:=by
   refine aw.oo ?_ fun j x c hx hc=>?_
   ·rw [rM,h2,qYp,qXf (show (T.ct t).length ≤ T.size t from qQb _)]
   ·obtain ⟨_,ct,ai,rfl⟩:=vR hx
    rw [qQy] at ai ⊢
    have hj : j < us.length:=by rw [h1]; exact aA ai
    have hu : us[j]? = some (us.getD j U0):=by rw [qQe,qQg hj]; rfl
    exact aF.dS (h3 j ct _ c ai hu hc).1
  obtain ⟨s1,s2⟩:=CW hT known hv
  unfold vB pack
  cases ha : T.agg t with
  | true =>
   obtain ⟨cs,rfl⟩:=s1 ha
   exact ⟨cs,rfl,aL⟩
  | false =>
   rw [s2 ha] at aL
   have hl:=aL.length
   rw [if_neg (by simp)]
   generalize ib (T.ct t) us 0 (T.size t) = cl at aL hl
   match cl,aL with
   | [x],aL=>exact ay.cj aL.1
theorem ES {P : Program} {T : ax} {sig : FuncId → jg} {D : Den} (hS : Sound P T sig D) {f : FuncId} {fn : Func} (eH : P.funcs[f]? = some fn) {tb : TypeId} (hr : fn.resultTypes.toList = [tb]) (hb : T.ct tb = [.bool]) (hk : (T.row tb).d.known = true) (ha : T.agg tb = false) (hp : (sig f).rs.headD .own = .own) {aN : List SV}
  (h : D f aN [] = some ⟨[[.bool true]],[]⟩) {w : World} {args : Array Value} (hs : cY (kd T w) w [] ld aN args.toList) : Calls P f args w fun e w'=>e = .returned (.bool true) ∧ Below w.heap.size w w':=by
 obtain ⟨Ax,h1,_,h2⟩:=hS f aN [] _ h
 obtain rfl : fn = Ax:=qQc (eH.symm.trans h1)
 rw [hr] at h2
 refine (h2 (.inr fun t ht=>by rw [qZj.1 ht]; exact hk) (kd T w) w ld args rfl (CJ T w aN) hs).mono fun e w'=>?_
 rintro ⟨v,rfl,g',_,eI,hv⟩
 have dP : v = .bool true:=by
  have e1 : results1 T (sig f).rs [tb] [[U.bool true]] 0 0 = ([(false,[.bool true])],[]):=by
   simp only [results1,hb,ha,hp,ej,aI]
   rfl
  have aO : ¬ ef (sig f).rs = true:=fun hh=>by
   unfold ef at hh
   split at hh
   ·rename_i e he; rw [he] at hp; cases hp
   ·cases hh
  have hv : ay (kd T w) w' _ g' (iW (sig f).rs (results1 T (sig f).rs [tb] [[U.bool true]] 0 0).1) v:=hv
  rw [show ∀ z,iW (sig f).rs z = dx z from fun z=>if_neg aO] at hv
  rw [e1] at hv
  exact hv
 subst dP
 exact ⟨rfl,⟨eI.os,eI.tape,eI.output,eI.size,fun b hb=>(eI.block b hb rfl).2⟩⟩
def oG : TypeDesc → TD
 | .int k=>.one (.int k) | .bool=>.one .bool | .string=>.one .str | .slice e=>.one (.aj e)
 | .struct fields=>.st (fields.toList.map fun f=>(f.type,f.offset)) | .array n e=>.arr n e | _=>.other
theorem Ag {desc : TypeDesc} (h : (oG desc).known = true) : cp (oG desc) desc:=by
 cases desc <;> simp only [oG,cp] <;> first | trivial | exact ⟨rfl,rfl⟩ | (simp [oG,TD.known] at h)
def yF (P : Program) (T : ax) (t : TypeId) : Option (Nat × Nat × Option Value × TD):=if (T.row t).d.known then (P.info? t).bind fun i=>(P.underlying t).map fun d=>(i.size,i.bytes,i.zero,oG d) else none
def yG (T : ax) (t : TypeId) : Option (Nat × Nat × Option Value × TD):=if (T.row t).d.known then some (T.size t,(T.row t).bytes,some (T.row t).zero,(T.row t).d) else none
def CX (T : ax) : Bool:=T.all fun r=>match r.d with | .one c=>decide (r.ab = [c]) | _=>true
theorem Fj {P : Program} {T : ax} (h : (List.range T.length).map (yF P T) = (List.range T.length).map (yG T)) (h1 : CX T = true) : aX P T:=by
 have lt : ∀ t,(T.row t).d.known = true → t < T.length:=fun t hk=>by
  rcases Nat.lt_or_ge t T.length with hl | hl
  ·exact hl
  ·unfold ax.row at hk
   rw [qQe,qZh hl] at hk; cases hk
 refine ⟨fun t hk=>?_,fun t c hd=>?_⟩
 ·have hl:=lt t hk
  have h2:=qQq (fun l=>l[t]?) h
  simp only [qQj,qZy hl,qQ7,qZo] at h2
  unfold yF yG at h2
  rw [if_pos hk,if_pos hk] at h2
  obtain ⟨i,h3,h4⟩:=qZi.1 h2
  obtain ⟨d,h5,h6⟩:=qQf.1 h4
  simp only [qXg] at h6
  obtain ⟨e1,e2,e3,e4⟩:=h6
  refine ⟨i,d,h3,h5,e1,e2,e3,?_⟩
  rw [← e4]
  exact Ag (by rw [e4]; exact hk)
 ·have hl:=lt t (by rw [hd]; rfl)
  have hm : T.row t ∈ T:=by
   unfold ax.row
   rw [qQe,qQg hl]
   exact List.getElem_mem hl
  have h2:=qQp.1 h1 _ hm
  rw [hd] at h2
  simpa [ax.ct] using h2
theorem Al {gZ : List CT} {us vs : List Value} : ∀ {ts : List CT} {xs ys : List Value},xs.length = ts.length → ys.length = ts.length → bQ (ts ++ gZ) (xs ++ us) (ys ++ vs) = (bQ ts xs ys).bind fun a=>(bQ gZ us vs).map (a && ·):=by
 intro ts
 induction ts with
 | nil =>
  intro xs ys hx hy
  obtain rfl : xs = []:=qZz hx
  obtain rfl : ys = []:=qZz hy
  simp [bQ]
 | cons t ts ih =>
  intro xs ys hx hy
  match xs,ys,hx,hy with
  | x :: xs,y :: ys,hx,hy =>
   have ih:=ih (xs:=xs) (ys:=ys) (by simpa using hx) (by simpa using hy)
   have fin : ∀ (b : Bool),((bQ ts xs ys).bind fun a=>(bQ gZ us vs).map (a && ·)).map (b && ·) = ((bQ ts xs ys).map (b && ·)).bind fun a=>(bQ gZ us vs).map (a && ·):=fun b=>by
    cases bQ ts xs ys <;> cases bQ gZ us vs <;> simp [Bool.and_assoc]
   cases t <;> cases x <;> cases y <;> simp only [List.cons_append,bQ,qYq,ih] <;> try (first | rfl | exact fin _)
   split
   ·exact fin _
   ·rfl
theorem Am : ∀ {ts : List CT} {xs ys : List Value} {r : Bool},bQ ts xs ys = some r → xs.length = ts.length ∧ ys.length = ts.length:=by
 intro ts
 induction ts with
 | nil =>
  intro xs ys r h
  unfold bQ at h
  split at h <;> first | contradiction | exact ⟨rfl,rfl⟩
 | cons t ts ih =>
  intro xs ys r h
  unfold bQ at h
  split at h <;> first | contradiction | skip
  ·rename_i e
   split at h
   ·obtain ⟨s,h1,_⟩:=qQf.1 h
    cases e
    have:=ih h1
    simp [this.1,this.2]
   ·cases h
  ·rename_i e
   obtain ⟨s,h1,_⟩:=qQf.1 h
   cases e
   have:=ih h1
   simp [this.1,this.2]
  ·rename_i e
   obtain ⟨s,h1,_⟩:=qQf.1 h
   cases e
   have:=ih h1
   simp [this.1,this.2]
def js (P : Program) (T : ax) : Nat → TypeId → Bool
 | 0,_=>false
 | n + 1,t=>match (T.row t).d with
  | .one (.int _) | .one .bool | .one .str=>true
  | .st fs => !P.stoodInHeld t && (P.fieldsOf t).toList.all (fun f => !(f.name == "_")) && fs.all (fun f => js P T n f.1) && kG T 0 fs (T.ct t)
  | _=>false
section
variable {P : Program} {T : ax}
theorem wu : ∀ {n : Nat} {t : TypeId},js P T n t = true → (T.row t).d.known = true
 | 0,t,h=>by cases h
 | n + 1,t,h=>by
  unfold js at h
  split at h
  ·rename_i hd; rw [hd]; rfl
  ·rename_i hd; rw [hd]; rfl
  ·rename_i hd; rw [hd]; rfl
  ·rename_i hd; rw [hd]; rfl
  ·cases h
theorem yJ (hT : aX P T) {n d : Nat} {xs ys : Array Value} {w : World} (ih : ∀ (t : TypeId) (vs us : List Value) (r : Bool),js P T n t = true → bQ (T.ct t) vs us = some r → (Op.equalIn d t (dm (T.agg t) vs) (dm (T.agg t) us)).run P w = .ok r w) :
  ∀ (fs : List Field) (o : Nat) (ab : List CT) (r : Bool), (fs.all fun f => !(f.name == "_")) = true → ((fs.map fun f => (f.type, f.offset)).all fun f => js P T n f.1) = true → kG T o (fs.map fun f => (f.type, f.offset)) ab = true →
   bQ ab (xs.toList.drop o) (ys.toList.drop o) = some r → (Op.eqFields d xs ys fs).run P w = .ok r w
 | [],o,ab,r,_,_,h3,h4=>by
  have h3 : ab.isEmpty = true:=h3
  obtain rfl : ab = []:=by simpa using h3
  have : r = true:=by
   unfold bQ at h4
   split at h4 <;> first | contradiction | skip
   exact (qQc h4).symm
  subst this
  simp [Op.eqFields]
 | f :: fs,o,ab,r,h1,h2,h3,h4=>by
  simp only [List.all_cons,qQi,qQ0] at h1 h2
  simp only [qQ0,kG,qQi,beq_iff_eq,qQw] at h3
  obtain ⟨⟨h5,h6⟩,h7⟩:=h3
  have hk:=wu h2.1
  obtain ⟨eK,sX⟩:=Am h4
  have aR : (ab.take (T.size f.type)).length = T.size f.type:=by rw [h6]; rfl
  rw [qZc] at aR
  have e1 : ab = T.ct f.type ++ ab.drop (T.size f.type):=by rw [← h6,qXx]
  have ex : ∀ zs : Array Value,zs.toList.drop o = (zs.toList.drop o).take (T.size f.type) ++ zs.toList.drop (o + T.size f.type):=fun zs=>by rw [← qXj,qXx]
  have lx : ((xs.toList.drop o).take (T.size f.type)).length = T.size f.type:=by rw [qZc,eK]; omega
  have ly : ((ys.toList.drop o).take (T.size f.type)).length = T.size f.type:=by rw [qZc,sX]; omega
  rw [e1,ex xs,ex ys,Al (ts:=T.ct f.type) lx ly] at h4
  obtain ⟨r1,h8,h9⟩:=qZi.1 h4
  obtain ⟨r2,dM,rfl⟩:=qQf.1 h9
  have p1:=mq (X:=⟨T,fun _=>False,fun _=>True,0,fun _=>undef,fun _=>none⟩) (w:=w) hT hk lx
  have p2:=mq (X:=⟨T,fun _=>False,fun _=>True,0,fun _=>undef,fun _=>none⟩) (w:=w) hT hk ly
  have he:=ih f.type _ _ r1 h2.1 h8
  have hn : ¬ f.name = "_" := by simpa using h1.1
  have hr:=yJ hT ih fs (o + T.size f.type) (ab.drop (T.size f.type)) r2 h1.2 h2.2 h7 dM
  subst h5
  simp only [Op.eqFields,ne_eq,hn,not_false_eq_true,if_true,Sem.run_bind,p1,p2,he,Result.andThen_ok]
  cases r1 with
  | true=>simpa using hr
  | false=>simp
theorem yK (hT : aX P T) : ∀ (n : Nat) (t : TypeId) (d : Nat) (vs us : List Value) (r : Bool) (w : World),js P T n t = true → n ≤ d → bQ (T.ct t) vs us = some r → (Op.equalIn d t (dm (T.agg t) vs) (dm (T.agg t) us)).run P w = .ok r w
 | 0,t,d,vs,us,r,w,h,_,_=>by cases h
 | n + 1,t,0,vs,us,r,w,h,hd,_=>absurd hd (by omega)
 | n + 1,t,d + 1,vs,us,r,w,h,hd,hr=>by
  have hk:=wu h
  obtain ⟨i,desc,h1,h2,h3,h4,h5,h6⟩:=hT.ok t hk
  have one : ∀ c,(T.row t).d = .one c → T.agg t = false ∧ T.ct t = [c]:=fun c hc=>⟨by unfold ax.agg; rw [hc]; rfl,hT.one t c hc⟩
  unfold js at h
  split at h
  ·rename_i k fo
   obtain ⟨ha,hs⟩:=one _ fo
   rw [fo] at h6
   cases desc <;> simp only [cp] at h6
   rw [hs] at hr
   unfold bQ at hr
   split at hr <;> first | contradiction | skip
   ·rename_i e
    simp only [qXk,CT.int.injEq] at e
    obtain ⟨rfl,rfl⟩:=e
    split at hr
    ·rename_i kk
     obtain ⟨rfl,rfl⟩:=kk
     obtain ⟨s,q1,rfl⟩:=qQf.1 hr
     unfold bQ at q1
     split at q1 <;> first | contradiction | skip
     cases q1
     rw [ha]
     show (Op.equalIn (d + 1) t (.int _ _) (.int _ _)).run P w = _
     rw [run_equalIn_int w d t _ _ _ _ h2]
     congr 1
     simp
     exact rfl
    ·cases hr
   ·rename_i e; simp at e
   ·rename_i e; simp at e
  ·rename_i fo
   obtain ⟨ha,hs⟩:=one _ fo
   rw [fo] at h6
   cases desc <;> simp only [cp] at h6
   rw [hs] at hr
   unfold bQ at hr
   split at hr <;> first | contradiction | skip
   ·rename_i e; simp at e
   ·rename_i e
    simp only [qXk,true_and] at e
    subst e
    obtain ⟨s,q1,rfl⟩:=qQf.1 hr
    unfold bQ at q1
    split at q1 <;> first | contradiction | skip
    cases q1
    rw [ha]
    show (Op.equalIn (d + 1) t (.bool _) (.bool _)).run P w = _
    rw [run_equalIn_bool' w d t _ _ h2]
    simp
   ·rename_i e; simp at e
  ·rename_i fo
   obtain ⟨ha,hs⟩:=one _ fo
   rw [fo] at h6
   cases desc <;> simp only [cp] at h6
   rw [hs] at hr
   unfold bQ at hr
   split at hr <;> first | contradiction | skip
   ·rename_i e; simp at e
   ·rename_i e; simp at e
   ·rename_i e
    simp only [qXk,true_and] at e
    subst e
    obtain ⟨s,q1,rfl⟩:=qQf.1 hr
    unfold bQ at q1
    split at q1 <;> first | contradiction | skip
    cases q1
    rw [ha]
    show (Op.equalIn (d + 1) t (.string _) (.string _)).run P w = _
    rw [run_equalIn_string w d t _ _ h2,uX]
    simp
  ·rename_i fs fo
   simp only [qQi,qZ5] at h
   obtain ⟨⟨⟨g1,g2⟩,g3⟩,g4⟩:=h
   rw [fo] at h6
   cases desc <;> simp only [cp] at h6
   rename_i fields
   have ha : T.agg t = true:=by unfold ax.agg; rw [fo]; rfl
   have hf : P.fieldsOf t = fields:=by unfold Program.fieldsOf; rw [h2]
   rw [ha]
   show (Op.equalIn (d + 1) t (.agg vs.toArray) (.agg us.toArray)).run P w = _
   rw [run_equalIn_struct w d t _ _ (by rw [hf]; exact h2) g1,hf]
   rw [hf] at g2
   subst h6
   exact yJ hT (fun t vs us r hc hr=>yK hT n t d vs us r w hc (by omega) hr) fields.toList 0 (T.ct t) r g2 g3 g4 (by simpa using hr)
  ·cases h
theorem EJ (hT : aX P T) {L : List TypeId} (h : (L.all fun t=>js P T 8 t && T.agg t && !P.eqGuardType P.depth t) = true) : kP P T (fun t=>L.elem t):=by
 intro t ht b x y vs us r hr w
 have hm : t ∈ L:=by simpa using ht
 have h1:=qQp.1 h t hm
 simp only [qQi,qZ5] at h1
 obtain ⟨⟨h1,h2⟩,h3⟩:=h1
 have h4:=yK hT 8 t 10000 vs.toList us.toList r w h1 (by omega) hr
 rw [h2] at h4
 have h4 : (Op.equalIn 10000 t (.agg vs) (.agg us)).run P w = .ok r w:=h4
 refine ⟨fun hb=>?_,fun hb=>?_⟩
 ·subst hb
  rw [Sem.run_bind,run_eqGuard_agg w .eql t x y vs us h3,Result.andThen_ok,run_eql_struct,h4,Result.andThen_ok]
 ·subst hb
  rw [Sem.run_bind,run_eqGuard_agg w .neq t x y vs us h3,Result.andThen_ok,run_neq_struct,h4,Result.andThen_ok]
end
abbrev JT:=FuncId → List (TypeId × Bool) → List Nat → St → Option aJ
def zp (C : bM) (P : Program) (D : Den) (J : JT) : Prop:=∃ I,Fix C P D I ∧ J = C.jM P D I
theorem Fb {C : bM} {P : Program} : ∃ p : Den × JT,p.1 = C.cP P ∧ zp C P p.1 p.2:=⟨(C.cP P,C.jM P (C.cP P) ch),rfl,ch,Av,rfl⟩
end Go.Proofs.YtaghmjcfaplkiaaGreat.Eng
/- half -/
