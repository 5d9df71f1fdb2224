/- The evaluator: parts 10 to 17. Of no program. -/
import Derived.Test.YtaghmjcfaplkiaaGreatE9
import Derived.Laws.MakeOwn
import Derived.Laws.CopyRow
namespace Go.Proofs.YtaghmjcfaplkiaaGreat.Eng
open Go.RowKit
set_option linter.unusedVariables false
set_option linter.unusedSimpArgs false
def gY (cs : List Value) (o : Nat) : List Value → List Value
 | []=>cs
 | u :: us=>gY (cs.set o u) (o + 1) us
theorem yU : ∀ (us cs : List Cl) (o : Nat),(gB cs o us).length = cs.length
 | [],cs,o=>rfl
 | u :: us,cs,o=>by unfold gB; rw [yU us]; exact qQl
theorem yV : ∀ (us cs : List Value) (o i : Nat),o + us.length ≤ cs.length → (gY cs o us)[i]? = if o ≤ i ∧ i < o + us.length then us[i - o]? else cs[i]?
 | [],cs,o,i,h=>by unfold gY; rw [if_neg (by simp only [qXo]; omega)]
 | u :: us,cs,o,i,h=>by
  unfold gY
  rw [yV us (cs.set o u) (o + 1) i (by simp at h ⊢; omega)]
  simp only [qZq] at h ⊢
  by_cases h1 : i = o
  ·subst h1
   rw [if_neg (by omega),if_pos (by omega),qYy (by omega),qZn]
   rfl
  ·by_cases h2 : o + 1 ≤ i ∧ i < o + 1 + us.length
   ·rw [if_pos h2,if_pos (by omega)]
    obtain ⟨k,rfl⟩ : ∃ k,i = o + 1 + k:=⟨i - (o + 1),by omega⟩
    rw [show o + 1 + k - (o + 1) = k from by omega,show o + 1 + k - o = k + 1 from by omega]; rfl
   ·rw [if_neg h2,if_neg (by omega),qYo (by omega)]
theorem aw.fR {X : Ctx} {w : World} {rt : List aa} {g : Gh} : ∀ {xs : List Cl} {vs : List Value} {cs : List Cl} {us : List Value} (o : Nat),aw X w rt g cs us → aw X w rt g xs vs → aw X w rt g (gB cs o xs) (gY us o vs)
 | [],[],cs,us,o,h,_=>h
 | x :: xs,v :: vs,cs,us,o,h,k=>aw.fR (o + 1) (h.set k.1) k.2
 | [],_ :: _,_,_,_,_,k=>k.elim
 | _ :: _,[],_,_,_,_,k=>k.elim
theorem Ay (vs : List Value) : ∀ (k o : Nat) (cs : Array Value),((vs.zipIdx k).foldl (fun (cs : Array Value) (x : Value × Nat)=>cs.setIfInBounds (o + x.2) x.1) cs).toList = gY cs.toList (o + k) vs:=by
 induction vs with
 | nil=>intro k o cs; rfl
 | cons v vs ih =>
  intro k o cs
  rw [List.zipIdx_cons,List.foldl_cons,ih (k + 1) o]
  simp only [Array.toList_setIfInBounds]
  rfl
theorem Az (vs : Array Value) (o : Nat) (cs : Array Value) : (vs.zipIdx.foldl (fun (cs : Array Value) (x : Value × Nat)=>cs.setIfInBounds (o + x.2) x.1) cs).toList = gY cs.toList o vs.toList:=by
 rw [← Array.foldl_toList,Array.toList_zipIdx]
 have:=Ay vs.toList 0 o cs
 simpa using this
section
variable {P : Program} {X : Ctx} {own0 : Nat → Option Nat} {w0 : World} {st : St} {a : Act} {w : World} {g : Gh}
theorem CY {v : Value} (h : v.oneCell' = true) : v.cells = #[v]:=by cases v <;> first | rfl | cases h
theorem pk (h : Rel X own0 w0 st a w g) {x : SV} {v : Value} {cs : List Cl} (hx : ay X w st.rt g x v) (hq : ig x = some cs) : aw X w st.rt g cs v.cells.toList:=by
 unfold ig at hq
 split at hq <;> try (cases hq; done)
 ·rename_i c aW
  obtain rfl:=qQc hq
  have h1:=hx.cl aW
  rw [CY (h1.one h.mem)]
  exact ⟨h1,trivial⟩
 ·obtain rfl:=qQc hq
  obtain ⟨vs,rfl,h1⟩:=hx
  exact h1
theorem pG (h : Rel X own0 w0 st a w g) (place : Nat → Option (Nat × Nat)) : ∀ (ps : List (Nat × Operand)) {cs cs' : List Cl} {vs : Array Value},aw X w st.rt g cs vs.toList → eE place (ev st) cs ps = some cs' →
  ∃ vs',Instr.fill place vs (ps.map fun x=>(x.1,a.eval x.2)) = some vs' ∧ aw X w st.rt g cs' vs'.toList ∧ cs'.length = cs.length
 | [],cs,cs',vs,hc,hq=>by obtain rfl:=qQc hq; exact ⟨vs,rfl,hc,rfl⟩
 | (i,x) :: ps,cs,cs',vs,hc,hq=>by
  unfold eE at hq
  split at hq
  ·rename_i o n b hp aL
   split at hq
   ·rename_i hh
    have h1:=pk h (ba h x) aL
    have eK:=h1.length
    have sX:=hc.length
    simp only [qZ3] at eK sX
    obtain ⟨vs',h2,h3,h4⟩:=pG h place ps (cs:=gB cs o b) (vs:=(a.eval x).cells.zipIdx.foldl (fun (cs : Array Value) (y : Value × Nat)=>cs.setIfInBounds (o + y.2) y.1) vs)
     (by rw [Az]; exact hc.fR o h1) hq
    refine ⟨vs',?_,h3,h4.trans (yU _ _ _)⟩
    simp only [qQ0,Instr.fill,hp]
    rw [if_neg]
    ·exact h2
    ·simp only [qZw,qQw,not_or,ne_eq,Decidable.not_not]
     omega
   ·cases hq
  ·cases hq
theorem qZ (X : Ctx) {w : World} {rt : List aa} {g : Gh} : ∀ (ab : List CT),aw X w rt g (ab.map ez) (ab.map zeroV)
 | []=>trivial
 | c :: ab=>⟨by cases c <;> rfl,qZ X ab⟩
theorem fW.oN (hT : aX P X.T) (t : TypeId) : (X.T.row t).zero.cells = ((X.T.ct t).map zeroV).toArray:=by
 unfold fW.zero
 split
 ·rename_i c hd
  rw [hT.one t c hd]
  cases c <;> rfl
 ·rfl
theorem uO (hT : aX P X.T) {t : TypeId} (ht : (X.T.row t).d.known = true) : (zeroValue t).run P w = .ok (X.T.row t).zero w:=by
 obtain ⟨i,desc,h1,h2,h3,h4,h5,h6⟩:=hT.ok t ht
 simp [zeroValue,typeInfo,h1,h5]
theorem yq (hT : aX P X.T) : ∀ (fl : List Field),(∀ f ∈ fl,(X.T.row f.type).d.known = true) → fl.mapM (fun f=>(P.info? f.type).map fun i=>(f.offset,i.size)) = some (fl.map fun f=>(f.offset,X.T.size f.type))
 | [],_=>rfl
 | f :: fl,hk=>by
  obtain ⟨i,desc,h1,h2,h3,_⟩:=hT.ok f.type (hk f (by simp))
  rw [List.mapM_cons,h1,yq hT fl fun x hx=>hk x (by simp [hx])]
  simp [h3]
theorem rG (hT : aX P X.T) (h : Rel X own0 w0 st a w g) {t : TypeId} {parts : Array (Nat × Operand)} {sv : SV} (hq : dL X.T (ev st) t parts.toList some = some sv) :
  ∃ v,(Instr.build t (parts.map fun (x : Nat × Operand)=>(x.1,a.eval x.2))).run P w = .ok v w ∧ ay X w st.rt g sv v:=by
 have hz : aw X w st.rt g ((X.T.ct t).map ez) (X.T.row t).zero.cells.toList:=by rw [fW.oN hT]; exact qZ X _
 unfold dL at hq
 split at hq
 ·rename_i fs hd
  have ht : (X.T.row t).d.known = true:=by rw [hd]; rfl
  obtain ⟨i,desc,h1,h2,h3,h4,h5,h6⟩:=hT.ok t ht
  rw [hd] at h6
  cases desc <;> try exact h6.elim
  rename_i fields
  simp only [cp] at h6
  split at hq
  ·rename_i bO
   split at hq
   ·rename_i cs hb
    obtain rfl:=qQc hq
    obtain ⟨vs',h7,h8,h9⟩:=pG h _ _ hz hb
    refine ⟨.agg vs',run_build (P:=P) w t _ _ ?_,vs',rfl,h8⟩
    have gq:=yq hT fields.toList (fun f hf=>by
     have:=qQp.1 bO (f.type,f.offset) (by rw [← h6]; exact qQo.2 ⟨f,hf,rfl⟩)
     exact this)
    have e1 : (fun (i : Nat)=>(fs[i]?).map fun (f : TypeId × Nat)=>(f.2,X.T.size f.1)) = fun (i : Nat)=>((fields.toList.map fun f=>(f.offset,X.T.size f.type)).toArray[i]? : Option (Nat × Nat)):=by
     funext i
     rw [← h6]
     simp
     rfl
    rw [e1] at h7
    unfold Program.built
    simp only [h1,h2,h5,gq,qYt]
    exact h7
   ·cases hq
  ·cases hq
 ·rename_i n e hd
  have ht : (X.T.row t).d.known = true:=by rw [hd]; rfl
  obtain ⟨i,desc,h1,h2,h3,h4,h5,h6⟩:=hT.ok t ht
  have AH:=oJ hT hd
  split at hq
  ·rename_i he
   obtain ⟨ie,_,g1,_,g3,_⟩:=hT.ok e he
   split at hq
   ·rename_i cs hb
    obtain rfl:=qQc hq
    obtain ⟨vs',h7,h8,h9⟩:=pG h _ _ hz hb
    refine ⟨.agg vs',run_build (P:=P) w t _ _ ?_,vs',rfl,h8⟩
    unfold Program.built
    simp only [h1,AH,h5,g1,g3,qYt]
    exact h7
   ·cases hq
  ·cases hq
 ·cases hq
theorem Fr.new (hf : Fr own0 w0 w g) {w' : World} {g' : Gh} (h1 : w'.os = w.os) (h2 : w'.tape = w.tape) (h3 : w'.output = w.output) (h4 : w.heap.size ≤ w'.heap.size) (h5 : ∀ b,b < w.heap.size → w'.heap[b]? = w.heap[b]?) (h6 : ∀ b,b < w.heap.size → g.own b = none → g'.own b = none) : Fr own0 w0 w' g' :=
 ⟨h1.trans hf.os,h2.trans hf.tape,h3.trans hf.output,qZd hf.size h4,fun b hb ho=>by
  have au:=qQ2 hb hf.size
  obtain ⟨h7,h8⟩:=hf.block b hb ho
  exact ⟨h6 b au h7,(h5 b au).trans h8⟩⟩
def Gh.new (g : Gh) (b n : Nat) (v : Value) : Gh:=⟨fun x=>if x = b then some n else g.own x,fun r=>if r = n then v else g.v r,fun r=>if r = n then b else g.b r⟩
theorem ov (h : Rel X own0 w0 st a w g) {b : Nat} (hb : w.heap.size ≤ b) : g.own b = none:=by
 cases hx : g.own b with
 | none=>rfl
 | some r=>have:=h.mem.lt b (by rw [hx]; simp); omega
theorem Rel.xS (h : Rel X own0 w0 st a w g) (x : aa) (v : Value) {w' : World} {d : Nat} (h1 : w'.os = w.os) (h2 : w'.tape = w.tape) (h3 : w'.output = w.output) (h4 : w'.heap.size = w.heap.size + 1) (h5 : ∀ b,b < w.heap.size → w'.heap[b]? = w.heap[b]?)
  (hx : cm X w' (st.add x).rt (g.new w.heap.size st.rt.length v) st.rt.length x) : Rel X own0 w0 (st.add x) a w' (g.new w.heap.size st.rt.length v):=by
 have ho:=ov h (qQb w.heap.size)
 have mb : ∀ b,b ≠ w.heap.size → (g.new w.heap.size st.rt.length v).own b = g.own b:=fun b hb=>if_neg hb
 refine h.add x (fun b hb=>?_) (fun b r hb=>?_) (fun r hr=>?_) hx (fun b hb=>?_) (fun b s hb=>?_) (by omega) (fun b s hb=>?_) (h.fr.new h1 h2 h3 (by omega) h5 fun b hb hn=>?_)
 ·obtain ⟨e1,e2,e3⟩:=hb
  exact ⟨⟨by rw [mb b (by omega)]; exact e1,by omega,e3⟩,h5 b e2⟩
 ·have:=h.mem.lt b (by rw [hb]; simp)
  exact ⟨by rw [mb b (by omega)]; exact hb,h5 b this⟩
 ·have aW : ¬ r = st.rt.length:=by omega
  exact ⟨if_neg aW,if_neg aW⟩
 ·by_cases hbe : b = w.heap.size
  ·omega
  ·rw [mb b hbe] at hb; have:=h.mem.lt b hb; omega
 ·by_cases hbe : b = w.heap.size
  ·have : (g.new w.heap.size st.rt.length v).own b = some st.rt.length:=if_pos hbe
   rw [this] at hb; cases hb; omega
  ·rw [mb b hbe] at hb; have:=h.mem.ob b s hb; omega
 ·by_cases hbe : b = w.heap.size
  ·exact .inl (h.mem.n0 _ (by omega))
  ·rw [mb b hbe] at hb; exact h.mem.pm b s hb
 ·rw [mb b (by omega)]; exact hn
theorem Rel.xR (h : Rel X own0 w0 st a w g) (t : TypeId) {cs : List Cl} {vs : Array Value} (hc : aw X w st.rt g cs vs.toList) :
  ∃ g',Rel X own0 w0 (st.add (.box t cs)) a (w.alloc (.cells vs t)) g' ∧ ay X (w.alloc (.cells vs t)) (st.add (.box t cs)).rt g' (.bx st.rt.length 0) (.pointer (some ⟨w.heap.size,0,none⟩)):=by
 have hold : ∀ b,b < w.heap.size → (w.alloc (.cells vs t)).heap[b]? = w.heap[b]?:=fun b hb=>heap_alloc_old w _ b hb
 have ko:=heap_alloc_new w (.cells vs t)
 have ho:=ov h (qQb w.heap.size)
 have sB : (st.add (.box t cs)).rt[st.rt.length]? = some (.box t cs):=by show (st.rt ++ [_])[st.rt.length]? = _; simp
 have hK : bN X (fun _=>False) (fun _=>False) w g st.rt (w.alloc (.cells vs t)) (g.new w.heap.size st.rt.length undef) (st.add (.box t cs)).rt:=by
  refine bN.add st _ (fun b hb=>?_) (fun b r hb=>?_) (fun r hr=>?_)
  ·obtain ⟨e1,e2,e3⟩:=hb
   exact ⟨⟨by show (if b = w.heap.size then _ else g.own b) = none; rw [if_neg (by omega)]; exact e1,by show b < (w.heap.push _).size; rw [qX5]; omega,e3⟩,hold b e2⟩
  ·have:=h.mem.lt b (by rw [hb]; simp)
   exact ⟨by show (if b = w.heap.size then _ else g.own b) = _; rw [if_neg (by omega)]; exact hb,hold b this⟩
  ·have aW : ¬ r = st.rt.length:=by omega
   exact ⟨if_neg aW,if_neg aW⟩
 refine ⟨g.new w.heap.size st.rt.length undef,h.xS (d:=0) _ _ rfl rfl rfl (by show (w.heap.push _).size = _; rw [qX5]) hold ?_,?_,t,cs,sB⟩
 ·refine ⟨vs,?_,?_,aw.keep h.mem hK (fun x _=>Cl.eD x) hc⟩
  ·show (w.alloc _).heap[if st.rt.length = st.rt.length then w.heap.size else _]? = _
   rw [if_pos rfl]; exact ko
  ·show (if (if st.rt.length = st.rt.length then w.heap.size else _) = w.heap.size then some st.rt.length else _) = _
   rw [if_pos rfl,if_pos rfl]
 ·show _ = Value.pointer (some ⟨if st.rt.length = st.rt.length then w.heap.size else _,0,none⟩)
  rw [if_pos rfl]
theorem lV : ∀ {l : List Nat},cK l = true → l.Nodup
 | [],_=>List.nodup_nil
 | x :: xs,h=>by
  simp only [cK,qQi,qZ5,qZ6,qYj] at h
  exact qYd.2 ⟨h.1,lV h.2⟩
theorem uq : ∀ {l : List Nat},l.Nodup → cK l = true
 | [],_=>rfl
 | x :: xs,h=>by
  simp only [cK,qQi,qZ5,qZ6,qYj]
  exact ⟨(qYd.1 h).1,uq (qYd.1 h).2⟩
def CF (g : Gh) (cls : List Cl) (j b : Nat) : Prop:=∃ r p e',cls[j]? = some (.al r p e') ∧ g.own b = some r
structure fT (X : Ctx) (st : St) (w : World) (g : Gh) (deep : Bool) (ab : List CT) (cls : List Cl) (vs : List Value) (us : List U) (rs : List Nat) : Prop where
 l1 : us.length = ab.length
 l2 : cls.length = ab.length
 own : deep = true → ∀ (j : Nat) u ct v,us[j]? = some u → ab[j]? = some ct → vs[j]? = some v → ak X.T.ct w (CF g cls j) ct u v
 rd : deep = false → ∀ (j : Nat) u ct v,us[j]? = some u → ab[j]? = some ct → vs[j]? = some v → aE X.T.ct w (aq X w g) ct u v
 mem : ∀ (j : Nat) r p e,cls[j]? = some (.al r p e) → r ∈ rs
 row : ∀ r ∈ rs,(∃ e xs,st.rt[r]? = some (.row e true xs)) ∧ st.np ≤ r
 kO : rs.Nodup → ∀ (i j : Nat) r p e p' e',cls[i]? = some (.al r p e) → cls[j]? = some (.al r p' e') → i = j
theorem fT.cons {deep : Bool} {ct : CT} {ab : List CT} {c : Cl} {cls : List Cl} {v : Value} {vs : List Value} {u : U} {us : List U} {rs : List Nat} (h : fT X st w g deep ab cls vs us rs)
  (hc : ∀ r p e,c ≠ .al r p e) (ho : deep = true → ak X.T.ct w (CF g (c :: cls) 0) ct u v) (hr : deep = false → aE X.T.ct w (aq X w g) ct u v) : fT X st w g deep (ct :: ab) (c :: cls) (v :: vs) (u :: us) rs:=by
 refine ⟨by simp [h.l1],by simp [h.l2],fun hd j u' br v' h1 h2 h3=>?_,fun hd j u' br v' h1 h2 h3=>?_,fun j r p e hj=>?_,h.row,fun hn i j r p e p' e' hi hj=>?_⟩
 ·cases j with
  | zero=>simp at h1 h2 h3; subst h1 h2 h3; exact ho hd
  | succ j =>
   refine (h.own hd j u' br v' (by simpa using h1) (by simpa using h2) (by simpa using h3)).mono fun b hb=>?_
   obtain ⟨r,p,e,h4,h5⟩:=hb
   exact ⟨r,p,e,by simpa using h4,h5⟩
 ·cases j with
  | zero=>simp at h1 h2 h3; subst h1 h2 h3; exact hr hd
  | succ j=>exact h.rd hd j u' br v' (by simpa using h1) (by simpa using h2) (by simpa using h3)
 ·cases j with
  | zero=>simp at hj; exact absurd hj (hc r p e)
  | succ j=>exact h.mem j r p e (by simpa using hj)
 ·cases i with
  | zero=>simp at hi; exact absurd hi (hc r p e)
  | succ i=>cases j with
   | zero=>simp at hj; exact absurd hj (hc r p' e')
   | succ j=>rw [h.kO hn i j r p e p' e' (by simpa using hi) (by simpa using hj)]
theorem fT.Aa {ct : CT} {ab : List CT} {r0 : Nat} {e0 : TypeId} {cls : List Cl} {v : Value} {vs : List Value} {u : U} {us : List U} {rs : List Nat} (h : fT X st w g true ab cls vs us rs)
  (aB : (∃ e xs,st.rt[r0]? = some (.row e true xs)) ∧ st.np ≤ r0) (ho : ak X.T.ct w (fun b=>g.own b = some r0) ct u v) : fT X st w g true (ct :: ab) (.al r0 [] e0 :: cls) (v :: vs) (u :: us) (r0 :: rs):=by
 refine ⟨by simp [h.l1],by simp [h.l2],fun hd j u' br v' h1 h2 h3=>?_,fun hd=>(by cases hd),fun j r p e hj=>?_,fun r hr=>?_,fun hn i j r p e p' e' hi hj=>?_⟩
 ·cases j with
  | zero=>simp at h1 h2 h3; subst h1 h2 h3; exact ho.mono fun b hb=>⟨r0,[],e0,rfl,hb⟩
  | succ j =>
   refine (h.own hd j u' br v' (by simpa using h1) (by simpa using h2) (by simpa using h3)).mono fun b hb=>?_
   obtain ⟨r,p,e,h4,h5⟩:=hb
   exact ⟨r,p,e,by simpa using h4,h5⟩
 ·cases j with
  | zero=>simp at hj; simp [hj.1]
  | succ j=>exact qZp _ (h.mem j r p e (by simpa using hj))
 ·rcases qQn.1 hr with rfl | hr
  ·exact aB
  ·exact h.row r hr
 ·have ca:=qYd.1 hn
  cases i with
  | zero=>cases j with
   | zero=>rfl
   | succ j=>simp at hi; rw [← hi.1] at hj; exact absurd (h.mem j _ _ _ (by simpa using hj)) ca.1
  | succ i=>cases j with
   | zero=>simp at hj; rw [← hj.1] at hi; exact absurd (h.mem i _ _ _ (by simpa using hi)) ca.1
   | succ j=>rw [h.kO ca.2 i j r p e p' e' (by simpa using hi) (by simpa using hj)]
theorem jr (hm : Mem X st w g) {deep : Bool} : ∀ {ab : List CT} {cls : List Cl} {vs : List Value} {us : List U} {rs : List Nat},aQ st.rt st.np deep ab cls = some (us,rs) → aw X w st.rt g cls vs → fT X st w g deep ab cls vs us rs
 | [],[],[],us,rs,hq,_=>by
  cases hq
  exact ⟨rfl,rfl,fun _ j u ct v h=>by simp at h,fun _ j u ct v h=>by simp at h,fun j r p e h=>by simp at h,fun r h=>by simp at h,fun _ i j r p e p' e' h=>by simp at h⟩
 | .aj e :: ts,.nil :: xs,v :: vs,us,rs,hq,hc=>by
  unfold aQ at hq
  obtain ⟨y,h1,h2⟩:=qQf.1 hq
  cases h2
  obtain rfl : v = .slice none 0 0:=hc.1
  exact (jr hm h1 hc.2).cons (fun _ _ _ h=>by cases h) (fun _=>ak.nil e) (fun _=>aE.nil e 0 none)
 | .aj e :: ts,.rd e' ys :: xs,v :: vs,us,rs,hq,hc=>by
  unfold aQ at hq
  split at hq
  ·rename_i hh
   obtain ⟨rfl,rfl⟩:=hh
   obtain ⟨y,h1,h2⟩:=qQf.1 hq
   cases h2
   exact (jr hm h1 hc.2).cons (fun _ _ _ h=>by cases h) (fun h=>by cases h) (fun _=>hc.1)
  ·cases hq
 | .aj e :: ts,.al r [] e' :: xs,v :: vs,us,rs,hq,hc=>by
  unfold aQ at hq
  split at hq
  ·rename_i hh
   obtain ⟨rfl,rfl,aO⟩:=hh
   split at hq
   ·rename_i e2 ys hr
    obtain ⟨y,h1,h2⟩:=qQf.1 hq
    cases h2
    refine (jr hm h1 hc.2).Aa ⟨⟨e2,ys,hr⟩,aO⟩ ?_
    obtain ⟨e0,d,zs,h3,_,h4⟩:=hc.1
    obtain ⟨rfl,rfl,rfl⟩ : e2 = e0 ∧ true = d ∧ ys = zs:=by rw [hr] at h3; cases h3; exact ⟨rfl,rfl,rfl⟩
    obtain ⟨h5,-,h6⟩:=h4.bX
    rw [h6,h5]
    exact hm.rt r _ hr
   ·cases hq
  ·cases hq
 | .int k :: ts,.int k' n :: xs,v :: vs,us,rs,hq,hc=>by
  unfold aQ at hq
  split at hq
  ·rename_i hk; subst hk
   obtain ⟨y,h1,h2⟩:=qQf.1 hq
   cases h2
   obtain rfl : v = .int k n:=hc.1
   exact (jr hm h1 hc.2).cons (fun _ _ _ h=>by cases h) (fun _=>.int _ k n) (fun _=>.int k n)
  ·cases hq
 | .bool :: ts,.bool b :: xs,v :: vs,us,rs,hq,hc=>by
  unfold aQ at hq
  obtain ⟨y,h1,h2⟩:=qQf.1 hq
  cases h2
  obtain rfl : v = .bool b:=hc.1
  exact (jr hm h1 hc.2).cons (fun _ _ _ h=>by cases h) (fun _=>.bool _ b) (fun _=>.bool b)
 | .str :: ts,.str b :: xs,v :: vs,us,rs,hq,hc=>by
  unfold aQ at hq
  obtain ⟨y,h1,h2⟩:=qQf.1 hq
  cases h2
  obtain rfl : v = .string b:=hc.1
  exact (jr hm h1 hc.2).cons (fun _ _ _ h=>by cases h) (fun _=>.str _ b) (fun _=>.str b)
 | _,_ :: _,[],_,_,_,hc=>hc.elim
 | [],[],_ :: _,_,_,_,hc=>hc.elim
 | [],_ :: _,_ :: _,_,_,hq,_=>by simp [aQ] at hq
 | _ :: _,[],_,_,_,hq,_=>by simp [aQ] at hq
 | .aj e :: ts,.al r (x :: p) e' :: xs,v :: vs,us,rs,hq,hc=>by simp [aQ] at hq
 | .aj e :: ts,.int .. :: xs,v :: vs,us,rs,hq,hc=>by simp [aQ] at hq
 | .aj e :: ts,.bool .. :: xs,v :: vs,us,rs,hq,hc=>by simp [aQ] at hq
 | .aj e :: ts,.str .. :: xs,v :: vs,us,rs,hq,hc=>by simp [aQ] at hq
 | .aj e :: ts,.no :: xs,v :: vs,us,rs,hq,hc=>by simp [aQ] at hq
 | .int k :: ts,.bool .. :: xs,v :: vs,us,rs,hq,hc=>by simp [aQ] at hq
 | .int k :: ts,.str .. :: xs,v :: vs,us,rs,hq,hc=>by simp [aQ] at hq
 | .int k :: ts,.rd .. :: xs,v :: vs,us,rs,hq,hc=>by simp [aQ] at hq
 | .int k :: ts,.nil :: xs,v :: vs,us,rs,hq,hc=>by simp [aQ] at hq
 | .int k :: ts,.al .. :: xs,v :: vs,us,rs,hq,hc=>by simp [aQ] at hq
 | .int k :: ts,.no :: xs,v :: vs,us,rs,hq,hc=>by simp [aQ] at hq
 | .bool :: ts,.int .. :: xs,v :: vs,us,rs,hq,hc=>by simp [aQ] at hq
 | .bool :: ts,.str .. :: xs,v :: vs,us,rs,hq,hc=>by simp [aQ] at hq
 | .bool :: ts,.rd .. :: xs,v :: vs,us,rs,hq,hc=>by simp [aQ] at hq
 | .bool :: ts,.nil :: xs,v :: vs,us,rs,hq,hc=>by simp [aQ] at hq
 | .bool :: ts,.al .. :: xs,v :: vs,us,rs,hq,hc=>by simp [aQ] at hq
 | .bool :: ts,.no :: xs,v :: vs,us,rs,hq,hc=>by simp [aQ] at hq
 | .str :: ts,.int .. :: xs,v :: vs,us,rs,hq,hc=>by simp [aQ] at hq
 | .str :: ts,.bool .. :: xs,v :: vs,us,rs,hq,hc=>by simp [aQ] at hq
 | .str :: ts,.rd .. :: xs,v :: vs,us,rs,hq,hc=>by simp [aQ] at hq
 | .str :: ts,.nil :: xs,v :: vs,us,rs,hq,hc=>by simp [aQ] at hq
 | .str :: ts,.al .. :: xs,v :: vs,us,rs,hq,hc=>by simp [aQ] at hq
 | .str :: ts,.no :: xs,v :: vs,us,rs,hq,hc=>by simp [aQ] at hq
structure oP (X : Ctx) (st : St) (w : World) (g : Gh) (deep : Bool) (ab : List CT) (els : List (List Cl)) (vss : List (List Value)) (xs : List (List U)) (rs : List Nat) : Prop where
 len : xs.length = els.length
 el : ∀ (i : Nat) cls vs us,els[i]? = some cls → vss[i]? = some vs → xs[i]? = some us → ∃ gA,fT X st w g deep ab cls vs us gA
 sz : ∀ (i : Nat) us,xs[i]? = some us → us.length = ab.length
 mem : ∀ (i j : Nat) cls r p e,els[i]? = some cls → cls[j]? = some (.al r p e) → r ∈ rs
 row : ∀ r ∈ rs,(∃ e xs,st.rt[r]? = some (.row e true xs)) ∧ st.np ≤ r
 kO : rs.Nodup → ∀ (i i' j j' : Nat) cls ic r p e p' e',els[i]? = some cls → els[i']? = some ic → cls[j]? = some (.al r p e) → ic[j']? = some (.al r p' e') → i = i' ∧ j = j'
theorem pA (hm : Mem X st w g) {deep : Bool} {ab : List CT} : ∀ {els : List (List Cl)} {vss : List (List Value)} {xs : List (List U)} {rs : List Nat},dz st.rt st.np deep ab els = some (xs,rs) → els.length = vss.length →
  (∀ (i : Nat) cls vs,els[i]? = some cls → vss[i]? = some vs → aw X w st.rt g cls vs) → oP X st w g deep ab els vss xs rs
 | [],vss,xs,rs,hq,_,_=>by
  cases hq
  exact ⟨rfl,fun i cls vs us h=>by simp at h,fun i us h=>by simp at h,fun i j cls r p e h=>by simp at h,fun r h=>by simp at h,fun _ i i' j j' cls ic r p e p' e' h=>by simp at h⟩
 | cls :: els,[],xs,rs,hq,hl,_=>by simp at hl
 | cls :: els,vs :: vss,xs,rs,hq,hl,hc=>by
  unfold dz at hq
  split at hq
  ·rename_i y z hy hz
   obtain ⟨us,ra⟩:=y
   obtain ⟨cd,rb⟩:=z
   cases hq
   have h1:=jr hm hy (hc 0 cls vs rfl rfl)
   have h2:=pA hm (vss:=vss) hz (by simpa using hl) fun i ic vs' hi hv=>hc (i + 1) ic vs' (by simpa using hi) (by simpa using hv)
   refine ⟨by simp [h2.len],fun i ic vs' mC h3 h4 h5=>?_,fun i mC h3=>?_,fun i j ic r p e h3 h4=>?_,fun r hr=>?_,fun hn i i' j j' c c' r p e p' e' h3 h4 h5 h6=>?_⟩
   ·cases i with
    | zero=>simp at h3 h4 h5; subst h3 h4 h5; exact ⟨ra,h1⟩
    | succ i=>exact h2.el i ic vs' mC (by simpa using h3) (by simpa using h4) (by simpa using h5)
   ·cases i with
    | zero=>simp at h3; subst h3; exact h1.l1
    | succ i=>exact h2.sz i mC (by simpa using h3)
   ·cases i with
    | zero=>simp at h3; subst h3; exact qZf _ (h1.mem j r p e h4)
    | succ i=>exact qQ8 _ (h2.mem i j ic r p e (by simpa using h3) h4)
   ·rcases qZg.1 hr with hr | hr
    ·exact h1.row r hr
    ·exact h2.row r hr
   ·obtain ⟨n1,n2,n3⟩:=List.nodup_append.1 hn
    cases i with
    | zero=>cases i' with
     | zero=>simp at h3 h4; subst h3 h4; exact ⟨rfl,h1.kO n1 j j' r p e p' e' h5 h6⟩
     | succ i'=>simp at h3; subst h3; exact absurd rfl (n3 r (h1.mem j r p e h5) r (h2.mem i' j' c' r p' e' (by simpa using h4) h6))
    | succ i=>cases i' with
     | zero=>simp at h4; subst h4; exact absurd rfl (n3 r (h1.mem j' r p' e' h6) r (h2.mem i j c r p e (by simpa using h3) h5))
     | succ i' =>
      obtain ⟨e1,e2⟩:=h2.kO n2 i i' j j' c c' r p e p' e' (by simpa using h3) (by simpa using h4) h5 h6
      exact ⟨by rw [e1],e2⟩
  ·cases hq
end
section
variable {P : Program} {X : Ctx} {own0 : Nat → Option Nat} {w0 : World} {st : St} {a : Act} {w w' : World} {g g' : Gh}
theorem Cl.hU {Q B : Nat → Prop} {rt0 : List aa} {x : Cl} (h : x.free Q) : x.aV Q B rt0:=by cases x <;> first | exact fun _=>.inl h | trivial
theorem SV.hU {Q B : Nat → Prop} {rt0 : List aa} {x : SV} (h : x.free Q) : x.aV Q B rt0:=by
 cases x with
 | c x=>exact Cl.hU h
 | ag xs=>exact fun y hy=>Cl.hU (h y hy)
 | po=>exact fun _=>.inl h
 | fn f az =>
  intro y hy
  cases y with
  | c x=>exact Cl.hU (h _ hy)
  | _=>trivial
 | bf vs=>exact fun y hy z hz=>Cl.hU (h y hy z hz)
 | _=>trivial
theorem aa.hU {Q B : Nat → Prop} {rt0 : List aa} {x : aa} (h : x.free Q) : x.aV Q B rt0:=by
 cases x with
 | box t cs=>exact fun y hy=>Cl.hU (h y hy)
 | _=>trivial
theorem Rel.zy (h : Rel X own0 w0 st a w g) {Q : Nat → Prop} (hf : st.free Q) (hq : ∀ s x,Q s → st.rt[s]? = some x → x = .gone) (x : aa)
  (hK : bN X Q (fun _=>False) w g st.rt w' g' (st.add x).rt) (hx : cm X w' (st.add x).rt g' st.rt.length x) (lt : ∀ b,g'.own b ≠ none → b < w'.heap.size)
  (ob : ∀ b s,g'.own b = some s → s < st.rt.length + 1) (n0 : w.heap.size ≤ w'.heap.size) (pm : ∀ b s,g'.own b = some s → X.nw b ∨ (s < X.np ∧ X.po b = some s)) (pv : ∀ s,s < X.np → g'.v s = X.pv s) (fr : Fr own0 w0 w' g') : Rel X own0 w0 (st.add x) a w' g':=by
 have hl : (st.add x).rt.length = st.rt.length + 1:=by show (st.rt ++ [x]).length = _; simp
 refine ⟨⟨fun i y hy=>?_,lt,fun b s hb=>by rw [hl]; exact ob b s hb,h.mem.om n0,h.mem.np,by rw [hl]; exact Nat.le_succ_of_le h.mem.nl,pm,pv⟩,h.sz,fun i sv bI=>ay.keep h.mem hK (SV.hU (hf.1 sv (qQz bI))) (h.sl i sv bI),h.df,fr⟩
 by_cases hi : i < st.rt.length
 ·rw [jX st x i hi] at hy
  by_cases kt : Q i
  ·obtain rfl:=hq i y kt hy; trivial
  ·exact cm.keep h.mem hK hy kt (aa.hU (hf.2 y (qQz hy)))
 ·have av:=aA hy
  rw [hl] at av
  obtain rfl : i = st.rt.length:=by omega
  have : (st.rt ++ [x])[st.rt.length]? = some x:=by simp
  obtain rfl:=qQc (this.symm.trans hy)
  exact hx
def Gh.qo (g : Gh) (b n : Nat) (rs : List Nat) (v : Value) : Gh :=
 ⟨fun x=>if x = b then some n else match g.own x with | some r=>if r ∈ rs then some n else some r | none=>none,fun r=>if r = n then v else g.v r,g.b⟩
theorem Gh.uc (g : Gh) (b n : Nat) (rs : List Nat) (v : Value) : (g.qo b n rs v).own b = some n:=if_pos rfl
theorem Gh.nZ (g : Gh) {b n : Nat} {rs : List Nat} {v : Value} {x : Nat} (hx : x ≠ b) (h : g.own x = none) : (g.qo b n rs v).own x = none:=by
 show (if x = b then _ else _) = _
 rw [if_neg hx,h]
theorem Gh.qp (g : Gh) {b n : Nat} {rs : List Nat} {v : Value} {x r : Nat} (hx : x ≠ b) (h : g.own x = some r) : (g.qo b n rs v).own x = if r ∈ rs then some n else some r:=by
 show (if x = b then _ else _) = _
 rw [if_neg hx,h]
noncomputable def lR (g : Gh) (els : List (List Cl)) (b : Nat) : Option (Nat × Nat) :=
 open Classical in if h : ∃ ij : Nat × Nat,CF g (els.getD ij.1 []) ij.2 b then some (Classical.choose h) else none
theorem Cz {deep : Bool} {ab : List CT} {els : List (List Cl)} {vss : List (List Value)} {xs : List (List U)} {rs : List Nat} (hs : oP X st w g deep ab els vss xs rs) (hn : rs.Nodup) {i j b : Nat} {cls : List Cl} (hi : els[i]? = some cls) (h : CF g cls j b) : lR g els b = some (i,j):=by
 have hex : ∃ ij : Nat × Nat,CF g (els.getD ij.1 []) ij.2 b:=⟨(i,j),by rw [cr hi]; exact h⟩
 unfold lR
 rw [dif_pos hex]
 have h2:=Classical.choose_spec hex
 generalize Classical.choose hex = ij at h2
 obtain ⟨i',j'⟩:=ij
 obtain ⟨r,p,e,h3,h4⟩:=h
 obtain ⟨r',p',e',h5,h6⟩:=h2
 obtain rfl : r = r':=by rw [h4] at h6; exact qQc h6
 have dw : i' < els.length:=by
  refine Nat.lt_of_not_le fun nB=>?_
  simp only at h5
  rw [qQe,qZh nB] at h5
  simp at h5
 obtain ⟨e1,e2⟩:=hs.kO hn i i' j j' cls _ r p e p' e' hi (fk (d:=[]) dw) h3 h5
 rw [e1,e2]
theorem CA {els : List (List Cl)} {b : Nat} (h : g.own b = none) : lR g els b = none:=by
 unfold lR
 rw [dif_neg]
 rintro ⟨ij,r,p,e,h1,h2⟩
 rw [h] at h2; cases h2
theorem sn {rs : List Nat} {st : St} (h : st.free (fun s=>s ∈ rs ∨ False)) : st.free (fun s=>s ∈ rs):=by simpa using h
structure jf (e : Nat) (vss : List (List Value)) (cs : List Value) : Prop where
 cell : ∀ (i j : Nat) vs,vss[i]? = some vs → j < e → ∃ v,vs[j]? = some v ∧ cs[i * e + j]? = some v
theorem ak.elems (h : Rel X own0 w0 st a w g) {deep : Bool} {e : TypeId} {els : List (List Cl)} {vss : List (List Value)} {xs : List (List U)} {rs : List Nat} (hs : oP X st w g deep (X.T.ct e) els vss xs rs) (hn : rs.Nodup)
  (hl : els.length = vss.length) {cs : List Value} (bG : jf (X.T.size e) vss cs) {w' : World} (hw : ∀ b,b < w.heap.size → w'.heap[b]? = w.heap[b]?) {F : Nat → Prop} (hF : ∀ b r,g.own b = some r → r ∈ rs → F b)
  {ok : Nat → Prop} (hk : ∀ b,aq X w g b → ok b) :
  ∃ V : Nat → Nat → Value,(∀ (i j : Nat) (x : List U),xs[i]? = some x → j < x.length → cs[i * X.T.size e + j]? = some (V i j)) ∧
   (deep = true → ∀ (i j : Nat) (x : List U) (u : U) (ct : CT),xs[i]? = some x → x[j]? = some u → (X.T.ct e)[j]? = some ct → ak X.T.ct w' (fun b=>F b ∧ lR g els b = some (i,j)) ct u (V i j)) ∧
   (deep = false → ∀ (i j : Nat) (x : List U) (u : U) (ct : CT),xs[i]? = some x → x[j]? = some u → (X.T.ct e)[j]? = some ct → aE X.T.ct w' ok ct u (V i j)):=by
 have key : ∀ (i j : Nat) (x : List U),xs[i]? = some x → j < x.length → ∃ cls vs v gA,els[i]? = some cls ∧ vss[i]? = some vs ∧ vs[j]? = some v ∧ cs[i * X.T.size e + j]? = some v ∧ fT X st w g deep (X.T.ct e) cls vs x gA:=by
  intro i j x hx hj
  have h1 : i < els.length:=by rw [← hs.len]; exact aA hx
  have h2 : i < vss.length:=by rw [← hl]; exact h1
  have h3:=hs.sz i x hx
  obtain ⟨v,h4,h5⟩:=bG.cell i j _ (qQg h2) (by show j < (X.T.ct e).length; omega)
  obtain ⟨gA,h6⟩:=hs.el i _ _ _ (qQg h1) (qQg h2) hx
  exact ⟨_,_,v,gA,qQg h1,qQg h2,h4,h5,h6⟩
 refine ⟨fun i j=>(cs[i * X.T.size e + j]?).getD undef,fun i j x hx hj=>?_,fun hd i j x u ct hx hu ai=>?_,fun hd i j x u ct hx hu ai=>?_⟩
 ·obtain ⟨cls,vs,v,gA,h1,h2,h3,h4,h5⟩:=key i j x hx hj
  dsimp only
  rw [h4]; rfl
 ·obtain ⟨cls,vs,v,gA,h1,h2,h3,h4,h5⟩:=key i j x hx (aA hu)
  dsimp only
  rw [h4]
  refine (h5.own hd j u ct v hu ai h3).imp fun b hb=>?_
  have au:=hb
  obtain ⟨r,p,e',h6,h7⟩:=hb
  exact ⟨⟨hF b r h7 (hs.mem i j cls r p e' h1 h6),Cz hs hn h1 au⟩,hw b (h.mem.lt b (by rw [h7]; simp))⟩
 ·obtain ⟨cls,vs,v,gA,h1,h2,h3,h4,h5⟩:=key i j x hx (aA hu)
  dsimp only
  rw [h4]
  exact (h5.rd hd j u ct v hu ai h3).imp fun b hb=>⟨hk b hb,hw b hb.2.1⟩
theorem Rel.newRow (h : Rel X own0 w0 st a w g) {deep : Bool} {e : TypeId} {els : List (List Cl)} {vss : List (List Value)} {xs : List (List U)} {rs : List Nat} (hs : oP X st w g deep (X.T.ct e) els vss xs rs) (hn : cK rs = true)
  (hl : els.length = vss.length) {cs : Array Value} {cap : Nat} (bG : jf (X.T.size e) vss (cs.toList.take (els.length * X.T.size e))) (aR : cs.size = cap * X.T.size e) (pN : els.length ≤ cap) (jE : cap ≤ maxLen) :
  ∃ g',Rel X own0 w0 ((st.consume rs).add (.row e deep xs)) a (w.alloc (.cells cs e)) g' ∧
   ay X (w.alloc (.cells cs e)) ((st.consume rs).add (.row e deep xs)).rt g' (.c (.al st.rt.length [] e)) (.slice (some ⟨w.heap.size,0,none⟩) els.length cap):=by
 have aB : ∀ r ∈ rs,dt st.rt r:=fun r hr=>by obtain ⟨⟨e',ys,h1⟩,_⟩:=hs.row r hr; exact ⟨e',true,ys,h1⟩
 have h1:=h.consume rs aB hn
 have hlen : (st.consume rs).rt.length = st.rt.length:=il rs st
 have Bu : (st.consume rs).free (fun s=>s ∈ rs):=sn (pw rs (St.eV st))
 have hold : ∀ b,b < w.heap.size → (w.alloc (.cells cs e)).heap[b]? = w.heap[b]?:=fun b hb=>heap_alloc_old w _ b hb
 have ko:=heap_alloc_new w (.cells cs e)
 have aM : (w.alloc (.cells cs e)).heap.size = w.heap.size + 1:=by show (w.heap.push _).size = _; rw [qX5]
 have ho:=ov h (qQb w.heap.size)
 let g':=g.qo w.heap.size st.rt.length rs (.slice (some ⟨w.heap.size,0,none⟩) els.length cap)
 have av : ∀ b r,g.own b = some r → b < w.heap.size:=fun b r hb=>h.mem.lt b (by rw [hb]; simp)
 have sB : ((st.consume rs).add (.row e deep xs)).rt[st.rt.length]? = some (.row e deep xs):=by
  show ((st.consume rs).rt ++ [_])[_]? = _
  rw [qQx (by rw [hlen]; exact qQb _),hlen]; simp
 have fJ : ∀ b,aq X w g b → aq X (w.alloc (.cells cs e)) g' b:=fun b hb=>⟨g.nZ (by have:=hb.2.1; omega) hb.1,by rw [aM]; have:=hb.2.1; omega,hb.2.2⟩
 have hK : bN X (fun s=>s ∈ rs) (fun _=>False) w g (st.consume rs).rt (w.alloc (.cells cs e)) g' ((st.consume rs).add (.row e deep xs)).rt:=by
  refine ⟨fun b hb=>⟨fJ b hb,hold b hb.2.1⟩,fun b r hr hb=>?_,fun r hr _=>?_,fun r e' d ys _ hr=>?_,fun r t cs' hr=>⟨rfl,cs',?_⟩,fun _ hb=>hb.elim⟩
  ·have:=av b r hb
   exact ⟨by rw [g.qp (by omega) hb,if_neg hr],hold b this⟩
  ·show (if r = st.rt.length then _ else _) = _
   rw [if_neg (by rw [hlen] at hr; omega)]
  ·rw [jX _ _ _ (aA hr)]; exact hr
  ·rw [jX _ _ _ (aA hr)]; exact hr
 have hv : g'.v st.rt.length = .slice (some ⟨w.heap.size,0,none⟩) els.length cap:=if_pos rfl
 have hF : ∀ b r,g.own b = some r → r ∈ rs → g'.own b = some st.rt.length:=fun b r hb hr=>by
  have:=av b r hb
  rw [g.qp (by omega) hb,if_pos hr]
 obtain ⟨V,hV,AS,lg⟩:=ak.elems h hs (lV hn) hl bG hold hF fJ
 have bo : (w.alloc (.cells cs e)).ownsRow 0 e (X.T.ct e).length (.slice (some ⟨w.heap.size,0,none⟩) els.length cap) xs.length (cs.toList.take (els.length * X.T.size e)):=by
  rw [hs.len]
  have:=qYl (X.T.size e) pN
  have aL : cs.toList.length = cap * X.T.size e:=by rw [qZ3]; exact aR
  exact ⟨by rw [qZc,aL]; exact qX3 this,.inr ⟨w.heap.size,cap,cs,rfl,qQt _,ko,pN,jE,aR,rfl⟩⟩
 refine ⟨g',?_,?_⟩
 ·refine h1.zy Bu (fun s x hq hx=>?_) _ hK ?_ (fun b hb=>?_) (fun b s hb=>?_) (by rw [aM]; omega) (fun b s hb=>?_) (fun s hp=>?_) (h.fr.new rfl rfl rfl (by rw [aM]; omega) hold fun b hb iD=>g.nZ (by omega) iD)
  ·have:=mW rs aB hn hq
   rw [this] at hx; exact (qQc hx).symm
  ·rw [hlen]
   cases deep with
   | true =>
    show ak _ _ _ _ _ (g'.v _)
    rw [hv]
    refine .row _ e xs _ _ V (lR g els) (.of bo) (fun b hb=>?_) hV (fun i x hx=>hs.sz i x hx) (AS rfl)
    obtain rfl:=fP hb
    exact ⟨g.uc _ _ _ _,CA ho⟩
   | false =>
    show aZ _ _ _ _ _ _ (g'.v _)
    rw [hv]
    refine ⟨_,V,.of bo,fun b hb=>?_,hV,fun i x hx=>hs.sz i x hx,lg rfl⟩
    obtain rfl:=fP hb
    exact g.uc _ _ _ _
  ·rw [aM]
   by_cases hbe : b = w.heap.size
   ·omega
   ·cases hx : g.own b with
    | none=>exact absurd (g.nZ hbe hx) hb
    | some r=>have:=av b r hx; omega
  ·rw [hlen]
   by_cases hbe : b = w.heap.size
   ·subst hbe
    rw [show g'.own w.heap.size = some st.rt.length from g.uc _ _ _ _] at hb; cases hb; omega
   ·cases hx : g.own b with
    | none=>rw [show g'.own b = none from g.nZ hbe hx] at hb; cases hb
    | some r =>
     rw [show g'.own b = _ from g.qp hbe hx] at hb
     have:=h.mem.ob b r hx
     split at hb <;> (cases hb; omega)
  ·by_cases hbe : b = w.heap.size
   ·exact .inl (h.mem.n0 _ (by omega))
   ·cases hx : g.own b with
    | none=>rw [show g'.own b = none from g.nZ hbe hx] at hb; cases hb
    | some r =>
     rw [show g'.own b = _ from g.qp hbe hx] at hb
     have h5:=h.mem.pm b r hx
     split at hb
     ·rename_i hr
      have:=(hs.row r hr).2
      rw [h.mem.np] at this
      exact .inl (h5.resolve_right fun hh=>by omega)
     ·cases hb; exact h5
  ·show (if s = st.rt.length then _ else _) = _
   have:=h.mem.nl
   rw [if_neg (by omega)]; exact h.mem.pv s hp
 ·refine ay.cj ⟨e,deep,xs,sB,.inl rfl,?_⟩
  rw [hv]; exact .nil _ _ _
end
section
variable {P : Program} {X : Ctx} {own0 : Nat → Option Nat} {w0 : World} {st : St} {a : Act} {w w' : World} {g g' : Gh} {R : Type}
def bg (P : Program) (X : Ctx) (own0 : Nat → Option Nat) (w0 : World) (o : Oper) (a : Act) (w : World) (ae : St) : Prop :=
 ∀ (next : Act → World → Prop) (Q : Exit → Act → World → Prop),(∀ v w' g',Rel X own0 w0 ae (a.put o.dst v) w' g' → next (a.put o.dst v) w') → o.wp P a w next Q
theorem bg.value {o : Oper} {v : Value} {ae : St} (hr : (execOp a.eval o).run P w = .ok (.value v) w') (h : Rel X own0 w0 ae (a.put o.dst v) w' g') : bg P X own0 w0 o a w ae:=by
 intro next Q hn
 unfold Oper.wp
 rw [hr]
 exact hn _ _ _ h
theorem bg.skip {o : Oper} {ae : St} (hr : (execOp a.eval o).run P w = .ok .skip w') (h : Rel X own0 w0 ae (a.put o.dst undef) w' g') : bg P X own0 w0 o a w ae:=by
 intro next Q hn
 unfold Oper.wp
 rw [hr]
 exact hn _ _ _ h
theorem Ex (hT : aX P X.T) {e : TypeId} (hs : X.T.size e ≠ 0) (n : Nat) : aw X w st.rt g (zeroCells (X.T.ct e) n) ((Array.range n).map ((X.T.row e).zero.cells[· % (X.T.row e).zero.cells.size]!)).toList:=by
 refine aw.oo (by simp [zeroCells]) fun i x v hx hv=>?_
 have hi : i < n:=by
  have:=aA hx
  simpa [zeroCells] using this
 have hz : (X.T.row e).zero.cells = ((X.T.ct e).map zeroV).toArray:=fW.oN hT e
 have hm : i % (X.T.ct e).length < (X.T.ct e).length:=Nat.mod_lt _ (qY0 hs)
 obtain rfl : x = ez ((X.T.ct e).getD (i % (X.T.ct e).length) .bool):=by
  simp only [zeroCells,qQj,qZy hi,qQ7,qZo] at hx
  exact hx.symm
 have dP : v = zeroV ((X.T.ct e).getD (i % (X.T.ct e).length) .bool):=by
  rw [hz] at hv
  simp only [qYt,Array.toList_range,qQj,qZy hi,qQ7,qZo] at hv
  rw [← hv]
  simp [hm]
 rw [dP]
 generalize (X.T.ct e).getD (i % (X.T.ct e).length) .bool = c
 cases c <;> rfl
theorem zV {size len : Nat} {cs : List Cl} {i : Nat} {x : List Cl} (h : (chunk size cs len)[i]? = some x) : i < len ∧ x = (cs.drop (i * size)).take size:=by
 unfold chunk at h
 rw [qQj] at h
 obtain ⟨y,hy,rfl⟩:=qQf.1 h
 obtain ⟨h1,h2⟩:=qYa.1 hy
 simp at h1 h2
 subst h2
 exact ⟨h1,rfl⟩
def kV (size : Nat) (cs : List Value) (len : Nat) : List (List Value):=(List.range len).map fun i=>(cs.drop (i * size)).take size
theorem vT {size len : Nat} {cs : List Value} {i : Nat} {x : List Value} (h : (kV size cs len)[i]? = some x) : i < len ∧ x = (cs.drop (i * size)).take size:=by
 unfold kV at h
 rw [qQj] at h
 obtain ⟨y,hy,rfl⟩:=qQf.1 h
 obtain ⟨h1,h2⟩:=qYa.1 hy
 simp at h1 h2
 subst h2
 exact ⟨h1,rfl⟩
theorem iP {i j size len : Nat} (hi : i < len) (hj : j < size) : i * size + j < len * size:=by
 have:=qYl size (qX6 hi)
 rw [qZ7] at this
 omega
theorem jf.chunk {size len : Nat} {cs : List Value} (hl : cs.length = len * size) : jf size (kV size cs len) cs:=by
 refine ⟨fun i j vs hi hj=>?_⟩
 obtain ⟨h1,rfl⟩:=vT hi
 have h2:=iP h1 hj
 have h3 : i * size + j < cs.length:=by omega
 refine ⟨cs[i * size + j],?_,qQg h3⟩
 rw [qZk,if_pos hj,qZb,qQg h3]
theorem xU (h : Rel X own0 w0 st a w g) {e : TypeId} {len : Nat} {cls : List Cl} {cs : Array Value} (hc : aw X w st.rt g cls cs.toList) (hl : cls.length = len * X.T.size e) (jE : len ≤ maxLen) {d : Option Tmp} {K : St → Option R} {r : R}
  {deep : Bool} (hq : fN X.T st e deep (chunk (X.T.size e) cls len) d K = some r) :
  ∃ ae g',K ae = some r ∧ Rel X own0 w0 ae (a.put d (.slice (some ⟨w.heap.size,0,none⟩) len len)) (w.alloc (.cells cs e)) g':=by
 unfold fN at hq
 split at hq
 ·rename_i xs rs he
  split at hq
  ·rename_i hn
   have nE : (chunk (X.T.size e) cls len).length = len:=by simp [chunk]
   have aL : cs.toList.length = len * X.T.size e:=by rw [← hc.length]; exact hl
   have hs:=pA h.mem (vss:=kV (X.T.size e) cs.toList len) he (by simp [chunk,kV]) fun i c v hi hv=>by
    obtain ⟨_,rfl⟩:=zV hi
    obtain ⟨_,rfl⟩:=vT hv
    exact (hc.drop _).take _
   obtain ⟨g',h1,h2⟩:=h.newRow hs hn (by simp [chunk,kV]) (cs:=cs) (cap:=len) (by rw [nE,qXf (by omega)]; exact jf.chunk aL) (by rw [← qZ3]; exact aL) (by rw [nE]; exact qQb _) jE
   rw [nE] at h2
   have hlen : (st.consume rs).rt.length = st.rt.length:=il rs st
   refine ⟨_,g',hq,?_⟩
   exact h1.put d h2
  ·cases hq
 ·cases hq
theorem yE (h : Rel X own0 w0 st a w g) {t : TypeId} {cls : List Cl} {cs : Array Value} (hc : aw X w st.rt g cls cs.toList) {d : Option Tmp} {K : St → Option R} {r : R} (hq : ml X.T st t cls d K = some r) :
  ∃ ae g',K ae = some r ∧ Rel X own0 w0 ae (a.put d (.pointer (some ⟨w.heap.size,0,none⟩))) (w.alloc (.cells cs t)) g':=by
 unfold ml at hq
 split at hq
 ·rename_i hz
  split at hq
  ·rename_i xs rs he
   split at hq
   ·rename_i hn
    have aL : cs.toList.length = X.T.size t:=by rw [← hc.length]; exact hz.2
    have hs:=pA h.mem (vss:=[cs.toList]) he rfl fun i c v hi hv=>by
     cases i with
     | zero=>cases hi; cases hv; exact hc
     | succ i=>simp at hi
    obtain ⟨g',h1,h2⟩:=h.newRow hs hn rfl (cs:=cs) (cap:=1) (by
     rw [List.length_singleton,Nat.one_mul,qXf (by omega)]
     refine ⟨fun i j vs hi hj=>?_⟩
     cases i with
     | zero =>
      cases hi
      have hj : j < cs.toList.length:=by omega
      exact ⟨cs.toList[j],qQg hj,by rw [qXe,qQy]; exact qQg hj⟩
     | succ i=>simp at hi) (by rw [← qZ3]; omega) (qQb _) (by decide)
    refine ⟨_,g',hq,h1.put d ?_⟩
    obtain ⟨e0,dd,ys,q1,q2,q3⟩:=h2
    have hx : xs.length = 1:=hs.len
    have aB:=q1
    rw [show ((st.consume rs).add (.row t (!jy cls) xs)).rt[st.rt.length]? = some (.row t (!jy cls) xs) from by
     show ((st.consume rs).rt ++ [_])[_]? = _
     rw [qQx (by rw [il]; exact qQb _),il]; simp] at aB
    cases aB
    exact ⟨_,_,_,_,_,_,_,q1,q2,q3,by show 0 < (bc xs []).length; simp [bc,hx],by simp⟩
   ·cases hq
  ·cases hq
 ·cases hq
theorem vp (hT : aX P X.T) (h : Rel X own0 w0 st a w g) {o : Oper} {t : TypeId} (ho : o.op = .alloc t) {ar : Bool} {K : St → Option R} {r : R} (hq : hJ X.T ar st t o.dst K = some r) : ∃ ae,K ae = some r ∧ bg P X own0 w0 o a w ae:=by
 unfold hJ at hq
 split at hq
 ·rename_i ht
  have hz : aw X w st.rt g ((X.T.ct t).map ez) (X.T.row t).zero.cells.toList:=by rw [fW.oN hT]; exact qZ X _
  split at hq
  ·obtain ⟨ae,g',h1,h2⟩:=yE h hz hq
   refine ⟨ae,h1,bg.value (v:=.pointer (some ⟨w.heap.size,0,none⟩)) (w':=w.alloc (.cells (X.T.row t).zero.cells t)) ?_ h2⟩
   simp [execOp,ho,Instr.alloc,uO hT ht,newVar,newRow]
  ·refine ⟨_,hq,?_⟩
   obtain ⟨g',h1,h2⟩:=h.xR t (cs:=(X.T.ct t).map ez) (vs:=(X.T.row t).zero.cells) hz
   refine bg.value (v:=.pointer (some ⟨w.heap.size,0,none⟩)) (w':=w.alloc (.cells (X.T.row t).zero.cells t)) ?_ (h1.put o.dst h2)
   simp [execOp,ho,Instr.alloc,uO hT ht,newVar,newRow]
 ·cases hq
theorem zL (hT : aX P X.T) (h : Rel X own0 w0 st a w g) {o : Oper} {t : TypeId} {x : Operand} (ho : o.op = .box t x) {ar : Bool} {K : St → Option R} {r : R} (hq : jk X.T ar st t (ev st x) o.dst K = some r) : ∃ ae,K ae = some r ∧ bg P X own0 w0 o a w ae:=by
 unfold jk at hq
 split at hq
 ·rename_i cs hc
  split at hq
  ·obtain ⟨ae,g',h1,h2⟩:=yE h (pk h (ba h x) hc) hq
   refine ⟨ae,h1,bg.value (v:=.pointer (some ⟨w.heap.size,0,none⟩)) (w':=w.alloc (.cells (a.eval x).cells t)) ?_ h2⟩
   simp [execOp,ho,Instr.box,newVar,newRow]
  ·refine ⟨_,hq,?_⟩
   obtain ⟨g',h1,h2⟩:=h.xR t (pk h (ba h x) hc)
   refine bg.value (v:=.pointer (some ⟨w.heap.size,0,none⟩)) (w':=w.alloc (.cells (a.eval x).cells t)) ?_ (h1.put o.dst h2)
   simp [execOp,ho,Instr.box,newVar,newRow]
 ·cases hq
def Gh.gD (g : Gh) (qs : List Nat) : Gh:=⟨fun x=>match g.own x with | some r=>if r ∈ qs then none else some r | none=>none,g.v,g.b⟩
theorem Gh.oK {qs : List Nat} {x : Nat} (h : g.own x = none) : (g.gD qs).own x = none:=by
 show (match g.own x with | some r=>if r ∈ qs then none else some r | none=>none) = _
 rw [h]
theorem Gh.zf {qs : List Nat} {x r : Nat} (h : g.own x = some r) (hr : r ∈ qs) : (g.gD qs).own x = none:=by
 show (match g.own x with | some r=>if r ∈ qs then none else some r | none=>none) = _
 rw [h]; simp [hr]
theorem Gh.zg {qs : List Nat} {x r : Nat} (h : g.own x = some r) (hr : r ∉ qs) : (g.gD qs).own x = some r:=by
 show (match g.own x with | some r=>if r ∈ qs then none else some r | none=>none) = _
 rw [h]; simp [hr]
theorem Gh.zh {qs : List Nat} {x r : Nat} (h : (g.gD qs).own x = some r) : g.own x = some r:=by
 cases hx : g.own x with
 | none=>rw [Gh.oK hx] at h; cases h
 | some s =>
  by_cases hs : s ∈ qs
  ·rw [Gh.zf hx hs] at h; cases h
  ·rw [Gh.zg hx hs] at h; exact h
theorem Rel.gD (h : Rel X own0 w0 st a w g) {qs : List Nat} (iy : ∀ r ∈ qs,st.rt[r]? = some .gone) : Rel X own0 w0 st a w (g.gD qs):=by
 have hK : bN X (fun s=>s ∈ qs) (fun _=>False) w g st.rt w (g.gD qs) st.rt :=
  ⟨fun b hb=>⟨⟨Gh.oK hb.1,hb.2⟩,rfl⟩,fun b r hr hb=>⟨Gh.zg hb hr,rfl⟩,fun _ _ _=>rfl,fun r e d xs _ hx=>hx,fun r t cs hx=>⟨rfl,cs,hx⟩,fun _ hf=>hf.elim⟩
 have aL : ∀ x : Cl,x.aV (fun s=>s ∈ qs) (fun _=>False) st.rt:=fun x=>by
  cases x with
  | al r p e =>
   rintro ⟨e',d,xs,hr⟩
   exact .inl fun hq=>by rw [iy r hq] at hr; cases hr
  | _=>trivial
 have bI : ∀ x : SV,x.aV (fun s=>s ∈ qs) (fun _=>False) st.rt:=fun x=>by
  cases x with
  | c x=>exact aL x
  | ag xs=>exact fun x _=>aL x
  | po r p e i o =>
   rintro ⟨e',d,xs,hr⟩
   exact .inl fun hq=>by rw [iy r hq] at hr; cases hr
  | fn f az =>
   intro y _
   cases y with
   | c x=>exact aL x
   | _=>trivial
  | bf vs=>exact fun y _ z _=>aL z
  | _=>trivial
 refine ⟨⟨fun i y hy=>?_,fun b hb=>h.mem.lt b fun hn=>hb (Gh.oK hn),fun b s hb=>h.mem.ob b s (Gh.zh hb),h.mem.n0,h.mem.np,h.mem.nl,fun b s hb=>h.mem.pm b s (Gh.zh hb),h.mem.pv⟩,h.sz,fun i sv hi=>ay.keep h.mem hK (bI sv) (h.sl i sv hi),h.df,⟨h.fr.os,h.fr.tape,h.fr.output,h.fr.size,fun b hb ho=>?_⟩⟩
 ·by_cases hq : i ∈ qs
  ·rw [iy i hq] at hy
   obtain rfl:=qQc hy
   trivial
  ·refine cm.keep h.mem hK hy hq ?_
   cases y with
   | box t cs=>exact fun x _=>aL x
   | _=>trivial
 ·obtain ⟨e1,e2⟩:=h.fr.block b hb ho
  exact ⟨Gh.oK e1,e2⟩
theorem aF.jU (hm : Mem X st w g) {qs : List Nat} (aO : ∀ r ∈ qs,st.np ≤ r) {rt' : List aa} {x : Cl} {v : Value} (hr : ∀ r ∈ x.af,r ∈ qs) (h : aF X w st.rt g x v) : aF X w rt' (g.gD qs) (jU st.rt x) v:=by
 have fp : ∀ b,aq X w g b → aq X w (g.gD qs) b:=fun b hb=>⟨Gh.oK hb.1,hb.2⟩
 cases x with
 | al r p e =>
  have hq:=hr r (by simp [Cl.af])
  obtain ⟨e0,d,xs,h1,h2⟩:=aF.fY hm h
  simp only [Eng.jU,h1]
  refine h2 _ (fun b hb=>⟨Gh.zf hb hq,hm.lt b (by rw [hb]; simp),?_⟩) fp
  rcases hm.pm b r hb with hh | ⟨hh,_⟩
  ·exact .inr hh
  ·have:=aO r hq; rw [hm.np] at this; omega
 | rd e xs=>exact aE.imp h fun b hb=>⟨fp b hb,rfl⟩
 | _=>exact h
theorem rU : ∀ (xs acc : List Nat) (r : Nat),r ∈ acc ∨ r ∈ xs → r ∈ dedup acc xs
 | [],acc,r,h=>by unfold dedup; simpa using h
 | x :: xs,acc,r,h=>by
  unfold dedup
  split
  ·rename_i hx
   have hx : x ∈ acc:=by simpa using hx
   refine rU xs acc r ?_
   rcases h with h | h
   ·exact .inl h
   ·rcases qQn.1 h with rfl | h
    ·exact .inl hx
    ·exact .inr h
  ·refine rU xs _ r ?_
   rcases h with h | h
   ·exact .inl (by simp [h])
   ·rcases qQn.1 h with rfl | h
    ·exact .inl (by simp)
    ·exact .inr h
theorem zW {size len : Nat} {cls : List Cl} (f : Cl → Cl) : (chunk size cls len).map (fun x=>x.map f) = chunk size (cls.map f) len:=by
 simp [chunk,List.map_drop,List.map_take]
theorem zX {size len : Nat} {cls : List Cl} (hl : cls.length = len * size) {c : Cl} (hc : c ∈ cls) : ∃ x ∈ chunk size cls len,c ∈ x:=by
 obtain ⟨i,hi⟩:=qY2.1 hc
 have av:=aA hi
 have hs : 0 < size:=by
  cases size with
  | zero=>rw [hl] at av; simp at av
  | succ n=>omega
 have h1 : i / size < len:=by
  rw [Nat.div_lt_iff_lt_mul hs]; omega
 refine ⟨(cls.drop (i / size * size)).take size,qQo.2 ⟨i / size,qZt.2 h1,rfl⟩,qY2.2 ⟨i % size,?_⟩⟩
 rw [qZk,if_pos (Nat.mod_lt _ hs),qZb,qYe,qX2]
 exact hi
theorem CQ (h : Rel X own0 w0 st a w g) {e : TypeId} {len : Nat} {cls : List Cl} {cs : Array Value} (hc : aw X w st.rt g cls cs.toList) (hl : cls.length = len * X.T.size e) (jE : len ≤ maxLen) {d : Option Tmp} {K : St → Option R} {r : R}
  (hq : fO X.T st e (chunk (X.T.size e) cls len) d K = some r) :
  ∃ ae g',K ae = some r ∧ Rel X own0 w0 ae (a.put d (.slice (some ⟨w.heap.size,0,none⟩) len len)) (w.alloc (.cells cs e)) g':=by
 unfold fO at hq
 dsimp only at hq
 split at hq
 ·exact xU h hc hl jE hq
 ·split at hq
  ·rename_i hh
   rw [qQi] at hh
   obtain ⟨hn,bO⟩:=hh
   have bO : ∀ r ∈ dedup [] ((chunk (X.T.size e) cls len).flatMap fun x=>x.flatMap Cl.af),st.np ≤ r ∧ dt st.rt r:=fun r hr=>by
    have:=qQp.1 bO r hr
    simp only [qQi,qQw] at this
    refine ⟨this.1,?_⟩
    have h2:=this.2
    unfold xH at h2
    split at h2
    ·rename_i e' d' cd hx; exact ⟨e',d',cd,hx⟩
    ·cases h2
   have bH : ∀ c ∈ cls,∀ r ∈ c.af,r ∈ dedup [] ((chunk (X.T.size e) cls len).flatMap fun x=>x.flatMap Cl.af):=fun c nj r hr=>by
    obtain ⟨x,h1,h2⟩:=zX hl nj
    exact rU _ _ _ (.inr (qZ1.2 ⟨x,h1,qZ1.2 ⟨c,h2,hr⟩⟩))
   generalize dedup [] ((chunk (X.T.size e) cls len).flatMap fun x=>x.flatMap Cl.af) = qs at *
   have gP : ∀ r ∈ qs,dt st.rt r:=fun r hr=>(bO r hr).2
   have h1:=(h.consume qs gP hn).gD (qs:=qs) fun r hr=>mW qs gP hn hr
   rw [zW] at hq
   refine xU h1 (cls:=cls.map (jU st.rt)) ?_ (by rw [qQk]; exact hl) jE hq
   have gn:=h.mem
   have key : ∀ {cls : List Cl} {vs : List Value},aw X w st.rt g cls vs → (∀ c ∈ cls,∀ r ∈ c.af,r ∈ qs) → aw X w (st.consume qs).rt (g.gD qs) (cls.map (jU st.rt)) vs:=by
    intro cls
    induction cls with
    | nil=>intro vs h _; cases vs with | nil=>trivial | cons=>exact h.elim
    | cons c cls ih =>
     intro vs h hr
     cases vs with
     | nil=>exact h.elim
     | cons v vs=>exact ⟨aF.jU gn (fun r hr=>(bO r hr).1) (hr c (by simp)) h.1,ih h.2 fun c hc=>hr c (by simp [hc])⟩
   exact key hc bH
  ·cases hq
theorem rH (hT : aX P X.T) (h : Rel X own0 w0 st a w g) {o : Oper} {t : TypeId} {len : Nat} {parts : Array (Nat × Operand)} (ho : o.op = .buildSlice t len parts) {K : St → Option R} {r : R} (hq : eF X.T st t len parts.toList o.dst K = some r) :
  ∃ ae,K ae = some r ∧ bg P X own0 w0 o a w ae:=by
 unfold eF at hq
 split at hq
 ·rename_i e hd
  have eZ : (X.T.row t).d = .one (.aj e):=by
   unfold ax.elem TD.elem at hd
   split at hd
   ·rename_i e' he; rw [he]; cases hd; rfl
   ·cases hd
  split at hq
  ·rename_i hh
   obtain ⟨hk,aR,cx⟩:=hh
   split at hq
   ·rename_i cs hb
    obtain ⟨vs',h1,h2,h3⟩:=pG h _ _ (Ex (P:=P) (st:=st) (w:=w) (g:=g) hT cx (len * X.T.size e)) hb
    have hl : cs.length = len * X.T.size e:=by rw [h3]; simp [zeroCells]
    have jE : len ≤ maxLen:=by
     have : len ≤ len * X.T.size e:=Nat.le_mul_of_pos_right _ (qY0 cx)
     simp only [maxLen]; omega
    obtain ⟨ae,g',h4,h5⟩:=CQ h h2 hl jE hq
    refine ⟨ae,h4,bg.value (w':=w.alloc (.cells vs' e)) (v:=.slice (some ⟨w.heap.size,0,none⟩) len len) ?_ h5⟩
    have hn : ¬ (len * X.T.size e > 2 ^ 24):=by omega
    by_cases hl0 : len * X.T.size e = 0
    ·have e0 : (Array.range (len * X.T.size e)).map ((X.T.row e).zero.cells[· % (X.T.row e).zero.cells.size]!) = #[]:=by rw [hl0]; simp
     rw [e0] at h1
     have su : Instr.fill (fun i=>some (i * X.T.size e,X.T.size e)) #[] (parts.map fun (x : Nat × Operand)=>(x.1,a.eval x.2)).toList = some vs':=by rw [qYt]; exact h1
     simp [execOp,ho,Instr.buildSlice,run_underlying (eu hT eZ),run_sizeOf hT hk,hl0,newRow,-Array.toList_map]
     rw [show (Array.map (fun x=>(default : Value)) (Array.range 0)) = #[] from by simp,su]
     simp
    ·have su : Instr.fill (fun i=>some (i * X.T.size e,X.T.size e)) ((Array.range (len * X.T.size e)).map ((X.T.row e).zero.cells[· % (X.T.row e).zero.cells.size]!)) (parts.map fun (x : Nat × Operand)=>(x.1,a.eval x.2)).toList = some vs':=by rw [qYt]; exact h1
     have ca : ¬ 16777216 < len * X.T.size e:=by omega
     simp only [execOp,ho,Instr.buildSlice,Sem.run_bind,run_underlying (eu hT eZ),run_sizeOf hT hk,Result.andThen_ok,hl0,qZe,hn,uO hT hk,Sem.run_pure,su,newRow]
     simp
   ·cases hq
  ·cases hq
 ·cases hq
theorem wq {rt : List aa} {np : Nat} (ab : List CT) : ∀ n,dz rt np true ab (List.replicate n (ab.map ez)) = some (List.replicate n (ab.map mE),[])
 | 0=>rfl
 | n + 1=>by
  have h1 : ∀ ab : List CT,aQ rt np true ab (ab.map ez) = some (ab.map mE,[]):=by
   intro ab
   induction ab with
   | nil=>rfl
   | cons c ab ih=>cases c <;> simp [aQ,ez,mE,ih]
  rw [List.replicate_succ]
  unfold dz
  rw [h1,wq ab n]
  rfl
theorem DY (hT : aX P X.T) {t e : TypeId} (hd : (X.T.row t).d = .one (.aj e)) (hk : (X.T.row e).d.known = true) {n m : Int} (h0 : 0 ≤ n) (nJ : n ≤ m) (hr : room m.toNat (X.T.row e).bytes = true) :
  (Instr.makeSlice t (.int .i64 n) (.int .i64 m)).run P w = .ok (.slice (some ⟨w.heap.size,0,none⟩) n.toNat m.toNat) (w.alloc (.cells (madeCells (X.T.row e).zero.cells (m.toNat * X.T.size e)) e)):=by
 obtain ⟨i,desc,h1,h2,h3,h4,h5,h6⟩:=hT.ok e hk
 have hr:=qZu hr
 have:=run_make (P:=P) w t e i (X.T.row e).zero (eu hT hd) h1 h5 .i64 .i64 n m h0 nJ (by
  rw [h4]
  have h7 : m.toNat * (X.T.row e).bytes ≤ 140737488355328:=hr.1
  have h8 : (((X.T.row e).bytes * m.toNat : Nat) : Int) ≤ 281474976710656:=by rw [qYe]; omega
  rw [Int.natCast_mul,qXn (by omega)] at h8
  exact h8) (by omega)
 rw [this,h3]
theorem jf.made {e : TypeId} (hT : aX P X.T) (cx : X.T.size e ≠ 0) {n : Nat} {cs : List Value} (bG : cs = (madeCells (X.T.row e).zero.cells (n * X.T.size e)).toList) : jf (X.T.size e) (List.replicate n ((X.T.ct e).map zeroV)) cs:=by
 refine ⟨fun i j vs hi hj=>?_⟩
 obtain ⟨h1,h2⟩:=qYa.1 hi
 simp only [qX7] at h1
 simp only [List.getElem_replicate] at h2
 subst h2
 have h3:=iP h1 hj
 have gm : j < (X.T.ct e).length:=hj
 refine ⟨zeroV (X.T.ct e)[j],by rw [qQj,qQg gm]; rfl,?_⟩
 rw [bG]
 simp only [madeCells,qYt,Array.toList_range,qQj,qZy h3,qQ7,fW.oN hT,qZo]
 have h4 : (i * X.T.size e + j) % (X.T.ct e).length = j:=by
  rw [show X.T.size e = (X.T.ct e).length from rfl,qYe,Nat.mul_add_mod,Nat.mod_eq_of_lt gm]
 simp [h4,gm]
theorem CH (hT : aX P X.T) (h : Rel X own0 w0 st a w g) {o : Oper} {t : TypeId} {l c : Operand} (ho : o.op = .makeSlice t l c) {K : St → Option R} {r : R} (hq : jN X.T st t l c o.dst K = some r) :
  ∃ ae,K ae = some r ∧ bg P X own0 w0 o a w ae:=by
 unfold jN at hq
 split at hq
 ·rename_i e n m hd hl hc
  have eZ : (X.T.row t).d = .one (.aj e):=by
   unfold ax.elem TD.elem at hd
   split at hd
   ·rename_i e' he; rw [he]; cases hd; rfl
   ·cases hd
  have ee:=ba h l
  have jJ:=ba h c
  rw [hl] at ee
  rw [hc] at jJ
  have ee : a.eval l = .int .i64 n:=ee
  have jJ : a.eval c = .int .i64 m:=jJ
  split at hq
  ·rename_i hh
   obtain ⟨hk,cx⟩:=hh
   have fin : ∀ {n : Int} {els : List (List Cl)} {xs : List (List U)},0 ≤ n → n ≤ m → a.eval l = .int .i64 n → room m.toNat (X.T.row e).bytes = true → els.length = n.toNat → els = List.replicate n.toNat ((X.T.ct e).map ez) → xs = List.replicate n.toNat ((X.T.ct e).map mE) →
     K ((st.add (.row e true xs)).put o.dst (.c (.al st.rt.length [] e))) = some r → ∃ ae,K ae = some r ∧ bg P X own0 w0 o a w ae:=by
    intro n els xs h0 nJ ee hr dB he hx hq
    subst he hx
    have hs:=pA h.mem (vss:=List.replicate n.toNat ((X.T.ct e).map zeroV)) (wq (rt:=st.rt) (np:=st.np) (X.T.ct e) n.toNat) (by simp) fun i c v hi hv=>by
     obtain ⟨h1,h2⟩:=qYa.1 hi
     obtain ⟨h3,h4⟩:=qYa.1 hv
     simp only [List.getElem_replicate] at h2 h4
     subst h2 h4
     exact qZ X _
    have aR : (madeCells (X.T.row e).zero.cells (m.toNat * X.T.size e)).size = m.toNat * X.T.size e:=size_madeCells _ _
    have xf : n.toNat ≤ m.toNat:=by omega
    have jH : (madeCells (X.T.row e).zero.cells (m.toNat * X.T.size e)).toList.take (n.toNat * X.T.size e) = (madeCells (X.T.row e).zero.cells (n.toNat * X.T.size e)).toList:=by
     have h9:=qYl (X.T.size e) xf
     simp only [madeCells,qYt,Array.toList_range,← List.map_take,List.take_range]
     rw [qX3 h9]
    obtain ⟨g',h1,h2⟩:=h.newRow hs rfl (by simp) (cs:=madeCells (X.T.row e).zero.cells (m.toNat * X.T.size e)) (cap:=m.toNat) (by rw [qX7,jH]; exact jf.made hT cx rfl) aR (by rw [qX7]; exact xf) (qZu hr).2
    rw [qX7] at h2
    refine ⟨_,hq,bg.value (w':=w.alloc (.cells (madeCells (X.T.row e).zero.cells (m.toNat * X.T.size e)) e)) (v:=.slice (some ⟨w.heap.size,0,none⟩) n.toNat m.toNat) ?_ (h1.put o.dst h2)⟩
    simp [execOp,ho,ee,jJ,DY hT eZ hk h0 nJ hr]
   split at hq
   ·split at hq
    ·rename_i t1 t2 AV
     subst AV
     cases hz : (decide (0 ≤ m) && room m.toNat (X.T.row e).bytes) with
     | false=>rw [hz] at hq; cases hq
     | true =>
      rw [hz] at hq
      simp only [qQi,qQw] at hz
      obtain rfl : n = m:=by rw [ee] at jJ; injection jJ
      exact fin hz.1 (qZx _) ee hz.2 (by simp) rfl rfl hq
    ·cases hq
   ·split at hq
    ·rename_i BJ
     subst BJ
     cases hz : (decide (0 ≤ m) && room m.toNat (X.T.row e).bytes) with
     | false=>rw [hz] at hq; cases hq
     | true =>
      rw [hz] at hq
      simp only [qQi,qQw] at hz
      exact fin (qZx _) hz.1 ee hz.2 (els:=[]) (xs:=[]) rfl rfl rfl hq
    ·cases hq
   ·split at hq
    ·rename_i nJ
     subst nJ
     cases hz : (decide (0 ≤ n) && room n.toNat (X.T.row e).bytes) with
     | false=>rw [hz] at hq; cases hq
     | true =>
      rw [hz] at hq
      simp only [qQi,qQw] at hz
      exact fin hz.1 (qZx _) ee hz.2 (by simp) rfl rfl hq
    ·cases hq
   ·cases hq
  ·cases hq
 ·cases hq
end
theorem uQ (xs : List (List U)) (i o : Nat) (p : Path) (ys : List (List U)) : cD xs ((i,o) :: p) ys = xs.set i ((xs.getD i []).set o (.lst (cD (((xs.getD i []).getD o U0).bB) p ys))):=rfl
theorem ak.wC {T : bl} {w : World} {ct br : CT} {u u' : U} {v v' : Value} {p : Path} (h : At T w ct u v p br u' v') : ∀ {F : Nat → Prop},ak T w F ct u v → ∃ Fp : Nat → Prop,(∀ b,Fp b → F b) ∧ ak T w Fp br u' v' ∧
  ∀ (w' : World) (N : Nat → Prop) (ys : List (List U)),(∀ e,br = .aj e → ak T w' N br (.lst ys) v') → (∃ e,br = .aj e) → (∀ b,F b → ¬ Fp b → w'.heap[b]? = w.heap[b]?) → (∀ b,N b → Fp b ∨ ¬ F b) →
   ak T w' (fun b=>(F b ∧ ¬ Fp b) ∨ N b) ct (if p = [] then .lst ys else .lst (cD u.bB p ys)) v:=by
 induction h with
 | nil ct u v =>
  intro F hF
  refine ⟨F,fun _ h=>h,hF,fun w' N ys hr he _ _=>?_⟩
  obtain ⟨e,rfl⟩:=he
  rw [if_pos rfl]
  exact (hr e rfl).mono fun b hb=>.inr hb
 | cons e xs g q n c i o x u1 cF v1 p br u' v' hx hu ai hc h ih =>
  intro F hF
  cases hF with
  | row F e xs v cs V bp ho hg hV hs hh =>
   have av : o < x.length:=aA hu
   have db:=gW ho (hV i o x hx av)
   obtain rfl:=qQc (db.symm.trans hc)
   obtain ⟨Fp,h1,h2,h3⟩:=ih (hh i o x u1 cF hx hu ai)
   refine ⟨Fp,fun b hb=>(h1 b hb).1,h2,fun w' N ys hr he hw hN=>?_⟩
   obtain ⟨g1,g2⟩:=hg g (jP ho (qZ8 (qQt _) (aA hx)))
   have sS : ¬ Fp g:=fun hb=>by have:=(h1 g hb).2; rw [g2] at this; cases this
   have AN : ∀ b,N b → Fp b ∨ ¬ (F b ∧ bp b = some (i,o)):=fun b hb=>(hN b hb).imp id fun iC hf=>iC hf.1
   have h4:=h3 w' N ys hr he (fun b hb hp=>hw b hb.1 hp) AN
   rw [if_neg (by simp)]
   have By : xs.getD i [] = x:=cr hx
   have Bw : x.getD o U0 = u1:=cr hu
   have e1 : (.lst (cD (U.lst xs).bB ((i,o) :: p) ys) : U) = .lst (xs.set i (x.set o (if p = [] then .lst ys else .lst (cD u1.bB p ys)))):=by
    rw [U.oI,uQ,By,Bw]
    split
    ·rename_i hp; subst hp; rfl
    ·rfl
   rw [e1]
   generalize (if p = [] then (.lst ys : U) else .lst (cD u1.bB p ys)) = z at h4
   classical
   have bk : bA w' e (T e).length (Value.slice (some { block:=g,off:=q }) n c) xs.length cs:=by
    refine mc ho fun g' dv=>?_
    obtain rfl:=fP dv
    exact hw g g1 sS
   refine .row _ e _ _ cs V (fun b=>if N b then some (i,o) else bp b) (by rw [qQl]; exact bk) (fun g' dv=>?_) (fun i' j' y hy hj=>?_) (fun i' y hy=>?_) (fun i' j' y u2 jo hy dO nq=>?_)
   ·obtain rfl:=fP dv
    refine ⟨.inl ⟨g1,sS⟩,?_⟩
    rw [if_neg]
    ·exact g2
    ·intro hn
     exact (hN g hn).elim sS fun iC=>iC g1
   ·rw [qQ9] at hy
    split at hy
    ·rename_i iA; subst iA
     split at hy
     ·obtain rfl:=qQc hy
      rw [qQl] at hj
      exact hV i j' x hx hj
     ·cases hy
    ·exact hV i' j' y hy hj
   ·rw [qQ9] at hy
    split at hy
    ·rename_i iA; subst iA
     split at hy
     ·obtain rfl:=qQc hy
      rw [qQl]; exact hs i x hx
     ·cases hy
    ·exact hs i' y hy
   ·
    have other : ∀ (y : List U) (u2 : U),xs[i']? = some y → y[j']? = some u2 → (i',j') ≠ (i,o) → ak T w' (fun b=>((F b ∧ ¬ Fp b) ∨ N b) ∧ (if N b then some (i,o) else bp b) = some (i',j')) jo u2 (V i' j'):=by
     intro y u2 hy dO aW
     refine (hh i' j' y u2 jo hy dO nq).imp fun b hb=>?_
     have aO : ¬ Fp b:=fun hp=>by have:=(h1 b hp).2; rw [hb.2] at this; exact aW (qQc this)
     have ti : ¬ N b:=fun hn=>(hN b hn).elim aO fun iC=>iC hb.1
     exact ⟨⟨.inl ⟨hb.1,aO⟩,by rw [if_neg ti]; exact hb.2⟩,hw b hb.1 aO⟩
    rw [qQ9] at hy
    split at hy
    ·rename_i iA; subst iA
     split at hy
     ·obtain rfl:=qQc hy
      rw [qQ9] at dO
      split at dO
      ·rename_i kj; subst kj
       obtain rfl:=qQc dO
       obtain rfl:=qQc (ai.symm.trans nq)
       refine h4.mono fun b hb=>?_
       by_cases hn : N b
       ·exact ⟨.inr hn,by rw [if_pos hn]⟩
       ·rcases hb with hb | hb
        ·exact ⟨.inl ⟨hb.1.1,hb.2⟩,by rw [if_neg hn]; exact hb.1.2⟩
        ·exact absurd hb hn
      ·rename_i kj
       exact other x u2 hx dO fun fa=>kj (qQv fa).2.symm
     ·cases hy
    ·rename_i iA
     exact other y u2 hy dO fun fa=>iA (qQv fa).1.symm
theorem ak.focus {T : bl} {w : World} {ct br : CT} {u u' : U} {v v' : Value} {p : Path} (h : At T w ct u v p br u' v') {F : Nat → Prop} (hF : ak T w F ct u v) : ∃ Fp : Nat → Prop,(∀ b,Fp b → F b) ∧ ak T w Fp br u' v' ∧
  ∀ (w' : World) (N : Nat → Prop) (ys : List (List U)),(∀ e,br = .aj e → ak T w' N br (.lst ys) v') → (∃ e,br = .aj e) → (∀ b,F b → ¬ Fp b → w'.heap[b]? = w.heap[b]?) → (∀ b,N b → Fp b ∨ ¬ F b) →
   ak T w' (fun b=>F b ∨ N b) ct (if p = [] then .lst ys else .lst (cD u.bB p ys)) v:=by
 obtain ⟨Fp,h1,h2,h3⟩:=ak.wC h hF
 exact ⟨Fp,h1,h2,fun w' N ys a b c d=>(h3 w' N ys a b c d).mono fun b hb=>hb.imp And.left id⟩
theorem oD : ∀ (us row : List U) (o : Nat),(fR row o us).length = row.length
 | [],row,o=>rfl
 | u :: us,row,o=>by unfold fR; rw [oD us]; exact qQl
theorem uV : ∀ (us row : List U) (o i : Nat),o + us.length ≤ row.length → (fR row o us)[i]? = if o ≤ i ∧ i < o + us.length then us[i - o]? else row[i]?
 | [],row,o,i,h=>by unfold fR; rw [if_neg (by simp only [qXo]; omega)]
 | u :: us,row,o,i,h=>by
  unfold fR
  rw [uV us (row.set o u) (o + 1) i (by simp at h ⊢; omega)]
  simp only [qZq] at h ⊢
  by_cases h1 : i = o
  ·subst h1
   rw [if_neg (by omega),if_pos (by omega),qYy (by omega),qZn]
   rfl
  ·by_cases h2 : o + 1 ≤ i ∧ i < o + 1 + us.length
   ·rw [if_pos h2,if_pos (by omega)]
    obtain ⟨k,rfl⟩ : ∃ k,i = o + 1 + k:=⟨i - (o + 1),by omega⟩
    rw [show o + 1 + k - (o + 1) = k from by omega,show o + 1 + k - o = k + 1 from by omega]; rfl
   ·rw [if_neg h2,if_neg (by omega),qYo (by omega)]
def stored (cur : Array Value) (o : Nat) (vs : List Value) : Array Value:=(cur.toList.take o ++ vs ++ cur.toList.drop (o + vs.length)).toArray
theorem uW {cur : Array Value} {o : Nat} {vs : List Value} (h : o + vs.length ≤ cur.size) (i : Nat) : (stored cur o vs).toList[i]? = if o ≤ i ∧ i < o + vs.length then vs[i - o]? else cur.toList[i]?:=by
 have hl : (cur.toList.take o).length = o:=by rw [qZc,qZ3]; omega
 show (cur.toList.take o ++ vs ++ cur.toList.drop (o + vs.length))[i]? = _
 by_cases h1 : i < o
 ·rw [if_neg (by omega),qZ4,qQu (by omega),qZk,if_pos h1]
 ·by_cases h2 : i < o + vs.length
  ·rw [if_pos ⟨by omega,h2⟩,qZ4,qQx (by omega),qQu (by omega),hl]
  ·rw [if_neg (by omega),qQx (by rw [qQ6]; omega),qQ6,hl,qZb]
   congr 1; omega
theorem yX {cur : Array Value} {o : Nat} {vs : List Value} (h : o + vs.length ≤ cur.size) : (stored cur o vs).size = cur.size:=by
 show (cur.toList.take o ++ vs ++ cur.toList.drop (o + vs.length)).length = _
 rw [qQ6,qQ6,qZc,qZl,qZ3]; omega
theorem Ek {cur : Array Value} {o : Nat} {vs : List Value} (h : o + vs.length ≤ cur.size) : (stored cur o vs).toList = gY cur.toList o vs:=by
 apply qZm
 intro i
 rw [uW h,yV _ _ _ _ (by rw [qZ3]; exact h)]
section
variable {P : Program} {X : Ctx} {own0 : Nat → Option Nat} {w0 : World} {st : St} {a : Act} {w w' : World} {g g' : Gh} {R : Type}
theorem uN (hT : aX P X.T) {t : TypeId} (ht : (X.T.row t).d.known = true) {b o : Nat} {v : Value} {cur : Array Value} {e : TypeId} (hs : v.cells.size = X.T.size t) (hg : w.heap[b]? = some (.cells cur e (0,0))) (hl : o + v.cells.toList.length ≤ cur.size) (h1 : ∀ u ∈ v.cells.toList,u.oneCell' = true) :
  (Instr.storeAt t (.pointer (some ⟨b,o,none⟩)) v).run P w = .ok () (w.setRow b (stored cur o v.cells.toList)):=by
 have:=run_storeCells_at P b o e v.cells.toList 0 cur w hg (by omega) h1
 simp only [qQ5] at this
 simp [Instr.storeAt,Instr.sureAddr,storeVar,run_sizeOf hT ht,hs,this,stored]
theorem aw.yh (hm : Mem X st w g) : ∀ {xs : List Cl} {vs : List Value},aw X w st.rt g xs vs → ∀ u ∈ vs,u.oneCell' = true
 | [],[],_,u,hu=>by simp at hu
 | x :: xs,v :: vs,h,u,hu=>by
  rcases qQn.1 hu with rfl | hu
  ·exact h.1.one hm
  ·exact aw.yh hm h.2 u hu
 | [],_ :: _,h,_,_=>h.elim
 | _ :: _,[],h,_,_=>h.elim
theorem Rel.yP (h : Rel X own0 w0 st a w g) {r : Nat} {t : TypeId} {cs cs' : List Cl} (hr : st.rt[r]? = some (.box t cs)) {vs' : Array Value} (hc : aw X w st.rt g cs' vs'.toList) : Rel X own0 w0 (st.aG r (.box t cs')) a (w.setRow (g.b r) vs') g:=by
 obtain ⟨vs,h1,h2,h3⟩:=h.mem.rt r _ hr
 have av:=aA hr
 have gw : ∀ b,b ≠ g.b r → (w.setRow (g.b r) vs').heap[b]? = w.heap[b]?:=fun b hb=>setRow_other w _ b vs' hb
 have aR : (w.setRow (g.b r) vs').heap.size = w.heap.size:=setRow_size _ _ _
 have aW : ∀ b,g.own b = none → b ≠ g.b r:=by rintro b hb rfl; rw [h2] at hb; cases hb
 have nH : ∀ b s,¬ s = r → g.own b = some s → b ≠ g.b r:=by rintro b s hs hb rfl; rw [h2] at hb; exact hs (qQc hb).symm
 have hK : bN X (fun s=>s = r) (fun _=>False) w g st.rt (w.setRow (g.b r) vs') g (st.aG r (.box t cs')).rt:=by
  refine ⟨fun b hb=>⟨⟨hb.1,by rw [aR]; exact hb.2.1,hb.2.2⟩,gw b (aW b hb.1)⟩,fun b s hs hb=>⟨hb,gw b (nH b s hs hb)⟩,fun _ _ _=>rfl,fun s e d xs hs aB=>?_,fun s t' rR hb=>⟨rfl,?_⟩,fun _ hb=>hb.elim⟩
  ·rw [bu,if_neg (fun he=>hs he.symm)]; exact aB
  ·rw [bu]
   by_cases he : r = s
   ·subst he
    rw [hr] at hb; cases hb
    exact ⟨cs',by rw [if_pos rfl,if_pos av]⟩
   ·exact ⟨rR,by rw [if_neg he]; exact hb⟩
 have xg : ∀ s,dt st.rt s → ¬ s = r:=by rintro s ⟨e,d,xs,hs⟩ rfl; rw [hr] at hs; cases hs
 have aL : ∀ x : Cl,x.aV (fun s=>s = r) (fun _=>False) st.rt:=fun x=>by
  cases x <;> first | trivial | exact fun hs=>.inl (xg _ hs)
 have bI : ∀ x : SV,x.aV (fun s=>s = r) (fun _=>False) st.rt:=fun x=>by
  cases x with
  | c x=>exact aL x
  | ag xs=>exact fun y _=>aL y
  | po=>exact fun hs=>.inl (xg _ hs)
  | fn f az =>
   intro y _
   cases y with
   | c x=>exact aL x
   | _=>trivial
  | bf vs=>exact fun y _ z _=>aL z
  | _=>trivial
 have tJ : ∀ x : aa,x.aV (fun s=>s = r) (fun _=>False) st.rt:=fun x=>by
  cases x with
  | box t cs=>exact fun y _=>aL y
  | _=>trivial
 have hl : (st.aG r (.box t cs')).rt.length = st.rt.length:=by show (st.rt.set r _).length = _; rw [qQl]
 refine ⟨⟨fun i y hy=>?_,fun b hb=>by rw [aR]; exact h.mem.lt b hb,fun b s hb=>by rw [hl]; exact h.mem.ob b s hb,by rw [aR]; exact h.mem.n0,h.mem.np,by rw [hl]; exact h.mem.nl,h.mem.pm,h.mem.pv⟩,h.sz,fun i sv hi=>ay.keep h.mem hK (bI sv) (h.sl i sv hi),h.df,
  ⟨h.fr.os,h.fr.tape,h.fr.output,by rw [aR]; exact h.fr.size,fun b hb ho=>?_⟩⟩
 ·have nW:=hy
  rw [bu] at hy
  split at hy
  ·rename_i he; subst he
   obtain rfl:=qQc hy
   exact ⟨vs',setRow_heap w _ _ _ _ _ h1,h2,aw.keep h.mem hK (fun x _=>aL x) hc⟩
  ·rename_i he
   exact cm.keep h.mem hK hy (fun h=>he h.symm) (tJ y)
 ·obtain ⟨e1,e2⟩:=h.fr.block b hb ho
  exact ⟨e1,(gw b (aW b e1)).trans e2⟩
theorem qA {e : TypeId} {size n : Nat} {b q c : Nat} {cs : List Value} (ho : bA w e size (.slice (some ⟨b,q,none⟩) n c) n cs) {i o : Nat} {vs : List Value} (hi : i < n) (lJ : o + vs.length ≤ size) :
  ∃ cur cs',w.heap[b]? = some (.cells cur e (0,0)) ∧ (q + (i * size + o)) + vs.length ≤ cur.size ∧ bA (w.setRow b (stored cur (q + (i * size + o)) vs)) e size (.slice (some ⟨b,q,none⟩) n c) n cs' ∧
   ∀ k,k < n * size → cs'[k]? = if i * size + o ≤ k ∧ k < i * size + o + vs.length then vs[k - (i * size + o)]? else cs[k]?:=by
 obtain ⟨hlen,h⟩:=ho
 rcases h with ⟨_,h0⟩ | ⟨b',q',cap,cur,hv,hg,km,ki,bG,jH⟩
 ·omega
 ·cases hv
  have h1:=qYl size km
  have h2 : i * size + size ≤ n * size:=by
   have:=qYl size (qX6 hi)
   rwa [qZ7] at this
  have h3 : (q + (i * size + o)) + vs.length ≤ cur.size:=by omega
  refine ⟨cur,((stored cur (q + (i * size + o)) vs).toList.drop q).take (n * size),hg,h3,⟨?_,.inr ⟨b,q,c,stored cur (q + (i * size + o)) vs,rfl,setRow_heap w b cur _ e _ hg,km,ki,by rw [yX h3]; exact bG,rfl⟩⟩,fun k hk=>?_⟩
  ·rw [qZc,qZl,qZ3,yX h3]; omega
  ·rw [qZk,if_pos hk,qZb,uW h3]
   by_cases h4 : i * size + o ≤ k ∧ k < i * size + o + vs.length
   ·rw [if_pos h4,if_pos (by omega),show q + k - (q + (i * size + o)) = k - (i * size + o) from by omega]
   ·rw [if_neg h4,if_neg (by omega),← jH,qZk,if_pos hk,qZb]
theorem ua {i i' j' size o k : Nat} (hj : j' < size) (hk : o + k ≤ size) (h : i * size + o ≤ i' * size + j' ∧ i' * size + j' < i * size + o + k) : i' = i ∧ o ≤ j' ∧ j' < o + k:=by
 have h1 : i' = i:=by
  refine Nat.le_antisymm (Nat.le_of_not_lt fun av=>?_) (Nat.le_of_not_lt fun av=>?_)
  ·have:=qYl size (qX6 av)
   rw [qZ7] at this
   omega
  ·have:=qYl size (qX6 av)
   rw [qZ7] at this
   omega
 subst h1
 exact ⟨rfl,by omega,by omega⟩
theorem mw {ys : List (List U)} {i o : Nat} {us : List U} {i' : Nat} {x : List U} (h : (bY ys i o us)[i']? = some x) : (i' = i ∧ i < ys.length ∧ x = fR (ys.getD i []) o us) ∨ (i' ≠ i ∧ ys[i']? = some x):=by
 unfold bY at h
 rw [qQ9] at h
 by_cases he : i = i'
 ·subst he
  simp only [if_true] at h
  split at h
  ·rename_i hl; exact .inl ⟨rfl,hl,(qQc h).symm⟩
  ·cases h
 ·rw [if_neg he] at h
  exact .inr ⟨fun h=>he h.symm,h⟩
theorem ak.bY {Fp : Nat → Prop} {e : TypeId} {ys : List (List U)} {b q n c : Nat} (h : ak X.T.ct w Fp (.aj e) (.lst ys) (.slice (some ⟨b,q,none⟩) n c)) {i o : Nat} (hi : i < ys.length) {cls : List Cl} {vs : List Value} {us : List U} {rs : List Nat}
  (hs : fT X st w g true (((X.T.ct e).drop o).take cls.length) cls vs us rs) (gS : vs.length = cls.length) (h0 : cls.length ≠ 0) (hn : rs.Nodup) (jB : ∀ b,Fp b → ∀ s ∈ rs,g.own b ≠ some s) :
  ∃ cur,w.heap[b]? = some (.cells cur e (0,0)) ∧ Fp b ∧ (q + (i * X.T.size e + o)) + vs.length ≤ cur.size ∧
   ak X.T.ct (w.setRow b (stored cur (q + (i * X.T.size e + o)) vs)) (fun x=>Fp x ∨ ∃ s ∈ rs,g.own x = some s) (.aj e) (.lst (bY ys i o us)) (.slice (some ⟨b,q,none⟩) n c):=by
 cases h with
 | row _ _ _ _ cs V bp ho hg hV aR hh =>
  have ca : ys.length = n:=by
   obtain ⟨A,c',hv,_⟩:=fQ ho
   cases hv; rfl
  subst ca
  have hk : o + cls.length ≤ (X.T.ct e).length:=by
   have:=hs.l2
   rw [qZc,qZl] at this
   omega
  have nF : us.length = cls.length:=hs.l1.trans hs.l2.symm
  obtain ⟨cur,cs',sR,eK,bk,bD⟩:=qA (vs:=vs) (o:=o) ho hi (by rw [gS]; exact hk)
  obtain ⟨kh,xa⟩:=hg b (jP ho (qZ8 (qQt _) hi))
  refine ⟨cur,sR,kh,eK,?_⟩
  have hx:=fk (d:=[]) hi
  have aB : (ys.getD i []).length = (X.T.ct e).length:=aR i _ hx
  have km : ∀ x,Fp x → ¬ ∃ j,CF g cls j x:=by
   rintro x hF ⟨j,r,p,e',h1,h2⟩
   exact jB x hF r (hs.mem j r p e' h1) h2
  classical
  let lQ : Nat → Option (Nat × Nat):=fun x=>if hx : ∃ j,CF g cls j x then some (i,o + Classical.choose hx) else bp x
  have xM : ∀ x,Fp x → lQ x = bp x:=fun x hF=>dif_neg (km x hF)
  have lab2 : ∀ x j,CF g cls j x → lQ x = some (i,o + j):=by
   intro x j hj
   have hex : ∃ j,CF g cls j x:=⟨j,hj⟩
   show (if hx : ∃ j,CF g cls j x then some (i,o + Classical.choose hx) else bp x) = _
   rw [dif_pos hex]
   have h2:=Classical.choose_spec hex
   generalize Classical.choose hex = j2 at h2
   obtain ⟨r,p,e',h3,h4⟩:=hj
   obtain ⟨r',p',e2,h5,h6⟩:=h2
   obtain rfl : r = r':=by rw [h4] at h6; exact qQc h6
   rw [hs.kO hn j j2 r p e' p' e2 h3 h5]
  have aW : ∀ x,x ≠ b → (w.setRow b (stored cur (q + (i * X.T.size e + o)) vs)).heap[x]? = w.heap[x]?:=fun x hx=>setRow_other w b x _ hx
  have ot : ∀ (i' j' : Nat) (y : List U) (u : U) (ct : CT),ys[i']? = some y → y[j']? = some u → (X.T.ct e)[j']? = some ct → ak X.T.ct (w.setRow b (stored cur (q + (i * X.T.size e + o)) vs)) (fun x=>(Fp x ∨ ∃ s ∈ rs,g.own x = some s) ∧ lQ x = some (i',j')) ct u (V i' j'):=by
   intro i' j' y u ct hy hu ai
   refine (hh i' j' y u ct hy hu ai).imp fun x hx=>⟨⟨.inl hx.1,by rw [xM x hx.1]; exact hx.2⟩,aW x ?_⟩
   rintro rfl
   rw [xa] at hx; cases hx.2
  refine .row _ e _ _ cs' (fun i' j'=>if i' = i ∧ o ≤ j' ∧ j' < o + cls.length then (vs[j' - o]?).getD undef else V i' j') lQ (by show _ = _ ∧ _; rw [Eng.bY,qQl]; exact bk) (fun b' au=>?_) (fun i' j' y hy hj=>?_) (fun i' y hy=>?_) (fun i' j' y u ct hy hu ai=>?_)
  ·obtain rfl:=fP au
   exact ⟨.inl kh,by rw [xM b kh]; exact xa⟩
  ·have dw : i' < ys.length:=by
    have:=aA hy
    rwa [Eng.bY,qQl] at this
   have iJ : y.length = (X.T.ct e).length:=by
    rcases mw hy with ⟨_,_,rfl⟩ | ⟨_,cy⟩
    ·rw [oD]; exact aB
    ·exact aR i' y cy
   have fH : j' < X.T.size e:=by rw [iJ] at hj; exact hj
   have kk:=iP dw fH
   have h1:=bD (i' * X.T.size e + j') kk
   rw [gS,show (X.T.ct e).length = X.T.size e from rfl] at h1
   rw [show (X.T.ct e).length = X.T.size e from rfl,h1]
   by_cases bH : i' = i ∧ o ≤ j' ∧ j' < o + cls.length
   ·obtain ⟨rfl,h2,h3⟩:=bH
    rw [if_pos (by omega),if_pos ⟨rfl,h2,h3⟩,show i' * X.T.size e + j' - (i' * X.T.size e + o) = j' - o from by omega,qQg (by omega)]
    rfl
   ·rw [if_neg (fun hc=>bH (ua (k:=cls.length) fH hk hc)),if_neg bH]
    exact hV i' j' _ (fk (d:=[]) dw) (by rw [aR i' _ (fk (d:=[]) dw)]; exact fH)
  ·rcases mw hy with ⟨_,_,rfl⟩ | ⟨_,cy⟩
   ·rw [oD]; exact aB
   ·exact aR i' y cy
  ·rcases mw hy with ⟨rfl,_,rfl⟩ | ⟨nH,cy⟩
   ·rw [uV _ _ _ _ (by rw [nF,aB]; exact hk),nF] at hu
    by_cases bH : o ≤ j' ∧ j' < o + cls.length
    ·rw [if_pos bH] at hu
     rw [if_pos ⟨rfl,bH.1,bH.2⟩]
     have hv : vs[j' - o]? = some ((vs[j' - o]?).getD undef):=by
      rw [qQg (by omega)]; rfl
     have sK : (((X.T.ct e).drop o).take cls.length)[j' - o]? = some ct:=by
      rw [qZk,if_pos (by omega),qZb,show o + (j' - o) = j' from by omega]; exact ai
     refine (hs.own rfl (j' - o) u ct _ hu sK hv).imp fun x hx=>?_
     have cg:=hx
     obtain ⟨r,p,e',h3,h4⟩:=hx
     have lM:=hs.mem _ r p e' h3
     refine ⟨⟨.inr ⟨r,lM,h4⟩,by rw [lab2 x _ cg,show o + (j' - o) = j' from by omega]⟩,aW x ?_⟩
     rintro rfl
     exact jB _ kh r lM h4
    ·rw [if_neg bH] at hu
     rw [if_neg (fun hc=>bH hc.2)]
     exact ot i' j' _ u ct hx hu ai
   ·rw [if_neg (fun hc=>nH hc.1)]
    exact ot i' j' y u ct cy hu ai
theorem aZ.bY {Fp ok : Nat → Prop} {e : TypeId} {ys : List (List U)} {b q n c : Nat} (h : aZ X.T.ct w Fp ok e ys (.slice (some ⟨b,q,none⟩) n c)) {i o : Nat} (hi : i < ys.length) {cls : List Cl} {vs : List Value} {us : List U} {rs : List Nat}
  (hs : fT X st w g false (((X.T.ct e).drop o).take cls.length) cls vs us rs) (gS : vs.length = cls.length) (h0 : cls.length ≠ 0) (bn : ∀ x,ok x → x ≠ b) (xh : ∀ x,aq X w g x → ok x) :
  ∃ cur,w.heap[b]? = some (.cells cur e (0,0)) ∧ Fp b ∧ (q + (i * X.T.size e + o)) + vs.length ≤ cur.size ∧
   aZ X.T.ct (w.setRow b (stored cur (q + (i * X.T.size e + o)) vs)) Fp ok e (bY ys i o us) (.slice (some ⟨b,q,none⟩) n c):=by
 obtain ⟨cs,V,ho,hg,hV,aR,hh⟩:=h.ex
 have ca : ys.length = n:=by
  obtain ⟨A,c',hv,_⟩:=fQ ho
  cases hv; rfl
 subst ca
 have hk : o + cls.length ≤ (X.T.ct e).length:=by
  have:=hs.l2
  rw [qZc,qZl] at this
  omega
 have nF : us.length = cls.length:=hs.l1.trans hs.l2.symm
 obtain ⟨cur,cs',sR,eK,bk,bD⟩:=qA (vs:=vs) (o:=o) ho hi (by rw [gS]; exact hk)
 have kh:=hg b (jP ho (qZ8 (qQt _) hi))
 refine ⟨cur,sR,kh,eK,?_⟩
 have hx:=fk (d:=[]) hi
 have aB : (ys.getD i []).length = (X.T.ct e).length:=aR i _ hx
 have aW : ∀ x,x ≠ b → (w.setRow b (stored cur (q + (i * X.T.size e + o)) vs)).heap[x]? = w.heap[x]?:=fun x hx=>setRow_other w b x _ hx
 have ot : ∀ (i' j' : Nat) (y : List U) (u : U) (ct : CT),ys[i']? = some y → y[j']? = some u → (X.T.ct e)[j']? = some ct → aE X.T.ct (w.setRow b (stored cur (q + (i * X.T.size e + o)) vs)) ok ct u (V i' j') :=
  fun i' j' y u ct hy hu ai=>(hh i' j' y u ct hy hu ai).imp fun x hx=>⟨hx,aW x (bn x hx)⟩
 refine ⟨cs',fun i' j'=>if i' = i ∧ o ≤ j' ∧ j' < o + cls.length then (vs[j' - o]?).getD undef else V i' j',(by show _ = _ ∧ _; rw [Eng.bY,qQl]; exact bk),(fun b' au=>?_),(fun i' j' y hy hj=>?_),(fun i' y hy=>?_),(fun i' j' y u ct hy hu ai=>?_)⟩
 ·obtain rfl:=fP au
  exact kh
 ·dsimp only
  have dw : i' < ys.length:=by
   have:=aA hy
   rwa [Eng.bY,qQl] at this
  have iJ : y.length = (X.T.ct e).length:=by
   rcases mw hy with ⟨_,_,rfl⟩ | ⟨_,cy⟩
   ·rw [oD]; exact aB
   ·exact aR i' y cy
  have fH : j' < X.T.size e:=by rw [iJ] at hj; exact hj
  have kk:=iP dw fH
  have h1:=bD (i' * X.T.size e + j') kk
  rw [gS,show (X.T.ct e).length = X.T.size e from rfl] at h1
  rw [show (X.T.ct e).length = X.T.size e from rfl,h1]
  by_cases bH : i' = i ∧ o ≤ j' ∧ j' < o + cls.length
  ·obtain ⟨rfl,h2,h3⟩:=bH
   rw [if_pos (by omega),if_pos ⟨rfl,h2,h3⟩,show i' * X.T.size e + j' - (i' * X.T.size e + o) = j' - o from by omega,qQg (by omega)]
   rfl
  ·rw [if_neg (fun hc=>bH (ua (k:=cls.length) fH hk hc)),if_neg bH]
   exact hV i' j' _ (fk (d:=[]) dw) (by rw [aR i' _ (fk (d:=[]) dw)]; exact fH)
 ·rcases mw hy with ⟨_,_,rfl⟩ | ⟨_,cy⟩
  ·rw [oD]; exact aB
  ·exact aR i' y cy
 ·dsimp only
  rcases mw hy with ⟨rfl,_,rfl⟩ | ⟨nH,cy⟩
  ·rw [uV _ _ _ _ (by rw [nF,aB]; exact hk),nF] at hu
   by_cases bH : o ≤ j' ∧ j' < o + cls.length
   ·rw [if_pos bH] at hu
    rw [if_pos ⟨rfl,bH.1,bH.2⟩]
    have hv : vs[j' - o]? = some ((vs[j' - o]?).getD undef):=by
     rw [qQg (by omega)]; rfl
    have sK : (((X.T.ct e).drop o).take cls.length)[j' - o]? = some ct:=by
     rw [qZk,if_pos (by omega),qZb,show o + (j' - o) = j' from by omega]; exact ai
    exact (hs.rd rfl (j' - o) u ct _ hu sK hv).imp fun x hx=>⟨xh x hx,aW x (bn x (xh x hx))⟩
   ·rw [if_neg bH] at hu
    rw [if_neg (fun hc=>bH hc.2)]
    exact ot i' j' _ u ct hx hu ai
  ·rw [if_neg (fun hc=>nH hc.1)]
   exact ot i' j' y u ct cy hu ai
theorem ak.setCell {T : bl} {w : World} {F : Nat → Prop} {e : TypeId} {ys : List (List U)} {b q n c i o : Nat} {x : List U} {u1 : U} {cF : CT} {v1 : Value} (h : ak T w F (.aj e) (.lst ys) (.slice (some ⟨b,q,none⟩) n c)) (hx : ys[i]? = some x) (hu : x[o]? = some u1) (ai : (T e)[o]? = some cF)
  (hc : w.cell? ⟨b,q + (i * (T e).length + o),none⟩ = some v1) : ∃ (cur : Array Value) (Fo : Nat → Prop),w.heap[b]? = some (.cells cur e (0,0)) ∧ F b ∧ ¬ Fo b ∧ q + (i * (T e).length + o) + 1 ≤ cur.size ∧ (∀ b',Fo b' → F b') ∧ ak T w Fo cF u1 v1 ∧
   ∀ (w' : World) (N : Nat → Prop) (u' : U) (v' : Value),(∀ b',F b' → ¬ Fo b' → b' ≠ b → w'.heap[b']? = w.heap[b']?) → w'.heap[b]? = some (.cells (stored cur (q + (i * (T e).length + o)) [v']) e (0,0)) → ak T w' N cF u' v' → (∀ b',N b' → Fo b' ∨ ¬ F b') →
    ak T w' (fun b'=>(F b' ∧ ¬ Fo b') ∨ N b') (.aj e) (.lst (ys.set i (x.set o u'))) (.slice (some ⟨b,q,none⟩) n c):=by
 cases h with
 | row _ _ _ _ cs V bp ho hg hV aR hh =>
  have ca : ys.length = n:=by
   obtain ⟨A,c',hv,_⟩:=fQ ho
   cases hv; rfl
  subst ca
  have hi:=aA hx
  have ER : o < (T e).length:=aA ai
  obtain ⟨gF,gl⟩:=hg b (jP ho (qZ8 (qQt _) hi))
  have db:=gW ho (hV i o x hx (aA hu))
  obtain rfl:=qQc (db.symm.trans hc)
  obtain ⟨cur,cs0,k1,k2,-,-⟩:=qA (vs:=[undef]) (o:=o) ho hi (by simp; omega)
  refine ⟨cur,fun b'=>F b' ∧ bp b' = some (i,o),k1,gF,fun hb=>(by have:=hb.2; rw [gl] at this; cases this),by simpa using k2,fun b' hb=>hb.1,hh i o x u1 cF hx hu ai,fun w' N u' v' hw hb hr hN=>?_⟩
  obtain ⟨Ad,cs',k3,k4,k5,k6⟩:=qA (vs:=[v']) (o:=o) ho hi (by simp; omega)
  obtain rfl : cur = Ad:=by rw [k1] at k3; cases k3; rfl
  have bk : bA w' e (T e).length (.slice (some ⟨b,q,none⟩) ys.length c) ys.length cs':=by
   refine mc k5 fun g' dv=>?_
   obtain rfl:=fP dv
   rw [hb]
   exact (setRow_heap w b cur _ e _ k1).symm
  have AO : ¬ N b:=fun hn=>(hN b hn).elim (fun hb=>by have:=hb.2; rw [gl] at this; cases this) fun iC=>iC gF
  classical
  refine .row _ e _ _ cs' (fun i' j'=>if i' = i ∧ j' = o then v' else V i' j') (fun b'=>if N b' then some (i,o) else bp b') (by rw [qQl]; exact bk) (fun g' dv=>?_) (fun i' j' y hy hj=>?_) (fun i' y hy=>?_) (fun i' j' y u2 jo hy dO nq=>?_)
  ·obtain rfl:=fP dv
   exact ⟨.inl ⟨gF,fun hb=>by have:=hb.2; rw [gl] at this; cases this⟩,by rw [if_neg AO]; exact gl⟩
  ·have iJ : i' < ys.length ∧ y.length = (T e).length:=by
    rw [qQ9] at hy
    split at hy
    ·rename_i he; subst he
     obtain rfl:=qQc hy
     exact ⟨hi,by rw [qQl]; exact aR i x hx⟩
    ·exact ⟨aA hy,aR i' y hy⟩
   obtain ⟨dw,iJ⟩:=iJ
   rw [iJ] at hj
   have kk:=iP dw hj
   have h1:=k6 (i' * (T e).length + j') kk
   rw [h1]
   simp only [qZq,qXo]
   by_cases bH : i' = i ∧ j' = o
   ·obtain ⟨rfl,rfl⟩:=bH
    rw [if_pos (by omega),if_pos ⟨rfl,rfl⟩,qZn]; rfl
   ·rw [if_neg (fun EM=>bH (by have:=ua (k:=1) (i:=i) (i':=i') (o:=o) hj (by omega) (by omega); omega)),if_neg bH]
    have cy:=qQg dw
    exact hV i' j' _ cy (by rw [aR i' _ cy]; exact hj)
  ·rw [qQ9] at hy
   split at hy
   ·rename_i he; subst he
    obtain rfl:=qQc hy
    rw [qQl]; exact aR i x hx
   ·exact aR i' y hy
  ·have other : ∀ (y : List U) (u2 : U),ys[i']? = some y → y[j']? = some u2 → ¬ (i' = i ∧ j' = o) → ak T w' (fun b=>((F b ∧ ¬ (F b ∧ bp b = some (i,o))) ∨ N b) ∧ (if N b then some (i,o) else bp b) = some (i',j')) jo u2 (if i' = i ∧ j' = o then v' else V i' j'):=by
    intro y u2 hy dO aW
    rw [if_neg aW]
    refine (hh i' j' y u2 jo hy dO nq).imp fun b' au=>?_
    have aO : ¬ (F b' ∧ bp b' = some (i,o)):=fun hp=>by rw [au.2] at hp; exact aW (by have:=qQc hp.2; exact ⟨(qQv this).1,(qQv this).2⟩)
    have ti : ¬ N b':=fun hn=>(hN b' hn).elim aO fun iC=>iC au.1
    refine ⟨⟨.inl ⟨au.1,aO⟩,by rw [if_neg ti]; exact au.2⟩,hw b' au.1 aO ?_⟩
    rintro rfl
    have:=au.2
    rw [gl] at this; cases this
   rw [qQ9] at hy
   split at hy
   ·rename_i he; subst he
    obtain rfl:=qQc hy
    rw [qQ9] at dO
    split at dO
    ·rename_i kj; subst kj
     split at dO
     ·obtain rfl:=qQc dO
      obtain rfl:=qQc (ai.symm.trans nq)
      rw [if_pos ⟨rfl,rfl⟩]
      refine hr.mono fun b' au=>⟨.inr au,by rw [if_pos au]⟩
     ·cases dO
    ·rename_i kj
     exact other x u2 hx dO fun fa=>kj fa.2.symm
   ·rename_i he
    exact other y u2 hy dO fun fa=>he fa.1.symm
def Gh.merge (g : Gh) (r : Nat) (rs : List Nat) : Gh:=⟨fun x=>match g.own x with | some s=>if s ∈ rs then some r else some s | none=>none,g.v,g.b⟩
theorem Gh.lU {x r : Nat} {rs : List Nat} : (g.merge r rs).own x = none ↔ g.own x = none:=by
 show (match g.own x with | some s=>if s ∈ rs then some r else some s | none=>none) = none ↔ _
 cases g.own x with
 | none=>simp
 | some s=>by_cases hs : s ∈ rs <;> simp [hs]
theorem Gh.kF {x r s : Nat} {rs : List Nat} (h : g.own x = some s) : (g.merge r rs).own x = if s ∈ rs then some r else some s:=by
 show (match g.own x with | some s=>if s ∈ rs then some r else some s | none=>none) = _
 rw [h]
theorem yO (v : Bool) : ∀ (bs : List Bool) (o k : Nat),k ≤ o → iY v o bs k = (bs.map Cl.bool).set (o - k) (.bool v)
 | [],o,k,h=>by simp [iY]
 | b :: bs,o,k,h=>by
  unfold iY
  by_cases hk : k = o
  ·subst hk
   have e : ∀ (bs : List Bool) (j : Nat),k < j → iY v k bs j = bs.map Cl.bool:=by
    intro bs
    induction bs with
    | nil=>intro j _; rfl
    | cons c bs ih=>intro j hj; unfold iY; rw [ih (j + 1) (by omega),qQm (by omega)]; rfl
   rw [e bs (k + 1) (by omega),qQa rfl,qZn]; rfl
  ·rw [yO v bs o (k + 1) (by omega),qQm hk,show o - k = (o - (k + 1)) + 1 from by omega]; rfl
theorem zK {T : ax} {t' t : TypeId} {cO cs : List Cl} {bs : List Bool} {v : Bool} {o : Nat} (h : rF T t' t cO cs = some (bs,v)) (ho : o < bs.length) : o + cs.length ≤ cO.length ∧ gB cO o cs = iY v o bs 0:=by
 unfold rF at h
 split at h
 ·rename_i EB v' h1
  cases h
  have h2 : cO = bs.map .bool:=by
   unfold hY at h1
   split at h1
   ·exact mS h1
   ·cases h1
  subst h2
  refine ⟨by simp; omega,?_⟩
  rw [yO v bs o 0 (qQt _)]; rfl
 ·cases h
theorem yW (hT : aX P X.T) (h : Rel X own0 w0 st a w g) {o : Oper} {t : TypeId} {x y : Operand} (ho : o.op = .store t x y) {K : St → Option R} {r : R} (hq : dV X.T st t (ev st x) (ev st y) o.dst K = some r) :
  ∃ ae,K ae = some r ∧ bg P X own0 w0 o a w ae:=by
 have hx:=ba h x
 have hy:=ba h y
 unfold dV at hq
 split at hq
 ·rename_i cs bG
  have hc:=pk h hy bG
  have aL:=hc.length
  split at hq
  ·rename_i hh
   obtain ⟨aR,ht,cx⟩:=hh
   have gS : (a.eval y).cells.size = X.T.size t:=by rw [← qZ3,← aL]; exact aR
   have xi:=hc.yh h.mem
   generalize ev st x = sx at *
   split at hq
   ·rename_i r0 o0
    split at hq
    ·rename_i t' cO hr
     have hq : (if o0 + cs.length ≤ cO.length then K ((st.aG r0 (.box t' (gB cO o0 cs))).put o.dst .no) else none) = some r:=by
      split at hq
      ·rename_i bs v hb
       cases hz : decide (o0 < bs.length) with
       | false=>rw [hz] at hq; cases hq
       | true =>
        rw [hz] at hq
        obtain ⟨q1,q2⟩:=zK hb (qZu hz)
        rw [if_pos q1,q2]; exact hq
      ·exact hq
     split at hq
     ·rename_i hl
      refine ⟨_,hq,?_⟩
      obtain ⟨vs,h1,h2,h3⟩:=h.mem.rt r0 _ hr
      have AI:=h3.length
      have hle : o0 + (a.eval y).cells.toList.length ≤ vs.size:=by
       have q1 : vs.toList.length = vs.size:=qZ3
       rw [← q1,← AI,← aL]; exact hl
      obtain ⟨he,_⟩:=hx
      have hb:=h.yP hr (cs':=gB cO o0 cs) (vs':=stored vs o0 (a.eval y).cells.toList) (by rw [Ek hle]; exact h3.fR o0 hc)
      refine bg.skip (w':=w.setRow (g.b r0) (stored vs o0 (a.eval y).cells.toList)) ?_ (hb.put o.dst (sv:=.no) (v:=undef) trivial)
      have:=uN hT ht gS h1 hle xi
      simp [execOp,ho,he,this]
     ·cases hq
    ·cases hq
   ·rename_i r0 p e i o0
    split at hq
    ·rename_i e0 deep xs hr
     split at hq
     ·rename_i us rs dB
      split at hq
      ·rename_i hh
       obtain ⟨lE,sL⟩:=hh
       refine ⟨_,hq,?_⟩
       have BK:=lV lE
       have di:=qYd.1 BK
       have hs:=jr h.mem dB hc
       obtain ⟨im,d',cd,b,q,n,c,h1,h2,h3,h4,h5⟩:=hx
       obtain ⟨rfl,rfl,rfl⟩ : e0 = im ∧ deep = d' ∧ xs = cd:=by rw [hr] at h1; cases h1; exact ⟨rfl,rfl,rfl⟩
       have bt:=h.mem.rt r0 _ hr
       have gP : ∀ s ∈ rs,dt st.rt s:=fun s aM=>by obtain ⟨⟨e',ys,hh⟩,_⟩:=hs.row s aM; exact ⟨e',true,ys,hh⟩
       have nG : cK rs = true:=uq di.2
       have ee : (a.eval y).cells.toList.length = cs.length:=aL.symm
       have jz : cs.length ≠ 0:=by rw [aR]; exact cx
       
       have key : ∃ cur,w.heap[b]? = some (.cells cur e (0,0)) ∧ g.own b = some r0 ∧ (q + (i * X.T.size e + o0)) + (a.eval y).cells.toList.length ≤ cur.size ∧
         ∀ rt',cm X (w.setRow b (stored cur (q + (i * X.T.size e + o0)) (a.eval y).cells.toList)) rt' (g.merge r0 rs) r0 (.row e0 deep (cD xs p (bY (bc xs p) i o0 us))):=by
        cases deep with
        | true =>
         have bt : ak _ _ _ _ _ _:=bt
         obtain ⟨Fp,f1,f2,f3⟩:=ak.focus h3 bt
         obtain ⟨cur,k1,k2,k3,k4⟩:=ak.bY f2 h4 hs ee jz di.2 fun b' au s aM aY=>by
          have:=f1 b' au
          rw [this] at aY
          obtain rfl:=qQc aY
          exact di.1 aM
         refine ⟨cur,k1,f1 b k2,k3,fun rt'=>?_⟩
         have k5:=f3 _ _ _ (fun e' aY=>by obtain rfl:=CT.aj.inj aY; exact k4) ⟨e,rfl⟩ (fun b' au ca=>setRow_other w b b' _ (by rintro rfl; exact ca k2)) (fun b' au=>by
          rcases au with au | ⟨s,aM,aY⟩
          ·exact .inl au
          ·right; intro hf; rw [hf] at aY; obtain rfl:=qQc aY; exact di.1 aM)
         have e1 : (if p = [] then (.lst (bY (bc xs p) i o0 us) : U) else .lst (cD (U.lst xs).bB p (bY (bc xs p) i o0 us))) = .lst (cD xs p (bY (bc xs p) i o0 us)):=by
          split
          ·rename_i hp; subst hp; rfl
          ·rfl
         rw [e1] at k5
         show ak _ _ _ _ _ (g.v r0)
         refine k5.mono fun b' au=>?_
         rcases au with au | au | ⟨s,aM,aY⟩
         ·rw [Gh.kF au,if_neg di.1]
         ·rw [Gh.kF (f1 b' au),if_neg di.1]
         ·rw [Gh.kF aY,if_pos aM]
        | false =>
         obtain rfl : p = []:=by simpa using h2
         have bt : aZ _ _ _ _ _ _ _:=bt
         obtain ⟨q1,-,q3⟩:=h3.bX
         obtain rfl:=CT.aj.inj q1
         rw [← q3] at bt
         obtain ⟨cur,k1,k2,k3,k4⟩:=aZ.bY bt h4 hs ee jz (fun x cg=>by
          rintro rfl
          obtain ⟨rR,V2,lG,lp,_⟩:=bt.ex
          have:=lp x (jP lG (qZ8 (qQt _) h4))
          have h9:=cg.1
          rw [this] at h9; cases h9) (fun x cg=>cg)
         refine ⟨cur,k1,k2,k3,fun rt'=>?_⟩
         show aZ _ _ _ _ _ _ (g.v r0)
         rw [← q3]
         refine k4.imp (fun b' au=>⟨by rw [Gh.kF au,if_neg di.1],rfl⟩) (fun b' au=>⟨⟨Gh.lU.2 au.1,by rw [setRow_size]; exact au.2.1,au.2.2⟩,rfl⟩)
       obtain ⟨cur,k1,k2,k3,k4⟩:=key
       have h6:=h.consume rs gP nG
       have iF : (st.consume rs).rt[r0]? = some (.row e0 deep xs):=(rQ rs di.1).2 hr
       have gw : ∀ b',b' ≠ b → (w.setRow b (stored cur (q + (i * X.T.size e + o0)) (a.eval y).cells.toList)).heap[b']? = w.heap[b']?:=fun b' au=>setRow_other w b b' _ au
       have tc:=aA iF
       have hK : bN X (fun s=>s = r0 ∨ s ∈ rs) (fun s=>s = r0 ∧ true = true) w g ((st.consume rs).ah r0 true).rt (w.setRow b (stored cur (q + (i * X.T.size e + o0)) (a.eval y).cells.toList)) (g.merge r0 rs)
         (((st.consume rs).ah r0 true).aG r0 (.row e0 deep (cD xs p (bY (bc xs p) i o0 us)))).rt:=by
        refine ⟨fun b' au=>⟨⟨Gh.lU.2 au.1,by rw [setRow_size]; exact au.2.1,au.2.2⟩,gw b' (by rintro rfl; have:=au.1; rw [k2] at this; cases this)⟩,fun b' s aM au=>?_,fun _ _ _=>rfl,fun s e' d' ys aM aB=>?_,fun s t' cs' au=>⟨rfl,?_⟩,fun s aM=>⟨rfl,fun e' d' ys aB=>?_⟩⟩
        ·simp only [not_or] at aM
         exact ⟨by rw [Gh.kF au,if_neg aM.2],gw b' (by rintro rfl; rw [k2] at au; exact aM.1 (qQc au).symm)⟩
        ·simp only [not_or] at aM
         rw [bu,if_neg (fun he=>aM.1 he.symm)]; exact aB
        ·refine ⟨cs',?_⟩
         rw [bu,if_neg]
         ·exact au
         ·rintro rfl
          rw [cz,iF] at au; cases au
        ·obtain ⟨rfl,-⟩:=aM
         rw [cz,iF] at aB
         cases aB
         refine ⟨deep,cD xs p (bY (bc xs p) i o0 us),?_,?_⟩
         ·rw [bu,if_pos rfl,if_pos (by show s < ((st.consume rs).rt.map _).length; rw [qQk]; exact tc)]
         ·cases p with
          | nil=>exact qQl
          | cons a p=>obtain ⟨i',o'⟩:=a; rw [uQ,qQl]
       have h7:=h6.change r0 true (Q:=fun s=>s ∈ rs) (sn (pw rs (St.eV st))) (fun s z aM _ hz=>by rw [mW rs gP nG aM] at hz; exact (qQc hz).symm) (.row e0 deep (cD xs p (bY (bc xs p) i o0 us)))
        hK (k4 _) (fun b' au=>by rw [setRow_size]; exact h.mem.lt b' fun hn=>au (Gh.lU.2 hn)) (fun b' s au=>by
         rw [il]
         cases cg : g.own b' with
         | none=>rw [Gh.lU.2 cg] at au; cases au
         | some s' =>
          rw [Gh.kF cg] at au
          split at au
          ·cases au; rw [← il rs st]; exact tc
          ·cases au; exact h.mem.ob b' _ cg) (by rw [setRow_size]; exact qQb _) (fun b' s au=>by
         cases cg : g.own b' with
         | none=>rw [Gh.lU.2 cg] at au; cases au
         | some s' =>
          rw [Gh.kF cg] at au
          have h8:=h.mem.pm b' s' cg
          split at au
          ·rename_i hm
           have:=(hs.row s' hm).2
           rw [h.mem.np] at this
           exact .inl (h8.resolve_right fun hh=>by omega)
          ·cases au; exact h8) h.mem.pv
        ⟨h.fr.os,h.fr.tape,h.fr.output,by rw [setRow_size]; exact h.fr.size,fun b' au bk=>by
         obtain ⟨e1,e2⟩:=h.fr.block b' au bk
         exact ⟨Gh.lU.2 e1,(gw b' (by rintro rfl; rw [k2] at e1; cases e1)).trans e2⟩⟩
       refine bg.skip (w':=w.setRow b (stored cur (q + (i * X.T.size e + o0)) (a.eval y).cells.toList)) ?_ (h7.put o.dst (sv:=.no) (v:=undef) trivial)
       have:=uN hT ht gS k1 k3 xi
       simp [execOp,ho,h5,this]
      ·cases hq
     ·cases hq
    ·cases hq
   ·cases hq
  ·cases hq
 ·cases hq
end
section
variable {P : Program} {X : Ctx} {own0 : Nat → Option Nat} {w0 : World} {st : St} {a : Act} {w w' : World} {g g' : Gh} {R : Type}
structure vh (P : Program) (w : World) (t ty e : TypeId) (size : Nat) (v x v' : Value) (w' : World) (cs news : List Value) (n m : Nat) : Prop where
 run : (Builtin.append_ #[t,t] ty #[v,x]).run P w = .ok v' w'
 own : bA w' e size v' (n + m) (cs ++ news)
 grown : w.grownBy w' (oB v)
 mR : oB v' = oB v ∨ oB v' = some w.heap.size
 cO : bA w' e size v n cs
def Gh.grow (g : Gh) (r : Nat) (rs : List Nat) (b : Nat) (v' : Value) : Gh :=
 ⟨fun x=>if x = b then (if oB v' = some b then some r else none) else match g.own x with | some s=>if s ∈ rs then some r else some s | none=>none,fun s=>if s = r then v' else g.v s,g.b⟩
theorem Gh.wF {r b x : Nat} {rs : List Nat} {v' : Value} (hx : x ≠ b) (h : g.own x = none) : (g.grow r rs b v').own x = none:=by
 show (if x = b then _ else _) = _
 rw [if_neg hx,h]
theorem Gh.nc {r b x s : Nat} {rs : List Nat} {v' : Value} (hx : x ≠ b) (h : g.own x = some s) : (g.grow r rs b v').own x = if s ∈ rs then some r else some s:=by
 show (if x = b then _ else _) = _
 rw [if_neg hx,h]
theorem Rel.oY (h : Rel X own0 w0 st a w g) {r : Nat} {e : TypeId} {deep : Bool} {xs ys : List (List U)} (hr : st.rt[r]? = some (.row e deep xs)) (aO : st.np ≤ r) {rs : List Nat} (gQ : ∀ s ∈ rs,dt st.rt s ∧ st.np ≤ s) (hn : cK (r :: rs) = true)
  {t ty : TypeId} {x : Value} {news : List Value} {V2 : Nat → Nat → Value} {lab2 : Nat → Option (Nat × Nat)} (nQ : ∀ (i : Nat) y,ys[i]? = some y → y.length = (X.T.ct e).length) (lg : ∀ (i j : Nat) (y : List U),ys[i]? = some y → j < y.length → news[i * X.T.size e + j]? = some (V2 i j))
  (Bj : deep = true → ∀ (i j : Nat) (y : List U) (u : U) (ct : CT),ys[i]? = some y → y[j]? = some u → (X.T.ct e)[j]? = some ct → ak X.T.ct w (fun b=>(∃ s ∈ rs,g.own b = some s) ∧ lab2 b = some (i,j)) ct u (V2 i j))
  (dN : deep = false → ∀ (i j : Nat) (y : List U) (u : U) (ct : CT),ys[i]? = some y → y[j]? = some u → (X.T.ct e)[j]? = some ct → aE X.T.ct w (aq X w g) ct u (V2 i j))
  (iG : ∀ cs,bA w e (X.T.size e) (g.v r) xs.length cs → ∃ v' w',vh P w t ty e (X.T.size e) (g.v r) x v' w' cs news xs.length ys.length) :
  ∃ v' w' g',(Builtin.append_ #[t,t] ty #[g.v r,x]).run P w = .ok v' w' ∧ Rel X own0 w0 (((st.consume rs).ah r false).aG r (.row e deep (xs ++ ys))) a w' g' ∧ g'.v r = v':=by
 have ca:=lV hn
 have di:=qYd.1 ca
 have gP : ∀ s ∈ rs,dt st.rt s:=fun s hs=>(gQ s hs).1
 have nG : cK rs = true:=uq di.2
 have h6:=h.consume rs gP nG
 have iF : (st.consume rs).rt[r]? = some (.row e deep xs):=(rQ rs di.1).2 hr
 have tc:=aA iF
 have bt:=h.mem.rt r _ hr
 
 have cO : ∃ (cs : List Value) (V : Nat → Nat → Value) (bp : Nat → Option (Nat × Nat)),bA w e (X.T.size e) (g.v r) xs.length cs ∧ (∀ b,oB (g.v r) = some b → g.own b = some r ∧ bp b = none) ∧
   (∀ (i j : Nat) (y : List U),xs[i]? = some y → j < y.length → cs[i * X.T.size e + j]? = some (V i j)) ∧ (∀ (i : Nat) y,xs[i]? = some y → y.length = (X.T.ct e).length) ∧
   (deep = true → ∀ (i j : Nat) (y : List U) (u : U) (ct : CT),xs[i]? = some y → y[j]? = some u → (X.T.ct e)[j]? = some ct → ak X.T.ct w (fun b=>g.own b = some r ∧ bp b = some (i,j)) ct u (V i j)) ∧
   (deep = false → ∀ (i j : Nat) (y : List U) (u : U) (ct : CT),xs[i]? = some y → y[j]? = some u → (X.T.ct e)[j]? = some ct → aE X.T.ct w (aq X w g) ct u (V i j)):=by
  cases deep with
  | true =>
   have bt : ak _ _ _ _ _ _:=bt
   generalize g.v r = v at *
   cases bt with
   | row _ _ _ _ cs V bp ho hg hV hs hh=>exact ⟨cs,V,bp,ho,hg,hV,hs,fun _=>hh,fun h=>by cases h⟩
  | false =>
   obtain ⟨cs,V,ho,hg,hV,hs,hh⟩:=aZ.ex bt
   exact ⟨cs,V,fun _=>none,ho,fun b hb=>⟨hg b hb,rfl⟩,hV,hs,fun h=>(by cases h),fun _=>hh⟩
 obtain ⟨cs,V,bp,ho,hg,hV,hs,Bz,fb⟩:=cO
 obtain ⟨v',w',hG⟩:=iG cs ho
 have hB:=hG.grown
 have av : ∀ b s,g.own b = some s → b < w.heap.size:=fun b s hb=>h.mem.lt b (by rw [hb]; simp)
 have same : ∀ b,b < w.heap.size → (∀ c,oB (g.v r) = some c → b ≠ c) → w'.heap[b]? = w.heap[b]?:=fun b hb aW=>hB.block b hb fun he=>aW b he.symm rfl
 have tp:=ov h (qQb w.heap.size)
 let g':=g.grow r rs w.heap.size v'
 have dP : g'.v r = v':=if_pos rfl
 have dC : ∀ b,b < w.heap.size → g.own b = none → g'.own b = none:=fun b hb au=>Gh.wF (by omega) au
 have xw : ∀ b s,g.own b = some s → ¬ s = r → w'.heap[b]? = w.heap[b]?:=fun b s hb aM=>same b (av b s hb) fun c hc=>by
  rintro rfl
  have:=(hg b hc).1
  rw [this] at hb
  exact aM (qQc hb).symm
 have tL : ∀ b,aq X w g b → w'.heap[b]? = w.heap[b]?:=fun b hb=>same b hb.2.1 fun c hc=>by
  rintro rfl
  have:=(hg b hc).1
  have h0:=hb.1
  rw [this] at h0; cases h0
 have fJ : ∀ b,aq X w g b → aq X w' g' b:=fun b hb=>⟨dC b hb.2.1 hb.1,qQ2 hb.2.1 hB.size,hb.2.2⟩
 have xm : bA w' e (X.T.ct e).length v' (xs ++ ys).length (cs ++ news):=by rw [qQ6]; exact hG.own
 have ni : ∀ b,oB v' = some b → g'.own b = some r ∧ (b = w.heap.size ∨ oB (g.v r) = some b):=by
  intro b hb
  rcases hG.mR with he | he
  ·rw [he] at hb
   have gh:=(hg b hb).1
   have:=av b r gh
   refine ⟨?_,.inr hb⟩
   rw [show g'.own b = _ from Gh.nc (by omega) gh,if_neg di.1]
  ·rw [he] at hb
   obtain rfl:=qQc hb
   refine ⟨?_,.inl rfl⟩
   show (if w.heap.size = w.heap.size then (if oB v' = some w.heap.size then some r else none) else _) = _
   rw [if_pos rfl,if_pos he]
 have aL : cs.length = xs.length * X.T.size e:=ho.1
 let V' : Nat → Nat → Value:=fun i j=>if i < xs.length then V i j else V2 (i - xs.length) j
 have bD : ∀ (i : Nat) (y : List U),(xs ++ ys)[i]? = some y → (i < xs.length ∧ xs[i]? = some y) ∨ (xs.length ≤ i ∧ ys[i - xs.length]? = some y):=by
  intro i y hy
  by_cases hi : i < xs.length
  ·rw [qQu hi] at hy; exact .inl ⟨hi,hy⟩
  ·rw [qQx (by omega)] at hy; exact .inr ⟨by omega,hy⟩
 have wJ : ∀ (i j : Nat) (y : List U),(xs ++ ys)[i]? = some y → j < y.length → (cs ++ news)[i * X.T.size e + j]? = some (V' i j):=by
  intro i j y hy hj
  rcases bD i y hy with ⟨hi,hy⟩ | ⟨hi,hy⟩
  ·have eJ : j < X.T.size e:=by rw [hs i y hy] at hj; exact hj
   have:=iP hi eJ
   rw [qQu (by omega),hV i j y hy hj]
   show _ = some (if i < xs.length then _ else _)
   rw [if_pos hi]
  ·have e1 : i * X.T.size e = xs.length * X.T.size e + (i - xs.length) * X.T.size e:=by rw [← qYf]; congr 1; omega
   rw [qQx (by omega),aL,show i * X.T.size e + j - xs.length * X.T.size e = (i - xs.length) * X.T.size e + j from by omega,lg _ j y hy hj]
   show _ = some (if i < xs.length then _ else _)
   rw [if_neg (by omega)]
 have xz : ∀ (i : Nat) y,(xs ++ ys)[i]? = some y → y.length = (X.T.ct e).length:=by
  intro i y hy
  rcases bD i y hy with ⟨_,hy⟩ | ⟨_,hy⟩
  ·exact hs i y hy
  ·exact nQ _ y hy
 have tH : ∀ rt',cm X w' rt' g' r (.row e deep (xs ++ ys)):=by
  intro rt'
  cases deep with
  | true =>
   show ak _ _ _ _ _ (g'.v r)
   rw [dP]
   let lQ : Nat → Option (Nat × Nat):=fun b=>match g.own b with | none=>none | some s=>if s ∈ rs then (lab2 b).map (fun (ij : Nat × Nat)=>(ij.1 + xs.length,ij.2)) else bp b
   refine .row _ e _ v' (cs ++ news) V' lQ xm (fun b hb=>?_) wJ xz (fun i j y u ct hy hu ai=>?_)
   ·obtain ⟨h1,h2⟩:=ni b hb
    refine ⟨h1,?_⟩
    show (match g.own b with | none=>none | some s=>if s ∈ rs then (lab2 b).map (fun (ij : Nat × Nat)=>(ij.1 + xs.length,ij.2)) else bp b) = none
    rcases h2 with rfl | h2
    ·rw [tp]
    ·obtain ⟨h3,h4⟩:=hg b h2
     rw [h3]
     simp only [if_neg di.1]
     exact h4
   ·rcases bD i y hy with ⟨hi,hy⟩ | ⟨hi,hy⟩
    ·have hv : V' i j = V i j:=if_pos hi
     rw [hv]
     refine (Bz rfl i j y u ct hy hu ai).imp fun b hb=>?_
     have da:=av b r hb.1
     refine ⟨⟨by rw [show g'.own b = _ from Gh.nc (by omega) hb.1,if_neg di.1],?_⟩,same b da fun c hc=>?_⟩
     ·show (match g.own b with | none=>none | some s=>if s ∈ rs then (lab2 b).map (fun (ij : Nat × Nat)=>(ij.1 + xs.length,ij.2)) else bp b) = _
      rw [hb.1]
      simp only [if_neg di.1]
      exact hb.2
     ·rintro rfl
      have:=(hg b hc).2
      rw [this] at hb; cases hb.2
    ·have hv : V' i j = V2 (i - xs.length) j:=if_neg (by omega)
     rw [hv]
     refine (Bj rfl (i - xs.length) j y u ct hy hu ai).imp fun b hb=>?_
     obtain ⟨⟨s,aM,gh⟩,aT⟩:=hb
     have da:=av b s gh
     have tO : ¬ s = r:=by rintro rfl; exact di.1 aM
     refine ⟨⟨by rw [show g'.own b = _ from Gh.nc (by omega) gh,if_pos aM],?_⟩,xw b s gh tO⟩
     show (match g.own b with | none=>none | some s=>if s ∈ rs then (lab2 b).map (fun (ij : Nat × Nat)=>(ij.1 + xs.length,ij.2)) else bp b) = _
     rw [gh]
     simp only [if_pos aM,aT,qQ7,qZo,qXg,and_true]
     omega
  | false =>
   show aZ _ _ _ _ _ _ (g'.v r)
   rw [dP]
   refine ⟨cs ++ news,V',xm,fun b hb=>(ni b hb).1,wJ,xz,fun i j y u ct hy hu ai=>?_⟩
   rcases bD i y hy with ⟨hi,hy⟩ | ⟨hi,hy⟩
   ·have hv : V' i j = V i j:=if_pos hi
    rw [hv]
    exact (fb rfl i j y u ct hy hu ai).imp fun b hb=>⟨fJ b hb,tL b hb⟩
   ·have hv : V' i j = V2 (i - xs.length) j:=if_neg (by omega)
    rw [hv]
    exact (dN rfl (i - xs.length) j y u ct hy hu ai).imp fun b hb=>⟨fJ b hb,tL b hb⟩
 have hK : bN X (fun s=>s = r ∨ s ∈ rs) (fun s=>s = r ∧ false = true) w g ((st.consume rs).ah r false).rt w' g' (((st.consume rs).ah r false).aG r (.row e deep (xs ++ ys))).rt:=by
  refine ⟨fun b hb=>⟨fJ b hb,tL b hb⟩,fun b s aM hb=>?_,fun s _ aM=>?_,fun s e' d' zs aM aB=>?_,fun s t' cs' hb=>⟨rfl,cs',?_⟩,fun s aM=>by simp at aM⟩
  ·simp only [not_or] at aM
   have:=av b s hb
   exact ⟨by rw [show g'.own b = _ from Gh.nc (by omega) hb,if_neg aM.2],xw b s hb aM.1⟩
  ·simp only [not_or] at aM
   show (if s = r then v' else g.v s) = _
   rw [if_neg aM.1]
  ·simp only [not_or] at aM
   rw [bu,if_neg (fun he=>aM.1 he.symm)]; exact aB
  ·rw [bu,if_neg]
   ·exact hb
   ·rintro rfl
    rw [cz,iF] at hb; cases hb
 have tq : ∀ b s,g'.own b = some s → b < w'.heap.size ∧ s < st.rt.length ∧ (X.nw b ∨ (s < X.np ∧ X.po b = some s)):=by
  intro b s hb
  by_cases hbe : b = w.heap.size
  ·subst hbe
   have aT : (if oB v' = some w.heap.size then some r else none) = some s:=by
    have : g'.own w.heap.size = (if oB v' = some w.heap.size then some r else none):=if_pos rfl
    rw [← this]; exact hb
   split at aT
   ·rename_i Cf
    cases aT
    exact ⟨qz hG.own w.heap.size Cf,aA hr,.inl (h.mem.n0 _ (qQb _))⟩
   ·cases aT
  ·cases hx : g.own b with
   | none=>rw [show g'.own b = none from Gh.wF hbe hx] at hb; cases hb
   | some s' =>
    rw [show g'.own b = _ from Gh.nc hbe hx] at hb
    have h8:=h.mem.pm b s' hx
    have h9:=av b s' hx
    split at hb
    ·rename_i hm
     have:=(gQ s' hm).2
     cases hb
     rw [h.mem.np] at this
     exact ⟨qQ2 h9 hB.size,aA hr,by exact .inl (h8.resolve_right fun hh=>by omega)⟩
    ·cases hb; exact ⟨qQ2 h9 hB.size,h.mem.ob b _ hx,h8⟩
 refine ⟨v',w',g',hG.run,?_,dP⟩
 refine h6.change r false (Q:=fun s=>s ∈ rs) (sn (pw rs (St.eV st))) (fun s z aM _ hz=>by rw [mW rs gP nG aM] at hz; exact (qQc hz).symm) _ hK (tH _) (fun b hb=>?_) (fun b s hb=>?_) hB.size (fun b s hb=>(tq b s hb).2.2) (fun s aM=>?_)
  ⟨hB.os.trans h.fr.os,hB.tape.trans h.fr.tape,hB.output.trans h.fr.output,qZd h.fr.size hB.size,fun b hb bk=>?_⟩
 ·cases hx : g'.own b with
  | none=>exact absurd hx hb
  | some s=>exact (tq b s hx).1
 ·rw [il]; exact (tq b s hb).2.1
 ·show (if s = r then v' else g.v s) = _
  rw [h.mem.np] at aO
  rw [if_neg (by omega)]; exact h.mem.pv s aM
 ·obtain ⟨e1,e2⟩:=h.fr.block b hb bk
  have da:=qQ2 hb h.fr.size
  refine ⟨dC b da e1,(same b da fun c hc=>?_).trans e2⟩
  rintro rfl
  rw [(hg b hc).1] at e1; cases e1
structure Src (w : World) (size : Nat) (xv : Value) (m : Nat) (news : List Value) : Prop where
 ex : ∃ A c,xv = .slice A m c ∧ (∀ ad,A = some ad → ∀ (j : Nat) u,news[j]? = some u → w.cell? (ad.add j) = some u) ∧ (A = none → m = 0)
 len : news.length = m * size
 one : ∀ u ∈ news,u.oneCell' = true
theorem Src.nb (hT : aX P X.T) {t ty e : TypeId} (hd : (X.T.row t).d = .one (.aj e)) (hk : (X.T.row e).d.known = true) (cx : X.T.size e ≠ 0) {v xv : Value} {n m : Nat} {cs news : List Value} (hs : Src w (X.T.size e) xv m news)
  (ho : bA w e (X.T.size e) v n cs) (aP : room (n + m) (X.T.row e).bytes = true) : ∃ v' w',vh P w t ty e (X.T.size e) v xv v' w' cs news n m:=by
 obtain ⟨i,desc,h1,h2,h3,h4,h5,h6⟩:=hT.ok e hk
 obtain ⟨A,c,rfl,hc,hz⟩:=hs.ex
 have hr:=qZu aP
 have tW : (X.T.row e).zero.cells.size = X.T.size e:=by
  rw [fW.oN hT]
  simp [ax.size,ax.ct]
 cases A with
 | none =>
  obtain rfl:=hz rfl
  have tf : news = []:=qZz (by simpa using hs.len)
  subst tf
  refine ⟨v,w,?_,by simpa using ho,⟨rfl,rfl,rfl,qQb _,fun _ _ _=>rfl⟩,.inl rfl,ho⟩
  obtain ⟨B,cc,rfl,hle,_⟩:=fQ ho
  cases B with
  | none=>simp [Builtin.append_,run_underlying (eu hT hd),run_sizeOf hT hk,Builtin.lenOf,Builtin.firstCells,hle]
  | some bb=>simp [Builtin.append_,run_underlying (eu hT hd),run_sizeOf hT hk,Builtin.lenOf,Builtin.firstCells,hle,storeCells]
 | some ad =>
  rcases ux ho with ⟨⟨B,rfl⟩,rfl⟩ | ⟨b,q,cap,cur,rfl,hg,km,ki,bG,jH,jz⟩
  ·obtain rfl : cs = []:=qZz (by simpa using ho.1)
   cases B with
   | some bb =>
    by_cases gM : m = 0
    ·subst gM
     have tf : news = []:=qZz (by simpa using hs.len)
     subst tf
     refine ⟨.slice (some bb) 0 0,w,?_,by simpa using ho,⟨rfl,rfl,rfl,qQb _,fun _ _ _=>rfl⟩,.inl rfl,ho⟩
     have hf:=run_firstCells_some (P:=P) w i.size 0 ad 0 c [] (by simp) (fun j u hu=>by simp at hu)
     simp [Builtin.append_,run_underlying (eu hT hd),sizeOf,typeInfo,h1,Builtin.lenOf,hf,storeCells]
    ·have sU:=run_append_grow (P:=P) w t ty e i (X.T.row e).zero (eu hT hd) h1 h5 bb 0 0 [] (by simp) (fun j u hu=>by simp at hu) ad m c news (by rw [h3]; exact hs.len) (hc ad rfl) (by omega) (by omega) (growslice_fits (by omega) (by rw [h4]; exact hr.1))
     have nB:=grownCap_ge w (0 + m) 0 e
     have sI : grownCap w (0 + m) 0 e ≤ maxLen:=grownCap_le_maxLen w (0 + m) 0 e (by simp only [maxLen]; omega)
     have kp:=hs.len
     refine ⟨_,_,sU,bA.of (base:=0) ⟨by simpa using hs.len,.inr ⟨w.heap.size,_,_,rfl,qQt _,heap_alloc_new w.drew _,nB,sI,?_,?_⟩⟩,⟨rfl,rfl,rfl,by simp,fun k aK _=>heap_alloc_old w.drew _ k aK⟩,.inr (lX (by omega)),⟨by simp,.inl ⟨⟨_,rfl⟩,rfl⟩⟩⟩
     ·have eG : grownCap w (0 + m) 0 e * X.T.size e = m * X.T.size e + (grownCap w (0 + m) 0 e - (0 + m)) * X.T.size e:=by
       rw [← qYf]; congr 1; omega
      simp only [qX8,qXp,qXo,size_zeroCells,tW,kp]
      omega
     ·simp only [qYs,List.nil_append]
      rw [show (0 + m) * X.T.size e = news.length by rw [kp,qQy]]
      exact qX9
   | none =>
   obtain ⟨v',w',q1,q2,q3,q4,q5⟩:=run_append_own_at (P:=P) w 0 t ty e i (X.T.row e).zero (X.T.size e) (X.T.row e).bytes (eu hT hd) h1 h5 h3 h4 tW (qY0 cx) _ 0 [] (World.ownsRow_nil w 0 e _) ad m c news hs.len (hc ad rfl) hs.one hr.2 hr.1 (qQt _)
   exact ⟨v',w',q1,.of q2,q3,(by
    rcases ya v' with e1 | e1
    ·exact .inl (by rw [e1]; rfl)
    ·rcases q5 with e2 | e2
     ·exact .inl (by rw [e1,e2]; rfl)
     ·exact .inr (by rw [e1,e2])),by simp,.inl ⟨⟨none,rfl⟩,rfl⟩⟩
  ·have nn : cs.length = n * X.T.size e:=ho.1
   have kp:=hs.len
   have hlen : (cs ++ news).length = (n + m) * X.T.size e:=by rw [qQ6,nn,kp,qYf]
   have aL : cur.toList.length = cur.size:=qZ3
   by_cases lM : n + m ≤ cap
   ·have Bq : (n + m) * X.T.size e ≤ cap * X.T.size e:=qYl _ lM
    rw [qYf] at Bq
    have hf:=run_firstCells_some (P:=P) w i.size m ad m c news (by rw [h3]; exact kp) (hc ad rfl)
    have lN:=run_storeCells_at P b (q + n * i.size) e news 0 cur w hg (by rw [h3]; omega) hs.one
    simp only [qQ5] at lN
    have iG : (Builtin.append_ #[t,t] ty #[.slice (some ⟨b,q,none⟩) n cap,.slice (some ad) m c]).run P w = .ok (.slice (some ⟨b,q,none⟩) (n + m) cap) (w.setRow b (cur.toList.take (q + n * i.size) ++ news ++ cur.toList.drop (q + n * i.size + news.length)).toArray):=by
     simp [Builtin.append_,run_underlying (eu hT hd),sizeOf,typeInfo,h1,Builtin.lenOf,lM,hf,Addr.add_lit,lN]
    refine ⟨_,_,iG,⟨hlen,.inr ⟨b,q,cap,_,rfl,setRow_heap w b cur _ e _ hg,lM,ki,?_,?_⟩⟩,⟨rfl,rfl,rfl,by simp,fun k aK=>setRow_other w b k _ ∘ fun aW e=>aW (by simp [oB,e,jz])⟩,.inl rfl,⟨nn,.inr ⟨b,q,cap,_,rfl,setRow_heap w b cur _ e _ hg,km,ki,?_,?_⟩⟩⟩
    ·rw [h3]
     simp only [qXp,qQ6,qZc,qZl,aL]
     omega
    ·rw [h3,← hlen,← jH]
     have e1 : q ≤ (cur.toList.take (q + n * X.T.size e)).length:=by rw [qZc,aL]; omega
     have e2 : (cur.toList.take (q + n * X.T.size e)).drop q = (cur.toList.drop q).take (n * X.T.size e):=by rw [List.drop_take]; congr 1; omega
     rw [qZ4,List.drop_append_of_le_length e1,e2,← qZ4]
     exact qX9
    ·rw [h3]
     simp only [qXp,qQ6,qZc,qZl,aL]
     omega
    ·rw [h3]
     have e1 : q ≤ (cur.toList.take (q + n * X.T.size e)).length:=by rw [qZc,aL]; omega
     have e2 : (cur.toList.take (q + n * X.T.size e)).drop q = (cur.toList.drop q).take (n * X.T.size e):=by rw [List.drop_take]; congr 1; omega
     rw [qZ4,List.drop_append_of_le_length e1,e2,jH,← nn]
     exact qX9
   ·have hold : ∀ j u,cs[j]? = some u → w.cell? (Addr.add ⟨b,q,none⟩ j) = some u:=fun j u hu=>by
     rw [Addr.add_lit]; exact gW ho hu
    have sU:=run_append_grow (P:=P) w t ty e i (X.T.row e).zero (eu hT hd) h1 h5 ⟨b,q,none⟩ n cap cs (by rw [h3]; exact nn) hold ad m c news (by rw [h3]; exact kp) (hc ad rfl) (by omega) (by omega) (growslice_fits (by omega) (by rw [h4]; exact hr.1))
    have nB:=grownCap_ge w (n + m) cap e
    have sI : grownCap w (n + m) cap e ≤ maxLen:=grownCap_le_maxLen w (n + m) cap e (by simp only [maxLen]; omega)
    refine ⟨_,_,sU,bA.of (base:=0) ⟨hlen,.inr ⟨w.heap.size,_,_,rfl,qQt _,heap_alloc_new w.drew _,nB,sI,?_,?_⟩⟩,⟨rfl,rfl,rfl,by simp,fun k aK _=>heap_alloc_old w.drew _ k aK⟩,.inr (lX (by omega)),mc ho fun k aK=>?_⟩
    ·simp only [qX8,qXp,size_zeroCells,tW,nn,kp,← qYf]
     congr 1
     omega
    ·simp only [qYs,qZ4]
     rw [← qZ4,← hlen]
     exact qX9
    ·obtain rfl:=fP aK
     exact heap_alloc_old w.drew _ b (qYb.1 hg).1
def dY (V : Nat → Nat → Value) (size n : Nat) : List Value:=(List.range (n * size)).map fun k=>V (k / size) (k % size)
theorem sk {V : Nat → Nat → Value} {size n i j : Nat} (hi : i < n) (hj : j < size) : (dY V size n)[i * size + j]? = some (V i j):=by
 have h1:=iP hi hj
 simp only [dY,qQj,qZy h1,qQ7,qZo]
 rw [qYe i size,Nat.mul_add_div (by omega),Nat.div_eq_of_lt hj,Nat.mul_add_mod,Nat.mod_eq_of_lt hj,qQ5]
theorem Src.ur {ok : Nat → Prop} {e : TypeId} {ys : List (List U)} {xv : Value} (cx : X.T.size e ≠ 0) (h : aE X.T.ct w ok (.aj e) (.lst ys) xv) : ∃ V : Nat → Nat → Value,Src w (X.T.size e) xv ys.length (dY V (X.T.size e) ys.length) ∧
  (∀ (i : Nat) y,ys[i]? = some y → y.length = (X.T.ct e).length) ∧ ∀ (i j : Nat) (y : List U) (u : U) (ct : CT),ys[i]? = some y → y[j]? = some u → (X.T.ct e)[j]? = some ct → aE X.T.ct w ok ct u (V i j):=by
 cases h with
 | aj e xs A c V hl hm hA hs h =>
  have fu:=qY0 cx
  have split : ∀ k,k < ys.length * X.T.size e → k / X.T.size e < ys.length ∧ k % X.T.size e < X.T.size e:=fun k hk=>⟨qJe (by rw [qYe]; exact hk),Nat.mod_lt _ fu⟩
  have vP : ∀ (k : Nat) u,(dY V (X.T.size e) ys.length)[k]? = some u → k < ys.length * X.T.size e ∧ u = V (k / X.T.size e) (k % X.T.size e):=by
   intro k u hu
   have hk : k < ys.length * X.T.size e:=by have:=aA hu; simpa [dY] using this
   simp only [dY,qQj,qZy hk,qQ7,qZo] at hu
   exact ⟨hk,hu.symm⟩
  refine ⟨V,⟨⟨A,c,rfl,fun ad sA j u hu=>?_,fun hn=>?_⟩,by simp [dY],fun u hu=>?_⟩,hs,h⟩
  ·obtain ⟨hk,rfl⟩:=vP j u hu
   obtain ⟨h1,h2⟩:=split j hk
   obtain ⟨b,o,hb,_,hc⟩:=hA (qZ8 (qQt _) h1)
   rw [sA] at hb
   obtain rfl:=qQc hb
   have hy:=fk (d:=[]) h1
   have:=hc _ (j % X.T.size e) _ hy (by rw [hs _ _ hy]; exact h2)
   rw [Addr.add_lit,← this]
   congr 2
   rw [show (X.T.ct e).length = X.T.size e from rfl,qYe]
   have:=qX2 j (X.T.size e)
   omega
  ·refine Nat.eq_zero_of_not_pos fun hp=>?_
   obtain ⟨b,o,hb,_⟩:=hA hp
   rw [hn] at hb; cases hb
  ·obtain ⟨k,hk⟩:=qZ0 hu
   obtain ⟨aK,rfl⟩:=vP k u hk
   obtain ⟨h1,h2⟩:=split k aK
   have hy:=fk (d:=[]) h1
   have ky : (ys.getD (k / X.T.size e) []).length = (X.T.ct e).length:=hs _ _ hy
   exact (h _ _ _ _ _ hy (fk (d:=U0) (by rw [ky]; exact h2)) (qQg (show k % X.T.size e < (X.T.ct e).length from h2))).one
theorem Src.yd {e : TypeId} {ys : List (List U)} {v : Value} {cs : List Value} {V : Nat → Nat → Value} (cx : X.T.size e ≠ 0) (hO : bA w e (X.T.ct e).length v ys.length cs) (aR : ∀ (i : Nat) y,ys[i]? = some y → y.length = (X.T.ct e).length)
  (hV : ∀ (i j : Nat) (y : List U),ys[i]? = some y → j < y.length → cs[i * (X.T.ct e).length + j]? = some (V i j)) (h1 : ∀ (i j : Nat) (y : List U) (u : U) (ct : CT),ys[i]? = some y → y[j]? = some u → (X.T.ct e)[j]? = some ct → (V i j).oneCell' = true) : Src w (X.T.size e) v ys.length cs:=by
 obtain ⟨A,c,rfl,_⟩:=fQ hO
 refine ⟨⟨A,c,rfl,fun ad sA j u hu=>?_,fun hA=>?_⟩,hO.1,fun u hu=>?_⟩
 ·subst sA
  have BV : ∃ b q,ad = ⟨b,q,none⟩:=by
   rcases hO.2 with ⟨_,hh⟩ | ⟨b,q,cap,cur,hh,_⟩
   ·have h0:=hO.1
    rw [hh,qXe] at h0
    rw [qZz h0] at hu
    cases hu
   ·cases hh; exact ⟨b,q,rfl⟩
  obtain ⟨b,q,rfl⟩:=BV
  rw [Addr.add_lit]
  exact gW hO hu
 ·refine Nat.eq_zero_of_not_pos fun hp=>?_
  obtain ⟨b,q,cc,hh⟩:=mf hO hp
  cases hh; cases hA
 ·obtain ⟨k,aK⟩:=qZ0 hu
  have fe:=aA aK
  have BD : k < ys.length * X.T.size e:=by
   have h9 : cs.length = ys.length * X.T.size e:=hO.1
   omega
  have fu:=qY0 cx
  have i1 : k / X.T.size e < ys.length:=qJe (by rw [qYe]; exact BD)
  have i2 : k % X.T.size e < X.T.size e:=Nat.mod_lt _ fu
  have hy:=fk (d:=[]) i1
  have iJ:=aR _ _ hy
  have i3 : (ys.getD (k / X.T.size e) [])[k % X.T.size e]? = some ((ys.getD (k / X.T.size e) []).getD (k % X.T.size e) U0):=fk (by rw [iJ]; exact i2)
  have i4:=hV _ (k % X.T.size e) _ hy (aA i3)
  have i5 : k / X.T.size e * (X.T.ct e).length + k % X.T.size e = k:=by
   rw [show (X.T.ct e).length = X.T.size e from rfl,qYe]; exact qX2 k _
  rw [i5,aK] at i4
  rw [qQc i4]
  exact h1 _ _ _ _ _ hy i3 (qQg (show k % X.T.size e < (X.T.ct e).length from i2))
theorem Rel.oU (h : Rel X own0 w0 st a w g) (e : TypeId) : Rel X own0 w0 (st.add (.row e true [])) a w ⟨g.own,fun s=>if s = st.rt.length then .slice none 0 0 else g.v s,g.b⟩:=by
 refine h.add _ (fun b hb=>⟨hb,rfl⟩) (fun b r hb=>⟨hb,rfl⟩) (fun r hr=>⟨if_neg (by omega),rfl⟩) ?_ h.mem.lt (fun b s hb=>by have:=h.mem.ob b s hb; omega) (qQb _) h.mem.pm ⟨h.fr.os,h.fr.tape,h.fr.output,h.fr.size,h.fr.block⟩
 show ak _ _ _ _ _ (if st.rt.length = st.rt.length then _ else _)
 rw [if_pos rfl]
 exact ak.nil e
theorem rn {e : TypeId} : ay X w (st.add (.row e true [])).rt ⟨g.own,fun s=>if s = st.rt.length then .slice none 0 0 else g.v s,g.b⟩ (.c (.al st.rt.length [] e)) (.slice none 0 0):=by
 refine ⟨e,true,[],by show (st.rt ++ [_])[st.rt.length]? = _; simp,.inl rfl,?_⟩
 show At _ _ _ _ (if st.rt.length = st.rt.length then _ else _) _ _ _ _
 rw [if_pos rfl]
 exact .nil _ _ _
theorem iq {ab : List CT} (h : fj ab = true) {j : Nat} {ct : CT} (hj : ab[j]? = some ct) : ct.bU = false:=by
 have:=qQp.1 h ct (qQz hj)
 simpa using this
theorem aE.sj {T : bl} {ok : Nat → Prop} {ct : CT} {u : U} {v : Value} (h : aE T w ok ct u v) (hf : ct.bU = false) (F : Nat → Prop) : ak T w F ct u v:=by
 cases h with
 | int k n=>exact .int _ k n
 | bool b=>exact .bool _ b
 | str s=>exact .str _ s
 | aj=>cases hf
theorem aE.wB {T : bl} {ok : Nat → Prop} {ct : CT} {u : U} {v : Value} (h : aE T w ok ct u v) (hf : ct.bU = false) (CV : Nat → Prop) : aE T w CV ct u v:=by
 cases h with
 | int k n=>exact .int k n
 | bool b=>exact .bool b
 | str s=>exact .str s
 | aj=>cases hf
theorem wj {T : ax} {t e : TypeId} (hd : T.elem t = some e) : (T.row t).d = .one (.aj e):=by
 unfold ax.elem TD.elem at hd
 split at hd
 ·rename_i e' he; rw [he]; cases hd; rfl
 ·cases hd
theorem vA (hT : aX P X.T) (h : Rel X own0 w0 st a w g) {o : Oper} {t t2 : TypeId} {s x : Operand} (ho : o.op = .call ⟨.builtin .append,#[s,x],#[t,t2]⟩) {K : St → Option R} {rr : R} (hq : dW X.T st t t2 (ev st s) (ev st x) o.dst K = some rr) :
  ∃ ae,K ae = some rr ∧ bg P X own0 w0 o a w ae:=by
 unfold dW at hq
 split at hq
 ·rename_i e dB
  have hd:=wj dB
  split at hq
  ·rename_i hh
   obtain ⟨hk,cx,rfl⟩:=hh
   have hs:=ba h s
   split at hq
   ·rename_i aD r hb
    
    have Ba : ∃ g1,Rel X own0 w0 aD a w g1 ∧ a.eval s = g1.v r ∧ ev aD x = ev st x:=by
     unfold mQ at hb
     split at hb
     ·rename_i hz
      rw [hz] at hs
      cases hb
      have hs : a.eval s = .slice none 0 0:=hs
      exact ⟨_,h.oU e,by rw [hs]; exact (if_pos rfl).symm,by cases x <;> rfl⟩
     ·rename_i r' e' hz
      rw [hz] at hs
      split at hb
      ·cases hb
       obtain ⟨e0,d,zs,q1,_,q3⟩:=hs
       obtain ⟨-,-,q4⟩:=q3.bX
       exact ⟨g,h,q4,rfl⟩
      ·cases hb
     ·cases hb
    obtain ⟨g1,h1,bI,Bm⟩:=Ba
    have hx:=ba h1 x
    rw [Bm] at hx
    generalize ev st x = sx at *
    have mm : ∀ {v' w'},(Builtin.append_ #[t2,t2] o.type #[g1.v r,a.eval x]).run P w = .ok v' w' → (execOp a.eval o).run P w = .ok (.value v') w':=by
     intro v' w' hr
     simp [execOp,ho,resolve,invoke,builtin,bI,hr]
    split at hq
    ·rename_i e0 deep xs hr
     split at hq
     ·rename_i hh
      obtain ⟨rfl,aO⟩:=hh
      have av:=aA hr
      
      have fin : ∀ {rs : List Nat} {ys : List (List U)},(∀ v' w' g',(Builtin.append_ #[t2,t2] o.type #[g1.v r,a.eval x]).run P w = .ok v' w' → Rel X own0 w0 (((aD.consume rs).ah r false).aG r (.row e0 deep (xs ++ ys))) a w' g' → g'.v r = v' →
        bg P X own0 w0 o a w ((((aD.consume rs).ah r false).aG r (.row e0 deep (xs ++ ys))).put o.dst (.c (.al r [] e0)))):=by
       intro rs ys v' w' g' q1 q2 q3
       refine bg.value (mm q1) (q2.put o.dst (ay.cj ⟨e0,deep,xs ++ ys,?_,.inl rfl,?_⟩))
       ·rw [bu,if_pos rfl,if_pos]
        show r < ((aD.consume rs).rt.map _).length
        rw [qQk,il]; exact av
       ·rw [q3]; exact .nil _ _ _
      split at hq
      ·rename_i de
       split at hq
       ·rename_i e' ys cG
        split at hq
        ·rename_i aY
         subst aY
         cases aP : room (xs.length + ys.length) (X.T.row e').bytes with
         | false=>rw [aP] at hq; cases hq
         | true =>
          rw [aP] at hq
          have hR : ∃ ok : Nat → Prop,aE X.T.ct w ok (.aj e') (.lst ys) (a.eval x):=by
           split at cG
           ·cases cG
            have hx : a.eval x = .slice none 0 0:=hx
            exact ⟨fun _=>True,by rw [hx]; exact aE.nil e' 0 none⟩
           ·unfold mA at cG
            split at cG
            ·cases cG; exact ⟨_,hx⟩
            ·rename_i r2 p e2
             split at cG
             ·rename_i e3 d3 zs dN
              cases cG
              obtain ⟨e4,d4,oO,q1,q2⟩:=aF.fY h1.mem hx
              obtain ⟨rfl,rfl,rfl⟩ : e3 = e4 ∧ d3 = d4 ∧ zs = oO:=by rw [dN] at q1; cases q1; exact ⟨rfl,rfl,rfl⟩
              exact ⟨fun _=>True,q2 _ (fun _ _=>trivial) (fun _ _=>trivial)⟩
             ·cases cG
            ·cases cG
          obtain ⟨ok,hR⟩:=hR
          obtain ⟨V,q1,q2,q3⟩:=Src.ur cx hR
          obtain ⟨v',w',g',q4,q5,q6⟩:=h1.oY (P:=P) hr aO (rs:=[]) (fun _ aM=>by simp at aM) rfl (t:=t2) (ty:=o.type) (x:=a.eval x) (news:=dY V (X.T.size e') ys.length) (V2:=V) (lab2:=fun _=>none) q2
           (fun i j y hy hj=>sk (aA hy) (by rw [q2 i y hy] at hj; exact hj)) (fun _ i j y u ct hy hu ai=>(q3 i j y u ct hy hu ai).sj (iq de ai) _) (fun _ i j y u ct hy hu ai=>(q3 i j y u ct hy hu ai).wB (iq de ai) _)
           (fun cs bG=>q1.nb hT hd hk cx bG aP)
          exact ⟨_,hq,fin v' w' g' q4 q5 q6⟩
        ·cases hq
       ·cases hq
      ·split at hq
       ·rename_i r2 e2
        split at hq
        ·rename_i eU ys dN
         split at hq
         ·rename_i hh
          obtain ⟨rfl,rfl,aW,BL⟩:=hh
          cases aP : room (xs.length + ys.length) (X.T.row e2).bytes with
          | false=>rw [aP] at hq; cases hq
          | true =>
           rw [aP] at hq
           have bt : ak _ _ _ _ _ _:=h1.mem.rt r2 _ dN
           obtain ⟨e4,d4,oO,q1,q2,q3⟩:=hx
           obtain ⟨-,-,q4⟩:=q3.bX
           rw [← q4] at bt
           generalize a.eval x = xv at *
           cases bt with
           | row _ _ _ _ cs V bp hO hg hV aR hh =>
            have cG:=Src.yd cx hO aR hV fun i j y u ct hy hu ai=>(hh i j y u ct hy hu ai).one
            obtain ⟨v',w',g',q5,q6,q7⟩:=h1.oY (P:=P) hr aO (rs:=[r2]) (fun s' aM=>by rw [qZj.1 aM]; exact ⟨⟨_,_,_,dN⟩,BL⟩) (by simp [cK]; exact fun he=>aW he.symm) (t:=t2) (ty:=o.type) (x:=xv) (news:=cs) (V2:=V) (lab2:=bp) aR hV
             (fun _ i j y u ct hy hu ai=>(hh i j y u ct hy hu ai).mono fun b hb=>⟨⟨r2,by simp,hb.1⟩,hb.2⟩) (fun hf=>by cases hf) (fun cs' bG=>cG.nb hT hd hk cx bG aP)
            exact ⟨_,hq,fin v' w' g' q5 q6 q7⟩
         ·cases hq
        ·cases hq
       ·rename_i e2 ys
        split at hq
        ·rename_i cR
         subst cR
         cases aP : room (xs.length + ys.length) (X.T.row e2).bytes with
         | false=>rw [aP] at hq; cases hq
         | true =>
          rw [aP] at hq
          obtain ⟨V,q1,q2,q3⟩:=Src.ur cx hx
          obtain ⟨v',w',g',q4,q5,q6⟩:=h1.oY (P:=P) hr aO (rs:=[]) (fun _ aM=>by simp at aM) rfl (t:=t2) (ty:=o.type) (x:=a.eval x) (news:=dY V (X.T.size e2) ys.length) (V2:=V) (lab2:=fun _=>none) q2
           (fun i j y hy hj=>sk (aA hy) (by rw [q2 i y hy] at hj; exact hj)) (fun hf=>by cases hf) (fun _=>q3) (fun cs bG=>q1.nb hT hd hk cx bG aP)
          exact ⟨_,hq,fin v' w' g' q4 q5 q6⟩
        ·cases hq
       ·rename_i r2 e2
        split at hq
        ·rename_i eU ys dN
         split at hq
         ·rename_i hh
          obtain ⟨rfl,rfl,aW⟩:=hh
          cases aP : room (xs.length + ys.length) (X.T.row e2).bytes with
          | false=>rw [aP] at hq; cases hq
          | true =>
           rw [aP] at hq
           have bt : aZ _ _ _ _ _ _ _:=h1.mem.rt r2 _ dN
           obtain ⟨e4,d4,oO,q1,q2,q3⟩:=hx
           obtain ⟨-,-,q4⟩:=q3.bX
           rw [← q4] at bt
           obtain ⟨cs,V,hO,hg,hV,aR,hh⟩:=bt.ex
           have cG:=Src.yd cx hO aR hV fun i j y u ct hy hu ai=>(hh i j y u ct hy hu ai).one
           obtain ⟨v',w',g',q5,q6,q7⟩:=h1.oY (P:=P) hr aO (rs:=[]) (fun _ aM=>by simp at aM) rfl (t:=t2) (ty:=o.type) (x:=a.eval x) (news:=cs) (V2:=V) (lab2:=fun _=>none) aR hV
            (fun hf=>by cases hf) (fun _=>hh) (fun cs' bG=>cG.nb hT hd hk cx bG aP)
           exact ⟨_,hq,fin v' w' g' q5 q6 q7⟩
         ·cases hq
        ·cases hq
       ·cases hq
     ·cases hq
    ·cases hq
   ·cases hq
  ·cases hq
 ·cases hq
end
end Go.Proofs.YtaghmjcfaplkiaaGreat.Eng
/- half -/
