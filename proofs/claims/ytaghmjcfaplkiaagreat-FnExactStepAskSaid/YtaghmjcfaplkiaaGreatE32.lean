/- The evaluator: parts 26 to 32. Of no program. -/
import Derived.Test.YtaghmjcfaplkiaaGreatE25
import Derived.Orders
namespace Go.Proofs.YtaghmjcfaplkiaaGreat.Eng
open Go.RowKit
set_option linter.unusedVariables false
set_option linter.unusedSimpArgs false
def SV.bS : List Nat → SV → SV
 | [],x=>x
 | r :: rs,x=>SV.bS rs (x.ah r true)
def aa.bS : List Nat → aa → aa
 | [],x=>x
 | r :: rs,x=>aa.bS rs (x.ah r true)
def St.bS (st : St) (rs : List Nat) : St:=⟨st.sl.map (SV.bS rs),st.rt.map (aa.bS rs),st.np⟩
def bq (ls : List (Option (Nat × Path))) : List Nat:=ls.filterMap fun l=>l.map (·.1)
section
variable {P : Program} {X X' : Ctx} {own0 : Nat → Option Nat} {w0 : World} {st : St} {a : Act} {w w' : World} {g g' : Gh} {R : Type}
theorem Rel.ah (h : Rel X own0 w0 st a w g) (r : Nat) (keep : Bool) : Rel X own0 w0 (st.ah r keep) a w g:=by
 refine ⟨h.mem.ah r keep,by show (st.sl.map _).length ≤ _; rw [qQk]; exact h.sz,fun i sv hi=>?_,h.df,h.fr⟩
 have hi : (st.sl.map (SV.ah r keep))[i]? = some sv:=hi
 rw [qQj] at hi
 obtain ⟨y,hy,rfl⟩:=qQf.1 hi
 exact ay.yu h.mem (h.sl i y hy)
theorem St.Dx (st : St) (r : Nat) (rs : List Nat) : st.bS (r :: rs) = (st.ah r true).bS rs:=by
 unfold St.bS St.ah
 simp only [qYx]
 rfl
theorem Rel.bS : ∀ (rs : List Nat) {st : St},Rel X own0 w0 st a w g → Rel X own0 w0 (st.bS rs) a w g
 | [],st,h=>by
  have : st.bS [] = st:=by
   unfold St.bS
   have h1 : (SV.bS [] : SV → SV) = id:=rfl
   have h2 : (aa.bS [] : aa → aa) = id:=rfl
   rw [h1,h2,qYg,qYg]
  rw [this]; exact h
 | r :: rs,st,h=>by rw [St.Dx]; exact Rel.bS rs (h.ah r true)
theorem aa.uH (rs : List Nat) (e : TypeId) (d : Bool) (xs : List (List U)) : aa.bS rs (.row e d xs) = .row e d xs:=by
 induction rs with
 | nil=>rfl
 | cons r rs ih=>exact ih
theorem Cl.hX {Rr B : Nat → Prop} {rt0 : List aa} {r : Nat} {x : Cl} (h : x.aV Rr B rt0) : (x.ah r true).aV (fun s=>s = r ∨ Rr s) (fun s=>s = r ∨ B s) rt0:=by
 cases x <;> try trivial
 rename_i r' p e
 simp only [Cl.ah]
 split
 ·rename_i hr
  split
  ·rename_i hk
   simp only [qXb,qXz] at hk
   exact fun _=>.inr ⟨.inl hr,hk⟩
  ·trivial
 ·rename_i hr
  intro aB
  rcases h aB with h | h
  ·exact .inl fun hh=>hh.elim hr h
  ·exact .inr ⟨.inr h.1,h.2⟩
theorem SV.hX {Rr B : Nat → Prop} {rt0 : List aa} {r : Nat} {x : SV} (h : x.aV Rr B rt0) : (x.ah r true).aV (fun s=>s = r ∨ Rr s) (fun s=>s = r ∨ B s) rt0:=by
 cases x with
 | c x=>exact Cl.hX h
 | ag xs=>intro y hy; obtain ⟨x,hx,rfl⟩:=qQo.1 hy; exact Cl.hX (h x hx)
 | po r' p e i o =>
  simp only [SV.ah]
  split
  ·rename_i hr
   split
   ·rename_i hk
    simp only [qXb,qXz] at hk
    exact fun _=>.inr ⟨.inl hr,hk⟩
   ·trivial
  ·rename_i hr
   intro aB
   rcases h aB with h | h
   ·exact .inl fun hh=>hh.elim hr h
   ·exact .inr ⟨.inr h.1,h.2⟩
 | fn f az =>
  intro y hy
  obtain ⟨x,hx,rfl⟩:=qQo.1 hy
  cases x with
  | c x=>exact Cl.hX (h _ hx)
  | _=>trivial
 | bf vs =>
  intro y hy z hz
  obtain ⟨x,hx,rfl⟩:=qQo.1 hy
  obtain ⟨u,hu,rfl⟩:=qQo.1 hz
  exact Cl.hX (h x hx u hu)
 | _=>trivial
theorem aa.hX {Rr B : Nat → Prop} {rt0 : List aa} {r : Nat} {x : aa} (h : x.aV Rr B rt0) : (x.ah r true).aV (fun s=>s = r ∨ Rr s) (fun s=>s = r ∨ B s) rt0:=by
 cases x with
 | box t cs=>intro y hy; obtain ⟨x,hx,rfl⟩:=qQo.1 hy; exact Cl.hX (h x hx)
 | _=>trivial
theorem SV.zG {Rr B R' B' : Nat → Prop} {rt0 : List aa} {x : SV} (h : x.aV Rr B rt0) (hr : ∀ s,R' s ↔ Rr s) (hb : ∀ s,B' s ↔ B s) : x.aV R' B' rt0:=by
 have e1 : R' = Rr:=funext fun s=>propext (hr s)
 have e2 : B' = B:=funext fun s=>propext (hb s)
 rw [e1,e2]; exact h
theorem SV.mP {rt0 : List aa} : ∀ (rs : List Nat) {x : SV} {Rr : Nat → Prop},x.aV Rr Rr rt0 → (SV.bS rs x).aV (fun s=>s ∈ rs ∨ Rr s) (fun s=>s ∈ rs ∨ Rr s) rt0
 | [],x,Rr,h=>SV.zG h (fun s=>by simp) (fun s=>by simp)
 | r :: rs,x,Rr,h=>by
  have e1 : (fun s=>s ∈ r :: rs ∨ Rr s) = (fun s=>s ∈ rs ∨ (s = r ∨ Rr s)):=funext fun s=>by
   simp only [qQn,qXd]
   constructor
   ·rintro ((h | h) | h) <;> simp [*]
   ·rintro (h | h | h) <;> simp [*]
  rw [e1]; exact SV.mP rs (SV.hX (r:=r) h)
theorem aa.mP {rt0 : List aa} : ∀ (rs : List Nat) {x : aa} {Rr : Nat → Prop},x.aV Rr Rr rt0 → (aa.bS rs x).aV (fun s=>s ∈ rs ∨ Rr s) (fun s=>s ∈ rs ∨ Rr s) rt0
 | [],x,Rr,h=>by
  have e1 : (fun s=>s ∈ ([] : List Nat) ∨ Rr s) = Rr:=funext fun s=>by simp
  rw [e1]; exact h
 | r :: rs,x,Rr,h=>by
  have e1 : (fun s=>s ∈ r :: rs ∨ Rr s) = (fun s=>s ∈ rs ∨ (s = r ∨ Rr s)):=funext fun s=>by
   simp only [qQn,qXd]
   constructor
   ·rintro ((h | h) | h) <;> simp [*]
   ·rintro (h | h | h) <;> simp [*]
  rw [e1]; exact aa.mP rs (aa.hX (r:=r) h)
theorem qE : ∀ {ls : List (Option (Nat × Path))} {ms : List (List (List U))} {i : Nat} {st : St},(bq ls).Nodup → (∀ r ∈ bq ls,dt st.rt r) →
  (bz st ls ms i).sl = st.sl.map (SV.bS (bq ls)) ∧ (bz st ls ms i).np = st.np ∧ (bz st ls ms i).rt.length = st.rt.length ∧
  (∀ s,s ∉ bq ls → (bz st ls ms i).rt[s]? = (st.rt[s]?).map (aa.bS (bq ls))) ∧
  ∀ (k r : Nat) p e d xs,ls[k]? = some (some (r,p)) → st.rt[r]? = some (.row e d xs) → (bz st ls ms i).rt[r]? = some (.row e d (cD xs p (ms.getD (i + k) [])))
 | [],ms,i,st,_,_=>by
  refine ⟨?_,rfl,rfl,fun s _=>?_,fun k r p e d xs h=>by simp at h⟩
  ·exact (qYg _).symm
  ·show st.rt[s]? = (st.rt[s]?).map id
   rw [Option.map_id]; rfl
 | none :: ls,ms,i,st,hn,hr=>by
  obtain ⟨h1,h2,h3,h4,h5⟩:=qE (ls:=ls) (ms:=ms) (i:=i + 1) (st:=st) hn hr
  refine ⟨h1,h2,h3,h4,fun k r p e d xs hk hx=>?_⟩
  cases k with
  | zero=>simp at hk
  | succ k=>have:=h5 k r p e d xs (by simpa using hk) hx
            rwa [show i + 1 + k = i + (k + 1) from by omega] at this
 | some (r0,p0) :: ls,ms,i,st,hn,hr=>by
  have hL : bq (some (r0,p0) :: ls) = r0 :: bq ls:=rfl
  rw [hL] at hn hr ⊢
  obtain ⟨lD,di⟩:=qYd.1 hn
  obtain ⟨e0,d0,qY,h0⟩:=hr r0 (by simp)
  have av:=aA h0
  have e1 : bz st (some (r0,p0) :: ls) ms i = bz ((st.ah r0 true).aG r0 (.row e0 d0 (cD qY p0 (ms.getD i [])))) ls ms (i + 1):=by
   rw [bz]
   simp only [h0]
  have xr : ∀ s,s ≠ r0 → ∀ e d xs,st.rt[s]? = some (.row e d xs) → ((st.ah r0 true).aG r0 (.row e0 d0 (cD qY p0 (ms.getD i [])))).rt[s]? = some (.row e d xs):=by
   intro s hs e d xs hx
   rw [bu,if_neg (fun he=>hs he.symm),cz,hx]; rfl
  obtain ⟨h1,h2,h3,h4,h5⟩:=qE (ls:=ls) (ms:=ms) (i:=i + 1) (st:=(st.ah r0 true).aG r0 (.row e0 d0 (cD qY p0 (ms.getD i [])))) di (fun r lL=>by
   obtain ⟨e,d,xs,hx⟩:=hr r (by simp [lL])
   exact ⟨e,d,xs,xr r (by rintro rfl; exact lD lL) e d xs hx⟩)
  rw [e1]
  refine ⟨?_,h2,?_,fun s hs=>?_,fun k r p e d xs hk hx=>?_⟩
  ·rw [h1]
   show (st.sl.map _).map _ = _
   rw [qYx]; rfl
  ·rw [h3]
   show ((st.rt.map _).set r0 _).length = _
   rw [qQl,qQk]
  ·simp only [qQn,not_or] at hs
   rw [h4 s hs.2,bu,if_neg (fun he=>hs.1 he.symm),cz,qYr]; rfl
  ·cases k with
   | zero =>
    simp at hk
    obtain ⟨rfl,rfl⟩:=hk
    rw [h0] at hx; cases hx
    rw [h4 r0 lD,bu,if_pos rfl,if_pos (by show r0 < (st.rt.map _).length; rw [qQk]; exact av)]
    simp only [qQ7,aa.uH,qQ5]
   | succ k =>
    have aK : ls[k]? = some (some (r,p)):=by simpa using hk
    have gn : r ∈ bq ls:=qZs.2 ⟨_,qQz aK,rfl⟩
    have:=h5 k r p e d xs aK (xr r (by rintro rfl; exact lD gn) e d xs hx)
    rwa [show i + 1 + k = i + (k + 1) from by omega] at this
theorem Rel.gK : ∀ (rs : List Nat) {st : St} {g : Gh},Rel X own0 w0 st a w g → (∀ r ∈ rs,st.np ≤ r) → ∃ g',Rel X own0 w0 (st.gK rs) a w g' ∧ g'.v = g.v ∧ g'.b = g.b ∧
  (∀ b,g.own b = none → g'.own b = none) ∧ (∀ b s,s ∉ rs → g.own b = some s → g'.own b = some s) ∧ (∀ b s,g'.own b = some s → g.own b = some s) ∧
  (∀ b s,s ∈ rs → dt st.rt s → g.own b = some s → g'.own b = none) ∧ (∀ s e d xs,s ∉ rs → st.rt[s]? = some (.row e d xs) → (st.gK rs).rt[s]? = some (.row e d xs)) ∧ (st.gK rs).rt.length = st.rt.length ∧ (st.gK rs).np = st.np
 | [],st,g,h,_=>⟨g,h,rfl,rfl,fun _ hb=>hb,fun _ _ _ hb=>hb,fun _ _ hb=>hb,fun _ s hs=>by simp at hs,fun _ _ _ _ _ hx=>hx,rfl,rfl⟩
 | r :: rs,st,g,h,aO=>by
  obtain ⟨g1,h1,h2,h3,h4,h5,h6,h7⟩:=h.freeze r (aO r (by simp))
  have aB : ∀ s e d xs,s ≠ r → st.rt[s]? = some (.row e d xs) → (st.freeze r).rt[s]? = some (.row e d xs):=by
   intro s e d xs hs hx
   unfold St.freeze
   split
   ·rw [bu,if_neg (fun he=>hs he.symm)]
    show (st.rt.map _)[s]? = _
    rw [qQj,hx]; rfl
   ·exact hx
  have hlen : (st.freeze r).rt.length = st.rt.length:=by
   unfold St.freeze
   split
   ·show ((st.rt.map _).set r _).length = _
    rw [qQl,qQk]
   ·rfl
  have lF : (st.freeze r).np = st.np:=by unfold St.freeze; split <;> rfl
  obtain ⟨g2,q1,q2,q3,q4,q5,q6,q7,q8,q9,yw⟩:=Rel.gK rs h1 (fun s hs=>by rw [lF]; exact aO s (by simp [hs]))
  refine ⟨g2,q1,q2.trans h4,q3.trans h5,fun b hb=>q4 b (h2 b hb),fun b s hs hb=>?_,fun b s hb=>h7 b s (q6 b s hb),fun b s hs hr hb=>?_,fun s e d xs hs hx=>?_,q9.trans hlen,yw.trans lF⟩
  ·simp only [qQn,not_or] at hs
   exact q5 b s hs.2 (h6 b s hs.1 hb)
  ·by_cases he : s = r
   ·subst he; exact q4 b (h3 s hr b hb rfl)
   ·obtain ⟨e,d,xs,hx⟩:=hr
    have aM : s ∈ rs:=by simpa [he] using hs
    exact q7 b s aM ⟨e,d,xs,aB s e d xs he hx⟩ (h6 b s he hb)
  ·simp only [qQn,not_or] at hs
   exact q8 s e d xs hs.2 (aB s e d xs hs.1 hx)
end
abbrev gG:=aa × Option (Nat × Path)
section
variable {P : Program} {X X' : Ctx} {own0 : Nat → Option Nat} {w0 : World} {st : St} {a : Act} {w w' : World} {g g' : Gh} {R : Type}
theorem ck.get {X : Ctx} {st : St} {w : World} {g : Gh} : ∀ {ls : List gG} {vs : List Value},ck X st w g ls vs → ∀ {k : Nat} {l : gG},ls[k]? = some l → ∃ v,vs[k]? = some v ∧ vm X st w g l v
 | [],[],_,k,l,h=>by simp at h
 | l :: ls,v :: vs,h,0,l',hl=>by simp at hl; subst hl; exact ⟨v,rfl,h.1⟩
 | l :: ls,v :: vs,h,k + 1,l',hl=>by
  obtain ⟨v',h1,h2⟩:=ck.get h.2 (k:=k) (l:=l') (by simpa using hl)
  exact ⟨v',by simpa using h1,h2⟩
 | [],_ :: _,h,_,_,_=>h.elim
 | _ :: _,[],h,_,_,_=>h.elim
theorem lT : ∀ {ls : List (Option (Nat × Path))} {i j r : Nat} {p q : Path},(bq ls).Nodup → ls[i]? = some (some (r,p)) → ls[j]? = some (some (r,q)) → i = j
 | [],i,j,r,p,q,_,hi,_=>by simp at hi
 | none :: ls,0,j,r,p,q,hn,hi,hj=>by simp at hi
 | none :: ls,i + 1,0,r,p,q,hn,hi,hj=>by simp at hj
 | none :: ls,i + 1,j + 1,r,p,q,hn,hi,hj=>by
  have:=lT (ls:=ls) (i:=i) (j:=j) hn (by simpa using hi) (by simpa using hj)
  omega
 | some (s,t) :: ls,i,j,r,p,q,hn,hi,hj=>by
  have hL : bq (some (s,t) :: ls) = s :: bq ls:=rfl
  rw [hL] at hn
  obtain ⟨lD,di⟩:=qYd.1 hn
  have mem : ∀ {k : Nat} {q : Path},ls[k]? = some (some (r,q)) → r ∈ bq ls:=fun hk=>qZs.2 ⟨_,qQz hk,rfl⟩
  cases i with
  | zero =>
   simp at hi
   obtain ⟨rfl,rfl⟩:=hi
   cases j with
   | zero=>rfl
   | succ j=>exact absurd (mem (by simpa using hj)) lD
  | succ i =>
   cases j with
   | zero =>
    simp at hj
    obtain ⟨rfl,rfl⟩:=hj
    exact absurd (mem (by simpa using hi)) lD
   | succ j =>
    have:=lT (ls:=ls) (i:=i) (j:=j) di (by simpa using hi) (by simpa using hj)
    omega
def mF (X : Ctx) (st : St) (w : World) (g : Gh) (ls : List gG) (lv : List Value) (k : Nat) (Fp : Nat → Prop) : Prop :=
 (∀ b,Fp b → ∃ x r p,ls[k]? = some (x,some (r,p)) ∧ g.own b = some r) ∧
 (∀ e d r p v,ls[k]? = some (.row e true d,some (r,p)) → lv[k]? = some v → ak X.T.ct w Fp (.aj e) (.lst d) v ∧
  ∀ e0 xs,st.rt[r]? = some (.row e0 true xs) → ∀ (w' : World) (N : Nat → Prop) (ys : List (List U)),ak X.T.ct w' N (.aj e) (.lst ys) v → (∀ b,g.own b = some r → ¬ Fp b → w'.heap[b]? = w.heap[b]?) → (∀ b,N b → Fp b ∨ ¬ g.own b = some r) →
   ak X.T.ct w' (fun b=>(g.own b = some r ∧ ¬ Fp b) ∨ N b) (.aj e0) (.lst (cD xs p ys)) (g.v r)) ∧
 ∀ e d r p v,ls[k]? = some (.row e false d,some (r,p)) → lv[k]? = some v → p = [] ∧ v = g.v r ∧ aZ X.T.ct w Fp (aq X w g) e d v
theorem behind (hm : Mem X st w g) {ls : List gG} {lv : List Value} (hl : ck X st w g ls lv) (k : Nat) : ∃ Fp,mF X st w g ls lv k Fp:=by
 cases hk : ls[k]? with
 | none=>exact ⟨fun _=>False,fun _ h=>h.elim,fun e d r p v h=>(by rw [hk] at h; cases h),fun e d r p v h=>by rw [hk] at h; cases h⟩
 | some l =>
  obtain ⟨x,o⟩:=l
  cases o with
  | none=>exact ⟨fun _=>False,fun _ h=>h.elim,fun e d r p v h=>(by rw [hk] at h; cases h),fun e d r p v h=>by rw [hk] at h; cases h⟩
  | some rp =>
   obtain ⟨r,p⟩:=rp
   obtain ⟨v,h1,e,dp,d,h2,h3⟩:=hl.get hk
   rcases h3 with ⟨h3,_⟩ | ⟨r',p',e0,xs,h3,h4,nL,h5,h6⟩
   ·cases h3
   ·obtain ⟨rfl,rfl⟩ : r = r' ∧ p = p':=by cases h3; exact ⟨rfl,rfl⟩
    have hx : x = .row e dp d:=h2
    subst hx
    cases dp with
    | false =>
     obtain rfl : p = []:=by simpa using nL
     obtain ⟨q1,q2,rfl⟩:=h6.bX
     obtain rfl:=CT.aj.inj q1
     obtain rfl:=U.lst.inj q2
     refine ⟨fun b=>g.own b = some r,fun b hb=>⟨_,r,[],hk,hb⟩,fun e' d' r' p' v' aK=>(by rw [hk] at aK; cases aK),fun e' d' r' p' v' aK dP=>?_⟩
     rw [hk] at aK
     cases aK
     rw [h1] at dP
     cases dP
     exact ⟨rfl,rfl,hm.rt r _ h4⟩
    | true =>
     have hr : ak X.T.ct w (fun b=>g.own b = some r) (.aj e0) (.lst xs) (g.v r):=hm.rt r _ h4
     obtain ⟨Fp,f1,f2,f3⟩:=ak.wC h6 hr
     refine ⟨Fp,fun b hb=>⟨_,r,p,hk,f1 b hb⟩,fun e' d' r' p' v' aK dP=>?_,fun e' d' r' p' v' aK=>by rw [hk] at aK; cases aK⟩
     rw [hk] at aK
     cases aK
     rw [h1] at dP
     cases dP
     refine ⟨f2,fun im cd cg w' N ys hN hw hd=>?_⟩
     rw [h4] at cg
     cases cg
     have:=f3 w' N ys (fun e' he=>by obtain rfl:=CT.aj.inj he; exact hN) ⟨_,rfl⟩ hw hd
     by_cases hp : p = []
     ·subst hp
      rw [if_pos rfl] at this
      exact this
     ·rw [if_neg hp] at this
      exact this
theorem Dl (hm : Mem X st w g) {ls : List gG} {lv : List Value} (hl : ck X st w g ls lv) (hn : (bq (ls.map (·.2))).Nodup) :
  ∃ own : Nat → Option Nat,∀ k,mF X st w g ls lv k (fun b=>own b = some k):=by
 classical
 let F : Nat → Nat → Prop:=fun k=>Classical.choose (behind hm hl k)
 have hF : ∀ k,mF X st w g ls lv k (F k):=fun k=>Classical.choose_spec (behind hm hl k)
 have Cb : ∀ {k k' b},F k b → F k' b → k = k':=by
  intro k k' b h1 h2
  obtain ⟨x,r,p,q1,q2⟩:=(hF k).1 b h1
  obtain ⟨x',r',p',q3,q4⟩:=(hF k').1 b h2
  obtain rfl : r = r':=qQc (q2.symm.trans q4)
  exact lT (ls:=ls.map (·.2)) (p:=p) (q:=p') hn (by rw [qQj,q1]; rfl) (by rw [qQj,q3]; rfl)
 refine ⟨fun b=>if h : ∃ k,F k b then some (Classical.choose h) else none,fun k=>?_⟩
 have e : (fun b=>(if h : ∃ k,F k b then some (Classical.choose h) else none) = some k) = F k:=by
  funext b
  rw [qXd]
  constructor
  ·intro h
   split at h
   ·rename_i hh
    have:=Classical.choose_spec hh
    rw [qQc h] at this
    exact this
   ·cases h
  ·intro h
   have hh : ∃ k,F k b:=⟨k,h⟩
   rw [dif_pos hh]
   exact qQq some (Cb (Classical.choose_spec hh) h)
 rw [e]; exact hF k
theorem CN (hm : Mem X st w g) {ls : List gG} {lv : List Value} (hl : ck X st w g ls lv) {own : Nat → Option Nat} (ho : ∀ k,mF X st w g ls lv k (fun b=>own b = some k)) (S' : Nat → Prop) (AQ : ∀ b,aq X w g b → S' b) (aN : List SV) :
  Mem ⟨X.T,S',fun b=>w.heap.size ≤ b,ls.length,fun i=>lv.getD i undef,own⟩ ⟨aN,ls.map (·.1),(ls.map (·.1)).length⟩ w ⟨own,fun i=>lv.getD i undef,fun _=>0⟩:=by
 have bo : ∀ {b i},own b = some i → ∃ x r p,ls[i]? = some (x,some (r,p)) ∧ g.own b = some r:=fun h=>(ho _).1 _ h
 refine ⟨fun i x hx=>?_,fun b hb=>?_,fun b i hb=>?_,fun b hb=>hb,by simp,by simp,fun b i hb=>?_,fun i _=>rfl⟩
 ·have hx : (ls.map (·.1))[i]? = some x:=hx
  rw [qQj] at hx
  obtain ⟨l,hk,rfl⟩:=qQf.1 hx
  obtain ⟨v,h1,e,dp,d,h2,h3⟩:=hl.get hk
  obtain ⟨y,o⟩:=l
  have hy : y = .row e dp d:=h2
  subst hy
  rcases h3 with ⟨h4,rfl,rfl,rfl⟩ | ⟨r,p,e0,xs,h4,h5,nL,h6,h7⟩
  ·show ak X.T.ct w (fun b=>own b = some i) (.aj e) (.lst []) (lv.getD i undef)
   rw [cr h1]
   exact ak.nil e
  ·have h4 : o = some (r,p):=h4
   subst h4
   cases dp with
   | true =>
    show ak X.T.ct w (fun b=>own b = some i) (.aj e) (.lst d) (lv.getD i undef)
    rw [cr h1]
    exact ((ho i).2.1 e d r p v hk h1).1
   | false =>
    show aZ X.T.ct w (fun b=>own b = some i) _ e d (lv.getD i undef)
    rw [cr h1]
    refine aZ.imp ((ho i).2.2 e d r p v hk h1).2.2 (fun b hb=>⟨hb,rfl⟩) (fun b hb=>⟨⟨?_,hb.2.1,.inl (AQ b hb)⟩,rfl⟩)
    show own b = none
    cases hc : own b with
    | none=>rfl
    | some j=>obtain ⟨x,r',p',_,h2⟩:=bo hc; rw [hb.1] at h2; cases h2
 ·have hb : own b ≠ none:=hb
  cases hc : own b with
  | none=>exact absurd hc hb
  | some i =>
   obtain ⟨x,r,p,_,h2⟩:=bo hc
   exact hm.lt b (by rw [h2]; simp)
 ·obtain ⟨x,r,p,h1,_⟩:=bo hb
  show i < (ls.map (·.1)).length
  rw [qQk]; exact aA h1
 ·obtain ⟨x,r,p,h1,_⟩:=bo hb
  exact .inr ⟨aA h1,hb⟩
theorem uo : ∀ {ps : List (TypeId × Bool)} {ms : List (List (List U))} {k : Nat} {e : TypeId × Bool},ps[k]? = some e → (dk ps ms)[k]? = some (.row e.1 e.2 (ms.getD k []))
 | [],ms,k,e,h=>by simp at h
 | e' :: ps,ms,0,e,h=>by
  simp at h; subst h
  simp only [dk,List.getElem?_cons_zero]
  cases ms <;> rfl
 | e' :: ps,ms,k + 1,e,h=>by
  simp only [dk,qY1]
  rw [uo (ps:=ps) (by simpa using h)]
  cases ms <;> simp
theorem gU : ∀ (ps : List (TypeId × Bool)) (ms : List (List (List U))),(dk ps ms).length = ps.length
 | [],ms=>rfl
 | e :: ps,ms=>by simp [dk,gU ps]
theorem gX : ∀ (rt : List aa),(cV rt).length = rt.length
 | []=>rfl
 | .row .. :: rt=>by simp [cV,gX rt]
 | .box .. :: rt=>by simp [cV,gX rt]
 | .gone :: rt=>by simp [cV,gX rt]
theorem ox : ∀ {rt : List aa} {k : Nat} {e : TypeId} {d : Bool} {xs : List (List U)},rt[k]? = some (.row e d xs) → (cV rt)[k]? = some (e,d)
 | [],k,e,d,xs,h=>by simp at h
 | .row e' d' cd :: rt,0,e,d,xs,h=>by simp at h; simp [cV,h]
 | .box .. :: rt,0,e,d,xs,h=>by simp at h
 | .gone :: rt,0,e,d,xs,h=>by simp at h
 | .row .. :: rt,k + 1,e,d,xs,h=>by simp only [cV,qY1]; exact ox (by simpa using h)
 | .box .. :: rt,k + 1,e,d,xs,h=>by simp only [cV,qY1]; exact ox (by simpa using h)
 | .gone :: rt,k + 1,e,d,xs,h=>by simp only [cV,qY1]; exact ox (by simpa using h)
def eX (g g' : Gh) (own : Nat → Option Nat) (ls : List (Option (Nat × Path))) (L : Nat) : Gh :=
 ⟨fun b=>match g'.own b with
  | some i=>if i < ls.length then (match ls[i]? with | some (some (r,_))=>some r | _=>none) else some (L + (i - ls.length))
  | none=>match own b with | some _=>none | none=>g.own b,
  fun i=>if i < L then g.v i else g'.v (ls.length + (i - L)),g.b⟩
theorem zT (h : Rel X own0 w0 st a w g) {ls : List gG} {lv : List Value} (hl : ck X st w g ls lv) (hn : (bq (ls.map (·.2))).Nodup) {own : Nat → Option Nat} (ho : ∀ k,mF X st w g ls lv k (fun b=>own b = some k)) {S' : Nat → Prop}
  {ms : List (List (List U))} {res : List aa} (jG : ∀ x ∈ res,∃ e d xs,x = .row e d xs) (hS : ((∀ x ∈ res,∃ e xs,x = .row e true xs) ∧ ls.any uS = false) ∨ ∀ b,S' b → aq X w g b)
  (cT : Mem ⟨X.T,S',fun b=>w.heap.size ≤ b,ls.length,fun i=>lv.getD i undef,own⟩ ⟨[],dk (cV (ls.map (·.1))) ms ++ res,ls.length⟩ w' g') (hf : Fr own w w' g') :
  Rel X own0 w0 ⟨(bz st (ls.map (·.2)) ms 0).sl,(bz st (ls.map (·.2)) ms 0).rt ++ res,st.np⟩ a w' (eX g g' own (ls.map (·.2)) st.rt.length) ∧
  (∀ b,aq X w g b → aq X w' (eX g g' own (ls.map (·.2)) st.rt.length) b ∧ w'.heap[b]? = w.heap[b]?) ∧
  (∀ b,w.heap.size ≤ b → b < w'.heap.size → g'.own b = none → aq X w' (eX g g' own (ls.map (·.2)) st.rt.length) b):=by
 have bo : ∀ {b i},own b = some i → ∃ x r p,ls[i]? = some (x,some (r,p)) ∧ g.own b = some r:=fun h=>(ho _).1 _ h
 have fI : ∀ {i : Nat} {x : aa} {r p},ls[i]? = some (x,some (r,p)) → (ls.map (·.2))[i]? = some (some (r,p)):=fun h=>by rw [qQj,h]; rfl
 have BG : ∀ {i : Nat} {x : aa} {r p},ls[i]? = some (x,some (r,p)) → r ∈ bq (ls.map (·.2)):=fun h=>qZs.2 ⟨_,qQz (fI h),rfl⟩
 have sZ : ∀ r,r ∈ bq (ls.map (·.2)) → ∃ (i : Nat) (x : aa) (p : Path),ls[i]? = some (x,some (r,p)):=by
  intro r hr
  obtain ⟨o,h1,h2⟩:=qZs.1 hr
  obtain ⟨l,h3,rfl⟩:=qQo.1 h1
  obtain ⟨i,hi⟩:=qZ0 h3
  obtain ⟨x,o⟩:=l
  cases o with
  | none=>cases h2
  | some rp=>obtain ⟨r',p⟩:=rp; simp at h2; subst h2; exact ⟨i,x,p,hi⟩
 have aB : ∀ {i : Nat} {x : aa} {r p},ls[i]? = some (x,some (r,p)) → ∃ e dp d e0 xs v,x = .row e dp d ∧ st.rt[r]? = some (.row e0 dp xs) ∧ lv[i]? = some v ∧ d = bc xs p ∧ (dp = true ∨ (p = [] ∧ e0 = e)) ∧ ∃ A c,v = .slice A d.length c:=by
  intro i x r p hi
  obtain ⟨v,h1,e,dp,d,h2,h3⟩:=hl.get hi
  rcases h3 with ⟨h4,_⟩ | ⟨r',p',e0,xs,h4,h5,nL,h6,h7⟩
  ·cases h4
  ·cases h4
   refine ⟨e,dp,d,e0,xs,v,h2,h5,h1,h6,?_,?_⟩
   ·rcases nL with rfl | hd
    ·exact .inr ⟨rfl,(CT.aj.inj h7.bX.1).symm⟩
    ·exact .inl hd
   ·subst h6
    obtain ⟨e1,d1,ys,q1,q2⟩:=aF.fY h.mem (v:=v) (r:=r) (p:=p) (e:=e) ⟨e0,dp,xs,h5,nL,h7⟩
    rw [h5] at q1
    cases q1
    obtain ⟨A,c,q3,-⟩:=(q2 (fun _=>True) (fun _ _=>trivial) (fun _ _=>trivial)).ja
    exact ⟨A,c,q3⟩
 have pJ : ∀ r ∈ bq (ls.map (·.2)),dt st.rt r:=fun r hr=>by
  obtain ⟨i,x,p,hi⟩:=sZ r hr
  obtain ⟨e,dp,d,e0,xs,v,_,h5,_⟩:=aB hi
  exact ⟨e0,dp,xs,h5⟩
 obtain ⟨b1,b2,b3,b4,b5⟩:=qE (ls:=ls.map (·.2)) (ms:=ms) (i:=0) (st:=st) hn pJ
 have dC : ∀ b,b < w.heap.size → own b = none → g'.own b = none ∧ w'.heap[b]? = w.heap[b]?:=fun b hb bk=>hf.block b hb bk
 have wH : (ls.map (·.2)).length = ls.length:=qQk ..
 have pT : ∀ b,b < w.heap.size → own b = none → (eX g g' own (ls.map (·.2)) st.rt.length).own b = g.own b:=fun b hb bk=>by
  show (match g'.own b with | some i=>_ | none=>match own b with | some _=>none | none=>g.own b) = _
  rw [(dC b hb bk).1,bk]
 have pX : ∀ b,g.own b = none → own b = none:=fun b hb=>by
  cases hc : own b with
  | none=>rfl
  | some i=>obtain ⟨x,r,p,_,h2⟩:=bo hc; rw [hb] at h2; cases h2
 have bn : ∀ b,aq X w g b → aq X w' (eX g g' own (ls.map (·.2)) st.rt.length) b ∧ w'.heap[b]? = w.heap[b]?:=fun b hb =>
  ⟨⟨(pT b hb.2.1 (pX b hb.1)).trans hb.1,qQ2 hb.2.1 hf.size,hb.2.2⟩,(dC b hb.2.1 (pX b hb.1)).2⟩
 have ko : ∀ b,w.heap.size ≤ b → b < w'.heap.size → g'.own b = none → aq X w' (eX g g' own (ls.map (·.2)) st.rt.length) b:=fun b hb av ca=>by
  have lq : g.own b = none:=by
   cases hc : g.own b with
   | none=>rfl
   | some s=>have:=h.mem.lt b (by rw [hc]; simp); omega
  refine ⟨?_,av,.inr (h.mem.n0 b hb)⟩
  show (match g'.own b with | some i=>_ | none=>match own b with | some _=>none | none=>g.own b) = _
  rw [ca,pX b lq]; exact lq
 have hK : bN X (fun s=>s ∈ bq (ls.map (·.2))) (fun s=>s ∈ bq (ls.map (·.2))) w g (st.bS (bq (ls.map (·.2)))).rt w' (eX g g' own (ls.map (·.2)) st.rt.length) ((bz st (ls.map (·.2)) ms 0).rt ++ res):=by
  have gq : ∀ s : Nat,(st.bS (bq (ls.map (·.2)))).rt[s]? = (st.rt[s]?).map (aa.bS (bq (ls.map (·.2)))):=fun s=>qQj
  have av : ∀ {s : Nat} {x},(st.bS (bq (ls.map (·.2)))).rt[s]? = some x → s < (bz st (ls.map (·.2)) ms 0).rt.length:=fun hx=>by
   have:=aA hx
   rw [b3]
   exact (show (st.rt.map _).length = _ from qQk ..) ▸ this
  refine ⟨bn,fun b r hr hb=>?_,fun r hr _=>?_,fun r e d xs hr hx=>?_,fun r t cs hx=>⟨rfl,?_⟩,fun r hr=>⟨?_,fun e d xs hx=>?_⟩⟩
  ·have au:=h.mem.lt b (by rw [hb]; simp)
   have bk : own b = none:=by
    cases hc : own b with
    | none=>rfl
    | some i =>
     obtain ⟨x,r',p,h1,h2⟩:=bo hc
     obtain rfl : r = r':=qQc (hb.symm.trans h2)
     exact absurd (BG h1) hr
   exact ⟨(pT b au bk).trans hb,(dC b au bk).2⟩
  ·have : r < st.rt.length:=(show (st.rt.map _).length = _ from qQk ..) ▸ hr
   exact if_pos this
  ·rw [qQu (av hx),b4 r hr,← gq]; exact hx
  ·have hr : r ∉ bq (ls.map (·.2)):=by
    intro hr
    obtain ⟨e,d,xs,h1⟩:=pJ r hr
    rw [gq,h1] at hx
    simp [aa.uH] at hx
   exact ⟨cs,by rw [qQu (av hx),b4 r hr,← gq]; exact hx⟩
  ·obtain ⟨e,d,xs,h1⟩:=pJ r hr
   exact if_pos (aA h1)
  ·obtain ⟨i,y,p,hi⟩:=sZ r hr
   rw [gq] at hx
   obtain ⟨e1,d1,mD,h1⟩:=pJ r hr
   rw [h1] at hx
   simp only [qQ7,aa.uH,qZo,aa.row.injEq] at hx
   have h8:=b5 i r p _ _ _ (fI hi) h1
   rw [hx.1] at h8
   refine ⟨_,_,(qQu (by rw [b3]; exact aA h1)).trans h8,?_⟩
   obtain ⟨e2,dp,d2,e3,vg,v,rfl,q5,q6,q7,-,A',c',k2⟩:=aB hi
   rw [← hx.2.2]
   cases p with
   | cons a p=>obtain ⟨i',o'⟩:=a; rw [uQ,qQl]
   | nil =>
    have fe : i < ls.length:=aA hi
    have h9 : (dk (cV (ls.map (·.1))) ms ++ res)[i]? = some (.row e2 dp (ms.getD i [])):=by
     rw [qQu (by rw [gU,gX,qQk]; exact fe)]
     exact uo (ox (by rw [qQj,hi]; rfl))
    obtain ⟨A,c,k1⟩ : ∃ A c,v = .slice A (ms.getD i []).length c:=by
     have dM:=cT.rt i _ h9
     rw [← show g'.v i = v from (cT.pv i fe).trans (cr q6)]
     cases dp with
     | true=>obtain ⟨A,c,k1,-⟩:=(ak.gC (aq:=fun _=>True) dM fun _ _=>trivial).ja; exact ⟨A,c,k1⟩
     | false=>obtain ⟨A,c,k1,-⟩:=(aZ.gC (okb':=fun _=>True) dM (fun _ _=>trivial) fun _ _=>trivial).ja; exact ⟨A,c,k1⟩
    rw [k1] at k2
    have hlen : (ms.getD i []).length = d2.length:=(Value.slice.inj k2).2.1
    have jK : mD = vg:=by rw [h1] at q5; cases q5; rfl
    show (ms.getD (0 + i) []).length = mD.length
    rw [qQy,hlen,q7,jK]; rfl
 have hP:=Rel.bS (bq (ls.map (·.2))) h
 have lJ : ∀ {b i : Nat},g'.own b = some i → (eX g g' own (ls.map (·.2)) st.rt.length).own b = if i < ls.length then (match (ls.map (·.2))[i]? with | some (some (r,_))=>some r | _=>none) else some (st.rt.length + (i - ls.length)):=fun {b i} hb=>by
  show (match g'.own b with | some i=>if i < (List.map (fun x : gG=>x.2) ls).length then _ else some (st.rt.length + (i - (List.map (fun x : gG=>x.2) ls).length)) | none=>_) = _
  rw [hb,wH]
 have qa : (cV (ls.map (·.1))).length = ls.length:=by rw [gX,qQk]
 refine ⟨⟨⟨fun i x hx=>?_,fun b hb=>?_,fun b s hb=>?_,h.mem.om hf.size,h.mem.np,?_,fun b s hb=>?_,fun s hs=>?_⟩,?_,fun i sv hi=>?_,h.df,⟨hf.os.trans h.fr.os,hf.tape.trans h.fr.tape,hf.output.trans h.fr.output,qZd h.fr.size hf.size,fun b hb bk=>?_⟩⟩,bn,ko⟩
 ·
  have hx : ((bz st (ls.map (·.2)) ms 0).rt ++ res)[i]? = some x:=hx
  by_cases hi : i < st.rt.length
  ·rw [qQu (by rw [b3]; exact hi)] at hx
   by_cases hr : i ∈ bq (ls.map (·.2))
   ·obtain ⟨k,y,p,hk⟩:=sZ i hr
    obtain ⟨e,dp,d,e0,xs,v,rfl,h5,h6,h7,h8p,-⟩:=aB hk
    have h8:=b5 k i p _ _ _ (fI hk) h5
    rw [h8] at hx
    obtain rfl:=qQc hx
    rw [qQy]
    have fe : k < ls.length:=aA hk
    have h9 : (dk (cV (ls.map (·.1))) ms ++ res)[k]? = some (.row e dp (ms.getD k [])):=by
     rw [qQu (by rw [gU,qa]; exact fe)]
     exact uo (ox (by rw [qQj,hk]; rfl))
    have Bv:=(cT.pv k fe).trans (cr h6)
    cases dp with
    | false =>
     obtain ⟨rfl,rfl⟩:=h8p.resolve_left (by simp)
     have dM : aZ X.T.ct w' (fun b=>g'.own b = some k) _ e0 (ms.getD k []) (g'.v k):=cT.rt k _ h9
     rw [Bv,((ho k).2.2 e0 d i [] v hk h6).2.1] at dM
     show aZ X.T.ct w' (fun b=>(eX g g' own (ls.map (·.2)) st.rt.length).own b = some i) _ e0 (ms.getD k []) (if i < st.rt.length then g.v i else _)
     rw [if_pos hi]
     refine aZ.imp dM (fun b hb=>⟨by rw [lJ hb,if_pos fe,fI hk],rfl⟩) (fun b hb=>⟨?_,rfl⟩)
     rcases hS with hS | hS
     ·have:=qX0.1 hS.2 _ (qQz hk)
      exact absurd rfl this
     ·by_cases av : b < w.heap.size
      ·rcases hb.2.2 with hs | hs
       ·exact (bn b (hS b hs)).1
       ·exact absurd av (by show ¬ _; exact Nat.not_lt.2 hs)
      ·exact ko b (by omega) hb.2.1 hb.1
    | true =>
     have dM : ak X.T.ct w' (fun b=>g'.own b = some k) (.aj e) (.lst (ms.getD k [])) (g'.v k):=cT.rt k _ h9
     rw [show g'.v k = v from (cT.pv k fe).trans (cr h6)] at dM
     have lf:=((ho k).2.1 e d i p v hk h6).2 e0 xs h5 w' (fun b=>g'.own b = some k) (ms.getD k []) dM (fun b hb iD=>?_) (fun b hb=>?_)
     ·show ak X.T.ct w' (fun b=>(eX g g' own (ls.map (·.2)) st.rt.length).own b = some i) (.aj e0) _ (if i < st.rt.length then g.v i else _)
      rw [if_pos hi]
      refine lf.mono fun b hb=>?_
      rcases hb with ⟨gh,aT⟩ | hb
      ·have au:=h.mem.lt b (by rw [gh]; simp)
       have bk : own b = none:=by
        cases hc : own b with
        | none=>rfl
        | some j =>
         obtain ⟨y,r',p',q1,q2⟩:=bo hc
         obtain rfl : i = r':=qQc (gh.symm.trans q2)
         obtain rfl:=lT hn (fI hk) (fI q1)
         exact absurd hc aT
       exact (pT b au bk).trans gh
      ·rw [lJ hb,if_pos fe,fI hk]
     ·have au:=h.mem.lt b (by rw [hb]; simp)
      have bk : own b = none:=by
       cases hc : own b with
       | none=>rfl
       | some j =>
        obtain ⟨y,r',p',q1,q2⟩:=bo hc
        obtain rfl : i = r':=qQc (hb.symm.trans q2)
        obtain rfl:=lT hn (fI hk) (fI q1)
        exact absurd hc iD
      exact (dC b au bk).2
     ·by_cases av : b < w.heap.size
      ·cases hc : own b with
       | none=>rw [(dC b av hc).1] at hb; cases hb
       | some j =>
        by_cases hjk : j = k
        ·subst hjk; exact .inl hc
        ·right
         intro lq
         obtain ⟨y,r',p',q1,q2⟩:=bo hc
         obtain rfl : i = r':=qQc (lq.symm.trans q2)
         exact hjk (lT hn (fI q1) (fI hk))
      ·right
       intro lq
       exact av (h.mem.lt b (by rw [lq]; simp))
   ·rw [b4 i hr] at hx
    obtain ⟨y,hy,rfl⟩:=qQf.1 hx
    have cy : (st.bS (bq (ls.map (·.2)))).rt[i]? = some (aa.bS (bq (ls.map (·.2))) y):=by
     show (st.rt.map _)[i]? = _
     rw [qQj,hy]; rfl
    refine cm.keep hP.mem hK cy hr ?_
    have:=aa.mP (rt0:=(st.bS (bq (ls.map (·.2)))).rt) (bq (ls.map (·.2))) (x:=y) (Rr:=fun _=>False) (aa.eD y)
    have e1 : (fun s=>s ∈ bq (ls.map (·.2)) ∨ False) = (fun s=>s ∈ bq (ls.map (·.2))):=funext fun s=>by simp
    rw [e1] at this
    exact this
  ·rw [qQx (by rw [b3]; omega),b3] at hx
   obtain ⟨j,rfl⟩ : ∃ j,i = st.rt.length + j:=⟨i - st.rt.length,by omega⟩
   rw [show st.rt.length + j - st.rt.length = j from by omega] at hx
   obtain ⟨e,d,xs,rfl⟩:=jG x (qQz hx)
   have h9 : (dk (cV (ls.map (·.1))) ms ++ res)[ls.length + j]? = some (.row e d xs):=by
    rw [qQx (by rw [gU,qa]; omega),gU,qa,show ls.length + j - ls.length = j from by omega]
    exact hx
   have dM:=cT.rt _ _ h9
   have hv : (eX g g' own (ls.map (·.2)) st.rt.length).v (st.rt.length + j) = g'.v (ls.length + j):=by
    show (if st.rt.length + j < st.rt.length then _ else g'.v ((ls.map (·.2)).length + (st.rt.length + j - st.rt.length))) = _
    rw [if_neg (by omega),wH]; congr 1; omega
   have hF : ∀ b,g'.own b = some (ls.length + j) → (eX g g' own (ls.map (·.2)) st.rt.length).own b = some (st.rt.length + j):=fun b hb=>by
    rw [lJ hb,if_neg (by omega)]; congr 1; omega
   cases d with
   | true =>
    show ak _ _ _ _ _ ((eX g g' own (ls.map (·.2)) st.rt.length).v _)
    rw [hv]
    exact ak.mono (h:=dM) hF
   | false =>
    show aZ _ _ _ _ _ _ ((eX g g' own (ls.map (·.2)) st.rt.length).v _)
    rw [hv]
    refine aZ.imp dM (fun b hb=>⟨hF b hb,rfl⟩) (fun b hb=>⟨?_,rfl⟩)
    rcases hS with hS | hS
    ·obtain ⟨e',cd,hh⟩:=hS.1 _ (qQz hx); cases hh
    ·by_cases av : b < w.heap.size
     ·rcases hb.2.2 with hs | hs
      ·exact (bn b (hS b hs)).1
      ·exact absurd av (by show ¬ _; exact Nat.not_lt.2 hs)
     ·exact ko b (by omega) hb.2.1 hb.1
 ·cases hc : g'.own b with
  | some i=>exact cT.lt b (by rw [hc]; simp)
  | none =>
   have hb : (match g'.own b with | some i=>_ | none=>match own b with | some _=>none | none=>g.own b) ≠ none:=hb
   rw [hc] at hb
   cases fG : own b with
   | some j=>rw [fG] at hb; exact absurd rfl hb
   | none=>rw [fG] at hb; exact qQ2 (h.mem.lt b hb) hf.size
 ·show s < ((bz st (ls.map (·.2)) ms 0).rt ++ res).length
  rw [qQ6,b3]
  cases hc : g'.own b with
  | some i =>
   rw [lJ hc] at hb
   split at hb
   ·split at hb
    ·rename_i r p hr
     cases hb
     rw [qQj] at hr
     obtain ⟨l,h1,h2⟩:=qQf.1 hr
     obtain ⟨y,o⟩:=l
     have h2 : o = some (s,p):=h2
     subst h2
     obtain ⟨e,dp,d,e0,xs,v,_,h5,_⟩:=aB h1
     have:=aA h5
     omega
    ·cases hb
   ·cases hb
    have:=cT.ob b i hc
    have : i < (dk (cV (ls.map (·.1))) ms ++ res).length:=this
    rw [qQ6,gU,qa] at this
    omega
  | none =>
   have hb : (match g'.own b with | some i=>_ | none=>match own b with | some _=>none | none=>g.own b) = some s:=hb
   rw [hc] at hb
   cases fG : own b with
   | some j=>rw [fG] at hb; cases hb
   | none=>rw [fG] at hb; have:=h.mem.ob b s hb; omega
 ·show X.np ≤ ((bz st (ls.map (·.2)) ms 0).rt ++ res).length
  rw [qQ6,b3]; have:=h.mem.nl; omega
 ·cases hc : g'.own b with
  | some i =>
   by_cases av : w.heap.size ≤ b
   ·exact .inl (h.mem.n0 b av)
   ·rw [lJ hc] at hb
    obtain ⟨hi,hp⟩ : i < ls.length ∧ own b = some i:=by
     rcases cT.pm b i hc with hh | hh
     ·exact absurd hh av
     ·exact hh
    rw [if_pos hi] at hb
    obtain ⟨y,r',p',q1,q2⟩:=bo hp
    rw [fI q1] at hb
    obtain rfl : r' = s:=qQc hb
    exact h.mem.pm b r' q2
  | none =>
   have hb : (match g'.own b with | some i=>_ | none=>match own b with | some _=>none | none=>g.own b) = some s:=hb
   rw [hc] at hb
   cases fG : own b with
   | some j=>rw [fG] at hb; cases hb
   | none=>rw [fG] at hb; exact h.mem.pm b s hb
 ·show (if s < st.rt.length then g.v s else _) = _
  have:=h.mem.nl
  rw [if_pos (by omega)]; exact h.mem.pv s hs
 ·show (bz st (ls.map (·.2)) ms 0).sl.length ≤ _
  rw [b1,qQk]; exact h.sz
 ·have hi : (bz st (ls.map (·.2)) ms 0).sl[i]? = some sv:=hi
  rw [b1] at hi
  have h1:=hP.sl i sv hi
  rw [qQj] at hi
  obtain ⟨y,hy,rfl⟩:=qQf.1 hi
  refine ay.keep hP.mem hK ?_ h1
  have:=SV.mP (rt0:=(st.bS (bq (ls.map (·.2)))).rt) (bq (ls.map (·.2))) (x:=y) (Rr:=fun _=>False) (SV.eD y)
  have e1 : (fun s=>s ∈ bq (ls.map (·.2)) ∨ False) = (fun s=>s ∈ bq (ls.map (·.2))):=funext fun s=>by simp
  rw [e1] at this
  exact this
 ·obtain ⟨e1,e2⟩:=h.fr.block b hb bk
  have av : b < w.heap.size:=qQ2 hb h.fr.size
  have h3:=pX b e1
  exact ⟨(pT b av h3).trans e1,(dC b av h3).2.trans e2⟩
end
def Sound (P : Program) (T : ax) (sig : FuncId → jg) (den : Den) : Prop :=
 ∀ (f : FuncId) (aN : List SV) (af : List aa) (ret : aJ),den f aN af = some ret →
  ∃ fn,P.funcs[f]? = some fn ∧ fn.body.isNone = false ∧ ((ef (sig f).rs = true ∨ ∀ t ∈ fn.resultTypes.toList,(T.row t).d.known = true) →
   ∀ (X : Ctx) (w : World) (g : Gh) (args : Array Value),X.T = T → Mem X ⟨aN,af,af.length⟩ w g → cY X w af g aN args.toList →
    Calls P f args w fun e w'=>∃ v,e = .returned v ∧ rf X g.own w (sig f) fn.resultTypes.toList (cV af) ret v w')
def iZ (b : Bool) (n n' : Nat) : Cl → Cl
 | .al r p e=>if n ≤ r then .al (r - n + n') p e else .no
 | .rd e xs=>if b then .rd e xs else .no
 | x=>x
def SV.bW (f : Cl → Cl) : SV → SV
 | .c x=>.c (f x) | .ag xs=>.ag (xs.map f) | .bf vs=>.bf (vs.map fun x=>(x.1,x.2.map f)) | _=>.no
theorem uR {b : Bool} {n n' : Nat} {t : CT} {u : U} (h : t.bU = false) : iZ b n n' (Cl.dS t u) = Cl.dS t u:=by
 cases t <;> first | rfl | cases h
theorem mj {b : Bool} {md : RM} (hb : b = true ∨ md = .own) (n n' : Nat) : ∀ (ts : List CT) (us : List U) (i d : Nat),
  aI md ts us i (n' + d) = ((aI md ts us i (n + d)).1.map (iZ b n n'),(aI md ts us i (n + d)).2)
 | [],us,i,d=>by simp [aI]
 | .aj e :: ts,us,i,d=>by
  have h1:=mj hb n n' ts us (i + 1) d
  have h2:=mj hb n n' ts us (i + 1) (d + 1)
  have h3 : iZ b n n' (.al (n + d) [] e) = .al (n' + d) [] e:=by
   show (if n ≤ n + d then _ else _) = _
   rw [if_pos (by omega),show n + d - n + n' = n' + d from by omega]
  cases md with
  | ro =>
   have hb : b = true:=hb.resolve_right (by decide)
   subst hb
   simp only [aI,h1,qQ0]; rfl
  | own=>simp only [aI,qQ4,h2,qQ0,h3]
  | qQ=>simp only [aI,qQ4,h2,qQ0,h3]
  | ptr e'=>simp only [aI,qQ4,h2,qQ0,h3]
 | .int k :: ts,us,i,d=>by simp only [aI,mj hb n n' ts us (i + 1) d,qQ0,uR (b:=b) (n:=n) (n':=n') (t:=.int k) rfl]
 | .bool :: ts,us,i,d=>by simp only [aI,mj hb n n' ts us (i + 1) d,qQ0,uR (b:=b) (n:=n) (n':=n') (t:=.bool) rfl]
 | .str :: ts,us,i,d=>by simp only [aI,mj hb n n' ts us (i + 1) d,qQ0,uR (b:=b) (n:=n) (n':=n') (t:=.str) rfl]
theorem DE {T : ax} {b : Bool} {md : RM} (hb : b = true ∨ md = .own) (n n' : Nat) (t : TypeId) (us : List U) (d : Nat) :
  ej T md t us (n' + d) = ((ej T md t us (n + d)).1.map (iZ b n n'),(ej T md t us (n + d)).2):=by
 cases md with
 | ptr e =>
  have h3 : iZ b n n' (.al (n + d) [] e) = .al (n' + d) [] e:=by
   show (if n ≤ n + d then _ else _) = _
   rw [if_pos (by omega),show n + d - n + n' = n' + d from by omega]
  simp only [ej,qQ0,List.map_nil,h3]
 | _=>exact mj hb n n' _ _ _ _
theorem yD {T : ax} {b : Bool} (n n' : Nat) : ∀ (ts : List TypeId) (aS : List RM) (us : List (List U)) (i d : Nat),(b = true ∨ ∀ m ∈ aS,m = .own) →
  results1 T aS ts us i (n' + d) = ((results1 T aS ts us i (n + d)).1.map (fun x=>(x.1,x.2.map (iZ b n n'))),(results1 T aS ts us i (n + d)).2)
 | [],aS,us,i,d,hb=>by unfold results1; rfl
 | t :: ts,aS,us,i,d,hb=>by
  have h1:=DE (T:=T) (b:=b) (md:=aS.headD .own) (hb.imp id fun h=>by cases aS with | nil=>rfl | cons m ms=>exact h m (by simp)) n n' t (us.getD i []) d
  have h2:=yD (T:=T) (b:=b) n n' ts aS.tail us (i + 1) (d + (ej T (aS.headD .own) t (us.getD i []) (n + d)).2.length) (hb.imp id fun h m hm=>h m (qXl hm))
  unfold results1
  simp only [h1]
  rw [qQ4,h2,← qQ4]
  rfl
theorem yz {f : Cl → Cl} (hf : f .no = .no) (z : List (Bool × List Cl)) : dx (z.map fun x=>(x.1,x.2.map f)) = (dx z).bW f:=by
 match z with
 | []=>rfl
 | [(true,cs)]=>rfl
 | [(false,[])]=>simp [dx,SV.bW,hf]
 | [(false,[c])]=>rfl
 | [(false,_ :: _ :: _)]=>simp [dx,SV.bW,hf]
 | (true,cs) :: y :: z=>rfl
 | (false,[]) :: y :: z=>rfl
 | (false,[c]) :: y :: z=>rfl
 | (false,_ :: _ :: _) :: y :: z=>rfl
theorem DG (z : List (Bool × List Cl)) : (∃ x,dx z = .c x) ∨ (∃ xs,dx z = .ag xs) ∨ ∃ vs,dx z = .bf vs:=by
 match z with
 | []=>exact .inr (.inr ⟨_,rfl⟩)
 | [(true,cs)]=>exact .inr (.inl ⟨_,rfl⟩)
 | [(false,[])]=>exact .inl ⟨_,rfl⟩
 | [(false,[c])]=>exact .inl ⟨_,rfl⟩
 | [(false,_ :: _ :: _)]=>exact .inl ⟨_,rfl⟩
 | (true,cs) :: y :: z=>exact .inr (.inr ⟨_,rfl⟩)
 | (false,[]) :: y :: z=>exact .inr (.inr ⟨_,rfl⟩)
 | (false,[c]) :: y :: z=>exact .inr (.inr ⟨_,rfl⟩)
 | (false,_ :: _ :: _) :: y :: z=>exact .inr (.inr ⟨_,rfl⟩)
theorem jR (md : RM) : ∀ (ts : List CT) (us : List U) (i n : Nat),∀ x ∈ (aI md ts us i n).2,∃ e d xs,x = .row e d xs ∧ (md = .own → d = true)
 | [],us,i,n,x,hx=>by simp [aI] at hx
 | .aj e :: ts,us,i,n,x,hx=>by
  cases md with
  | ro=>exact jR .ro ts us (i + 1) n x hx
  | own =>
   simp only [aI,qQn] at hx
   rcases hx with rfl | hx
   ·exact ⟨_,_,_,rfl,fun _=>rfl⟩
   ·exact jR .own ts us (i + 1) _ x hx
  | qQ =>
   simp only [aI,qQn] at hx
   rcases hx with rfl | hx
   ·exact ⟨_,_,_,rfl,fun h=>by cases h⟩
   ·exact jR .qQ ts us (i + 1) _ x hx
  | ptr e' =>
   simp only [aI,qQn] at hx
   rcases hx with rfl | hx
   ·exact ⟨_,_,_,rfl,fun h=>by cases h⟩
   ·exact jR (.ptr e') ts us (i + 1) _ x hx
 | .int k :: ts,us,i,n,x,hx=>jR md ts us (i + 1) n x (by simpa only [aI] using hx)
 | .bool :: ts,us,i,n,x,hx=>jR md ts us (i + 1) n x (by simpa only [aI] using hx)
 | .str :: ts,us,i,n,x,hx=>jR md ts us (i + 1) n x (by simpa only [aI] using hx)
theorem DD {T : ax} (md : RM) (t : TypeId) (us : List U) (n : Nat) : ∀ x ∈ (ej T md t us n).2,∃ e d xs,x = .row e d xs ∧ (md = .own → d = true):=by
 intro x hx
 cases md with
 | ptr e=>simp only [ej,qZj] at hx; exact ⟨_,_,_,hx,fun h=>by cases h⟩
 | _=>exact jR _ _ _ _ _ x hx
theorem yC {T : ax} : ∀ (ts : List TypeId) (aS : List RM) (us : List (List U)) (i n : Nat),∀ x ∈ (results1 T aS ts us i n).2,∃ e d xs,x = .row e d xs ∧ ((∀ m ∈ aS,m = .own) → d = true)
 | [],aS,us,i,n,x,hx=>by unfold results1 at hx; simp at hx
 | t :: ts,aS,us,i,n,x,hx=>by
  unfold results1 at hx
  rcases qZg.1 hx with hx | hx
  ·obtain ⟨e,d,xs,h1,h2⟩:=DD _ _ _ _ x hx
   exact ⟨e,d,xs,h1,fun h=>h2 (by cases aS with | nil=>rfl | cons m ms=>exact h m (by simp))⟩
  ·obtain ⟨e,d,xs,h1,h2⟩:=yC ts aS.tail us _ _ x hx
   exact ⟨e,d,xs,h1,fun h=>h2 fun m hm=>h m (qXl hm)⟩
theorem kX : ∀ (xs acc : List Nat) (x : Nat),x ∈ dedup acc xs ↔ x ∈ acc ∨ x ∈ xs
 | [],acc,x=>by simp [dedup]
 | y :: ys,acc,x=>by
  unfold dedup
  split
  ·rename_i hy
   have hy : y ∈ acc:=by simpa using hy
   rw [kX ys acc x,qQn]
   constructor
   ·rintro (h | h) <;> simp [h]
   ·rintro (h | rfl | h)
    ·exact .inl h
    ·exact .inl hy
    ·exact .inr h
  ·rw [kX ys _ x,qZg,qZj,qQn,or_assoc]
section
variable {P : Program} {X X' : Ctx} {own0 : Nat → Option Nat} {w0 : World} {st : St} {a : Act} {w w' : World} {g g' : Gh} {R : Type}
theorem ay.bW {rt rt' : List aa} (f : Cl → Cl) (hf : ∀ x v,aF X w rt g x v → aF X' w' rt' g' (f x) v) (iD : f .no = .no) {z : List (Bool × List Cl)} {v : Value} (h : ay X w rt g (dx z) v) : ay X' w' rt' g' ((dx z).bW f) v:=by
 have bG : ∀ {xs : List Cl} {vs : List Value},aw X w rt g xs vs → aw X' w' rt' g' (xs.map f) vs:=by
  intro xs
  induction xs with
  | nil=>intro vs h; cases vs <;> exact h
  | cons x xs ih=>intro vs h; cases vs with
   | nil=>exact h
   | cons v vs=>exact ⟨hf _ _ h.1,ih h.2⟩
 have Ca : ∀ {xs : List (Bool × List Cl)} {vs : List Value},bm X w rt g xs vs → bm X' w' rt' g' (xs.map fun x=>(x.1,x.2.map f)) vs:=by
  intro xs
  induction xs with
  | nil=>intro vs h; cases vs <;> exact h
  | cons x xs ih =>
   intro vs h
   obtain ⟨b,cs⟩:=x
   cases b with
   | true=>cases vs with
    | nil=>exact h
    | cons v vs=>obtain ⟨⟨ds,h1,h2⟩,h3⟩:=h; exact ⟨⟨ds,h1,bG h2⟩,ih h3⟩
   | false =>
    match cs,h with
    | [],h=>cases vs with
     | nil=>exact h
     | cons v vs=>exact ih (vs:=vs) h
    | [c],h=>cases vs with
     | nil=>exact h
     | cons v vs=>exact ⟨hf _ _ h.1,ih h.2⟩
    | _ :: _ :: _,h=>cases vs with
     | nil=>exact h
     | cons v vs=>exact ih (vs:=vs) h
 rcases DG z with ⟨x,hx⟩ | ⟨xs,hx⟩ | ⟨vs,hx⟩ <;> rw [hx] at h ⊢
 ·by_cases hn : x = .no
  ·subst hn
   show ay X' w' rt' g' (.c (f .no)) v
   rw [iD]; trivial
  ·exact ay.cj (hf x v (h.cl hn))
 ·obtain ⟨ds,h1,h2⟩:=h; exact ⟨ds,h1,bG h2⟩
 ·obtain ⟨ds,h1,h2⟩:=h; exact ⟨ds,h1,Ca h2⟩
theorem bJ.aN {rt : List aa} : ∀ {az : List aH} {vs : List Value},bJ X w rt g az vs → cY X w rt g (az.map aH.sv) vs
 | [],[],_=>trivial
 | .c x :: az,v :: vs,h=>⟨ay.cj h.1,bJ.aN h.2⟩
 | .bx r o :: az,v :: vs,h=>⟨h.1,bJ.aN h.2⟩
 | .pr e us o :: az,v :: vs,h=>⟨h.1,bJ.aN h.2⟩
 | [],_ :: _,h=>h.elim
 | .c _ :: _,[],h=>h.elim
 | .bx .. :: _,[],h=>h.elim
 | .pr .. :: _,[],h=>h.elim
theorem cY.append {rt : List aa} : ∀ {xs ys : List SV} {vs us : List Value},cY X w rt g xs vs → cY X w rt g ys us → cY X w rt g (xs ++ ys) (vs ++ us)
 | [],_,[],_,_,k=>k
 | x :: xs,_,v :: vs,_,h,k=>⟨h.1,cY.append h.2 k⟩
 | [],_,_ :: _,_,h,_=>h.elim
 | _ :: _,_,[],_,h,_=>h.elim
theorem ck.freeze {aD : St} {g1 : Gh} {kr : List Nat} (hv : g1.v = g.v) (aB : ∀ s e d xs,s ∉ kr → st.rt[s]? = some (.row e d xs) → aD.rt[s]? = some (.row e d xs)) : ∀ {ls : List gG} {lv : List Value},(∀ r ∈ bq (ls.map (·.2)),r ∉ kr) → ck X st w g ls lv → ck X aD w g1 ls lv
 | [],[],_,_=>trivial
 | l :: ls,v :: vs,hk,h=>by
  refine ⟨?_,ck.freeze hv aB (fun r hr=>hk r ?_) h.2⟩
  ·obtain ⟨e,dp,d,h1,h2⟩:=h.1
   refine ⟨e,dp,d,h1,h2.imp id ?_⟩
   rintro ⟨r,p,e0,xs,q1,q2,Dy,q3,q4⟩
   refine ⟨r,p,e0,xs,q1,aB r _ _ _ (hk r ?_) q2,Dy,q3,by rw [hv]; exact q4⟩
   exact qZs.2 ⟨l.2,qQo.2 ⟨l,by simp,rfl⟩,by rw [q1]; rfl⟩
  ·obtain ⟨o,h1,h2⟩:=qZs.1 hr
   exact qZs.2 ⟨o,by rw [qQ0]; exact qZp _ h1,h2⟩
 | [],_ :: _,_,h=>h.elim
 | _ :: _,[],_,h=>h.elim
theorem zS {E : Env} (AR : E.T = X.T) (Bt : E.fns = mZ P) (hs : Sound P X.T E.sig E.den) (h : Rel X own0 w0 st a w g) {f : FuncId} {args : List SV} {az : List aH} {vs dy : List Value} (cu : cY X w st.rt g args vs) (nk : bJ X w st.rt g az dy)
  {d : Option Tmp} {K : St → Option R} {r : R} (hq : cA E st f args az d K = some r) : ∃ ae,K ae = some r ∧ ∃ fn,P.funcs[f]? = some fn ∧ fn.body.isNone = false ∧
   Calls P f (vs ++ dy).toArray w fun e w'=>∃ v,e = .returned v ∧ ∃ g',Rel X own0 w0 ae (a.put d v) w' g':=by
 unfold cA at hq
 rw [AR] at hq
 split at hq <;> try (cases hq; done)
 rename_i eO af hf
 split at hq <;> try (cases hq; done)
 rename_i hk
 split at hq <;> try (cases hq; done)
 rename_i aN ls kr tt
 simp only at hq
 split at hq <;> try (cases hq; done)
 rename_i hc
 obtain ⟨hn,jB,BT,dj⟩:=hc
 rw [bZ fE,bZ kg] at hq
 obtain ⟨ret,nt,hq⟩:=qZi.1 hq
 rw [bT] at hq
 refine ⟨_,hq,?_⟩
 obtain ⟨fn,eH,sF,hS⟩:=hs f aN _ ret nt
 refine ⟨fn,eH,sF,?_⟩
 have tI : af = fn.resultTypes.toList:=by
  rw [Bt] at hf
  simp only [mZ,eH,qQ7,qZo,qXg] at hf
  exact hf.2.symm
 subst tI
 have AL : bq (ls.map (·.2)) = ls.filterMap fun l=>l.2.map (·.1):=by
  unfold bq
  rw [List.filterMap_map]; rfl
 rw [← AL] at hn jB
 have hn:=lV hn
 have jB : ∀ r ∈ bq (ls.map (·.2)),r ∉ kr:=fun r hr nN=>by
  have:=qQp.1 jB r hr
  simp only [qZ6,qZ5,qYj] at this
  exact this nN
 obtain ⟨lv,hl,bI⟩:=mg h.mem tt (cu.append nk.aN)
 
 let S' : Nat → Prop:=fun b=>b < w.heap.size ∧ (aq X w g b ∨ ∃ s ∈ kr,g.own b = some s)
 generalize eM : (if ((E.sig f).rs.any fun m=>!decide (m = .own)) = true then st.gK (dedup [] kr) else st) = aD
 obtain ⟨g1,F1,F2,F3,F4,F5,F6,F8,F7⟩ : ∃ g1,Rel X own0 w0 aD a w g1 ∧ g1.v = g.v ∧ (∀ b,g.own b = none → g1.own b = none) ∧ (∀ b s,g1.own b = some s → g.own b = some s) ∧ (∀ s e d xs,s ∉ kr → st.rt[s]? = some (.row e d xs) → aD.rt[s]? = some (.row e d xs)) ∧
   aD.rt.length = st.rt.length ∧ (∀ b s,s ∉ kr → g.own b = some s → g1.own b = some s) ∧ ((∀ m ∈ (E.sig f).rs,m = .own) ∨ (((E.sig f).rs.any fun m=>!decide (m = .own)) = true ∧ ∀ b,S' b → aq X w g1 b)):=by
  cases hb : (E.sig f).rs.any fun m=>!decide (m = .own) with
  | false =>
   rw [hb,if_neg (by simp)] at eM
   subst eM
   refine ⟨g,h,rfl,fun _ hb=>hb,fun _ _ hb=>hb,fun _ _ _ _ _ hx=>hx,rfl,fun _ _ _ hb=>hb,.inl fun m hm=>?_⟩
   have:=qX0.1 hb m hm
   simpa using this
  | true =>
   rw [hb,if_pos rfl] at eM
   subst eM
   rcases dj with dj | ⟨tF,tG⟩
   ·rw [hb] at dj; cases dj
   have aO : ∀ r ∈ kr,st.np ≤ r:=fun r hr=>by simpa using qQp.1 tG r hr
   have aB : ∀ r ∈ kr,dt st.rt r:=fun r hr=>by
    have:=qQp.1 tF r hr
    split at this
    ·rename_i e d xs hx; exact ⟨e,d,xs,hx⟩
    ·cases this
   obtain ⟨g1,q1,q2,q3,q4,q5,q6,q7,q8,q9,yw⟩:=h.gK (dedup [] kr) (fun r hr=>aO r (by simpa using (kX kr [] r).1 hr))
   refine ⟨g1,q1,q2,q4,q6,fun s e d xs hs hx=>q8 s e d xs (fun hh=>hs (by simpa using (kX kr [] s).1 hh)) hx,q9,fun b s hs au=>q5 b s (fun hh=>hs (by simpa using (kX kr [] s).1 hh)) au,.inr ⟨rfl,fun b au=>?_⟩⟩
   obtain ⟨av,au | ⟨s,hs,au⟩⟩:=au
   ·exact ⟨q4 b au.1,au.2⟩
   ·refine ⟨q7 b s ((kX kr [] s).2 (.inr hs)) (aB s hs) au,av,?_⟩
    rcases h.mem.pm b s au with hh | ⟨hh,_⟩
    ·exact .inr hh
    ·have:=aO s hs
     rw [h.mem.np] at this
     omega
 have eK : ck X aD w g1 ls lv:=ck.freeze F2 F5 jB hl
 obtain ⟨own,ho⟩:=Dl F1.mem eK hn
 have bo : ∀ {b i},own b = some i → ∃ r,r ∈ bq (ls.map (·.2)) ∧ g.own b = some r:=fun hh=>by
  obtain ⟨x,r,p,h1,h2⟩:=(ho _).1 _ hh
  exact ⟨r,qZs.2 ⟨_,qQo.2 ⟨_,qQz h1,rfl⟩,rfl⟩,F4 _ _ h2⟩
 have gn:=CN F1.mem eK ho S' (fun b hb=>⟨hb.2.1,by
  cases hc : g.own b with
  | none=>exact .inl ⟨hc,hb.2⟩
  | some s =>
   by_cases hs : s ∈ kr
   ·exact .inr ⟨s,hs,rfl⟩
   ·have:=F8 b s hs hc
    rw [hb.1] at this; cases this⟩) aN
 have tA : Reads X w g kr ⟨X.T,S',fun b=>w.heap.size ≤ b,ls.length,fun i=>lv.getD i undef,own⟩ ⟨own,fun i=>lv.getD i undef,fun _=>0⟩:=by
  refine ⟨rfl,fun b hb=>⟨?_,hb.2.1,.inl ⟨hb.2.1,.inl hb⟩⟩,fun b s hs hb=>⟨?_,h.mem.lt b (by rw [hb]; simp),.inl ⟨h.mem.lt b (by rw [hb]; simp),.inr ⟨s,hs,hb⟩⟩⟩⟩
  ·show own b = none
   cases hc : own b with
   | none=>rfl
   | some i=>obtain ⟨r,_,h2⟩:=bo hc; rw [hb.1] at h2; cases h2
  ·show own b = none
   cases hc : own b with
   | none=>rfl
   | some i =>
    obtain ⟨r,h1,h2⟩:=bo hc
    obtain rfl:=qQc (hb.symm.trans h2)
    exact absurd hs (jB _ h1)
 have tM : fC ls lv 0 (ls.map (·.1)) ⟨own,fun i=>lv.getD i undef,fun _=>0⟩:=by
  refine ⟨fun k l hk=>by rw [qQy,qQj,hk]; rfl,fun k v hk=>?_⟩
  rw [qQy]
  exact cr hk
 have pL:=hS (by
  have lB:=hk.2
  rw [qZw] at lB
  exact lB.imp id fun hh t ht=>by simpa using qQp.1 hh t ht) ⟨X.T,S',fun b=>w.heap.size ≤ b,ls.length,fun i=>lv.getD i undef,own⟩ w _ (vs ++ dy).toArray rfl gn (bI _ _ _ tA tM)
 refine pL.mono fun e w'=>?_
 rintro ⟨v,rfl,g',cT,eI,hv⟩
 refine ⟨v,rfl,?_⟩
 have jG:=fun x hx=>yC (T:=X.T) fn.resultTypes.toList (E.sig f).rs ret.res 0 ls.length x hx
 obtain ⟨c1,c2,c3⟩:=zT F1 eK hn ho (S':=S') (ms:=ret.ms) (res:=(results1 X.T (E.sig f).rs fn.resultTypes.toList ret.res 0 ls.length).2) (fun x hx=>by obtain ⟨e,d,xs,h1,_⟩:=jG x hx; exact ⟨e,d,xs,h1⟩)
  (by
   rcases F7 with bO | hh
   ·rcases BT with nO | nD
    ·exact .inl ⟨fun x hx=>by obtain ⟨e,d,xs,h1,h2⟩:=jG x hx; rw [h2 bO] at h1; exact ⟨e,xs,h1⟩,nO⟩
    ·refine .inr fun b hb=>?_
     rcases hb.2 with hb | ⟨s,hs,_⟩
     ·exact ⟨F3 b hb.1,hb.2⟩
     ·rw [nD] at hs; simp at hs
   ·exact .inr hh.2) cT eI
 have AM : ∀ r ∈ bq (ls.map (·.2)),dt aD.rt r:=fun r hr=>by
  obtain ⟨o,h1,h2⟩:=qZs.1 hr
  obtain ⟨l,h3,rfl⟩:=qQo.1 h1
  obtain ⟨i,hi⟩:=qZ0 h3
  obtain ⟨v,_,e,dp,d,_,hh⟩:=eK.get hi
  rcases hh with ⟨hh,_⟩ | ⟨r',p,e0,xs,q1,q2,_⟩
  ·rw [hh] at h2; cases h2
  ·rw [q1] at h2; cases h2; exact ⟨e0,dp,xs,q2⟩
 obtain ⟨b1,b2,b3,b4,b5⟩:=qE (ls:=ls.map (·.2)) (ms:=ret.ms) (i:=0) (st:=aD) hn AM
 rw [b2,b3]
 let bb:=(E.sig f).rs.any fun m=>!decide (m = .own)
 have sE : bb = true ∨ ∀ m ∈ (E.sig f).rs,m = .own:=F7.symm.imp (fun h=>h.1) id
 have nO:=yD (T:=X.T) (b:=bb) ls.length aD.rt.length fn.resultTypes.toList (E.sig f).rs ret.res 0 0 sE
 simp only [qQ5] at nO
 by_cases hp : ef (E.sig f).rs = true
 ·rw [nO]
  refine ⟨_,c1.put d ?_⟩
  obtain ⟨e,he⟩ : ∃ e,(E.sig f).rs = [.ptr e]:=by
   unfold ef at hp
   split at hp
   ·rename_i e he; exact ⟨e,he⟩
   ·cases hp
  have BO : ∀ z,iW (E.sig f).rs z = (match z with | [(_,[.al n [] e])]=>.po n [] e 0 0 | _=>.no):=fun z=>if_pos hp
  rw [BO] at hv ⊢
  match jI : fn.resultTypes.toList with
  | []=>rw [he]; simp only [results1,List.map_nil]; exact True.intro
  | t :: t2 :: ts =>
   rw [he]; simp only [results1,qQ0]
   split
   ·rename_i heq; simp at heq
   ·exact True.intro
  | [t] =>
   rw [jI,he] at hv c1
   simp only [results1,ej,qQ0,List.map_nil,he,qX1] at hv c1 ⊢
   obtain ⟨e0,dd,xs,b,q,m,c,h1,h2,h3,h4,h5⟩:=hv
   show ay X w' _ _ (match [(X.T.agg t,[iZ bb ls.length aD.rt.length (.al ls.length [] e)])] with | [(_,[.al n [] e])]=>.po n [] e 0 0 | _=>.no) v
   rw [show iZ bb ls.length aD.rt.length (.al ls.length [] e) = .al aD.rt.length [] e from by
    show (if ls.length ≤ ls.length then _ else _) = _
    rw [if_pos (qQb _),qZn,qQy]]
   refine ⟨e0,dd,xs,b,q,m,c,?_,h2,?_,h4,h5⟩
   ·rw [qQx (by rw [b3]; exact qQb _),b3,qZn]
    rw [qQx (by rw [gU,gX,qQk]; exact qQb _),gU,gX,qQk,qZn] at h1
    exact h1
   ·show At _ _ _ _ (if aD.rt.length < aD.rt.length then _ else g'.v ((ls.map (·.2)).length + (aD.rt.length - aD.rt.length))) _ _ _ _
    rw [if_neg (by omega),qQk,qZn,qQ5]
    exact h3
 have tD : ∀ z,iW (E.sig f).rs z = dx z:=fun z=>if_neg hp
 rw [tD] at hv ⊢
 rw [nO,yz (by rfl)]
 refine ⟨_,c1.put d (ay.bW (iZ bb ls.length aD.rt.length) (fun x v hx=>?_) rfl hv)⟩
 cases x with
 | al r p e =>
  show aF X w' _ _ (if ls.length ≤ r then .al (r - ls.length + aD.rt.length) p e else .no) v
  split
  ·rename_i hle
   obtain ⟨e0,dd,xs,h1,h2,h3⟩:=hx
   refine ⟨e0,dd,xs,?_,h2,?_⟩
   ·rw [qQx (by rw [b3]; omega),b3,show r - ls.length + aD.rt.length - aD.rt.length = r - ls.length from by omega]
    rw [qQx (by rw [gU,gX,qQk]; exact hle),gU,gX,qQk] at h1
    exact h1
   ·show At _ _ _ _ (if r - ls.length + aD.rt.length < aD.rt.length then _ else g'.v ((ls.map (·.2)).length + (r - ls.length + aD.rt.length - aD.rt.length))) _ _ _ _
    rw [if_neg (by omega),qQk,show ls.length + (r - ls.length + aD.rt.length - aD.rt.length) = r from by omega]
    exact h3
  ·exact hx.one cT
 | rd e xs =>
  show aF X w' _ _ (if bb = true then .rd e xs else .no) v
  split
  ·rename_i wO
   refine aE.imp hx fun b hb=>⟨?_,rfl⟩
   rcases F7 with hh | ⟨_,hh⟩
   ·exfalso
    have : bb = false:=qX0.2 fun m hm=>by simp [hh m hm]
    rw [this] at wO; cases wO
   ·by_cases av : b < w.heap.size
    ·rcases hb.2.2 with hs | hs
     ·exact (c2 b (hh b hs)).1
     ·exact absurd av (Nat.not_lt.2 hs)
    ·exact c3 b (by omega) hb.2.1 hb.1
  ·exact aE.one hx
 | _=>exact hx
end
def valOf : CT → U → Value
 | .int k,u=>.int k u.toInt
 | .bool,u=>.bool u.toBool
 | .str,u=>.string u.toStr
 | .aj _,_=>.slice none 0 0
def mV : CT → U → Prop
 | .int _,u=>u = .int u.toInt
 | .bool,u=>u = .bool u.toBool
 | .str,u=>u = .str u.toStr
 | .aj _,_=>False
def du : List CT → List U → Prop
 | [],[]=>True
 | c :: cs,u :: us=>mV c u ∧ du cs us
 | _,_=>False
def eS : List CT → List U → List Value
 | c :: cs,u :: us=>valOf c u :: eS cs us
 | _,_=>[]
def bK (ab : List CT) (xs : List (List U)) : List Value:=xs.flatMap (eS ab)
theorem du.len : ∀ {ab : List CT} {x : List U},du ab x → x.length = ab.length
 | [],[],_=>rfl
 | c :: cs,u :: us,h=>by simp [du.len h.2]
 | [],_ :: _,h=>h.elim
 | _ :: _,[],h=>h.elim
theorem du.get : ∀ {ab : List CT} {x : List U},du ab x → ∀ {j : Nat} {u : U} {ct : CT},x[j]? = some u → ab[j]? = some ct → mV ct u
 | [],[],_,j,u,ct,h,_=>by simp at h
 | c :: cs,v :: us,h,0,u,ct,h1,h2=>by simp at h1 h2; rw [← h1,← h2]; exact h.1
 | c :: cs,v :: us,h,j + 1,u,ct,h1,h2=>du.get h.2 (j:=j) (by simpa using h1) (by simpa using h2)
 | [],_ :: _,h,_,_,_,_,_=>h.elim
 | _ :: _,[],h,_,_,_,_,_=>h.elim
theorem du.of : ∀ {ab : List CT} {x : List U},x.length = ab.length → (∀ (j : Nat) u ct,x[j]? = some u → ab[j]? = some ct → mV ct u) → du ab x
 | [],[],_,_=>trivial
 | c :: cs,u :: us,hl,h=>⟨h 0 u c rfl rfl,du.of (by simpa using hl) fun j u ct h1 h2=>h (j + 1) u ct (by simpa using h1) (by simpa using h2)⟩
 | [],_ :: _,hl,_=>by simp at hl
 | _ :: _,[],hl,_=>by simp at hl
theorem kU : ∀ {ab : List CT} {x : List U},x.length = ab.length → (eS ab x).length = ab.length
 | [],[],_=>rfl
 | c :: cs,u :: us,h=>by simp [eS,kU (show us.length = cs.length by simpa using h)]
 | [],_ :: _,h=>by simp at h
 | _ :: _,[],h=>by simp at h
theorem rN : ∀ {ab : List CT} {x : List U} {j : Nat} {u : U} {ct : CT},x[j]? = some u → ab[j]? = some ct → (eS ab x)[j]? = some (valOf ct u)
 | c :: cs,v :: us,0,u,ct,h1,h2=>by simp at h1 h2; rw [← h1,← h2]; rfl
 | c :: cs,v :: us,j + 1,u,ct,h1,h2=>by simpa [eS] using rN (ab:=cs) (x:=us) (j:=j) (by simpa using h1) (by simpa using h2)
 | [],_,j,u,ct,_,h2=>by simp at h2
 | _ :: _,[],j,u,ct,h1,_=>by simp at h1
theorem yI {ab : List CT} : ∀ {xs : List (List U)},(∀ x ∈ xs,x.length = ab.length) → (bK ab xs).length = xs.length * ab.length
 | [],_=>by simp [bK]
 | x :: xs,h=>by
  have ih:=yI (ab:=ab) (xs:=xs) fun y hy=>h y (qZp _ hy)
  unfold bK at ih ⊢
  rw [qQ1,qQ6,ih,kU (h x (by simp)),qZq,qZ7]; omega
theorem uI {ab : List CT} : ∀ {xs : List (List U)},(∀ x ∈ xs,x.length = ab.length) → ∀ {i j : Nat} {x : List U},xs[i]? = some x → j < ab.length → (bK ab xs)[i * ab.length + j]? = (eS ab x)[j]?
 | [],_,i,j,x,hx,_=>by simp at hx
 | y :: xs,h,0,j,x,hx,hj=>by
  simp at hx; subst hx
  have hl:=kU (h y (by simp))
  unfold bK
  rw [qQ1,qXe,qQy,qQu (by omega)]
 | y :: xs,h,i + 1,j,x,hx,hj=>by
  have ih:=uI (ab:=ab) (xs:=xs) (fun y hy=>h y (qZp _ hy)) (i:=i) (x:=x) (by simpa using hx) hj
  have hl:=kU (h y (by simp))
  unfold bK at ih ⊢
  rw [qQ1,qQx (by rw [hl,qZ7]; omega),← ih,hl]
  congr 1
  rw [qZ7]; omega
section
variable {T : bl} {w w' : World} {F : Nat → Prop} {e : TypeId} {xs : List (List U)} {v v' : Value}
theorem ak.can {ct : CT} {u : U} (h : ak T w F ct u v) (hf : ct.bU = false) : mV ct u ∧ v = valOf ct u:=by
 cases h with
 | int=>exact ⟨rfl,rfl⟩
 | bool=>exact ⟨rfl,rfl⟩
 | str=>exact ⟨rfl,rfl⟩
 | row=>cases hf
theorem ak.CS {ct : CT} {u : U} (h : mV ct u) : ak T w F ct u (valOf ct u):=by
 cases ct with
 | int k=>rw [show u = _ from h]; exact .int _ _ _
 | bool=>rw [show u = _ from h]; exact .bool _ _
 | str=>rw [show u = _ from h]; exact .str _ _
 | aj e=>exact h.elim
theorem wA {ab : List CT} (hf : fj ab = true) {j : Nat} {ct : CT} (h : ab[j]? = some ct) : ct.bU = false:=by
 have:=qQp.1 hf ct (qQz h)
 simpa using this
theorem ak.dY (hf : fj (T e) = true) (h : ak T w F (.aj e) (.lst xs) v) : bA w e (T e).length v xs.length (bK (T e) xs) ∧ (∀ g,oB v = some g → F g) ∧ ∀ x ∈ xs,du (T e) x:=by
 cases h with
 | row _ _ _ _ cs V bp ho hg hV hs hh =>
  have hl : ∀ x ∈ xs,x.length = (T e).length:=fun x hx=>by
   obtain ⟨i,hi⟩:=qZ0 hx
   exact hs i x hi
  have hc : cs = bK (T e) xs:=by
   apply qZm
   intro k
   by_cases hk : k < xs.length * (T e).length
   ·have fu : 0 < (T e).length:=qY0 fun h0=>by rw [h0] at hk; omega
    have hi : k / (T e).length < xs.length:=qJe (by rw [qYe]; exact hk)
    have hj:=Nat.mod_lt k fu
    have ek : k = k / (T e).length * (T e).length + k % (T e).length:=by rw [qYe]; exact (qX2 k _).symm
    have hx:=qQg hi
    have xC:=hs _ _ hx
    have hu:=qQg (l:=xs[k / (T e).length]) (i:=k % (T e).length) (by omega)
    have ai:=qQg hj
    rw [ek,hV _ _ _ hx (by omega),uI hl hx hj,rN hu ai,((hh _ _ _ _ _ hx hu ai).can (wA hf ai)).2]
   ·rw [qZh (by rw [ho.1]; omega),qZh (by rw [yI hl]; omega)]
  subst hc
  refine ⟨ho,fun g dv=>(hg g dv).1,fun x hx=>?_⟩
  obtain ⟨i,hi⟩:=qZ0 hx
  exact du.of (hs i x hi) fun j u ct hu ai=>((hh i j x u ct hi hu ai).can (wA hf ai)).1
theorem ak.yc (ho : bA w e (T e).length v xs.length (bK (T e) xs)) (hF : ∀ g,oB v = some g → F g) (hc : ∀ x ∈ xs,du (T e) x) : ak T w F (.aj e) (.lst xs) v:=by
 have hl : ∀ x ∈ xs,x.length = (T e).length:=fun x hx=>(hc x hx).len
 have key : ∀ (i j : Nat) (x : List U) (u : U) (ct : CT),xs[i]? = some x → x[j]? = some u → (T e)[j]? = some ct → (bK (T e) xs)[i * (T e).length + j]? = some (valOf ct u):=fun i j x u ct hx hu ai=>by
  rw [uI hl hx (aA ai),rN hu ai]
 refine .row F e xs v _ (fun i j=>(bK (T e) xs).getD (i * (T e).length + j) undef) (fun _=>none) ho (fun g hg=>⟨hF g hg,rfl⟩) (fun i j x hx hj=>?_) (fun i x hx=>hl x (qQz hx)) fun i j x u ct hx hu ai=>?_
 ·have gm : j < (T e).length:=by rw [← hl x (qQz hx)]; exact hj
  have h1:=key i j x _ _ hx (qQg hj) (qQg gm)
  rw [h1,qQe,h1]; rfl
 ·have h1:=key i j x u ct hx hu ai
  rw [qQe,h1]
  exact ak.CS ((hc x (qQz hx)).get hu ai)
end
structure mI (w w' : World) (e : TypeId) (size : Nat) (v v' : Value) (n : Nat) (zs : List Value) : Prop where
 os : w'.os = w.os
 tape : w'.tape = w.tape
 output : w'.output = w.output
 grow : w.heap.size ≤ w'.heap.size
 block : ∀ c,c < w.heap.size → oB v ≠ some c → w'.heap[c]? = w.heap[c]?
 own : bA w' e size v' n zs
 mR : ∀ b,oB v' = some b → oB v = some b ∨ w.heap.size ≤ b
section
variable {P : Program} {X : Ctx} {own0 : Nat → Option Nat} {w0 : World} {st : St} {a : Act} {w w' : World} {g g' : Gh}
theorem Rel.yH (h : Rel X own0 w0 st a w g) {r : Nat} {e : TypeId} {xs zs : List (List U)} (hr : st.rt[r]? = some (.row e true xs)) (aO : st.np ≤ r) (hf : fj (X.T.ct e) = true) {v' : Value}
  (hD : mI w w' e (X.T.ct e).length (g.v r) v' zs.length (bK (X.T.ct e) zs)) (hc : ∀ z ∈ zs,du (X.T.ct e) z) :
  Rel X own0 w0 ((st.ah r false).aG r (.row e true zs)) a w' ⟨fun x=>if w.heap.size ≤ x ∧ oB v' = some x then some r else g.own x,fun s=>if s = r then v' else g.v s,g.b⟩:=by
 have av:=aA hr
 have iv : ∀ b s,g.own b = some s → b < w.heap.size:=fun b s hb=>h.mem.lt b (by rw [hb]; simp)
 have hlen : r < (st.ah r false).rt.length:=by show r < (st.rt.map _).length; rw [qQk]; exact av
 have bt : ak X.T.ct w (fun b=>g.own b = some r) (.aj e) (.lst xs) (g.v r):=h.mem.rt r _ hr
 obtain ⟨q1,q2,q3⟩:=bt.dY hf
 have hold : ∀ b,b < w.heap.size → (if w.heap.size ≤ b ∧ oB v' = some b then some r else g.own b) = g.own b:=fun b hb=>if_neg (by omega)
 have bo : ∀ b s,(if w.heap.size ≤ b ∧ oB v' = some b then some r else g.own b) = some s → (g.own b = some s ∧ b < w.heap.size) ∨ (s = r ∧ w.heap.size ≤ b ∧ oB v' = some b):=fun b s hb=>by
  split at hb
  ·rename_i hh; exact .inr ⟨(qQc hb).symm,hh⟩
  ·exact .inl ⟨hb,iv b s hb⟩
 refine h.change r false (Q:=fun _=>False) (St.eV st) (fun _ _ hf=>hf.elim) _ ?_ ?_ (fun c hc=>?_) (fun b s hb=>?_) hD.grow (fun b s hb=>?_) (fun s hs=>?_) ?_
 ·refine ⟨fun c hc=>⟨⟨?_,qQ2 hc.2.1 hD.grow,hc.2.2⟩,hD.block c hc.2.1 fun hb=>?_⟩,fun c s hs hc=>⟨?_,hD.block c (iv c s hc) fun hb=>?_⟩,fun s _ hs=>if_neg fun he=>hs (.inl he),fun s e' d' ys hs aB=>?_,fun s t cs hb=>⟨rfl,cs,?_⟩,fun s hs=>by cases hs.2⟩
  ·exact (hold c hc.2.1).trans hc.1
  ·have h1:=q2 c hb
   have h2:=hc.1
   rw [h1] at h2; cases h2
  ·exact (hold c (iv c s hc)).trans hc
  ·have h1:=q2 c hb
   rw [h1] at hc
   exact hs (.inl (qQc hc).symm)
  ·rw [bu,if_neg (fun he=>hs (.inl he.symm))]; exact aB
  ·rw [bu,if_neg]
   ·exact hb
   ·rintro rfl; rw [cz,hr] at hb; cases hb
 ·show ak _ _ _ _ _ (if r = r then _ else _)
  rw [if_pos rfl]
  refine ak.yc hD.own (fun b hb=>?_) hc
  show (if w.heap.size ≤ b ∧ oB v' = some b then some r else g.own b) = some r
  by_cases da : w.heap.size ≤ b
  ·exact if_pos ⟨da,hb⟩
  ·rw [hold b (by omega)]
   rcases hD.mR b hb with h1 | h1
   ·exact q2 b h1
   ·exact absurd h1 da
 ·by_cases da : w.heap.size ≤ c ∧ oB v' = some c
  ·exact qz hD.own c da.2
  ·have hc : (if w.heap.size ≤ c ∧ oB v' = some c then some r else g.own c) ≠ none:=hc
   rw [if_neg da] at hc
   exact qQ2 (h.mem.lt c hc) hD.grow
 ·rcases bo b s hb with ⟨h1,_⟩ | ⟨rfl,_⟩
  ·exact h.mem.ob b s h1
  ·exact av
 ·rcases bo b s hb with ⟨h1,_⟩ | ⟨rfl,h1,_⟩
  ·exact h.mem.pm b s h1
  ·exact .inl (h.mem.n0 b h1)
 ·show (if s = r then _ else _) = _
  rw [if_neg,h.mem.pv s hs]
  rintro rfl
  have:=h.mem.np
  omega
 ·refine ⟨hD.os.trans h.fr.os,hD.tape.trans h.fr.tape,hD.output.trans h.fr.output,qZd h.fr.size hD.grow,fun c hc ho=>?_⟩
  obtain ⟨e1,e2⟩:=h.fr.block c hc ho
  have nr:=qQ2 hc h.fr.size
  exact ⟨(hold c nr).trans e1,(hD.block c nr fun hb=>by rw [q2 c hb] at e1; cases e1).trans e2⟩
theorem Rel.DM (h : Rel X own0 w0 st a w g) {e : TypeId} {zs : List (List U)} (hf : fj (X.T.ct e) = true) {v' : Value}
  (hD : mI w w' e (X.T.ct e).length (.slice none 0 0) v' zs.length (bK (X.T.ct e) zs)) (hc : ∀ z ∈ zs,du (X.T.ct e) z) :
  Rel X own0 w0 (st.add (.row e true zs)) a w' ⟨fun x=>if w.heap.size ≤ x ∧ oB v' = some x then some st.rt.length else g.own x,fun s=>if s = st.rt.length then v' else g.v s,g.b⟩:=by
 have iv : ∀ b s,g.own b = some s → b < w.heap.size:=fun b s hb=>h.mem.lt b (by rw [hb]; simp)
 have hold : ∀ b,b < w.heap.size → (if w.heap.size ≤ b ∧ oB v' = some b then some st.rt.length else g.own b) = g.own b:=fun b hb=>if_neg (by omega)
 have tK : ∀ c,c < w.heap.size → w'.heap[c]? = w.heap[c]?:=fun c hc=>hD.block c hc (by simp [oB])
 have bo : ∀ b s,(if w.heap.size ≤ b ∧ oB v' = some b then some st.rt.length else g.own b) = some s → (g.own b = some s ∧ b < w.heap.size) ∨ (s = st.rt.length ∧ w.heap.size ≤ b ∧ oB v' = some b):=fun b s hb=>by
  split at hb
  ·rename_i hh; exact .inr ⟨(qQc hb).symm,hh⟩
  ·exact .inl ⟨hb,iv b s hb⟩
 refine h.add _ (fun b hb=>⟨⟨(hold b hb.2.1).trans hb.1,qQ2 hb.2.1 hD.grow,hb.2.2⟩,tK b hb.2.1⟩) (fun b s hb=>⟨(hold b (iv b s hb)).trans hb,tK b (iv b s hb)⟩) (fun s hs=>⟨if_neg (by omega),rfl⟩) ?_ (fun c hc=>?_) (fun b s hb=>?_) hD.grow (fun b s hb=>?_) ?_
 ·show ak _ _ _ _ _ (if st.rt.length = st.rt.length then _ else _)
  rw [if_pos rfl]
  refine ak.yc hD.own (fun b hb=>?_) hc
  rcases hD.mR b hb with h1 | h1
  ·simp [oB] at h1
  ·exact if_pos ⟨h1,hb⟩
 ·by_cases da : w.heap.size ≤ c ∧ oB v' = some c
  ·exact qz hD.own c da.2
  ·have hc : (if w.heap.size ≤ c ∧ oB v' = some c then some st.rt.length else g.own c) ≠ none:=hc
   rw [if_neg da] at hc
   exact qQ2 (h.mem.lt c hc) hD.grow
 ·rcases bo b s hb with ⟨h1,_⟩ | ⟨rfl,_⟩
  ·have:=h.mem.ob b s h1; omega
  ·omega
 ·rcases bo b s hb with ⟨h1,_⟩ | ⟨rfl,h1,_⟩
  ·exact h.mem.pm b s h1
  ·exact .inl (h.mem.n0 b h1)
 ·refine ⟨hD.os.trans h.fr.os,hD.tape.trans h.fr.tape,hD.output.trans h.fr.output,qZd h.fr.size hD.grow,fun c hc ho=>?_⟩
  obtain ⟨e1,e2⟩:=h.fr.block c hc ho
  have nr:=qQ2 hc h.fr.size
  exact ⟨(hold c nr).trans e1,(tK c nr).trans e2⟩
end
structure vj (w w' : World) (b q : Nat) (e : TypeId) (cur : Array Value) (zs : List Int) : Prop where
 os : w'.os = w.os
 tape : w'.tape = w.tape
 output : w'.output = w.output
 size : w.heap.size ≤ w'.heap.size
 block : ∀ c,c < w.heap.size → c ≠ b → w'.heap[c]? = w.heap[c]?
 row : ∃ py,w'.heap[b]? = some (.cells py e (0,0)) ∧ py.size = cur.size ∧ (py.toList.drop q).take zs.length = zs.map (Value.int .i64)
def vk (P : Program) (g : FuncId) (f : List Int → List Int) (res : Value → Value) : Prop :=
 (∀ (w : World) (e : TypeId) (b q c : Nat) (cur : Array Value) (zs : List Int),w.heap[b]? = some (.cells cur e (0,0)) → q + c ≤ cur.size → zs.length ≤ c → (cur.toList.drop q).take zs.length = zs.map (Value.int .i64) → zs.length * 8 ≤ 140737488355328 →
  Calls P g #[.slice (some ⟨b,q,none⟩) zs.length c] w fun x w'=>x = .returned (res (.slice (some ⟨b,q,none⟩) (f zs).length c)) ∧ vj w w' b q e cur (f zs)) ∧
 ∀ w A,Calls P g #[.slice A 0 0] w fun x w'=>x = .returned (res (.slice A 0 0)) ∧ w' = w
def zt (P : Program) (T : ax) (g : FuncId) : Prim → Prop
 | .insert e=>∀ (w : World) (v xv : Value) (xs ys : List (List U)) (i : Nat),(∀ x ∈ xs,du (T.ct e) x) → (∀ y ∈ ys,du (T.ct e) y) → bA w e (T.ct e).length v xs.length (bK (T.ct e) xs) → bA w e (T.ct e).length xv ys.length (bK (T.ct e) ys) →
   (∀ b,oB v = some b → oB xv ≠ some b) → i ≤ xs.length → 0 < ys.length → (xs.length + ys.length) * (T.row e).bytes ≤ 140737488355328 → xs.length + ys.length ≤ 9223372036854775807 →
   Calls P g #[v,.int .i64 i,xv] w fun x w'=>∃ v',x = .returned v' ∧ mI w w' e (T.ct e).length v v' (xs.take i ++ ys ++ xs.drop i).length (bK (T.ct e) (xs.take i ++ ys ++ xs.drop i))
 | .clone e=>∀ (w : World) (v : Value) (xs : List (List U)),(∀ x ∈ xs,du (T.ct e) x) → bA w e (T.ct e).length v xs.length (bK (T.ct e) xs) → xs.length * (T.row e).bytes ≤ 140737488355328 → xs.length ≤ 9223372036854775807 →
   Calls P g #[v] w fun x w'=>∃ v',x = .returned v' ∧ mI w w' e (T.ct e).length (.slice none 0 0) v' xs.length (bK (T.ct e) xs)
 | .dropLt e c j=>∀ (w : World) (v : Value) (xs : List (List U)) (n : Int),(∀ x ∈ xs,du (T.ct e) x) → bA w e (T.ct e).length v xs.length (bK (T.ct e) xs) → xs.length * (T.row e).bytes ≤ 140737488355328 → xs.length ≤ 9223372036854775807 →
   Calls P g #[v,.func (.func c) #[] #[.int .i64 n]] w fun x w'=>∃ v',x = .returned v' ∧ mI w w' e (T.ct e).length v v' (xs.filter fun x=>!decide ((x.getD j U0).toInt < n)).length (bK (T.ct e) (xs.filter fun x=>!decide ((x.getD j U0).toInt < n)))
 | _=>True
def oS (P : Program) (T : ax) (g : FuncId) (p : Prim) : Prop :=
 (∃ fn,P.funcs[g]? = some fn ∧ fn.body.isNone = false) ∧ match p with
 | .sort=>vk P g qT fun _=>.tuple #[]
 | .compact=>vk P g gJ fun v=>v
 | .grow e=>∀ (w : World) (n : Nat),n * 8 ≤ 140737488355328 → Calls P g #[.slice none 0 0,.int .i64 n] w fun x w'=>∃ v,x = .returned v ∧ ((v = .slice none 0 0 ∧ w' = w) ∨
   (w'.os = w.os ∧ w'.tape = w.tape ∧ w'.output = w.output ∧ w'.heap.size = w.heap.size + 1 ∧ (∀ b,b < w.heap.size → w'.heap[b]? = w.heap[b]?) ∧ w'.ownsRow 0 e (T.ct e).length v 0 [] ∧ v.ownBlock = some w.heap.size))
 | p=>zt P T g p
theorem vV : ∀ l : List Int,(gJ l).length ≤ l.length
 | []=>qQb _
 | x :: l=>by
  have:=vV l
  unfold gJ
  split
  ·simp
  ·rename_i y k hk
   rw [hk] at this
   split
   ·simp at this ⊢; omega
   ·simp at this ⊢; omega
theorem Ec (l : List Int) : (qT l).length = l.length:=List.length_mergeSort l
theorem Ee : uU [] = []:=by simp [uU,qT,cW,gv]
theorem ue {l : List Int} {i : Nat} {x : List U} (h : (gv l)[i]? = some x) : ∃ n,l[i]? = some n ∧ x = [.int n]:=by
 unfold gv at h
 rw [qQj] at h
 obtain ⟨n,h1,rfl⟩:=qQf.1 h
 exact ⟨n,h1,rfl⟩
theorem Ct (l : List Int) : (gv l).length = l.length:=by simp [gv]
section
variable {P : Program} {X : Ctx} {own0 : Nat → Option Nat} {w0 : World} {st : St} {a : Act} {w w' : World} {g g' : Gh} {R : Type} {E : Env}
theorem ak.ints {T : bl} {F : Nat → Prop} {e : TypeId} {xs : List (List U)} {v : Value} (ai : T e = [.int .i64]) (h : ak T w F (.aj e) (.lst xs) v) :
  ((∃ A,v = .slice A 0 0) ∧ xs = []) ∨ ∃ b q c cur,v = .slice (some ⟨b,q,none⟩) (cW xs).length c ∧ F b ∧ w.heap[b]? = some (.cells cur e (0,0)) ∧ q + c ≤ cur.size ∧ c ≤ maxLen ∧ (cW xs).length ≤ c ∧ (cur.toList.drop q).take (cW xs).length = (cW xs).map (Value.int .i64):=by
 cases h with
 | row _ _ _ _ cs V bp ho hg hV hs h =>
  have hl : (cW xs).length = xs.length:=by simp [cW]
  have h1:=ho.1
  have h2:=ux ho
  rw [ai] at h1 h2
  rcases h2 with ⟨hA,h0⟩ | ⟨b,q,c,cur,rfl,h3,h4,h5,h6,h7,jz⟩
  ·exact .inl ⟨hA,List.length_eq_zero_iff.1 h0⟩
  ·refine .inr ⟨b,q,c,cur,by rw [hl],(hg b (lX jz)).1,h3,by simpa using h6,h5,by rw [hl]; exact h4,?_⟩
   rw [hl]
   have h7 : (cur.toList.drop q).take (xs.length * 1) = cs:=h7
   rw [qXm] at h7
   rw [h7]
   apply qZm
   intro i
   rw [qQj]
   unfold cW
   rw [qQj]
   cases hx : xs[i]? with
   | none =>
    have : cs.length = xs.length * 1:=h1
    rw [List.getElem?_eq_none_iff] at hx
    simp only [qY8,List.getElem?_eq_none_iff]
    omega
   | some x =>
    have xC : x.length = 1:=by have:=hs i x hx; rwa [ai] at this
    obtain ⟨u,rfl⟩:=List.length_eq_one_iff.1 xC
    have q1:=hV i 0 [u] hx (by simp)
    rw [ai] at q1
    have q2:=(h i 0 [u] u (.int .i64) hx rfl (by rw [ai]; rfl))
    obtain ⟨q3,q4⟩:=q2.nY
    rw [show i * [CT.int IntKind.i64].length + 0 = i from by simp] at q1
    rw [q1,q4]
    rfl
theorem ak.CU {T : bl} {F : Nat → Prop} {e : TypeId} {zs : List Int} {b q c : Nat} {cur : Array Value} (ai : T e = [.int .i64]) (hF : F b) (h1 : w.heap[b]? = some (.cells cur e (0,0))) (h2 : q + c ≤ cur.size) (h3 : c ≤ maxLen) (h4 : zs.length ≤ c) (h5 : (cur.toList.drop q).take zs.length = zs.map (Value.int .i64)) :
  ak T w F (.aj e) (.lst (gv zs)) (.slice (some ⟨b,q,none⟩) zs.length c):=by
 have hl:=Ct zs
 refine .row F e (gv zs) _ (zs.map (Value.int .i64)) (fun i _=>.int .i64 (zs.getD i 0)) (fun _=>none) ?_ ?_ ?_ ?_ ?_
 ·rw [ai,hl]
  exact ⟨by simp,.inr ⟨b,q,c,cur,rfl,h1,h4,h3,by simpa using h2,by simpa using h5⟩⟩
 ·intro g' dv
  obtain rfl:=fP dv
  exact ⟨hF,rfl⟩
 ·intro i j x hx hj
  obtain ⟨n,k1,rfl⟩:=ue hx
  have BC : j = 0:=by simpa using hj
  subst BC
  rw [ai,show i * [CT.int IntKind.i64].length + 0 = i from by simp,qQj,k1]
  show some (Value.int .i64 n) = some (Value.int .i64 (zs.getD i 0))
  rw [cr k1]
 ·intro i x hx
  obtain ⟨n,k1,rfl⟩:=ue hx
  rw [ai]; rfl
 ·intro i j x u ct hx hu hc
  obtain ⟨n,k1,rfl⟩:=ue hx
  rw [ai] at hc
  cases j with
  | zero =>
   obtain rfl:=qQc hu
   obtain rfl:=qQc hc
   rw [cr k1]
   exact .int _ _ _
  | succ j=>simp at hu
theorem Rel.xE (h : Rel X own0 w0 st a w g) {r : Nat} {e : TypeId} {xs : List (List U)} (hr : st.rt[r]? = some (.row e true xs)) (aO : st.np ≤ r) (ai : X.T.ct e = [.int .i64]) {b q c : Nat} {cur : Array Value} {zs : List Int} (bo : g.own b = some r) (aR : q + c ≤ cur.size) (xe : c ≤ maxLen) (hle : zs.length ≤ c)
  (hD : vj w w' b q e cur zs) (keep : Bool) (hk : keep = true → g.v r = .slice (some ⟨b,q,none⟩) zs.length c) :
  Rel X own0 w0 ((st.ah r keep).aG r (.row e true (gv zs))) a w' ⟨g.own,fun s=>if s = r then .slice (some ⟨b,q,none⟩) zs.length c else g.v s,g.b⟩:=by
 have av:=aA hr
 have iv : ∀ b s,g.own b = some s → b < w.heap.size:=fun b s hb=>h.mem.lt b (by rw [hb]; simp)
 obtain ⟨py,k1,k2,k3⟩:=hD.row
 have hlen : r < (st.ah r keep).rt.length:=by show r < (st.rt.map _).length; rw [qQk]; exact av
 refine h.change r keep (Q:=fun _=>False) (St.eV st) (fun _ _ hf=>hf.elim) _ ?_ ?_ (fun c hc=>qQ2 (h.mem.lt c hc) hD.size) h.mem.ob hD.size h.mem.pm (fun s hs=>?_) ?_
 ·refine ⟨fun c hc=>⟨⟨hc.1,qQ2 hc.2.1 hD.size,hc.2.2⟩,hD.block c hc.2.1 (by rintro rfl; have:=hc.1; rw [bo] at this; cases this)⟩,fun c s hs hc=>⟨hc,hD.block c (iv c s hc) (by rintro rfl; rw [bo] at hc; exact hs (.inl (qQc hc).symm))⟩,fun s _ hs=>if_neg fun he=>hs (.inl he),fun s e' d' ys hs aB=>?_,fun s t cs hb=>⟨rfl,cs,?_⟩,fun s hs=>⟨?_,fun e' d' ys aB=>?_⟩⟩
  ·rw [bu,if_neg (fun he=>hs (.inl he.symm))]; exact aB
  ·rw [bu,if_neg]
   ·exact hb
   ·rintro rfl; rw [cz,hr] at hb; cases hb
  ·obtain ⟨rfl,aK⟩:=hs
   show (if s = s then _ else _) = _
   rw [if_pos rfl,hk aK]
  ·obtain ⟨rfl,aK⟩:=hs
   rw [cz,hr] at aB
   cases aB
   refine ⟨true,gv zs,by rw [bu,if_pos rfl,if_pos hlen],?_⟩
   have bt : ak X.T.ct w (fun b=>g.own b = some s) (.aj e) (.lst xs) (g.v s):=h.mem.rt s _ hr
   obtain ⟨A,c',hv,-⟩:=(bt.gC (aq:=fun _=>True) fun _ _=>trivial).ja
   rw [hk aK] at hv
   have : zs.length = xs.length:=(Value.slice.inj hv).2.1
   rw [← this]; exact qQk ..
 ·show ak _ _ _ _ _ (if r = r then _ else _)
  rw [if_pos rfl]
  exact ak.CU ai bo k1 (by rw [k2]; exact aR) xe hle k3
 ·show (if s = r then _ else _) = _
  rw [if_neg,h.mem.pv s hs]
  rintro rfl
  have:=h.mem.np
  omega
 ·refine ⟨hD.os.trans h.fr.os,hD.tape.trans h.fr.tape,hD.output.trans h.fr.output,qZd h.fr.size hD.size,fun c hc ho=>?_⟩
  obtain ⟨e1,e2⟩:=h.fr.block c hc ho
  exact ⟨e1,(hD.block c (qQ2 hc h.fr.size) (by rintro rfl; rw [bo] at e1; cases e1)).trans e2⟩
theorem Rel.yN (h : Rel X own0 w0 st a w g) {r : Nat} {e : TypeId} {d : Bool} {xs : List (List U)} (hr : st.rt[r]? = some (.row e d xs)) (keep : Bool) : Rel X own0 w0 ((st.ah r keep).aG r (.row e d xs)) a w g:=by
 have hlen : r < (st.ah r keep).rt.length:=by show r < (st.rt.map _).length; rw [qQk]; exact aA hr
 refine h.change r keep (Q:=fun _=>False) (St.eV st) (fun _ _ h=>h.elim) _ ?_ ?_ h.mem.lt h.mem.ob (qQb _) h.mem.pm h.mem.pv h.fr
 ·refine bN.same _ _ _ _ _ _ _ (fun s e' d' ys hs aB=>?_) (fun s t cs hb=>?_) (fun s hs e' d' ys aB=>?_)
  ·rw [bu,if_neg (fun he=>hs (.inl he.symm))]; exact aB
  ·rw [bu]
   by_cases he : r = s
   ·subst he; rw [cz,hr] at hb; cases hb
   ·rw [if_neg he]; exact ⟨cs,hb⟩
  ·obtain ⟨rfl,-⟩:=hs
   rw [cz,hr] at aB
   cases aB
   exact ⟨d,xs,by rw [bu,if_pos rfl,if_pos hlen],rfl⟩
 ·have:=h.mem.rt r _ hr
  cases d <;> exact this
theorem Dv (h : Rel X own0 w0 st a w g) {bF : FuncId} {p : Prim} (hp : oS P X.T bF p) {args : List SV} {vs : List Value} (cu : cY X w st.rt g args vs) {d : Option Tmp} {K : St → Option R} {r : R} (hq : iS X.T st p args d K = some r) :
  ∃ ae,K ae = some r ∧ Calls P bF vs.toArray w fun x w'=>∃ v,x = .returned v ∧ ∃ g',Rel X own0 w0 ae (a.put d v) w' g':=by
 unfold iS at hq
 split at hq
 ·rename_i r0 e
  split at hq <;> try (cases hq; done)
  rename_i e0 xs hr
  split at hq <;> try (cases hq; done)
  rename_i hh
  obtain ⟨rfl,aO,ai⟩:=hh
  cases aP : room xs.length 8 with
  | false=>rw [aP] at hq; cases hq
  | true =>
   rw [aP] at hq
   refine ⟨_,hq,?_⟩
   match vs,cu with
   | [v],⟨⟨e1,d1,mD,q1,_,q3⟩,_⟩ =>
    obtain ⟨-,-,rfl⟩:=q3.bX
    have bt : ak _ _ _ _ _ _:=h.mem.rt r0 _ hr
    have hl : (cW xs).length = xs.length:=by simp [cW]
    rcases bt.ints ai with ⟨⟨A,e2⟩,rfl⟩ | ⟨b,q,c,cur,e2,k1,k2,k3,k4,k5,k6⟩
    ·rw [e2]
     refine (hp.2.2 w A).mono fun x w'=>?_
     rintro ⟨rfl,rfl⟩
     refine ⟨_,rfl,g,?_⟩
     have:=(h.yN hr true).put d (sv:=.bf []) (v:=.tuple #[]) ⟨#[],rfl,trivial⟩
     rw [Ee]; exact this
    ·rw [e2]
     simp only [room,qQw] at aP
     refine (hp.2.1 w e0 b q c cur (cW xs) k2 k3 k5 k6 (by rw [hl]; exact aP.1)).mono fun x w'=>?_
     rintro ⟨rfl,hD⟩
     have fg:=Ec (cW xs)
     exact ⟨_,rfl,_,(h.xE hr aO ai k1 k3 k4 (by omega) hD true (fun _=>by rw [e2,fg])).put d (sv:=.bf []) (v:=.tuple #[]) ⟨#[],rfl,trivial⟩⟩
 ·rename_i r0 e
  split at hq <;> try (cases hq; done)
  rename_i e0 xs hr
  split at hq <;> try (cases hq; done)
  rename_i hh
  obtain ⟨rfl,aO,ai⟩:=hh
  cases aP : room xs.length 8 with
  | false=>rw [aP] at hq; cases hq
  | true =>
   rw [aP] at hq
   refine ⟨_,hq,?_⟩
   have hlen : r0 < (st.ah r0 false).rt.length:=by show r0 < (st.rt.map _).length; rw [qQk]; exact aA hr
   match vs,cu with
   | [v],⟨⟨e1,d1,mD,q1,_,q3⟩,_⟩ =>
    obtain ⟨-,-,rfl⟩:=q3.bX
    have bt : ak _ _ _ _ _ _:=h.mem.rt r0 _ hr
    have hl : (cW xs).length = xs.length:=by simp [cW]
    rcases bt.ints ai with ⟨⟨A,e2⟩,rfl⟩ | ⟨b,q,c,cur,e2,k1,k2,k3,k4,k5,k6⟩
    ·rw [e2]
     refine (hp.2.2 w A).mono fun x w'=>?_
     rintro ⟨rfl,rfl⟩
     refine ⟨_,rfl,g,?_⟩
     refine (h.yN hr false).put d (sv:=.c (.al r0 [] e0)) (ay.cj ⟨e0,true,[],by rw [bu,if_pos rfl,if_pos hlen],.inl rfl,?_⟩)
     rw [← e2]; exact .nil _ _ _
    ·rw [e2]
     simp only [room,qQw] at aP
     refine (hp.2.1 w e0 b q c cur (cW xs) k2 k3 k5 k6 (by rw [hl]; exact aP.1)).mono fun x w'=>?_
     rintro ⟨rfl,hD⟩
     have fg:=vV (cW xs)
     refine ⟨_,rfl,_,(h.xE hr aO ai k1 k3 k4 (by omega) hD false (fun hf=>by cases hf)).put d (sv:=.c (.al r0 [] e0)) (ay.cj ⟨e0,true,vW xs,by rw [bu,if_pos rfl,if_pos hlen]; rfl,.inl rfl,?_⟩)⟩
     have e3 : (if r0 = r0 then Value.slice (some ⟨b,q,none⟩) (gJ (cW xs)).length c else g.v r0) = Value.slice (some ⟨b,q,none⟩) (gJ (cW xs)).length c:=if_pos rfl
     show At _ _ _ _ (if r0 = r0 then Value.slice (some ⟨b,q,none⟩) (gJ (cW xs)).length c else g.v r0) _ _ _ _
     rw [e3]; exact .nil _ _ _
 ·rename_i e n
  split at hq <;> try (cases hq; done)
  rename_i ai
  cases aP : decide (0 ≤ n) && room n.toNat 8 with
  | false=>rw [aP] at hq; cases hq
  | true =>
   rw [aP] at hq
   refine ⟨_,hq,?_⟩
   simp only [qQi,qQw,room] at aP
   match vs,cu with
   | [v1,v2],⟨kv,dQ,_⟩ =>
    have kv : v1 = .slice none 0 0:=kv
    have dQ : v2 = .int .i64 n:=dQ
    subst kv dQ
    have:=hp.2 w n.toNat aP.2.1
    rw [qXn aP.1] at this
    refine this.mono fun x w'=>?_
    rintro ⟨v,rfl,⟨rfl,rfl⟩ | ⟨k1,k2,k3,k4,k5,k6,k7⟩⟩
    ·exact ⟨_,rfl,_,(h.oU e).put d rn⟩
    ·have hx : cm X w' (st.add (.row e true [])).rt (g.new w.heap.size st.rt.length v) st.rt.length (.row e true []):=by
      show ak _ _ _ _ _ (if st.rt.length = st.rt.length then v else _)
      rw [if_pos rfl]
      refine .row _ e [] _ [] (fun _ _=>undef) (fun _=>none) (.of k6) (fun b hb=>?_) (fun i j x h=>by simp at h) (fun i x h=>by simp at h) (fun i j x u ct h=>by simp at h)
      rcases ya v with e1 | e1
      ·rw [e1] at hb; cases hb
      rw [e1,k7] at hb
      obtain rfl:=qQc hb
      exact ⟨if_pos rfl,rfl⟩
     refine ⟨_,rfl,_,(h.xS (d:=0) (.row e true []) v k1 k2 k3 k4 k5 hx).put d (sv:=.c (.al st.rt.length [] e)) (ay.cj ⟨e,true,[],?_,.inl rfl,?_⟩)⟩
     ·show (st.rt ++ [_])[st.rt.length]? = _; simp
     ·show At _ _ _ _ (if st.rt.length = st.rt.length then v else _) _ _ _ _
      rw [if_pos rfl]; exact .nil _ _ _
 ·rename_i e r0 e1 i r2 e2
  split at hq <;> try (cases hq; done)
  rename_i e0 xs e3 ys hr dN
  split at hq <;> try (cases hq; done)
  rename_i hh
  obtain ⟨rfl,rfl,rfl,rfl,aW,aO,de,nW⟩:=hh
  cases aP : decide (0 ≤ i ∧ i ≤ (xs.length : Int)) && room (xs.length + ys.length) (X.T.row e3).bytes with
  | false=>rw [aP] at hq; cases hq
  | true =>
   rw [aP] at hq
   refine ⟨_,hq,?_⟩
   have hlen : r0 < (st.ah r0 false).rt.length:=by show r0 < (st.rt.map _).length; rw [qQk]; exact aA hr
   simp only [qQi,qQw,room] at aP
   match vs,cu with
   | [v1,v2,v3],⟨⟨e4,d4,zo,_,_,q3⟩,dQ,⟨e5,d5,Fu,_,_,q6⟩,_⟩ =>
    obtain ⟨-,-,rfl⟩:=q3.bX
    obtain ⟨-,-,rfl⟩:=q6.bX
    have dQ : v2 = .int .i64 i:=dQ
    subst dQ
    have nK : ak X.T.ct w (fun b=>g.own b = some r0) (.aj e3) (.lst xs) (g.v r0):=h.mem.rt r0 _ hr
    have lG : ak X.T.ct w (fun b=>g.own b = some r2) (.aj e3) (.lst ys) (g.v r2):=h.mem.rt r2 _ dN
    obtain ⟨k1,k2,k3⟩:=nK.dY de
    obtain ⟨m1,m2,m3⟩:=lG.dY de
    have hp:=hp.2 w (g.v r0) (g.v r2) xs ys i.toNat k3 m3 k1 m1 (fun b hb aT=>by
     have h1:=k2 b hb
     have h2:=m2 b aT
     rw [h1] at h2
     exact aW (qQc h2).symm) (by omega) nW aP.2.1 aP.2.2
    rw [qXn aP.1.1] at hp
    refine hp.mono fun x w'=>?_
    rintro ⟨v',rfl,hD⟩
    refine ⟨_,rfl,_,(h.yH hr aO de hD fun z hz=>?_).put d (sv:=.c (.al r0 [] e3)) (ay.cj ⟨e3,true,_,by rw [bu,if_pos rfl,if_pos hlen],.inl rfl,?_⟩)⟩
    ·rcases qZg.1 hz with hz | hz
     ·rcases qZg.1 hz with hz | hz
      ·exact k3 z (List.mem_of_mem_take hz)
      ·exact m3 z hz
     ·exact k3 z (List.mem_of_mem_drop hz)
    ·show At _ _ _ _ (if r0 = r0 then v' else g.v r0) _ _ _ _
     rw [if_pos rfl]; exact .nil _ _ _
 ·rename_i e r0 e1
  split at hq <;> try (cases hq; done)
  rename_i e0 xs hr
  split at hq <;> try (cases hq; done)
  rename_i hh
  obtain ⟨rfl,rfl,de⟩:=hh
  cases aP : room xs.length (X.T.row e1).bytes with
  | false=>rw [aP] at hq; cases hq
  | true =>
   rw [aP] at hq
   refine ⟨_,hq,?_⟩
   simp only [qQw,room] at aP
   match vs,cu with
   | [v1],⟨⟨e4,d4,zo,_,_,q3⟩,_⟩ =>
    obtain ⟨-,-,rfl⟩:=q3.bX
    have nK : ak X.T.ct w (fun b=>g.own b = some r0) (.aj e1) (.lst xs) (g.v r0):=h.mem.rt r0 _ hr
    obtain ⟨k1,k2,k3⟩:=nK.dY de
    refine (hp.2 w (g.v r0) xs k3 k1 aP.1 aP.2).mono fun x w'=>?_
    rintro ⟨v',rfl,hD⟩
    refine ⟨_,rfl,_,(h.DM de hD k3).put d (sv:=.c (.al st.rt.length [] e1)) (ay.cj ⟨e1,true,xs,by show (st.rt ++ [_])[st.rt.length]? = _; simp,.inl rfl,?_⟩)⟩
    show At _ _ _ _ (if st.rt.length = st.rt.length then v' else _) _ _ _ _
    rw [if_pos rfl]; exact .nil _ _ _
 ·rename_i e c j r0 e1 c' n
  split at hq <;> try (cases hq; done)
  rename_i e0 xs hr
  split at hq <;> try (cases hq; done)
  rename_i hh
  obtain ⟨rfl,rfl,rfl,aO,de,_⟩:=hh
  cases aP : room xs.length (X.T.row e1).bytes with
  | false=>rw [aP] at hq; cases hq
  | true =>
   rw [aP] at hq
   refine ⟨_,hq,?_⟩
   have hlen : r0 < (st.ah r0 false).rt.length:=by show r0 < (st.rt.map _).length; rw [qQk]; exact aA hr
   simp only [qQw,room] at aP
   match vs,cu with
   | [v1,v2],⟨⟨e4,d4,zo,_,_,q3⟩,⟨vc,jJ,pN⟩,_⟩ =>
    obtain ⟨-,-,rfl⟩:=q3.bX
    have Cd : vc = #[.int .i64 n]:=by
     match hl : vc.toList,pN with
     | [u],⟨hu,_⟩ =>
      have hu : u = .int .i64 n:=hu
      subst hu
      exact Array.ext' hl
    subst Cd
    subst jJ
    have nK : ak X.T.ct w (fun b=>g.own b = some r0) (.aj e1) (.lst xs) (g.v r0):=h.mem.rt r0 _ hr
    obtain ⟨k1,k2,k3⟩:=nK.dY de
    refine (hp.2 w (g.v r0) xs n k3 k1 aP.1 aP.2).mono fun x w'=>?_
    rintro ⟨v',rfl,hD⟩
    refine ⟨_,rfl,_,(h.yH hr aO de hD fun z hz=>k3 z (qZa.1 hz).1).put d (sv:=.c (.al r0 [] e1)) (ay.cj ⟨e1,true,_,by rw [bu,if_pos rfl,if_pos hlen],.inl rfl,?_⟩)⟩
    show At _ _ _ _ (if r0 = r0 then v' else g.v r0) _ _ _ _
    rw [if_pos rfl]; exact .nil _ _ _
 ·cases hq
end
section
variable {P : Program} {X : Ctx} {own0 : Nat → Option Nat} {w0 : World} {st : St} {a : Act} {w w' : World} {g g' : Gh} {R : Type}
theorem bA.cut {e : TypeId} {size n c : Nat} {A : Option Addr} {cs : List Value} (h : bA w e size (.slice A n c) n cs) {l m : Nat} (hl : l ≤ m) (hm : m ≤ n) :
  bA w e size (.slice (if c = l then A else A.map (·.add (l * size))) (m - l) (c - l)) (m - l) ((cs.drop (l * size)).take ((m - l) * size)):=by
 have h1:=h.1
 have h2 : (m - l) * size + l * size = m * size:=by rw [← qYf]; congr 1; omega
 have h3 : m * size ≤ n * size:=qYl _ hm
 refine ⟨by rw [qZc,qZl]; omega,?_⟩
 rcases h.2 with ⟨⟨A',h0⟩,rfl⟩ | ⟨g,q,cap,cur,hv,hg,km,ki,bG,jH⟩
 ·cases h0
  obtain rfl : m = 0:=by omega
  obtain rfl : l = 0:=by omega
  exact .inl ⟨⟨A,by simp⟩,rfl⟩
 ·cases hv
  have h4 : (c - l) * size + l * size = c * size:=by rw [← qYf]; congr 1; omega
  refine .inr ?_
  by_cases hc : c = l
  ·obtain rfl : m = l:=by omega
   rw [if_pos hc]
   refine ⟨g,q,c - m,cur,by rw [qZn],hg,by omega,by omega,?_,by simp⟩
   have : c - m = 0:=by omega
   rw [this]; omega
  ·rw [if_neg hc]
   refine ⟨g,q + l * size,c - l,cur,by simp [Addr.add_lit],hg,by omega,by omega,by omega,?_⟩
   rw [← jH,List.drop_take,List.take_take,qXj]
   congr 1
   omega
theorem ak.Aw {T : bl} {F : Nat → Prop} {ct : CT} {u : U} {v : Value} (h : ak T w F ct u v) (hf : ct.bU = false) (ok : Nat → Prop) : aE T w ok ct u v:=by
 cases h with
 | int _ k n=>exact .int k n
 | bool _ b=>exact .bool b
 | str _ s=>exact .str s
 | row=>cases hf
theorem cm.flat {rt : List aa} {r : Nat} {e : TypeId} {d : Bool} {xs : List (List U)} (h : cm X w rt g r (.row e d xs)) (hf : fj (X.T.ct e) = true) :
  ∃ (cs : List Value) (V : Nat → Nat → Value),bA w e (X.T.ct e).length (g.v r) xs.length cs ∧ (∀ b,oB (g.v r) = some b → g.own b = some r) ∧
   (∀ (i j : Nat) (x : List U),xs[i]? = some x → j < x.length → cs[i * (X.T.ct e).length + j]? = some (V i j)) ∧ (∀ (i : Nat) (x : List U),xs[i]? = some x → x.length = (X.T.ct e).length) ∧
   ∀ (ok : Nat → Prop) (i j : Nat) (x : List U) (u : U) (ct : CT),xs[i]? = some x → x[j]? = some u → (X.T.ct e)[j]? = some ct → aE X.T.ct w ok ct u (V i j):=by
 cases d with
 | true =>
  have h : ak _ _ _ _ _ _:=h
  generalize g.v r = v at *
  cases h with
  | row _ _ _ _ cs V bp ho hg hV hs hh=>exact ⟨cs,V,ho,fun b hb=>(hg b hb).1,hV,hs,fun ok i j x u ct hx hu ai=>(hh i j x u ct hx hu ai).Aw (iq hf ai) ok⟩
 | false =>
  obtain ⟨cs,V,ho,hg,hV,hs,hh⟩:=aZ.ex h
  exact ⟨cs,V,ho,hg,hV,hs,fun ok i j x u ct hx hu ai=>(hh i j x u ct hx hu ai).wB (iq hf ai) ok⟩
theorem Rel.DH (h : Rel X own0 w0 st a w g) {r : Nat} {e : TypeId} {d : Bool} {xs ys : List (List U)} (hr : st.rt[r]? = some (.row e d xs)) (aO : st.np ≤ r) (keep : Bool) (v' : Value) (hk : keep = true → v' = g.v r)
  (hx : ak X.T.ct w (fun b=>g.own b = some r) (.aj e) (.lst ys) v') (hy : aZ X.T.ct w (fun b=>g.own b = some r) (aq X w g) e ys v') :
  Rel X own0 w0 ((st.ah r keep).aG r (.row e d ys)) a w ⟨g.own,fun s=>if s = r then v' else g.v s,g.b⟩:=by
 have av:=aA hr
 have hlen : r < (st.ah r keep).rt.length:=by show r < (st.rt.map _).length; rw [qQk]; exact av
 refine h.change r keep (Q:=fun _=>False) (St.eV st) (fun _ _ hf=>hf.elim) _ ?_ ?_ h.mem.lt h.mem.ob (qQb _) h.mem.pm (fun s hs=>?_) ⟨h.fr.os,h.fr.tape,h.fr.output,h.fr.size,h.fr.block⟩
 ·refine ⟨fun c hc=>⟨hc,rfl⟩,fun c s hs hc=>⟨hc,rfl⟩,fun s _ hs=>if_neg fun he=>hs (.inl he),fun s e' d' Ew hs aB=>?_,fun s t cs hb=>⟨rfl,cs,?_⟩,fun s hs=>⟨?_,fun e' d' Ew aB=>?_⟩⟩
  ·rw [bu,if_neg (fun he=>hs (.inl he.symm))]; exact aB
  ·rw [bu,if_neg]
   ·exact hb
   ·rintro rfl; rw [cz,hr] at hb; cases hb
  ·obtain ⟨rfl,aK⟩:=hs
   show (if s = s then _ else _) = _
   rw [if_pos rfl,hk aK]
  ·obtain ⟨rfl,aK⟩:=hs
   rw [cz,hr] at aB
   cases aB
   refine ⟨d,ys,by rw [bu,if_pos rfl,if_pos hlen],?_⟩
   obtain ⟨A,c,k1,-⟩:=(hx.gC (aq:=fun _=>True) fun _ _=>trivial).ja
   have h2:=h.mem.rt s _ hr
   have h3 : ∃ A c,g.v s = .slice A xs.length c:=by
    cases d with
    | true =>
     have h2 : ak X.T.ct w (fun b=>g.own b = some s) (.aj e) (.lst xs) (g.v s):=h2
     obtain ⟨A,c,k,-⟩:=(h2.gC (aq:=fun _=>True) fun _ _=>trivial).ja
     exact ⟨A,c,k⟩
    | false =>
     obtain ⟨cs,V,ho,-⟩:=aZ.ex h2
     obtain ⟨A,c,k,-⟩:=fQ ho
     exact ⟨A,c,k⟩
   obtain ⟨A',c',k2⟩:=h3
   rw [hk aK,k2] at k1
   exact (Value.slice.inj k1).2.1.symm
 ·cases d with
  | true =>
   show ak _ _ _ _ _ (if r = r then _ else _)
   rw [if_pos rfl]
   exact hx
  | false =>
   show aZ _ _ _ _ _ _ (if r = r then _ else _)
   rw [if_pos rfl]
   exact hy
 ·show (if s = r then _ else _) = _
  rw [if_neg,h.mem.pv s hs]
  rintro rfl
  have:=h.mem.np
  omega
theorem Ae (hT : aX P X.T) (h : Rel X own0 w0 st a w g) {o : Oper} {t : TypeId} {x : Operand} {lo hi : Option Operand} (ho : o.op = .slice t x lo hi none) {K : St → Option R} {r : R}
  (hq : jq X.T st t (ev st x) (lo.map (ev st)) (hi.map (ev st)) o.dst K = some r) : ∃ ae,K ae = some r ∧ bg P X own0 w0 o a w ae:=by
 have hx:=ba h x
 unfold jq at hq
 split at hq <;> try (cases hq; done)
 rename_i e r0 e' hd hz
 rw [hz] at hx
 split at hq <;> try (cases hq; done)
 rename_i e0 d xs hr
 split at hq <;> try (cases hq; done)
 rename_i hh
 obtain ⟨rfl,rfl,aO,de,BE⟩:=hh
 split at hq <;> try (cases hq; done)
 rename_i k1 l k2 m ff fc
 cases hz : decide (0 ≤ l ∧ l ≤ m ∧ m ≤ (xs.length : Int)) with
 | false=>rw [hz] at hq; cases hq
 | true =>
  rw [hz] at hq
  refine ⟨_,hq,?_⟩
  have hz:=qZu hz
  obtain ⟨e1,d1,mD,q1,_,q3⟩:=hx
  obtain ⟨rfl,rfl,rfl⟩ : e0 = e1 ∧ d = d1 ∧ xs = mD:=by rw [hr] at q1; cases q1; exact ⟨rfl,rfl,rfl⟩
  obtain ⟨-,-,hv⟩:=q3.bX
  obtain ⟨cs,V,hO,hg,hV,hs,hR⟩:=(h.mem.rt r0 _ hr).flat de
  rw [← hv] at hO hg
  obtain ⟨A,c,dQ,hc,hm⟩:=fQ hO
  rw [dQ] at hO hg
  have hb : (Instr.sliceBounds true xs.length c (lo.map a.eval) (hi.map a.eval) none).run P w = .ok (l.toNat,m.toNat,c) w:=by
   have h1 : ∀ x,hi = some x → a.eval x = .int k2 m:=by
    rintro x rfl
    have:=ba h x
    simp only [qQ7,qY7] at fc
    rw [fc] at this; exact this
   have h2 : ∀ x,lo = some x → a.eval x = .int k1 l:=by
    rintro x rfl
    have:=ba h x
    simp only [qQ7,qY7] at ff
    rw [ff] at this; exact this
   have h3 : hi = none → m.toNat = xs.length:=by
    rintro rfl
    simp only [qY8,qY9] at fc
    injection fc with hh; injection hh with _ hh; omega
   have h4 : lo = none → l.toNat = 0:=by
    rintro rfl
    simp only [qY8,qY9] at ff
    injection ff with hh; injection hh with _ hh; omega
   have gM : 0 ≤ m:=by omega
   have jF : m ≤ (c : Int):=by omega
   have jD : l ≤ (m.toNat : Int):=by omega
   cases hi with
   | none =>
    have h3:=h3 rfl
    cases lo with
    | none=>simp [Instr.sliceBounds,h3,h4 rfl]
    | some x=>simp [Instr.sliceBounds,h2 x rfl,run_sliceBound hz.1 (h3 ▸ jD),h3]
   | some y =>
    cases lo with
    | none=>simp [Instr.sliceBounds,h1 y rfl,run_sliceBound gM jF,h4 rfl]
    | some x=>simp [Instr.sliceBounds,h1 y rfl,run_sliceBound gM jF,h2 x rfl,run_sliceBound hz.1 jD]
  have hl : l.toNat ≤ m.toNat:=by omega
  have BI : m.toNat ≤ xs.length:=by omega
  have e2 : (m - l).toNat = m.toNat - l.toNat:=by omega
  have Bh:=bA.cut hO hl BI
  have Ci : ((xs.drop l.toNat).take (m - l).toNat).length = m.toNat - l.toNat:=by rw [qZc,qZl]; omega
  have bD : ∀ (i : Nat) y,((xs.drop l.toNat).take (m - l).toNat)[i]? = some y → i < m.toNat - l.toNat ∧ xs[l.toNat + i]? = some y:=by
   intro i y hy
   have:=aA hy
   rw [qZk,if_pos (by omega),qZb] at hy
   exact ⟨by omega,hy⟩
  have eL : aZ X.T.ct w (fun b=>g.own b = some r0) (aq X w g) e0 ((xs.drop l.toNat).take (m - l).toNat) (.slice (if c = l.toNat then A else A.map (·.add (l.toNat * (X.T.ct e0).length))) (m.toNat - l.toNat) (c - l.toNat)):=by
   refine ⟨_,fun i j=>V (l.toNat + i) j,by rw [Ci]; exact Bh,fun b hb=>hg b ?_,fun i j y hy hj=>?_,fun i y hy=>hs _ y (bD i y hy).2,fun i j y u ct hy hu ai=>hR _ _ j y u ct (bD i y hy).2 hu ai⟩
   ·cases A with
    | none=>split at hb <;> cases hb
    | some ad =>
     split at hb
     ·rename_i aL
      rw [show c - l.toNat = 0 by omega,yb] at hb
      cases hb
     ·rename_i aL
      rcases ux hO with ⟨⟨A',h0⟩,_⟩ | ⟨g1,EY,EF,EH,h0,_,_,_,_,_,jz⟩
      ·have:=(Value.slice.inj h0).2.2; omega
      ·cases h0
       simp only [qQ7,Addr.add_lit] at hb
       obtain rfl:=fP hb
       exact lX jz
   ·obtain ⟨h5,h6⟩:=bD i y hy
    have eJ : j < (X.T.ct e0).length:=by rw [hs _ y h6] at hj; exact hj
    have:=iP h5 eJ
    have h7:=hV _ j y h6 hj
    rw [qZk,if_pos this,qZb,← qQ4,← qYf]
    exact h7
  have tC : ak X.T.ct w (fun b=>g.own b = some r0) (.aj e0) (.lst ((xs.drop l.toNat).take (m - l).toNat)) (.slice (if c = l.toNat then A else A.map (·.add (l.toNat * (X.T.ct e0).length))) (m.toNat - l.toNat) (c - l.toNat)):=by
   obtain ⟨cs',V',k1,k2,k3,k4,k5⟩:=eL.ex
   exact .row _ e0 _ _ cs' V' (fun _=>none) k1 (fun b hb=>⟨k2 b hb,rfl⟩) k3 k4 fun i j y u ct hy hu ai=>(k5 i j y u ct hy hu ai).sj (iq de ai) _
  have av : r0 < (st.ah r0 false).rt.length:=by show r0 < (st.rt.map _).length; rw [qQk]; exact aA hr
  refine bg.value (w':=w) (v:=.slice (if c = l.toNat then A else A.map (·.add (l.toNat * (X.T.ct e0).length))) (m.toNat - l.toNat) (c - l.toNat)) ?_ ((h.DH hr aO false _ (fun hf=>by cases hf) tC eL).put o.dst (ay.cj ⟨e0,d,_,by rw [bu,if_pos rfl,if_pos av],.inl rfl,?_⟩))
  ·have gQ:=run_sizeOf hT BE (w:=w)
   rw [show X.T.size e0 = (X.T.ct e0).length from rfl] at gQ
   simp [execOp,ho,dQ,Instr.sliceAt,Instr.slice,run_underlying (eu hT hd),hb,gQ]
  ·show At _ _ _ _ (if r0 = r0 then _ else _) _ _ _ _
   rw [if_pos rfl]; exact .nil _ _ _
theorem wg (T : ax) (st : St) (t : TypeId) (x : SV) (lo hi : Option SV) (d : Option Tmp) (K : St → Option R) : jq T st t x lo hi d K = (jq T st t x lo hi d some).bind K:=by
 unfold jq
 repeat' split
 all_goals first | rfl | contradiction | simp only [kb,qYq,qYi]
theorem yR {α : Type} {l : List α} {i : Nat} {x : α} (h : l[i]? = some x) : l.set i x = l:=by
 apply qZm
 intro j
 rw [qQ9]
 split
 ·rename_i he; subst he
  rw [if_pos (aA h),h]
 ·rfl
theorem At.Ei {T : bl} {e0 : TypeId} {xs : List (List U)} {v v' : Value} {i k : Nat} {br : CT} {u' : U} (h : At T w (.aj e0) (.lst xs) v [(i,k)] br u' v') : ∃ b q n c x,v = .slice (some ⟨b,q,none⟩) n c ∧ xs[i]? = some x ∧ x[k]? = some u' ∧ (T e0)[k]? = some br ∧ w.cell? ⟨b,q + (i * (T e0).length + k),none⟩ = some v':=by
 cases h with
 | cons e xs g q n c i o x u1 cF v1 p br u' v' hx hu ai hc h =>
  obtain ⟨rfl,rfl,rfl⟩:=h.bX
  exact ⟨g,q,n,c,x,rfl,hx,hu,ai,hc⟩
theorem yQ {r : Nat} {x : aa} (h : st.rt[r]? = some x) : st.aG r x = st:=by
 have : st.rt.set r x = st.rt:=by
  apply qZm
  intro i
  rw [qQ9]
  split
  ·rename_i he; subst he
   rw [if_pos (aA h),h]
  ·rfl
 show (⟨st.sl,st.rt.set r x,st.np⟩ : St) = st
 rw [this]
def re (X : Ctx) (rt : List aa) (w : World) (g : Gh) (pd : fV) (v : Value) : Prop :=
 ∃ e0 xs b q n c cur,rt[pd.r]? = some (.row e0 true xs) ∧ g.v pd.r = .slice (some ⟨b,q,none⟩) n c ∧ w.heap[b]? = some (.cells cur e0 (0,0)) ∧ q + (pd.i * X.T.size e0 + pd.o) + 1 ≤ cur.size ∧ g.own b = some pd.r ∧ v.oneCell' = true ∧ v.cells = #[v] ∧
  ak X.T.ct (w.setRow b (stored cur (q + (pd.i * X.T.size e0 + pd.o)) [v])) (fun b'=>g.own b' = some pd.r) (.aj e0) (.lst (bY xs pd.i pd.o [.lst pd.zs])) (g.v pd.r)
def Gh.grown (g : Gh) (r b : Nat) (v' : Value) : Gh:=⟨fun x=>if x = b then (if oB v' = some b then some r else none) else g.own x,g.v,g.b⟩
theorem AG {r b x s : Nat} {v' : Value} (h : (g.grown r b v').own x = some s) : (x ≠ b ∧ g.own x = some s) ∨ (x = b ∧ s = r ∧ oB v' = some x):=by
 unfold Gh.grown at h
 dsimp only at h
 split at h
 ·rename_i he
  split at h
  ·rename_i hv; cases h; exact .inr ⟨he,rfl,by rw [he]; exact hv⟩
  ·cases h
 ·rename_i he; exact .inl ⟨he,h⟩
theorem Dt (hT : aX P X.T) (h : Rel X own0 w0 st a w g) {o : Oper} {pd : fV} {n : Nat} (hq : uz X.T st o = some (pd,n)) (aP : room n (X.T.row pd.e).bytes = true) :
  o.guard = none ∧ ∃ v w' g',(execOp a.eval o).run P w = .ok (.value v) w' ∧ Rel X own0 w0 ((st.ah pd.r true).put o.dst .no) (a.put o.dst v) w' g' ∧ re X ((st.ah pd.r true).put o.dst .no).rt w' g' pd ((a.put o.dst v).tmps.getD pd.d undef) ∧ o.dst = some pd.d:=by
 unfold uz at hq
 split at hq
 ·rename_i d c hg iw ho
  split at hq
  ·rename_i s x t t2 hc cu gR
   split at hq
   ·rename_i r i k e hs
    split at hq
    ·rename_i e' e0 xs e2 ys dB hr cG
     split at hq
     ·rename_i hh
      obtain ⟨rfl,rfl,rfl,hk,cx,de,av⟩:=hh
      simp only [qZo,qXg] at hq
      obtain ⟨rfl,rfl⟩:=hq
      dsimp only at aP ⊢
      refine ⟨hg,?_⟩
      have hd:=wj dB
      have bk : o.op = .call ⟨.builtin .append,#[s,x],#[t2,t2]⟩:=by
       rw [ho]
       obtain ⟨ce,ar,ty⟩:=c
       have e1 : ar = #[s,x]:=qZ2.1 cu
       have e2 : ty = #[t2,t2]:=qZ2.1 gR
       subst e1 e2
       simp only at hc
       rw [hc]
      have bI:=ba h s
      rw [hs] at bI
      obtain ⟨e3,d3,zn,q1,q2,q3⟩:=bI
      rw [hr] at q1
      obtain ⟨rfl,rfl,rfl⟩ : e0 = e3 ∧ true = d3 ∧ xs = zn:=by cases q1; exact ⟨rfl,rfl,rfl⟩
      have bt : ak _ _ _ _ _ _:=h.mem.rt r _ hr
      obtain ⟨b,q,m,cc,y,hv,hy,hu,ai,db⟩:=q3.Ei
      have hx:=ba h x
      have hR : ∃ ok : Nat → Prop,aE X.T.ct w ok (.aj e2) (.lst ys) (a.eval x):=by
       generalize ev st x = sx at *
       unfold mA at cG
       split at cG
       ·cases cG; exact ⟨_,hx⟩
       ·rename_i r2 p e9
        split at cG
        ·rename_i e3 d3 zs dN
         cases cG
         obtain ⟨e4,d4,oO,q1,q2⟩:=aF.fY h.mem hx
         obtain ⟨rfl,rfl,rfl⟩ : e3 = e4 ∧ d3 = d4 ∧ zs = oO:=by rw [dN] at q1; cases q1; exact ⟨rfl,rfl,rfl⟩
         exact ⟨fun _=>True,q2 _ (fun _ _=>trivial) (fun _ _=>trivial)⟩
        ·cases cG
       ·cases cG
      obtain ⟨ok,hR⟩:=hR
      obtain ⟨V2,k1,k2,k3⟩:=Src.ur cx hR
      have tH : ak X.T.ct w (fun b=>g.own b = some r) (.aj e0) (.lst xs) (.slice (some ⟨b,q,none⟩) m cc):=by rw [← hv]; exact bt
      obtain ⟨cur,Fo,c1,c2,c3,c4,c5,c6,c7⟩:=ak.setCell tH hy hu ai db
      have xc : b < w.heap.size:=h.mem.lt b (by rw [c2]; simp)
      generalize gS : a.eval s = vs at *
      generalize hys : bc xs [(i,k)] = ys0 at *
      have Bg : cur.toList[q + (i * (X.T.ct e0).length + k)]? = some vs:=by
       rw [nv c1] at db; rw [qYc]; exact db
      have lN : stored cur (q + (i * (X.T.ct e0).length + k)) [vs] = cur:=by
       apply qZ2.1
       apply qZm
       intro j
       rw [uW (by simpa using c4)]
       split
       ·rename_i hj
        obtain rfl : j = q + (i * (X.T.ct e0).length + k):=by simp only [qZq,qXo] at hj; omega
        rw [qZn,Bg]; rfl
       ·rfl
      cases c6 with
      | row _ _ _ _ cs V bp lG lp lg nQ fb =>
       obtain ⟨v',w',hG⟩:=k1.nb (P:=P) (ty:=o.type) hT hd hk cx lG aP
       have hB:=hG.grown
       have tp:=ov h (qQb w.heap.size)
       have kl : ∀ b s,g.own b = some s → b < w.heap.size:=fun b s hb=>h.mem.lt b (by rw [hb]; simp)
       have same : ∀ b,b < w.heap.size → (∀ c,oB vs = some c → b ≠ c) → w'.heap[b]? = w.heap[b]?:=fun b hb aW=>hB.block b hb fun he=>aW b he.symm rfl
       have tT : ∀ c,oB vs = some c → Fo c:=fun c hc=>(lp c hc).1
       have mu : ∀ b',b' < w.heap.size → ¬ Fo b' → w'.heap[b']? = w.heap[b']?:=fun b' hb hf=>same b' hb fun c hc=>by rintro rfl; exact hf (tT _ hc)
       have au : w'.heap[b]? = some (.cells cur e0 (0,0)):=(mu b xc c3).trans c1
       have flat : ∀ {F : Nat → Prop} {ct : CT} {u : U} {v : Value},ak X.T.ct w F ct u v → ct.bU = false → ∀ (w2 : World) (F2 : Nat → Prop),ak X.T.ct w2 F2 ct u v:=by
        intro F ct u v hr hf w2 F2
        cases hr with
        | int=>exact .int _ _ _
        | bool=>exact .bool _ _
        | str=>exact .str _ _
        | row=>cases hf
       have aL : cs.length = ys0.length * X.T.size e2:=lG.1
       
       have cO : ak X.T.ct w' Fo (.aj e2) (.lst ys0) vs:=.row _ _ _ _ cs V bp hG.cO lp lg nQ fun i j y u ct hy hu ai=>flat (fb i j y u ct hy hu ai) (iq de ai) _ _
       have jK : xs.set i (y.set k (.lst ys0)) = xs:=by rw [yR hu,yR hy]
       have yg:=c7 w' Fo (.lst ys0) vs (fun b' h1 h2 _=>mu b' (kl b' r h1) h2) (by rw [lN]; exact au) cO fun b' au=>.inl au
       rw [jK] at yg
       
       have ni : ∀ b',oB v' = some b' → (Fo b' ∨ b' = w.heap.size) ∧ b' ≠ b:=by
        intro b' aT
        rcases hG.mR with he | he
        ·rw [he] at aT
         exact ⟨.inl (tT _ aT),by rintro rfl; exact c3 (tT _ aT)⟩
        ·rw [he] at aT
         obtain rfl:=qQc aT
         exact ⟨.inr rfl,by omega⟩
       have bD : ∀ (i : Nat) (y : List U),(ys0 ++ ys)[i]? = some y → (i < ys0.length ∧ ys0[i]? = some y) ∨ (ys0.length ≤ i ∧ ys[i - ys0.length]? = some y):=by
        intro i y hy
        by_cases hi : i < ys0.length
        ·rw [qQu hi] at hy; exact .inl ⟨hi,hy⟩
        ·rw [qQx (by omega)] at hy; exact .inr ⟨by omega,hy⟩
       have new : ak X.T.ct (w'.setRow b (stored cur (q + (i * (X.T.ct e0).length + k)) [v'])) (fun b'=>Fo b' ∨ (b' = w.heap.size ∧ oB v' = some b')) (.aj e2) (.lst (ys0 ++ ys)) v':=by
        refine .row _ _ _ _ (cs ++ dY V2 (X.T.size e2) ys.length) (fun i j=>if i < ys0.length then V i j else V2 (i - ys0.length) j) (fun _=>none) (mc (by rw [qQ6]; exact hG.own) fun b' aT=>setRow_other w' b b' _ (ni b' aT).2) (fun b' aT=>⟨?_,rfl⟩) (fun i j y hy hj=>?_) (fun i y hy=>?_) (fun i j y u ct hy hu ai=>?_)
        ·rcases (ni b' aT).1 with h1 | h1
         ·exact .inl h1
         ·exact .inr ⟨h1,aT⟩
        ·rcases bD i y hy with ⟨hi,hy⟩ | ⟨hi,hy⟩
         ·have eJ : j < X.T.size e2:=by rw [nQ i y hy] at hj; exact hj
          have:=iP hi eJ
          rw [show (X.T.ct e2).length = X.T.size e2 from rfl,qQu (by omega),if_pos hi]
          exact lg i j y hy hj
         ·have e1 : i * X.T.size e2 = ys0.length * X.T.size e2 + (i - ys0.length) * X.T.size e2:=by rw [← qYf]; congr 1; omega
          rw [show (X.T.ct e2).length = X.T.size e2 from rfl,qQx (by omega),aL,show i * X.T.size e2 + j - ys0.length * X.T.size e2 = (i - ys0.length) * X.T.size e2 + j from by omega,sk (aA hy) (by rw [k2 _ y hy] at hj; exact hj),if_neg (by omega)]
        ·rcases bD i y hy with ⟨_,hy⟩ | ⟨_,hy⟩
         ·exact nQ i y hy
         ·exact k2 _ y hy
        ·rcases bD i y hy with ⟨hi,hy⟩ | ⟨hi,hy⟩
         ·rw [if_pos hi]
          exact flat (fb i j y u ct hy hu ai) (iq de ai) _ _
         ·rw [if_neg (by omega)]
          exact flat ((k3 _ j y u ct hy hu ai).sj (iq de ai) (fun _=>True)) (iq de ai) _ _
       have CR:=c7 _ _ (.lst (ys0 ++ ys)) v' (fun b' h1 h2 h3=>(setRow_other w' b b' _ h3).trans (mu b' (kl b' r h1) h2)) (setRow_heap w' b cur _ e0 _ au) new fun b' aT=>by
        rcases aT with aT | ⟨rfl,_⟩
        ·exact .inl aT
        ·right; rw [tp]; simp
       have dv : ∀ b',b' < w.heap.size → (g.grown r w.heap.size v').own b' = g.own b':=fun b' aT=>if_neg (by omega)
       have lr : ∀ b' s,(g.grown r w.heap.size v').own b' = some s → g.own b' = some s ∨ (b' = w.heap.size ∧ s = r ∧ oB v' = some b'):=by
        intro b' s aT
        exact (AG aT).imp And.right id
       have hK : bN X (fun s=>s = r ∨ False) (fun s=>s = r ∧ true = true) w g (st.ah r true).rt w' (g.grown r w.heap.size v') ((st.ah r true).aG r (.row e0 true xs)).rt:=by
        have gN : (st.ah r true).rt[r]? = some (.row e0 true xs):=by rw [cz,hr]; rfl
        rw [yQ gN]
        refine ⟨fun b' aT=>⟨⟨by rw [dv b' aT.2.1]; exact aT.1,qQ2 aT.2.1 hB.size,aT.2.2⟩,mu b' aT.2.1 fun hf=>by have:=c5 b' hf; rw [aT.1] at this; cases this⟩,fun b' s aM aT=>?_,fun _ _ _=>rfl,fun s e d zs _ aB=>aB,fun s t cs aT=>⟨rfl,cs,aT⟩,fun s aM=>⟨rfl,fun e d zs aB=>⟨d,zs,aB,rfl⟩⟩⟩
        have da:=kl b' s aT
        refine ⟨(dv b' da).trans aT,mu b' da fun hf=>?_⟩
        have:=c5 b' hf
        rw [aT] at this
        exact aM (.inl (qQc this))
       have cU:=h.change (w':=w') (g':=g.grown r w.heap.size v') r true (Q:=fun _=>False) (St.eV st) (fun _ _ hh=>hh.elim) (.row e0 true xs) hK (by
         show ak _ _ _ _ _ (g.v r)
         rw [hv]
         refine yg.mono fun b' aT=>?_
         have h1 : g.own b' = some r:=by rcases aT with aT | aT; exact aT.1; exact c5 b' aT
         rw [dv b' (kl b' r h1)]; exact h1) (fun b' aT=>by
         cases cg : (g.grown r w.heap.size v').own b' with
         | none=>exact absurd cg aT
         | some s =>
          rcases lr b' s cg with h1 | ⟨h1,_,h3⟩
          ·exact qQ2 (kl b' s h1) hB.size
          ·exact qz hG.own b' h3) (fun b' s aT=>by
         rcases lr b' s aT with h1 | ⟨_,rfl,_⟩
         ·exact h.mem.ob b' s h1
         ·exact aA hr) hB.size (fun b' s aT=>by
         rcases lr b' s aT with h1 | ⟨rfl,_,_⟩
         ·exact h.mem.pm b' s h1
         ·exact .inl (h.mem.n0 _ (qQb _))) h.mem.pv ⟨hB.os.trans h.fr.os,hB.tape.trans h.fr.tape,hB.output.trans h.fr.output,qZd h.fr.size hB.size,fun b' aT bk=>by
         obtain ⟨e1,e2⟩:=h.fr.block b' aT bk
         have da:=qQ2 aT h.fr.size
         exact ⟨(dv b' da).trans e1,(mu b' da fun hf=>by have:=c5 b' hf; rw [e1] at this; cases this).trans e2⟩⟩
       have gN : (st.ah r true).rt[r]? = some (.row e0 true xs):=by rw [cz,hr]; rfl
       rw [yQ gN] at cU
       refine ⟨v',w',g.grown r w.heap.size v',?_,cU.put o.dst (sv:=.no) (v:=v') trivial,?_,iw⟩
       ·have:=hG.run
        simp [execOp,bk,resolve,invoke,builtin,gS,this]
       ·have fg : d < a.tmps.size:=qQ2 av h.sz
        have ed : (a.put o.dst v').tmps.getD d undef = v':=by
         rw [iw]
         show (a.tmps.setIfInBounds d v').getD d undef = v'
         simp [qZr,fg]
        obtain ⟨A,EE,dQ,_⟩:=fQ hG.own
        rw [ed]
        refine ⟨e0,xs,b,q,m,cc,cur,by rw [yv]; exact gN,hv,au,c4,(dv b xc).trans c2,by rw [dQ]; rfl,by rw [dQ]; rfl,?_⟩
        show ak _ _ _ _ _ (g.v r)
        rw [hv]
        have e1 : bY xs i k [.lst (ys0 ++ ys)] = xs.set i (y.set k (.lst (ys0 ++ ys))):=by
         unfold bY; rw [cr hy]; rfl
        rw [e1]
        refine CR.mono fun b' aT=>?_
        rcases aT with aT | aT | ⟨rfl,aT⟩
        ·rw [dv b' (kl b' r aT.1)]; exact aT.1
        ·have h1:=c5 b' aT
         rw [dv b' (kl b' r h1)]; exact h1
        ·show (if w.heap.size = w.heap.size then (if oB v' = some w.heap.size then some r else none) else _) = _
         rw [if_pos rfl,if_pos aT]
     ·cases hq
    ·cases hq
   ·cases hq
  ·cases hq
 ·cases hq
def uA (T : ax) (st : St) (t : TypeId) (a : SV) (x : Operand) (pd : fV) (d : Option Tmp) (K : St → Option R) : Option R :=
 match a,x with
 | .po r [] e0 i k,.tmp d'=>(match st.rt[r]? with
  | some (.row e1 true xs)=>if d' = pd.d ∧ r = pd.r ∧ k = pd.o ∧ e0 = e1 ∧ T.ct t = [.aj pd.e] ∧ (T.row t).d.known = true then
    (bif decide (i = pd.i) then K (((st.ah r true).aG r (.row e1 true (bY xs i k [.lst pd.zs]))).put d .no) else none) else none
  | _=>none)
 | _,_=>none
theorem uB (T : ax) (st : St) (t : TypeId) (a : SV) (x : Operand) (pd : fV) (d : Option Tmp) (K : St → Option R) : kI T st t a x pd d K = uA T st t a x pd d K:=by cases pd; rfl
theorem Ds (hT : aX P X.T) (h : Rel X own0 w0 st a w g) {o : Oper} {t : TypeId} {x y : Operand} {pd : fV} (ho : o.op = .store t x y) (hP : re X st.rt w g pd (a.tmps.getD pd.d undef)) {K : St → Option R} {r : R} (hq : kI X.T st t (ev st x) y pd o.dst K = some r) :
  ∃ ae,K ae = some r ∧ bg P X own0 w0 o a w ae:=by
 have hx:=ba h x
 rw [uB] at hq
 unfold uA at hq
 split at hq
 ·rename_i r0 e0 i k d bP
  rw [bP] at hx
  split at hq
  ·rename_i e1 xs hr
   split at hq
   ·rename_i hh
    obtain ⟨rfl,rfl,rfl,rfl,ai,ht⟩:=hh
    cases hi : decide (i = pd.i) with
    | false=>rw [hi] at hq; cases hq
    | true =>
     obtain rfl:=qZu hi
     rw [hi] at hq
     refine ⟨_,hq,?_⟩
     obtain ⟨e2,vg,b,q,n,c,cur,p1,p2,p3,p4,p5,p6,p7,p8⟩:=hP
     rw [hr] at p1
     obtain ⟨rfl,rfl⟩ : e0 = e2 ∧ xs = vg:=by cases p1; exact ⟨rfl,rfl⟩
     obtain ⟨e3,d3,zn,b3,q3,n3,c3,k1,k2,k3,k4,k5⟩:=hx
     obtain ⟨-,-,k6⟩:=k3.bX
     rw [p2] at k6
     obtain ⟨rfl,rfl⟩ : b3 = b ∧ q3 = q:=by cases k6; exact ⟨rfl,rfl⟩
     have Bn : a.eval (.tmp pd.d) = a.tmps.getD pd.d undef:=rfl
     generalize a.tmps.getD pd.d undef = v' at *
     have av:=aA hr
     have gw : ∀ b',b' ≠ b3 → (w.setRow b3 (stored cur (q3 + (pd.i * X.T.size e0 + pd.o)) [v'])).heap[b']? = w.heap[b']?:=fun b' au=>setRow_other w b3 b' _ au
     have hK : bN X (fun s=>s = pd.r ∨ False) (fun s=>s = pd.r ∧ true = true) w g (st.ah pd.r true).rt (w.setRow b3 (stored cur (q3 + (pd.i * X.T.size e0 + pd.o)) [v'])) g ((st.ah pd.r true).aG pd.r (.row e0 true (bY xs pd.i pd.o [.lst pd.zs]))).rt:=by
      refine ⟨fun b' au=>⟨⟨au.1,by rw [setRow_size]; exact au.2.1,au.2.2⟩,gw b' (by rintro rfl; have:=au.1; rw [p5] at this; cases this)⟩,fun b' s aM au=>⟨au,gw b' (by rintro rfl; rw [p5] at au; exact aM (.inl (qQc au).symm))⟩,fun _ _ _=>rfl,fun s e' d' ys aM aB=>?_,fun s t' cs' au=>⟨rfl,cs',?_⟩,fun s aM=>⟨rfl,fun e' d' ys aB=>?_⟩⟩
      ·rw [bu,if_neg (fun he=>aM (.inl he.symm))]; exact aB
      ·rw [bu,if_neg]
       ·exact au
       ·rintro rfl
        rw [cz,hr] at au; cases au
      ·obtain ⟨rfl,-⟩:=aM
       rw [cz,hr] at aB
       cases aB
       refine ⟨true,bY xs pd.i pd.o [.lst pd.zs],?_,qQl⟩
       rw [bu,if_pos rfl,if_pos (by show pd.r < (st.rt.map _).length; rw [qQk]; exact av)]
     have cU:=h.change (w':=w.setRow b3 (stored cur (q3 + (pd.i * X.T.size e0 + pd.o)) [v'])) (g':=g) pd.r true (Q:=fun _=>False) (St.eV st) (fun _ _ hh=>hh.elim) (.row e0 true (bY xs pd.i pd.o [.lst pd.zs])) hK p8
      (fun b' au=>by rw [setRow_size]; exact h.mem.lt b' au) h.mem.ob (by rw [setRow_size]; exact qQb _) h.mem.pm h.mem.pv ⟨h.fr.os,h.fr.tape,h.fr.output,by rw [setRow_size]; exact h.fr.size,fun b' au bk=>by
       obtain ⟨e1,e2⟩:=h.fr.block b' au bk
       exact ⟨e1,(gw b' (by rintro rfl; rw [p5] at e1; cases e1)).trans e2⟩⟩
     refine bg.skip (w':=w.setRow b3 (stored cur (q3 + (pd.i * X.T.size e0 + pd.o)) [v'])) ?_ (cU.put o.dst (sv:=.no) (v:=undef) trivial)
     have:=uN (P:=P) hT ht (v:=v') (b:=b3) (o:=q3 + (pd.i * X.T.size e0 + pd.o)) (by rw [p7]; show 1 = (X.T.ct t).length; rw [ai]; rfl) p3 (by rw [p7]; exact p4) (by rw [p7]; intro u hu; simp at hu; rw [hu]; exact p6)
     rw [p7] at this
     simp [execOp,ho,k5,Bn,this]
   ·cases hq
  ·cases hq
 ·cases hq
end
section
variable {P : Program} {X : Ctx} {own0 : Nat → Option Nat} {w0 : World} {st : St} {a : Act} {w w' : World} {g g' : Gh} {R : Type}
theorem Cl.hQ {r : Nat} {rt0 : List aa} (hg : rt0[r]? = some .gone) (x : Cl) : x.aV (fun s=>s = r) (fun _=>False) rt0:=by
 cases x <;> try trivial
 rintro ⟨e,d,xs,h⟩
 left
 rintro rfl
 rw [hg] at h; cases h
theorem SV.hQ {r : Nat} {rt0 : List aa} (hg : rt0[r]? = some .gone) (x : SV) : x.aV (fun s=>s = r) (fun _=>False) rt0:=by
 cases x with
 | c x=>exact Cl.hQ hg x
 | ag xs=>exact fun y _=>Cl.hQ hg y
 | po r' p e i o =>
  rintro ⟨e,d,xs,h⟩
  left
  rintro rfl
  rw [hg] at h; cases h
 | fn f az =>
  intro y _
  cases y with
  | c x=>exact Cl.hQ hg x
  | _=>trivial
 | bf vs=>exact fun y _ z _=>Cl.hQ hg z
 | _=>trivial
theorem aa.hQ {r : Nat} {rt0 : List aa} (hg : rt0[r]? = some .gone) (x : aa) : x.aV (fun s=>s = r) (fun _=>False) rt0:=by
 cases x with
 | box t cs=>exact fun y _=>Cl.hQ hg y
 | _=>trivial
theorem Rel.DK (h : Rel X own0 w0 st a w g) {r : Nat} (iy : st.rt[r]? = some .gone) (aO : X.np ≤ r) {rs : List aa} (xk : ∀ b s,s ≠ r → g.own b = some s → g'.own b = some s) (dC : ∀ b,g.own b = none → g'.own b = none)
  (BH : ∀ b,g.own b = some r → ∃ s,g'.own b = some s ∧ X.np ≤ s ∧ s < st.rt.length + rs.length) (hv : ∀ s,s < st.rt.length → g'.v s = g.v s) (hb : g'.b = g.b)
  (BR : ∀ k x,rs[k]? = some x → cm X w (st.rt ++ rs) g' (st.rt.length + k) x) : Rel X own0 w0 ⟨st.sl,st.rt ++ rs,st.np⟩ a w g':=by
 have hK : bN X (fun s=>s = r) (fun _=>False) w g st.rt w g' (st.rt ++ rs) :=
  ⟨fun b hk=>⟨⟨dC b hk.1,hk.2⟩,rfl⟩,fun b s hs ho=>⟨xk b s hs ho,rfl⟩,fun s hs _=>hv s hs,fun s e d xs _ hx=>by rw [qQu (aA hx)]; exact hx,
   fun s t cs hx=>⟨by rw [hb],cs,by rw [qQu (aA hx)]; exact hx⟩,fun _ hf=>hf.elim⟩
 have sD : ∀ b s,g'.own b = some s → (g.own b = some s ∧ s ≠ r) ∨ (g.own b = some r ∧ X.np ≤ s ∧ s < st.rt.length + rs.length):=by
  intro b s hs
  cases hc : g.own b with
  | none=>rw [dC b hc] at hs; cases hs
  | some s' =>
   by_cases he : s' = r
   ·subst he
    obtain ⟨s2,q1,q2,q3⟩:=BH b hc
    rw [q1] at hs; cases hs
    exact .inr ⟨rfl,q2,q3⟩
   ·have:=xk b s' he hc
    rw [this] at hs; cases hs
    exact .inl ⟨rfl,he⟩
 have hlen : (st.rt ++ rs).length = st.rt.length + rs.length:=qQ6
 refine ⟨⟨fun i x hx=>?_,fun b au=>?_,fun b s hs=>?_,h.mem.n0,h.mem.np,?_,fun b s hs=>?_,fun s hs=>?_⟩,h.sz,fun i sv hi=>ay.keep h.mem hK (SV.hQ iy sv) (h.sl i sv hi),h.df,⟨h.fr.os,h.fr.tape,h.fr.output,h.fr.size,fun b av ho=>?_⟩⟩
 ·have hx : (st.rt ++ rs)[i]? = some x:=hx
  by_cases hi : i < st.rt.length
  ·rw [qQu hi] at hx
   by_cases hir : i = r
   ·subst hir; rw [iy] at hx; cases hx; trivial
   ·exact cm.keep h.mem hK hx hir (aa.hQ iy x)
  ·rw [qQx (by omega)] at hx
   have:=BR (i - st.rt.length) x hx
   rwa [show st.rt.length + (i - st.rt.length) = i from by omega] at this
 ·cases hc : g'.own b with
  | none=>exact absurd hc au
  | some s =>
   rcases sD b s hc with ⟨q,_⟩ | ⟨q,_⟩
   ·exact h.mem.lt b (by rw [q]; simp)
   ·exact h.mem.lt b (by rw [q]; simp)
 ·show s < (st.rt ++ rs).length
  rw [hlen]
  rcases sD b s hs with ⟨q,_⟩ | ⟨_,_,q⟩
  ·have:=h.mem.ob b s q; omega
  ·exact q
 ·show X.np ≤ (st.rt ++ rs).length
  rw [hlen]; have:=h.mem.nl; omega
 ·rcases sD b s hs with ⟨q,_⟩ | ⟨q,_,_⟩
  ·exact h.mem.pm b s q
  ·rcases h.mem.pm b r q with hh | ⟨hh,_⟩
   ·exact .inl hh
   ·omega
 ·have:=h.mem.nl
  rw [hv s (by omega)]; exact h.mem.pv s hs
 ·obtain ⟨e1,e2⟩:=h.fr.block b av ho
  exact ⟨dC b e1,e2⟩
def bd (ab : List CT) (k : Nat) : Nat:=((ab.take k).filter CT.bU).length
theorem qS {ab : List CT} {k : Nat} {c : CT} (h : ab[k]? = some c) : bd ab (k + 1) = bd ab k + (if c.bU then 1 else 0):=by
 unfold bd
 rw [List.take_add_one,h]
 cases hc : c.bU <;> simp [List.filter_append,hc]
theorem yS {ab : List CT} {i j : Nat} (h : i ≤ j) : bd ab i ≤ bd ab j:=by
 unfold bd
 have : (ab.take i).Sublist (ab.take j):=by
  rw [show ab.take i = (ab.take j).take i from by rw [List.take_take,qX3 h]]
  exact List.take_sublist _ _
 exact (this.filter _).length_le
theorem Eb {ab : List CT} {i j : Nat} {e e' : TypeId} (hi : ab[i]? = some (.aj e)) (hj : ab[j]? = some (.aj e')) (h : bd ab i = bd ab j) : i = j:=by
 have a1:=qS hi
 have a2:=qS hj
 simp only [CT.bU,if_true] at a1 a2
 rcases Nat.lt_trichotomy i j with hl | hl | hl
 ·have:=yS (ab:=ab) (show i + 1 ≤ j from hl); omega
 ·exact hl
 ·have:=yS (ab:=ab) (show j + 1 ≤ i from hl); omega
theorem za {ab : List CT} {us : List U} {L : Nat} {V : Nat → Value} (rt' : List aa) (hV : ∀ j ct,ab[j]? = some ct → ct.bU = false → aF X w rt' g' (Cl.dS ct (us.getD j U0)) (V j)) (hs : ∀ j e,ab[j]? = some (.aj e) → rt'[L + bd ab j]? = some (.row e true (us.getD j U0).bB) ∧ g'.v (L + bd ab j) = V j) :
  ∀ (ts : List CT) (i : Nat),ts = ab.drop i → aw X w rt' g' (aI .own ts us i (L + bd ab i)).1 ((List.range ts.length).map fun k=>V (i + k)) ∧
   ∀ k x,(aI .own ts us i (L + bd ab i)).2[k]? = some x → ∃ j e,ab[j]? = some (.aj e) ∧ bd ab j = bd ab i + k ∧ x = .row e true (us.getD j U0).bB
 | [],i,_=>by simp [aI,aw]
 | t :: ts,i,ht=>by
  have hi : ab[i]? = some t:=by
   have : (ab.drop i)[0]? = some t:=by rw [← ht]; rfl
   rwa [qZb,qQ5] at this
  have jI : ts = ab.drop (i + 1):=by rw [← qXj,← ht]; rfl
  have ih:=za rt' hV hs ts (i + 1) jI
  have er : (List.range (t :: ts).length).map (fun k=>V (i + k)) = V i :: (List.range ts.length).map fun k=>V (i + 1 + k):=by
   rw [qZq,List.range_succ_eq_map,qQ0,qYx,qQ5]
   congr 1
   apply qYu
   intro k _
   show V (i + (k + 1)) = V (i + 1 + k)
   congr 1; omega
  rw [er]
  have cH:=qS hi
  cases t with
  | aj e =>
   simp only [CT.bU,if_true] at cH
   rw [cH,← qQ4] at ih
   obtain ⟨h1,h2⟩:=hs i e hi
   simp only [aI]
   refine ⟨⟨⟨e,true,_,h1,.inl rfl,?_⟩,ih.1⟩,fun k x hk=>?_⟩
   ·rw [h2]; exact .nil _ _ _
   ·cases k with
    | zero=>simp at hk; exact ⟨i,e,hi,rfl,by rw [← hk,qQe]⟩
    | succ k =>
     obtain ⟨j,e',q1,q2,q3⟩:=ih.2 k x (by simpa using hk)
     exact ⟨j,e',q1,by omega,q3⟩
  | int k=>simp only [CT.bU] at cH; rw [show bd ab (i + 1) = bd ab i from by simpa using cH] at ih; exact ⟨⟨hV i _ hi rfl,ih.1⟩,ih.2⟩
  | bool=>simp only [CT.bU] at cH; rw [show bd ab (i + 1) = bd ab i from by simpa using cH] at ih; exact ⟨⟨hV i _ hi rfl,ih.1⟩,ih.2⟩
  | str=>simp only [CT.bU] at cH; rw [show bd ab (i + 1) = bd ab i from by simpa using cH] at ih; exact ⟨⟨hV i _ hi rfl,ih.1⟩,ih.2⟩
theorem Dq (hT : aX P X.T) {t : TypeId} (ht : (X.T.row t).d.known = true) {cs : List Cl} {vs : List Value} {rt : List aa} (h : aw X w rt g cs vs) (hl : vs.length = X.T.size t) : ay X w rt g (pack (X.T.agg t) cs) (dm (X.T.agg t) vs):=by
 cases ha : X.T.agg t with
 | true=>exact ⟨vs.toArray,rfl,h⟩
 | false =>
  have h1:=my hT ht ha
  rw [h1] at hl
  match vs,hl,cs,h with
  | [v],_,[c],h=>exact ay.cj h.1
theorem Ep (hT : aX P X.T) (h : Rel X own0 w0 st a w g) {o : Oper} {t : TypeId} {x : Operand} (ho : o.op = .load t x) {K : St → Option R} {res : R} (hq : jV X.T st t (ev st x) o.dst K = some res) : ∃ ae,K ae = some res ∧ bg P X own0 w0 o a w ae:=by
 have hx:=ba h x
 unfold jV at hq
 split at hq <;> try (cases hq; done)
 rename_i r e bP
 rw [bP] at hx
 split at hq <;> try (cases hq; done)
 rename_i e0 xs aB
 split at hq <;> try (cases hq; done)
 rename_i hc
 obtain ⟨rfl,rfl,aO,hk⟩:=hc
 obtain ⟨e1,d1,ys,b,q,n,c,h1,h2,h3,h4,h5⟩:=hx
 rw [aB] at h1
 cases h1
 obtain ⟨-,-,hgv⟩:=h3.bX
 have h4 : 0 < xs.length:=h4
 have hr : ak X.T.ct w (fun b=>g.own b = some r) (.aj e0) (.lst xs) (g.v r):=h.mem.rt r _ aB
 refine ⟨_,hq,?_⟩
 have lF : X.np ≤ r:=by rw [← h.mem.np]; exact aO
 have BQ:=aA aB
 have hC:=h.wb r ⟨_,_,_,aB⟩
 have nd : ((st.ah r false).aG r .gone).rt.length = st.rt.length:=by show ((st.rt.map _).set r _).length = _; rw [qQl,qQk]
 have AJ : ((st.ah r false).aG r .gone).rt[r]? = some .gone:=by
  rw [bu,if_pos rfl,if_pos (by show r < (st.rt.map _).length; rw [qQk]; exact BQ)]
 obtain ⟨u0,nS⟩ : ∃ u0,xs[0]? = some u0:=⟨xs[0],qQg h4⟩
 have gj : xs.getD 0 [] = u0:=cr nS
 rw [gj]
 cases hr with
 | row _ _ _ _ cs V bp bo hg hV hs eL =>
 have xA : u0.length = X.T.size e0:=hs 0 u0 nS
 have db : ∀ j,j < X.T.size e0 → w.cell? ⟨b,q + j,none⟩ = some (V 0 j):=fun j hj=>by
  have h6:=hV 0 j u0 nS (by omega)
  rw [qXe,qQy] at h6
  rw [← hgv] at bo
  exact gW bo h6
 let vs : List Value:=(List.range (X.T.ct e0).length).map fun k=>V 0 (0 + k)
 have ee : vs.length = X.T.size e0:=by simp [vs]; rfl
 have BF : (execOp a.eval o).run P w = .ok (.value (dm (X.T.agg e0) vs)) w:=by
  have hl:=oA (P:=P) (w:=w) hT hk (b:=b) (o:=q) (cs:=vs) ee (fun j v hj=>by
   have eJ:=aA hj
   rw [ee] at eJ
   simp only [vs,qQj,qZy (show j < (X.T.ct e0).length from eJ),qQ7,qZo] at hj
   rw [db j eJ,← hj,qQy])
  have Cg : a.eval x = .pointer (some ⟨b,q,none⟩):=by rw [h5]; simp
  have bk:=ho
  obtain ⟨dst,op,type,pos,after,guard⟩:=o
  simp only at bk
  subst bk
  show (do pure (Next.value (← Instr.loadAt e0 (a.eval x))) : Sem Next).run P w = _
  rw [Cg]
  simp [hl]
 
 classical
 let L:=st.rt.length
 let uv : Nat → Option Nat:=fun b=>match g.own b with
  | some s=>if s = r then (match bp b with
   | some (0,k)=>(match (X.T.ct e0)[k]? with | some (.aj _)=>some (L + bd (X.T.ct e0) k) | _=>some r)
   | _=>some r) else some s
  | none=>none
 let g' : Gh:=⟨uv,fun s=>if hh : ∃ k e',(X.T.ct e0)[k]? = some (.aj e') ∧ s = L + bd (X.T.ct e0) k then V 0 (Classical.choose hh) else g.v s,g.b⟩
 have wX : ∀ k e',(X.T.ct e0)[k]? = some (.aj e') → g'.v (L + bd (X.T.ct e0) k) = V 0 k:=by
  intro k e' aK
  have hh : ∃ k2 e2,(X.T.ct e0)[k2]? = some (.aj e2) ∧ L + bd (X.T.ct e0) k = L + bd (X.T.ct e0) k2:=⟨k,e',aK,rfl⟩
  show (if hh : _ then V 0 (Classical.choose hh) else _) = _
  rw [dif_pos hh]
  obtain ⟨e2,q1,q2⟩:=Classical.choose_spec hh
  rw [Eb q1 aK (by omega)]
 have Bx : ∀ s,s < st.rt.length → g'.v s = g.v s:=by
  intro s aM
  show (if hh : _ then _ else _) = _
  rw [dif_neg]
  rintro ⟨k,e',_,hh⟩
  have : s = st.rt.length + bd (X.T.ct e0) k:=hh
  omega
 let z:=aI .own (X.T.ct e0) u0 0 st.rt.length
 have lP : L + bd (X.T.ct e0) 0 = st.rt.length:=by simp [bd,L]
 have tC : ∀ k e',(X.T.ct e0)[k]? = some (.aj e') → ak X.T.ct w (fun b=>uv b = some (L + bd (X.T.ct e0) k)) (.aj e') (.lst (u0.getD k U0).bB) (V 0 k):=by
  intro k e' aK
  have av : k < u0.length:=by rw [xA]; exact aA aK
  obtain ⟨u,hu⟩ : ∃ u,u0[k]? = some u:=⟨u0[k],qQg av⟩
  have h6:=eL 0 k u0 u (.aj e') nS hu aK
  have h7:=h6.qR
  rw [cr hu,← h7]
  refine h6.mono fun b hb=>?_
  show (match g.own b with | some s=>_ | none=>none) = _
  rw [hb.1]
  simp only [if_true,hb.2,aK]
 have fg:=za (X:=X) (w:=w) (g':=g') (ab:=X.T.ct e0) (us:=u0) (L:=L) (V:=V 0) (((st.ah r false).aG r .gone).rt ++ z.2)
 have gP : ∀ k x,z.2[k]? = some x → ∃ j e',(X.T.ct e0)[j]? = some (.aj e') ∧ bd (X.T.ct e0) j = k ∧ x = .row e' true (u0.getD j U0).bB:=by
  
  have key : ∀ (ts : List CT) (i : Nat),ts = (X.T.ct e0).drop i → ∀ k x,(aI .own ts u0 i (L + bd (X.T.ct e0) i)).2[k]? = some x → ∃ j e',(X.T.ct e0)[j]? = some (.aj e') ∧ bd (X.T.ct e0) j = bd (X.T.ct e0) i + k ∧ x = .row e' true (u0.getD j U0).bB:=by
   intro ts
   induction ts with
   | nil=>intro i _ k x aK; simp [aI] at aK
   | cons c0 ts ih =>
    intro i ht k x aK
    have hi : (X.T.ct e0)[i]? = some c0:=by
     have : ((X.T.ct e0).drop i)[0]? = some c0:=by rw [← ht]; rfl
     rwa [qZb,qQ5] at this
    have jI : ts = (X.T.ct e0).drop (i + 1):=by rw [← qXj,← ht]; rfl
    have cH:=qS hi
    cases c0 with
    | aj e' =>
     simp only [CT.bU,if_true] at cH
     simp only [aI] at aK
     cases k with
     | zero=>simp at aK; exact ⟨i,e',hi,rfl,by rw [← aK,qQe]⟩
     | succ k =>
      obtain ⟨j,e2,q1,q2,q3⟩:=ih (i + 1) jI k x (by rw [cH,← qQ4]; simpa using aK)
      exact ⟨j,e2,q1,by omega,q3⟩
    | int k0 =>
     have cH : bd (X.T.ct e0) (i + 1) = bd (X.T.ct e0) i:=by simpa [CT.bU] using cH
     have:=ih (i + 1) jI k x (by rw [cH]; simpa only [aI] using aK)
     rwa [cH] at this
    | bool =>
     have cH : bd (X.T.ct e0) (i + 1) = bd (X.T.ct e0) i:=by simpa [CT.bU] using cH
     have:=ih (i + 1) jI k x (by rw [cH]; simpa only [aI] using aK)
     rwa [cH] at this
    | str =>
     have cH : bd (X.T.ct e0) (i + 1) = bd (X.T.ct e0) i:=by simpa [CT.bU] using cH
     have:=ih (i + 1) jI k x (by rw [cH]; simpa only [aI] using aK)
     rwa [cH] at this
  intro k x aK
  have lB : (aI .own (X.T.ct e0) u0 0 (L + bd (X.T.ct e0) 0)).2[k]? = some x:=by rw [lP]; exact aK
  obtain ⟨j,e',q1,q2,q3⟩:=key (X.T.ct e0) 0 rfl k x lB
  exact ⟨j,e',q1,by simpa [bd] using q2,q3⟩
 have xt : ∀ j e',(X.T.ct e0)[j]? = some (.aj e') → z.2[bd (X.T.ct e0) j]? = some (.row e' true (u0.getD j U0).bB):=by
  have key : ∀ (ts : List CT) (i n j : Nat) e',ts[j]? = some (.aj e') → (aI .own ts u0 i n).2[bd ts j]? = some (.row e' true (u0.getD (i + j) U0).bB):=by
   intro ts
   induction ts with
   | nil=>intro i n j e' hj; simp at hj
   | cons c0 ts ih =>
    intro i n j e' hj
    cases j with
    | zero=>simp at hj; subst hj; simp [aI,bd]
    | succ j =>
     have hj : ts[j]? = some (.aj e'):=by simpa using hj
     cases c0 with
     | aj e2 =>
      have:=ih (i + 1) (n + 1) j e' hj
      rw [show i + 1 + j = i + (j + 1) from by omega] at this
      have es : bd (.aj e2 :: ts) (j + 1) = bd ts j + 1:=by simp [bd,CT.bU,qYk]
      rw [es]
      simp only [aI,qY1]
      exact this
     | _ =>
      have:=ih (i + 1) n j e' hj
      rw [show i + 1 + j = i + (j + 1) from by omega] at this
      simpa [aI,bd,CT.bU] using this
  intro j e' hj
  have:=key (X.T.ct e0) 0 st.rt.length j e' hj
  rwa [qQy] at this
 have AP : Rel X own0 w0 ⟨((st.ah r false).aG r .gone).sl,((st.ah r false).aG r .gone).rt ++ z.2,st.np⟩ a w g':=by
  refine hC.DK (g':=g') AJ lF (fun b s aM hb=>?_) (fun b hb=>?_) (fun b hb=>?_) (fun s aM=>Bx s (by rw [nd] at aM; exact aM)) rfl (fun k x aK=>?_)
  ·show (match g.own b with | some s=>_ | none=>none) = _
   rw [hb]
   simp only [if_neg aM]
  ·show (match g.own b with | some s=>_ | none=>none) = _
   rw [hb]
  ·show ∃ s,(match g.own b with | some s=>_ | none=>none) = some s ∧ _
   rw [hb,nd]
   simp only [if_true]
   split
   ·rename_i k hl
    split
    ·rename_i e' aK
     have h6:=aA (xt k e' aK)
     exact ⟨_,rfl,by show X.np ≤ st.rt.length + _; omega,by show st.rt.length + _ < _; omega⟩
    ·exact ⟨r,rfl,lF,by omega⟩
   ·exact ⟨r,rfl,lF,by omega⟩
  ·obtain ⟨j,e',q1,q2,rfl⟩:=gP k x aK
   rw [nd,← q2]
   show ak X.T.ct w (fun b=>uv b = some (L + bd (X.T.ct e0) j)) (.aj e') _ (g'.v (L + bd (X.T.ct e0) j))
   rw [wX j e' q1]
   exact tC j e' q1
 have aL:=(fg (fun j ct hj tk=>?_) (fun j e' hj=>⟨?_,wX j e' hj⟩) (X.T.ct e0) 0 rfl).1
 ·rw [lP] at aL
  exact bg.value BF (AP.put o.dst (Dq hT hk aL ee))
 ·have av : j < u0.length:=by rw [xA]; exact aA hj
  obtain ⟨u,hu⟩ : ∃ u,u0[j]? = some u:=⟨u0[j],qQg av⟩
  have h6:=eL 0 j u0 u ct nS hu hj
  rw [cr hu]
  cases ct with
  | int k=>rw [(h6.nY).2]; rfl
  | bool=>rw [(h6.pf).2]; rfl
  | str=>rw [(h6.qU).2]; rfl
  | aj e'=>cases tk
 ·rw [qQx (by rw [nd]; exact Nat.le_add_right _ _),nd,show L + bd (X.T.ct e0) j - st.rt.length = bd (X.T.ct e0) j from qX4 _ _]
  exact xt j e' hj
end
structure dr (P : Program) (T : ax) (E : Env) : Prop where
 tE : E.T = T
 cE : aX P T
 eq : kP P T E.bh
 fns : E.fns = mZ P
 calm : ∀ (g : FuncId) (fn : Func), P.funcs[g]? = some fn → (fn.name == "runtime.NumGoroutine") = false
 den : Sound P T E.sig E.den
 fy : ∀ g p,E.fy g = some p → oS P T g p
section
variable {P : Program} {X : Ctx} {own0 : Nat → Option Nat} {w0 : World} {st : St} {a : Act} {w w' : World} {g g' : Gh} {R : Type} {E : Env}
theorem ia (T : ax) (ρ : Operand → SV) (t : TypeId) (parts : List (Nat × Operand)) (K : SV → Option R) : dL T ρ t parts K = (dL T ρ t parts some).bind K:=by
 unfold dL
 repeat' split
 all_goals first | rfl | contradiction
theorem oZ (h : Rel X own0 w0 st a w g) : ∀ xs : List Operand,cY X w st.rt g (xs.map (ev st)) (xs.map a.eval)
 | []=>trivial
 | x :: xs=>⟨ba h x,oZ h xs⟩
theorem DW {bF : FuncId} {args : Array Value} {fn : Func} (eH : P.funcs[bF]? = some fn) (hn : (fn.name == "runtime.NumGoroutine") = false) (hb : fn.body.isNone = false) : (callFunc bF args).run P w = .ok (.enter bF args) w := by
 have au : fn.body.isSome = true:=by simpa using hb
 obtain ⟨c,hc⟩:=Option.isSome_iff_exists.1 au
 have ca : ¬ fn.name = "runtime.NumGoroutine" := by simpa using hn
 simp [callFunc,go_sem,eH,ca,hc]
theorem uM {o : Oper} {c : Call} {f : Operand} {bF : FuncId} {dy : Array Value} {fn : Func} (ho : o.op = .call c) (hc : c.callee = .value f) (hf : a.eval f = .func (.func bF) #[] dy) (eH : P.funcs[bF]? = some fn) (hn : (fn.name == "runtime.NumGoroutine") = false) (hb : fn.body.isNone = false) :
  (execOp a.eval o).run P w = .ok (.enter bF (c.args.map a.eval ++ dy)) w:=by
 obtain ⟨dst,op,type,pos,after,guard⟩:=o
 simp only at ho
 subst ho
 obtain ⟨ce,ar,ty⟩:=c
 simp only at hc
 subst hc
 have e : execOp a.eval ⟨dst,.call ⟨.value f,ar,ty⟩,type,pos,after,guard⟩ = callFunc bF (#[] ++ ar.map a.eval ++ dy):=by
  show (do let d ← Deferred.ofValue (a.eval f) (ar.map a.eval); invoke d.target d.args) = _
  rw [hf]; rfl
 rw [e,DW eH hn hb,Array.empty_append]
theorem vK (hE : dr P X.T E) (h : Rel X own0 w0 st a w g) {o : Oper} {c : Call} {f : Operand} {bF : FuncId} {az : List aH} (ho : o.op = .call c) (hc : c.callee = .value f) (bP : ev st f = .fn bF az) {K : St → Option R} {r : R}
  (hq : cA E st bF (c.args.toList.map (ev st)) az o.dst K = some r) : ∃ ae,K ae = some r ∧ bg P X own0 w0 o a w ae:=by
 have h1:=ba h f
 rw [bP] at h1
 obtain ⟨dy,h2,h3⟩:=h1
 obtain ⟨ae,h4,fn,h5,h6,h7⟩:=zS hE.tE hE.fns hE.den h (oZ h c.args.toList) h3 hq
 refine ⟨ae,h4,fun next Q hn=>?_⟩
 unfold Oper.wp
 rw [uM ho hc h2 h5 (hE.calm _ _ h5) h6,Oper.upon_enter]
 have e : (List.map a.eval c.args.toList ++ dy.toList).toArray = c.args.map a.eval ++ dy:=by
  apply qZ2.1
  simp
 rw [e] at h7
 refine h7.mono fun e w'=>?_
 rintro ⟨v,rfl,g',h8⟩
 exact hn _ _ _ h8
theorem Dw (hE : dr P X.T E) (h : Rel X own0 w0 st a w g) {o : Oper} {c : Call} {f : Operand} {bF : FuncId} {az : List aH} (ho : o.op = .call c) (hc : c.callee = .value f) (bP : ev st f = .fn bF az) {p : Prim} (hp : E.fy bF = some p) {K : St → Option R} {r : R}
  (hq : (if az.isEmpty then iS X.T st p (c.args.toList.map (ev st)) o.dst K else none) = some r) : ∃ ae,K ae = some r ∧ bg P X own0 w0 o a w ae:=by
 have h1:=ba h f
 rw [bP] at h1
 obtain ⟨dy,h2,h3⟩:=h1
 split at hq
 ·rename_i nk
  have nk : az = []:=by simpa using nk
  subst nk
  have Bi : dy.toList = []:=by
   cases hz : dy.toList with
   | nil=>rfl
   | cons v vs=>rw [hz] at h3; exact h3.elim
  have bn:=hE.fy _ _ hp
  obtain ⟨ae,h4,h7⟩:=Dv (a:=a) h bn (oZ h c.args.toList) hq
  obtain ⟨⟨fn,h5,h6⟩,-⟩:=bn
  refine ⟨ae,h4,fun next Q hn=>?_⟩
  unfold Oper.wp
  rw [uM ho hc h2 h5 (hE.calm _ _ h5) h6,Oper.upon_enter]
  have e : (List.map a.eval c.args.toList).toArray = c.args.map a.eval ++ dy:=by
   apply qZ2.1
   simp [Bi]
  rw [e] at h7
  refine h7.mono fun e w'=>?_
  rintro ⟨v,rfl,g',h8⟩
  exact hn _ _ _ h8
 ·cases hq
theorem qH (hE : dr P X.T E) (h : Rel X own0 w0 st a w g) {o : Oper} {K : St → Option R} {r : R} (hq : (qK E.T E.bh st.rt (ev st) o.op fun v=>K (st.put o.dst v)) = some r) : ∃ ae,K ae = some r ∧ bg P X own0 w0 o a w ae:=by
 rw [kK,hE.tE] at hq
 obtain ⟨sv,h1,h2⟩:=qZi.1 hq
 obtain ⟨v,h3,h4⟩:=qG hE.cE hE.eq h o h1
 exact ⟨_,h2,bg.value h3 (h.put o.dst h4)⟩
theorem Di (hE : dr P X.T E) (h : Rel X own0 w0 st a w g) {o : Oper} {K : St → Option R} {r : R} (hq : lY E o st K = some r) : ∃ ae,K ae = some r ∧ bg P X own0 w0 o a w ae:=by
 have hT:=hE.tE
 unfold lY at hq
 split at hq
 ·rename_i t ho; rw [hT] at hq; exact vp hE.cE h ho hq
 ·rename_i t x ho; rw [hT] at hq; exact zL hE.cE h ho hq
 ·rename_i t x ho
  split at hq
  ·rw [hT] at hq; exact Ep hE.cE h ho hq
  ·exact qH hE h hq
 ·rename_i t parts ho
  rw [hT,ia] at hq
  obtain ⟨sv,h1,h2⟩:=qZi.1 hq
  obtain ⟨v,h3,h4⟩:=rG hE.cE h h1
  exact ⟨_,h2,bg.value (v:=v) (w':=w) (by simp [execOp,ho,h3]) (h.put o.dst h4)⟩
 ·rename_i t len parts ho; rw [hT] at hq; exact rH hE.cE h ho hq
 ·rename_i t l c ho; rw [hT] at hq; exact CH hE.cE h ho hq
 ·rename_i t x y ho; rw [hT] at hq; exact yW hE.cE h ho hq
 ·rename_i c ho
  split at hq
  ·rename_i f args ts hc
   split at hq
   ·rename_i bF az bP
    split at hq
    ·rename_i p hp
     rw [hT] at hq
     exact Dw hE h ho hc bP hp hq
    ·exact vK hE h ho hc bP hq
   ·cases hq
  ·rename_i s x t t2 hc cu gR
   rw [hT] at hq
   refine vA hE.cE h (s:=s) (x:=x) (t:=t) (t2:=t2) ?_ hq
   rw [ho]
   obtain ⟨ce,ar,ty⟩:=c
   have e1 : ar = #[s,x]:=qZ2.1 cu
   have e2 : ty = #[t,t2]:=qZ2.1 gR
   subst e1 e2
   simp only at hc
   rw [hc]
  ·exact qH hE h hq
 ·rename_i x ho
  split at hq
  ·rename_i e hx he
   have hv:=ba h x
   rw [hx] at hv
   refine ⟨_,hq,bg.value (v:=a.eval x) (w':=w) (by simp [execOp,ho]) ((h.oU e).put o.dst ?_)⟩
   rw [show a.eval x = .slice none 0 0 from hv]
   exact rn
  ·exact ⟨_,hq,bg.value (v:=a.eval x) (w':=w) (by simp [execOp,ho]) (h.put o.dst (ba h x))⟩
 ·rename_i t x lo hi ho
  split at hq
  ·rw [hT] at hq
   exact Ae hE.cE h ho hq
  ·exact qH hE h hq
 ·exact qH hE h hq
theorem Rel.forget (h : Rel X own0 w0 st a w g) (d : Option Tmp) : Rel X own0 w0 (st.put d .no) a w g:=by
 cases d with
 | none=>exact h
 | some d =>
  refine ⟨⟨h.mem.rt,h.mem.lt,h.mem.ob,h.mem.n0,h.mem.np,h.mem.nl,h.mem.pm,h.mem.pv⟩,by show (st.sl.set d _).length ≤ _; rw [qQl]; exact h.sz,fun i x hx=>?_,h.df,h.fr⟩
  have hx : (st.sl.set d SV.no)[i]? = some x:=hx
  rw [qQ9] at hx
  split at hx
  ·split at hx
   ·obtain rfl:=qQc hx; trivial
   ·cases hx
  ·exact h.sl i x hx
theorem Rel.iM : ∀ (os : List Oper) {st : St},Rel X own0 w0 st a w g → Rel X own0 w0 (iM st os) a w g
 | [],st,h=>h
 | o :: os,st,h=>by
  unfold Eng.iM
  refine Rel.iM os ?_
  split
  ·exact h.forget o.dst
  ·exact h
theorem Rel.lit (h : Rel X own0 w0 st a w g) {t : Tmp} {sv : SV} (hs : ay X w st.rt g sv (a.tmps.getD t undef)) : Rel X own0 w0 { st with sl:=st.sl.set t sv } a w g:=by
 refine ⟨⟨h.mem.rt,h.mem.lt,h.mem.ob,h.mem.n0,h.mem.np,h.mem.nl,h.mem.pm,h.mem.pv⟩,by show (st.sl.set t _).length ≤ _; rw [qQl]; exact h.sz,fun i x hx=>?_,h.df,h.fr⟩
 have dD : (st.sl.set t sv)[i]? = some x:=hx
 clear hx
 rw [qQ9] at dD
 split at dD
 ·rename_i hi; subst hi
  split at dD
  ·obtain rfl:=qQc dD; exact hs
  ·cases dD
 ·exact h.sl i x dD
theorem zk (h : Rel X own0 w0 st a w g) {ops : Array Oper} {o : Oper} {yes no : St → Option R} {r : R} (hq : jd ops.toList o st yes no = some r) :
  ∃ ae,Rel X own0 w0 ae a w g ∧ ae.rt = st.rt ∧ ((Region.wanted o (yielded ops a.tmps) = true ∧ yes ae = some r) ∨ (Region.wanted o (yielded ops a.tmps) = false ∧ no ae = some r)):=by
 unfold jd at hq
 split at hq
 ·rename_i hg
  exact ⟨st,h,rfl,.inl ⟨by unfold Region.wanted; rw [hg],hq⟩⟩
 ·rename_i j want hg
  split at hq
  ·cases hq
  ·rename_i t ht
   have tP : (ops[j]?).bind (·.dst) = some t:=by rw [← qYc]; exact ht
   have bI : ay X w st.rt g (st.sl.getD t .no) (a.tmps.getD t undef):=ba h (.tmp t)
   have hw : Region.wanted o (yielded ops a.tmps) = (yielded ops a.tmps j == some want):=by unfold Region.wanted; rw [hg]
   have hy : yielded ops a.tmps j = match a.tmps[t]? with | some (.bool b)=>some b | _=>none:=by
    unfold yielded; rw [tP]; rfl
   have av : st.sl.getD t .no ≠ .no → t < a.tmps.size:=fun hn=>by
    refine qQ2 ?_ h.sz
    rcases Nat.lt_or_ge t st.sl.length with hl | hl
    ·exact hl
    ·exact absurd (by rw [qQe,qZh hl]; rfl) hn
   have bD : ∀ {v},t < a.tmps.size → a.tmps.getD t undef = v → a.tmps[t]? = some v:=fun hl hv=>by
    rw [qY6 hl,← hv]
    simp [Array.getD,hl]
   split at hq
   ·rename_i b hb
    rw [hb] at bI
    have hv : a.tmps.getD t undef = .bool b:=bI
    have dP:=bD (av (by rw [hb]; simp)) hv
    rw [dP] at hy
    have hy : yielded ops a.tmps j = some b:=hy
    have hl:=h.lit (t:=t) (sv:=.c (.bool b)) (by rw [hv]; rfl)
    rw [hw,hy]
    cases b <;> cases want <;> simp only [qQh,qQ3,if_true,qZv,qZe] at hq
    ·exact ⟨_,hl,rfl,.inl ⟨rfl,hq⟩⟩
    ·exact ⟨_,hl,rfl,.inr ⟨rfl,hq⟩⟩
    ·exact ⟨_,hl,rfl,.inr ⟨rfl,hq⟩⟩
    ·exact ⟨_,hl,rfl,.inl ⟨rfl,hq⟩⟩
   ·rename_i hb
    rw [hb] at bI
    have hv : a.tmps.getD t undef = undef:=bI
    have dP:=bD (av (by rw [hb]; simp)) hv
    rw [dP] at hy
    have hy : yielded ops a.tmps j = none:=hy
    exact ⟨st,h,rfl,.inr ⟨by rw [hw,hy]; rfl,hq⟩⟩
   ·cases hq
theorem kL (hE : dr P X.T E) {ops : Array Oper} {Q : Exit → Act → World → Prop} {K : St → Option R} {r : R} (hK : ∀ ae a' w' g',Rel X own0 w0 ae a' w' g' → K ae = some r → Q .normal a' w') :
  ∀ (os : List Oper) {pd : Option fV} {st : St} {a : Act} {w : World} {g : Gh},Rel X own0 w0 st a w g → (∀ p,pd = some p → re X st.rt w g p (a.tmps.getD p.d undef)) → dU E ops.toList os pd st K = some r → wpList P ops Q os a w
 | [],none,st,a,w,g,h,_,hq=>hK st a w g h hq
 | [],some _,st,a,w,g,h,_,hq=>by cases hq
 | o :: os,none,st,a,w,g,h,_,hq=>by
  unfold dU at hq
  split at hq
  ·rename_i pd n xo
   rw [hE.tE] at xo hq
   cases aP : room n (X.T.row pd.e).bytes with
   | false=>rw [aP] at hq; cases hq
   | true =>
    rw [aP] at hq
    obtain ⟨hg,v,w',g',k1,k2,k3,k4⟩:=Dt hE.cE h xo aP
    have hq : cM ((st.ah pd.r true).put o.dst .no) (fun ae=>dU E ops.toList os (some pd) ae K) = some r:=hq
    rw [bT] at hq
    unfold wpList
    rw [if_pos (by unfold Region.wanted; rw [hg])]
    refine .inl ?_
    unfold Oper.wp
    rw [k1]
    exact kL hE hK os k2 (fun p hp=>by cases hp; exact k3) hq
  ·obtain ⟨aD,h1,_,h2⟩:=zk h hq
   unfold wpList
   rcases h2 with ⟨h2,h3⟩ | ⟨h2,h3⟩
   ·rw [if_pos h2]
    obtain ⟨Eg,h4,h5⟩:=Di hE h1 h3
    rw [bT] at h4
    refine .inl (h5 _ _ fun v w' g' h6=>?_)
    split at h4
    ·exact kL hE hK os (h6.iM ops.toList) (fun p hp=>by cases hp) h4
    ·exact kL hE hK os h6 (fun p hp=>by cases hp) h4
   ·rw [if_neg (by rw [h2]; simp)]
    rw [bT] at h3
    exact kL hE hK os (h1.put o.dst (sv:=.ud) rfl) (fun p hp=>by cases hp) h3
 | o :: os,some pd,st,a,w,g,h,hP,hq=>by
  have hP:=hP pd rfl
  unfold dU at hq
  split at hq
  ·rename_i t x y hg ho
   rw [hE.tE] at hq
   obtain ⟨Eg,h4,h5⟩:=Ds hE.cE h ho hP hq
   rw [bT] at h4
   unfold wpList
   rw [if_pos (by unfold Region.wanted; rw [hg])]
   exact .inl (h5 _ _ fun v w' g' h6=>kL hE hK os h6 (fun p hp=>by cases hp) h4)
  ·rename_i hg _
   split at hq
   ·cases hq
   ·rename_i hd
    rw [kK,hE.tE] at hq
    obtain ⟨sv,h1,h2⟩:=qZi.1 hq
    obtain ⟨v,h3,h4⟩:=qG hE.cE hE.eq h o h1
    rw [bT] at h2
    unfold wpList
    rw [if_pos (by unfold Region.wanted; rw [hg])]
    refine .inl ?_
    unfold Oper.wp
    rw [h3]
    refine kL hE hK os (h.put o.dst h4) (fun p hp=>?_) h2
    cases hp
    rw [yv]
    have e : (a.put o.dst v).tmps.getD pd.d undef = a.tmps.getD pd.d undef:=by
     cases fo : o.dst with
     | none=>rfl
     | some d =>
      have aW : d ≠ pd.d:=by rintro rfl; exact hd fo
      show (a.tmps.setIfInBounds d v).getD pd.d undef = _
      rw [qZr,qY5 aW,← qZr]
    rw [e]; exact hP
  ·cases hq
theorem DV (hE : dr P X.T E) {ops : Array Oper} {Q : Exit → Act → World → Prop} {K : St → Option R} {r : R} (hK : ∀ ae a' w' g',Rel X own0 w0 ae a' w' g' → K ae = some r → Q .normal a' w') (os : List Oper) {st : St} {a : Act} {w : World} {g : Gh} (h : Rel X own0 w0 st a w g) (hq : qP E ops.toList os st K = some r) : wpList P ops Q os a w :=
 kL hE hK os h (fun p hp=>by cases hp) hq
end
def gf (b : Bool) (rt : List aa) : Cl → Cl
 | .al r p e=>(match rt[r]? with | some (.row _ d xs)=>if d || b then .rd e (bc xs p) else .no | _=>.no)
 | .rd e xs=>if b then .rd e xs else .no
 | x=>x
theorem sm {b : Bool} {rt : List aa} {t : CT} {u : U} (h : t.bU = false) : gf b rt (Cl.dS t u) = Cl.dS t u:=by
 cases t <;> first | rfl | cases h
theorem jQ {b : Bool} {md : RM} (hb : b = true ∨ md = .own) (rt : List aa) (m : Nat) : ∀ (ts : List CT) (us : List U) (i n : Nat),(∀ (k : Nat) x,(aI md ts us i n).2[k]? = some x → rt[n + k]? = some x) →
  aI .ro ts us i m = ((aI md ts us i n).1.map (gf b rt),[])
 | [],us,i,n,h=>by simp [aI]
 | .aj e :: ts,us,i,n,h=>by
  cases md with
  | ro =>
   have au : b = true:=hb.resolve_right (by decide)
   subst au
   have h1:=jQ hb rt m ts us (i + 1) n h
   simp only [aI] at h1 ⊢
   rw [h1]; rfl
  | own =>
   have h1:=jQ hb rt m ts us (i + 1) (n + 1) (fun k x hk=>by
    have:=h (k + 1) x (by simpa [aI] using hk)
    rwa [show n + (k + 1) = n + 1 + k from by omega] at this)
   have h0:=h 0 (.row e true (us.getD i U0).bB) (by simp [aI])
   have h2 : gf b rt (.al n [] e) = .rd e (us.getD i U0).bB:=by
    rw [qQ5] at h0
    simp only [gf,h0]; rfl
   simp only [aI] at h1 ⊢
   rw [h1,qQ0,h2]
  | qQ =>
   have au : b = true:=hb.resolve_right (by decide)
   have h1:=jQ hb rt m ts us (i + 1) (n + 1) (fun k x hk=>by
    have:=h (k + 1) x (by simpa [aI] using hk)
    rwa [show n + (k + 1) = n + 1 + k from by omega] at this)
   have h0:=h 0 (.row e false (us.getD i U0).bB) (by simp [aI])
   have h2 : gf b rt (.al n [] e) = .rd e (us.getD i U0).bB:=by
    rw [qQ5] at h0
    simp only [gf,h0,au]; rfl
   simp only [aI] at h1 ⊢
   rw [h1,qQ0,h2]
  | ptr e' =>
   have au : b = true:=hb.resolve_right (fun hh=>by cases hh)
   have h1:=jQ hb rt m ts us (i + 1) (n + 1) (fun k x hk=>by
    have:=h (k + 1) x (by simpa [aI] using hk)
    rwa [show n + (k + 1) = n + 1 + k from by omega] at this)
   have h0:=h 0 (.row e false (us.getD i U0).bB) (by simp [aI])
   have h2 : gf b rt (.al n [] e) = .rd e (us.getD i U0).bB:=by
    rw [qQ5] at h0
    simp only [gf,h0,au]; rfl
   simp only [aI] at h1 ⊢
   rw [h1,qQ0,h2]
 | .int k :: ts,us,i,n,h=>by
  have h1:=jQ hb rt m ts us (i + 1) n h
  simp only [aI] at h1 ⊢
  rw [h1,qQ0,sm (t:=.int k) rfl]
 | .bool :: ts,us,i,n,h=>by
  have h1:=jQ hb rt m ts us (i + 1) n h
  simp only [aI] at h1 ⊢
  rw [h1,qQ0,sm (t:=.bool) rfl]
 | .str :: ts,us,i,n,h=>by
  have h1:=jQ hb rt m ts us (i + 1) n h
  simp only [aI] at h1 ⊢
  rw [h1,qQ0,sm (t:=.str) rfl]
theorem yA {T : ax} {b : Bool} (rt : List aa) (m : Nat) : ∀ (ts : List TypeId) (aS : List RM) (us : List (List U)) (i n : Nat),(∀ x ∈ aS,ef [x] = false) → (b = true ∨ ∀ x ∈ aS,x = .own) → (∀ (k : Nat) x,(results1 T aS ts us i n).2[k]? = some x → rt[n + k]? = some x) →
  results1 T (ts.map fun _=>RM.ro) ts us i m = ((results1 T aS ts us i n).1.map (fun x=>(x.1,x.2.map (gf b rt))),[])
 | [],aS,us,i,n,hp,hb,h=>by unfold results1; rfl
 | t :: ts,aS,us,i,n,hp,hb,h=>by
  have hr : ∀ us n,ej T (aS.headD .own) t us n = aI (aS.headD .own) (T.ct t) us 0 n:=fun us n=>by
   cases aS with
   | nil=>rfl
   | cons md ms =>
    have:=hp md (by simp)
    show ej T md t us n = aI md (T.ct t) us 0 n
    cases md <;> first | rfl | cases this
  have BN : ∀ x ∈ aS.tail,ef [x] = false:=fun x hx=>hp x (qXl hx)
  have h1:=jQ (b:=b) (md:=aS.headD .own) (hb.imp id fun h=>by cases aS with | nil=>rfl | cons m ms=>exact h m (by simp)) rt m (T.ct t) (us.getD i []) 0 n (fun k x hk=>h k x (by
   unfold results1
   simp only [hr]
   rw [qQu (aA hk)]; exact hk))
  have h2:=yA (T:=T) (b:=b) rt m ts aS.tail us (i + 1) (n + (aI (aS.headD .own) (T.ct t) (us.getD i []) 0 n).2.length) BN (hb.imp id fun h m hm=>h m (qXl hm)) (fun k x hk=>by
   have:=h ((aI (aS.headD .own) (T.ct t) (us.getD i []) 0 n).2.length + k) x (by
    unfold results1
    simp only [hr]
    rw [qQx (by omega),qX4]; exact hk)
   rwa [← qQ4] at this)
  unfold results1
  simp only [qQ0,List.headD_cons,List.tail_cons,hr]
  rw [show ej T .ro t (us.getD i []) m = aI .ro (T.ct t) (us.getD i []) 0 m from rfl,h1,show m + ([] : List aa).length = m from rfl,h2]
  rfl
section
variable {P : Program} {X X' : Ctx} {own0 : Nat → Option Nat} {w0 : World} {st : St} {a : Act} {w w' : World} {g g' : Gh} {R : Type} {E : Env}
theorem Rel.grow (h : Rel X own0 w0 st a w g) (h1 : w'.os = w.os) (h2 : w'.tape = w.tape) (h3 : w'.output = w.output) (hs : w.heap.size ≤ w'.heap.size) (hb : ∀ b,b < w.heap.size → w'.heap[b]? = w.heap[b]?) : Rel X own0 w0 st a w' g:=by
 have bo : ∀ {b r},g.own b = some r → b < w.heap.size:=fun hb=>h.mem.lt _ (by rw [hb]; simp)
 have hK : bN X (fun _=>False) (fun _=>False) w g st.rt w' g st.rt :=
  ⟨fun b hk=>⟨⟨hk.1,qQ2 hk.2.1 hs,hk.2.2⟩,hb b hk.2.1⟩,fun b r _ ho=>⟨ho,hb b (bo ho)⟩,fun _ _ _=>rfl,fun r e d xs _ hx=>hx,fun r t cs hx=>⟨rfl,cs,hx⟩,fun _ hf=>hf.elim⟩
 refine ⟨⟨fun r x hx=>cm.keep h.mem hK hx (fun hf=>hf) (aa.eD x),fun b hn=>qQ2 (h.mem.lt b hn) hs,h.mem.ob,h.mem.om hs,h.mem.np,h.mem.nl,h.mem.pm,h.mem.pv⟩,h.sz,fun i sv hi=>ay.keep h.mem hK (SV.eD sv) (h.sl i sv hi),h.df,
  ⟨h1.trans h.fr.os,h2.trans h.fr.tape,h3.trans h.fr.output,qZd h.fr.size hs,fun b av ho=>?_⟩⟩
 obtain ⟨e1,e2⟩:=h.fr.block b av ho
 exact ⟨e1,(hb b (qQ2 av h.fr.size)).trans e2⟩
theorem zO (hE : dr P X.T E) (h : Rel X own0 w0 st a w g) {o : Oper} {c : Call} {f : Operand} {bF : FuncId} {az : List aH} (ho : o.op = .call c) (hc : c.callee = .value f) (bP : ev st f = .fn bF az) {sv : SV}
  (hq : dX E st bF (c.args.toList.map (ev st)) az some = some sv) : bg P X own0 w0 o a w (st.put o.dst sv):=by
 have wU:=ba h f
 rw [bP] at wU
 obtain ⟨dy,Bo,ny⟩:=wU
 unfold dX at hq
 rw [hE.tE] at hq
 split at hq <;> try (cases hq; done)
 rename_i eO af hf
 split at hq <;> try (cases hq; done)
 rename_i hk
 split at hq <;> try (cases hq; done)
 rename_i aN kr tt
 split at hq <;> try (cases hq; done)
 rename_i fm
 rw [bZ fE] at hq
 obtain ⟨ret,nt,hq⟩:=qZi.1 hq
 obtain rfl:=qQc hq
 obtain ⟨fn,eH,sF,hS⟩:=hE.den bF aN _ ret nt
 have tI : af = fn.resultTypes.toList:=by
  rw [hE.fns] at hf
  simp only [mZ,eH,qQ7,qZo,qXg] at hf
  exact hf.2.symm
 subst tI
 obtain ⟨lv,hl,bI⟩:=mg h.mem tt ((oZ h c.args.toList).append ny.aN)
 obtain rfl : lv = []:=by cases lv with | nil=>rfl | cons _ _=>exact hl.elim
 let S' : Nat → Prop:=fun b=>b < w.heap.size ∧ (aq X w g b ∨ ∃ s ∈ kr,g.own b = some s)
 have gn : Mem ⟨X.T,S',fun b=>w.heap.size ≤ b,0,fun _=>undef,fun _=>none⟩ ⟨aN,[],0⟩ w ⟨fun _=>none,fun _=>undef,fun _=>0⟩ :=
  ⟨fun r x hx=>by simp at hx,fun b hb=>absurd rfl hb,fun b r hb=>(by cases hb),fun b hb=>hb,rfl,qQt _,fun b r hb=>(by cases hb),fun r hr=>absurd hr (Nat.not_lt_zero _)⟩
 have tA : Reads X w g kr ⟨X.T,S',fun b=>w.heap.size ≤ b,0,fun _=>undef,fun _=>none⟩ ⟨fun _=>none,fun _=>undef,fun _=>0⟩ :=
  ⟨rfl,fun b hb=>⟨rfl,hb.2.1,.inl ⟨hb.2.1,.inl hb⟩⟩,fun b s hs hb=>⟨rfl,h.mem.lt b (by rw [hb]; simp),.inl ⟨h.mem.lt b (by rw [hb]; simp),.inr ⟨s,hs,hb⟩⟩⟩⟩
 have tM : fC [] [] 0 ([] : List aa) (⟨fun _=>none,fun _=>undef,fun _=>0⟩ : Gh):=⟨fun k l hk=>by simp at hk,fun k v hk=>by simp at hk⟩
 have pL:=hS (.inr fun t ht=>by simpa using qQp.1 hk.2 t ht) ⟨X.T,S',fun b=>w.heap.size ≤ b,0,fun _=>undef,fun _=>none⟩ w ⟨fun _=>none,fun _=>undef,fun _=>0⟩ (List.map a.eval c.args.toList ++ dy.toList).toArray rfl gn (bI _ _ _ tA tM)
 intro next Q hn
 unfold Oper.wp
 rw [uM ho hc Bo eH (hE.calm _ _ eH) sF,Oper.upon_enter]
 have e : (List.map a.eval c.args.toList ++ dy.toList).toArray = c.args.map a.eval ++ dy:=by
  apply qZ2.1
  simp
 rw [e] at pL
 refine pL.mono fun e w'=>?_
 rintro ⟨v,rfl,g',cT,eI,hv⟩
 have hG : Rel X own0 w0 st a w' g:=h.grow eI.os eI.tape eI.output eI.size (fun b hb=>(eI.block b hb rfl).2)
 refine hn _ _ g (hG.put o.dst ?_)
 
 let bb:=(E.sig bF).rs.any fun m=>!decide (m = .own)
 have sE : bb = true ∨ ∀ m ∈ (E.sig bF).rs,m = .own:=by
  cases hb : bb with
  | true=>exact .inl rfl
  | false=>exact .inr fun m hm=>by have:=qX0.1 hb m hm; simpa using this
 have nD : bb = true → kr = []:=fun hb=>by
  have fm : ¬ ((bb && !kr.isEmpty) = true):=fun hh=>fm (by rw [qZw]; exact .inr hh)
  rw [hb] at fm
  simpa using fm
 have aO : ∀ x ∈ (E.sig bF).rs,ef [x] = false:=fun x hx=>by
  cases hc : ef [x] with
  | false=>rfl
  | true=>exact absurd (by rw [qZw]; exact .inl (qXh.2 ⟨x,hx,hc⟩)) fm
 have tD : ∀ z,iW (E.sig bF).rs z = dx z:=fun z=>if_neg fun hh=>by
  unfold ef at hh
  split at hh
  ·rename_i e he
   have:=aO (.ptr e) (by rw [he]; simp)
   cases this
  ·cases hh
 have cT : Mem ⟨X.T,S',fun b=>w.heap.size ≤ b,0,fun _=>undef,fun _=>none⟩ ⟨[],(results1 X.T (E.sig bF).rs fn.resultTypes.toList ret.res 0 0).2,0⟩ w' g':=cT
 have hv : ay ⟨X.T,S',fun b=>w.heap.size ≤ b,0,fun _=>undef,fun _=>none⟩ w' (results1 X.T (E.sig bF).rs fn.resultTypes.toList ret.res 0 0).2 g' (dx (results1 X.T (E.sig bF).rs fn.resultTypes.toList ret.res 0 0).1) v:=tD _ ▸ hv
 have jG:=yA (T:=X.T) (b:=bb) (results1 X.T (E.sig bF).rs fn.resultTypes.toList ret.res 0 0).2 0 fn.resultTypes.toList (E.sig bF).rs ret.res 0 0 aO sE (fun k x hk=>by rw [qQy]; exact hk)
 rw [jG]
 show ay X w' st.rt g (dx ((results1 X.T (E.sig bF).rs fn.resultTypes.toList ret.res 0 0).1.map _)) v
 rw [yz (by rfl)]
 have lr : ∀ b,w.heap.size ≤ b → b < w'.heap.size → aq X w' g b:=fun b hb av=>by
  refine ⟨?_,av,.inr (h.mem.n0 b hb)⟩
  cases hc : g.own b with
  | none=>rfl
  | some s=>have:=h.mem.lt b (by rw [hc]; simp); omega
 have bo : ∀ b r,g'.own b = some r → aq X w' g b:=fun b r hb=>by
  rcases cT.pm b r hb with hh | ⟨hh,_⟩
  ·exact lr b hh (cT.lt b (by rw [hb]; simp))
  ·exact absurd hh (Nat.not_lt_zero _)
 have fJ : bb = true → ∀ b,aq ⟨X.T,S',fun b=>w.heap.size ≤ b,0,fun _=>undef,fun _=>none⟩ w' g' b → aq X w' g b:=fun hb b hk=>by
  rcases hk.2.2 with hs | hs
  ·obtain ⟨av,hs | ⟨s,hs,_⟩⟩:=hs
   ·exact ⟨hs.1,hk.2.1,hs.2.2⟩
   ·rw [nD hb] at hs; simp at hs
  ·exact lr b hs hk.2.1
 refine ay.bW (gf bb _) (fun x v hx=>?_) rfl hv
 cases x with
 | al r p e =>
  have lH:=hx.one cT
  obtain ⟨e0,d,xs,h1,h2,h3⟩:=hx
  have h1 : (results1 X.T (E.sig bF).rs fn.resultTypes.toList ret.res 0 0).2[r]? = some (.row e0 d xs):=h1
  simp only [gf,h1]
  split
  ·rename_i Bk
   cases d with
   | true =>
    have hr : ak X.T.ct w' (fun b=>g'.own b = some r) (.aj e0) (.lst xs) (g'.v r):=cT.rt r _ h1
    obtain ⟨F',h4,h5⟩:=ak.at h3 hr
    exact h5.gC fun b hb=>bo b r (h4 b hb)
   | false =>
    have hb : bb = true:=by simpa using Bk
    have hr : aZ X.T.ct w' (fun b=>g'.own b = some r) _ e0 xs (g'.v r):=cT.rt r _ h1
    obtain rfl : p = []:=by simpa using h2
    obtain ⟨h4,h5,rfl⟩:=h3.bX
    obtain rfl:=CT.aj.inj h4
    exact aZ.gC hr (fun b hb=>bo b r hb) (fJ hb)
  ·exact lH
 | rd e xs =>
  show aF X w' _ _ (if bb = true then .rd e xs else .no) v
  split
  ·rename_i hb; exact aE.imp hx fun b hk=>⟨fJ hb b hk,rfl⟩
  ·exact aE.one hx
 | _=>exact hx
theorem Dc (hE : dr P X.T E) (h : Rel X own0 w0 st a w g) {o : Oper} {sv : SV} (hq : eh E o st some = some sv) : bg P X own0 w0 o a w (st.put o.dst sv):=by
 have hT:=hE.tE
 have quiet : qK E.T E.bh st.rt (ev st) o.op some = some sv → bg P X own0 w0 o a w (st.put o.dst sv):=fun hq=>by
  rw [hT] at hq
  obtain ⟨v,h3,h4⟩:=qG hE.cE hE.eq h o hq
  exact bg.value h3 (h.put o.dst h4)
 unfold eh at hq
 split at hq
 ·rename_i t parts ho
  rw [hT] at hq
  obtain ⟨v,h3,h4⟩:=rG hE.cE h hq
  exact bg.value (v:=v) (w':=w) (by simp [execOp,ho,h3]) (h.put o.dst h4)
 ·rename_i c ho
  split at hq
  ·rename_i f args ts hc
   split at hq
   ·rename_i bF az bP
    exact zO hE h ho hc bP hq
   ·cases hq
  ·exact quiet hq
 ·exact quiet hq
theorem CZ (E : Env) (o : Oper) (st : St) (K : SV → Option R) : eh E o st K = (eh E o st some).bind K:=by
 unfold eh
 split
 ·exact ia _ _ _ _ _
 ·split
  ·split
   ·unfold dX
    repeat' split
    all_goals first | rfl | contradiction | skip
    rename_i ret _ _ _
    rw [bZ fE,bZ fE]
    cases E.den _ _ _ <;> rfl
   ·rfl
  ·exact kK ..
 ·exact kK ..
end
section
variable {R : Type}
theorem vN {ρ ρ' : Operand → SV} : ∀ {xs : List Operand},(∀ x ∈ xs,ρ x = ρ' x) → kc ρ xs = kc ρ' xs
 | [],_=>rfl
 | x :: xs,h=>by unfold kc; rw [h x (by simp),vN fun y hy=>h y (by simp [hy])]
theorem mT {place : Nat → Option (Nat × Nat)} {ρ ρ' : Operand → SV} : ∀ {ps : List (Nat × Operand)} {cs : List Cl},(∀ x ∈ ps,ρ x.2 = ρ' x.2) → eE place ρ cs ps = eE place ρ' cs ps
 | [],cs,_=>rfl
 | (i,x) :: ps,cs,h=>by
  have e : ρ x = ρ' x:=h (i,x) (by simp)
  have ih : ∀ cs,eE place ρ cs ps = eE place ρ' cs ps:=fun cs=>mT fun y hy=>h y (qZp _ hy)
  simp only [eE,e,ih]
theorem vG {T : ax} {ρ ρ' : Operand → SV} {t : TypeId} {ps : List (Nat × Operand)} {K : SV → Option R} (h : ∀ x ∈ ps,ρ x.2 = ρ' x.2) : dL T ρ t ps K = dL T ρ' t ps K:=by
 unfold dL
 split
 ·split
  ·rw [mT h]
  ·rfl
 ·split
  ·rw [mT h]
  ·rfl
 ·rfl
theorem yx {T : ax} {bh : TypeId → Bool} {rt : List aa} {ρ ρ' : Operand → SV} {op : Op} {K : SV → Option R} (h : ∀ x ∈ op.operands.toList,ρ x = ρ' x) : qK T bh rt ρ op K = qK T bh rt ρ' op K:=by
 cases op <;> simp only [qK] <;> try (first | rfl | (rw [h _ (by simp [Op.operands])]; done))
 case pick c a b=>rw [h c (by simp [Op.operands]),h a (by simp [Op.operands]),h b (by simp [Op.operands])]
 case binOp op t x y t2=>rw [h x (by simp [Op.operands]),h y (by simp [Op.operands])]
 case indexAddr t x y=>rw [h x (by simp [Op.operands]),h y (by simp [Op.operands])]
 case index t x y=>rw [h x (by simp [Op.operands]),h y (by simp [Op.operands])]
 case unOp u t x=>cases u <;> simp only [qK] <;> rw [h x (by simp [Op.operands])]
 case makeFunc fn first az =>
  cases fn <;> simp only [qK]
  rw [vN fun x hx=>h x (by simp only [Op.operands,qYs]; exact qQ8 _ hx)]
 case slice t x lo hi mx =>
  have hx:=h x (by simp [Op.operands])
  have hl : lo.map ρ = lo.map ρ':=by
   cases lo with
   | none=>rfl
   | some l=>simp only [qQ7]; rw [h l (by simp [Op.operands])]
  have hh : hi.map ρ = hi.map ρ':=by
   cases hi with
   | none=>rfl
   | some l=>simp only [qQ7]; rw [h l (by simp [Op.operands])]
  cases mx <;> simp only [qK] <;> rw [hx,hl,hh]
 case call c =>
  have ha : ∀ x ∈ c.args.toList,ρ x = ρ' x:=fun x hx=>h x (by
   show x ∈ (c.operands).toList
   unfold Call.operands
   rw [qYs]
   exact qQ8 _ hx)
  generalize c.args.toList = args at ha
  split
  ·rename_i t _ _ _
   rw [ha t (by simp)]
  ·rename_i x y _
   rw [ha x (by simp),ha y (by simp)]
  ·rename_i x y _
   rw [ha x (by simp),ha y (by simp)]
  ·rfl
def fS (ops : List Oper) (o : Oper) (st : St) : Option Bool :=
 match o.guard with
 | none=>some true
 | some (j,want)=>match (ops[j]?).bind (·.dst) with
  | none=>none
  | some t=>match st.sl.getD t .no with | .c (.bool b)=>some (b == want) | .ud=>some false | _=>none
theorem Ea {l : List SV} {t : Nat} {x : SV} (h : l.getD t .no = x) (hx : x ≠ .no) : l.set t x = l:=by
 apply qZm
 intro i
 rw [qQ9]
 split
 ·rename_i hi; subst hi
  rw [qQe] at h
  cases hl : l[t]? with
  | none=>rw [hl] at h; exact absurd h.symm hx
  | some y =>
   rw [hl] at h
   rw [if_pos (aA hl),← h]; rfl
 ·rfl
theorem ve {ops : List Oper} {o : Oper} {st : St} {yes no : St → Option R} : jd ops o st yes no = match fS ops o st with | some true=>yes st | some false=>no st | none=>none:=by
 unfold jd fS
 cases hg : o.guard with
 | none=>rfl
 | some jw =>
  obtain ⟨j,want⟩:=jw
  simp only
  cases ht : (ops[j]?).bind (·.dst) with
  | none=>rfl
  | some t =>
   simp only
   generalize hb : st.sl.getD t .no = sv
   cases sv with
   | c x =>
    cases x with
    | bool b =>
     have lN : ∀ b',b = b' → ({ st with sl:=st.sl.set t (.c (.bool b')) } : St) = st:=fun b' e=>by subst e; rw [Ea hb (by simp)]
     cases b <;> cases want <;> simp only [qQh,qQ3,if_true,qZv,qZe,lN _ rfl] <;> rfl
    | _=>rfl
   | _=>rfl
def oT (E : Env) (ops : List Oper) : List Oper → St → List (Option Tmp × SV) → St → Prop
 | [],st,es,ae=>es = [] ∧ ae = st
 | o :: os,st,es,ae=>∃ v jt,es = (o.dst,v) :: jt ∧ ((fS ops o st = some true ∧ eh E o st some = some v) ∨ (fS ops o st = some false ∧ v = .ud)) ∧ oT E ops os (st.put o.dst v) jt ae
theorem uL {E : Env} {ops : List Oper} {K : St → Option R} {r : R} : ∀ {os : List Oper} {st : St},iX E ops os st K = some r → ∃ es ae,oT E ops os st es ae ∧ K ae = some r
 | [],st,h=>⟨[],st,⟨rfl,rfl⟩,h⟩
 | o :: os,st,h=>by
  unfold iX at h
  rw [ve] at h
  split at h
  ·rename_i hw
   rw [CZ] at h
   obtain ⟨v,h1,h2⟩:=qZi.1 h
   rw [bT] at h2
   obtain ⟨es,ae,h3,h4⟩:=uL h2
   exact ⟨_,ae,⟨v,es,rfl,.inl ⟨hw,h1⟩,h3⟩,h4⟩
  ·rename_i hw
   rw [bT] at h
   obtain ⟨es,ae,h3,h4⟩:=uL h
   exact ⟨_,ae,⟨.ud,es,rfl,.inr ⟨hw,rfl⟩,h3⟩,h4⟩
  ·cases h
def cL (sl : List SV) (d : Option Tmp) (v : SV) : List SV:=match d with | some d=>sl.set d v | none=>sl
def bC (L : Nat → Bool) : List (Option Tmp × SV) → Nat → List SV → List SV
 | [],_,sl=>sl
 | (d,v) :: es,k,sl=>bC L es (k + 1) (if L k then cL sl d v else sl)
def lk (L : Nat → Bool) (t : Tmp) : List (Option Tmp × SV) → Nat → Option SV
 | [],_=>none
 | (d,v) :: es,k=>match lk L t es (k + 1) with
  | some x=>some x
  | none=>if L k = true ∧ d = some t then some v else none
theorem vt (L : Nat → Bool) (d : Option Tmp) (v : SV) (es : List (Option Tmp × SV)) (k : Nat) (sl : List SV) : bC L ((d,v) :: es) k sl = bC L es (k + 1) (if L k then cL sl d v else sl):=rfl
theorem od (L : Nat → Bool) (t : Tmp) (d : Option Tmp) (v : SV) (es : List (Option Tmp × SV)) (k : Nat) : lk L t ((d,v) :: es) k = match lk L t es (k + 1) with
  | some x=>some x
  | none=>if L k = true ∧ d = some t then some v else none:=rfl
theorem dq (sl : List SV) (d : Option Tmp) (v : SV) (t : Nat) : (cL sl d v)[t]? = (sl[t]?).map fun x=>if d = some t then v else x:=by
 cases d with
 | none=>simp [cL]
 | some d =>
  show (sl.set d v)[t]? = _
  rw [qQ9]
  by_cases h : d = t
  ·subst h
   rw [if_pos rfl]
   cases hs : sl[d]? with
   | none=>rw [if_neg (by simpa using hs)]; rfl
   | some x=>rw [if_pos (aA hs)]; simp
  ·rw [if_neg h]
   have : ¬ (some d = some t):=fun hh=>h (qQc hh)
   simp [h]
theorem jZ (L : Nat → Bool) (t : Nat) : ∀ (es : List (Option Tmp × SV)) (k : Nat) (sl : List SV),(bC L es k sl)[t]? = (sl[t]?).map fun x=>(lk L t es k).getD x
 | [],k,sl=>by simp [bC,lk]
 | (d,v) :: es,k,sl=>by
  unfold bC lk
  rw [jZ L t es (k + 1)]
  cases h : lk L t es (k + 1) with
  | some x =>
   split
   ·rw [dq,qYr]; rfl
   ·rfl
  | none =>
   split
   ·rename_i hL
    rw [dq,qYr]
    congr 1
    funext x
    simp only [qXy,qY9,hL,true_and]
    split <;> rfl
   ·rename_i hL
    simp [hL]
theorem oc {L L' : Nat → Bool} {t : Tmp} : ∀ (es : List (Option Tmp × SV)) (k : Nat),(∀ (j : Nat) v,es[j]? = some (some t,v) → L (k + j) = L' (k + j)) → lk L t es k = lk L' t es k
 | [],k,h=>rfl
 | (d,v) :: es,k,h=>by
  rw [od,od,oc (L:=L) (L':=L') es (k + 1) fun j v hj=>by rw [show k + 1 + j = k + (j + 1) from by omega]; exact h (j + 1) v (by simpa using hj)]
  cases lk L' t es (k + 1) with
  | some x=>rfl
  | none =>
   by_cases hd : d = some t
   ·subst hd
    have h0:=h 0 v rfl
    rw [qQ5] at h0
    simp only [h0]
   ·simp only [hd,and_false]
theorem xN {L : Nat → Bool} {t : Tmp} {v : SV} : ∀ (es : List (Option Tmp × SV)) (k i : Nat),es[i]? = some (some t,v) → L (k + i) = true → (∀ (j : Nat) u,i < j → es[j]? = some (some t,u) → L (k + j) = false) → lk L t es k = some v
 | [],k,i,h,_,_=>by simp at h
 | (d,u) :: es,k,0,h,hL,hl=>by
  simp at h
  obtain ⟨rfl,rfl⟩:=h
  rw [od]
  have : lk L t es (k + 1) = none:=by
   have h1 : lk L t es (k + 1) = lk (fun _=>false) t es (k + 1):=oc es (k + 1) fun j v hj=>by
    rw [show k + 1 + j = k + (j + 1) from by omega]; exact hl (j + 1) v (by omega) (by simpa using hj)
   rw [h1]
   clear h1 hl hL
   generalize k + 1 = m
   induction es generalizing m with
   | nil=>rfl
   | cons e es ih=>obtain ⟨d,x⟩:=e; rw [od,ih]; simp
  rw [this]
  exact if_pos ⟨hL,rfl⟩
 | (d,u) :: es,k,i + 1,h,hL,hl=>by
  rw [od,xN es (k + 1) i (by simpa using h) (by rw [show k + 1 + i = k + (i + 1) from by omega]; exact hL) fun j u hj hu=>by
   rw [show k + 1 + j = k + (j + 1) from by omega]; exact hl (j + 1) u (by omega) (by simpa using hu)]
theorem vu (es : List (Option Tmp × SV)) : ∀ (k : Nat) (sl : List SV),bC (fun _=>false) es k sl = sl:=by
 induction es with
 | nil=>exact fun _ _=>rfl
 | cons e es ih=>obtain ⟨d,v⟩:=e; intro k sl; unfold bC; rw [if_neg (by simp)]; exact ih _ _
theorem rC {L : Nat → Bool} : ∀ (es : List (Option Tmp × SV)) (k : Nat) (sl : List SV),bC L es (k + 1) sl = bC (fun j=>L (j + 1)) es k sl
 | [],k,sl=>rfl
 | (d,v) :: es,k,sl=>by unfold bC; exact rC es (k + 1) _
theorem fz (st : St) (d : Option Tmp) (v : SV) : st.put d v = ⟨cL st.sl d v,st.rt,st.np⟩:=by cases d <;> rfl
theorem vn {E : Env} {ops : List Oper} : ∀ {os : List Oper} {st ae : St} {es : List (Option Tmp × SV)},oT E ops os st es ae → es.length = os.length ∧ ae = ⟨bC (fun _=>true) es 0 st.sl,st.rt,st.np⟩
 | [],st,ae,es,h=>by obtain ⟨rfl,rfl⟩:=h; exact ⟨rfl,rfl⟩
 | o :: os,st,ae,es,h=>by
  obtain ⟨v,jt,rfl,_,h⟩:=h
  obtain ⟨h1,h2⟩:=vn h
  refine ⟨by simp [h1],?_⟩
  rw [h2,fz,vt,if_pos rfl,rC]
theorem rh {E : Env} {ops : List Oper} : ∀ {os : List Oper} {st ae : St} {es : List (Option Tmp × SV)},oT E ops os st es ae → ∀ {i : Nat} {o : Oper},os[i]? = some o → ∃ v,es[i]? = some (o.dst,v) ∧
  ((fS ops o ⟨bC (fun j=>decide (j < i)) es 0 st.sl,st.rt,st.np⟩ = some true ∧ eh E o ⟨bC (fun j=>decide (j < i)) es 0 st.sl,st.rt,st.np⟩ some = some v) ∨ (fS ops o ⟨bC (fun j=>decide (j < i)) es 0 st.sl,st.rt,st.np⟩ = some false ∧ v = .ud))
 | [],st,ae,es,h,i,o,ho=>by simp at ho
 | o' :: os,st,ae,es,h,0,o,ho=>by
  simp at ho; subst ho
  obtain ⟨v,jt,rfl,h1,_⟩:=h
  refine ⟨v,rfl,?_⟩
  have e : bC (fun j=>decide (j < 0)) ((o'.dst,v) :: jt) 0 st.sl = st.sl:=by
   rw [show (fun j : Nat=>decide (j < 0)) = (fun _=>false) from funext fun j=>by simp]
   exact vu _ _ _
  rw [e]; exact h1
 | o' :: os,st,ae,es,h,i + 1,o,ho=>by
  obtain ⟨v,jt,rfl,_,h2⟩:=h
  obtain ⟨u,h3,h4⟩:=rh h2 (i:=i) (o:=o) (by simpa using ho)
  refine ⟨u,by simpa using h3,?_⟩
  have e : bC (fun j=>decide (j < i + 1)) ((o'.dst,v) :: jt) 0 st.sl = bC (fun j=>decide (j < i)) jt 0 (cL st.sl o'.dst v):=by
   rw [vt,if_pos (by simp),rC]
   congr 1
   funext j
   simp
  rw [e]
  rw [fz] at h4
  exact h4
theorem wv {st ae : St} {x : Operand} (h : ∀ t,x = .tmp t → st.sl.getD t .no = ae.sl.getD t .no) : ev st x = ev ae x:=by
 cases x with
 | tmp t=>exact h t rfl
 | _=>rfl
theorem Da {E : Env} {o : Oper} {sl sl' : List SV} {rt : List aa} {np : Nat} {K : SV → Option R} (h : ∀ t,Operand.tmp t ∈ o.op.operands.toList → sl.getD t .no = sl'.getD t .no) : eh E o ⟨sl,rt,np⟩ K = eh E o ⟨sl',rt,np⟩ K:=by
 have bP : ∀ x ∈ o.op.operands.toList,ev ⟨sl,rt,np⟩ x = ev ⟨sl',rt,np⟩ x:=fun x hx=>wv fun t ht=>h t (ht ▸ hx)
 have hq:=yx (T:=E.T) (bh:=E.bh) (rt:=rt) (K:=K) bP
 unfold eh
 split
 ·rename_i t parts ho
  rw [ho] at bP
  exact vG fun x hx=>bP x.2 (by
   show x.2 ∈ ((parts.toList.map (·.2)).toArray).toList
   exact qQo.2 ⟨x,hx,rfl⟩)
 ·rename_i c ho
  rw [ho] at bP
  have ha : ∀ x ∈ c.args.toList,ev ⟨sl,rt,np⟩ x = ev ⟨sl',rt,np⟩ x:=fun x hx=>bP x (by
   show x ∈ (c.operands).toList
   unfold Call.operands
   rw [qYs]
   exact qQ8 _ hx)
  cases hc : c.callee with
  | value f =>
   have hf : ev ⟨sl,rt,np⟩ f = ev ⟨sl',rt,np⟩ f:=bP f (by
    show f ∈ (c.operands).toList
    unfold Call.operands
    rw [hc,qYs]
    exact qZf _ (by simp))
   have : c.args.toList.map (ev ⟨sl,rt,np⟩) = c.args.toList.map (ev ⟨sl',rt,np⟩):=qYu ha
   simp only [hf,this]
   rfl
  | _=>exact hq
 ·exact hq
theorem Eu {ops : List Oper} {o : Oper} {sl sl' : List SV} {rt : List aa} {np : Nat} (h : ∀ t,t ∈ looks ops o → sl.getD t .no = sl'.getD t .no) : fS ops o ⟨sl,rt,np⟩ = fS ops o ⟨sl',rt,np⟩:=by
 unfold fS
 split
 ·rfl
 ·rename_i j want hg
  split
  ·rfl
  ·rename_i t ht
   have : sl.getD t .no = sl'.getD t .no:=h t (by
    unfold looks
    rw [hg]
    exact qQ8 _ (by simp only; rw [ht]; simp))
   show (match sl.getD t .no with | .c (.bool b)=>some (b == want) | .ud=>some false | _=>none) = _
   rw [this]
theorem xO {ops : List Oper} {o : Oper} {t : Tmp} (h : Operand.tmp t ∈ o.op.operands.toList) : t ∈ looks ops o :=
 qZf _ (qZs.2 ⟨_,h,rfl⟩)
end
theorem filter_lt {α : Type} {p q : α → Bool} : ∀ {l : List α},(∀ x,q x = true → p x = true) → (∃ x ∈ l,p x = true ∧ q x = false) → (l.filter q).length < (l.filter p).length
 | [],_,h=>by obtain ⟨x,hx,_⟩:=h; simp at hx
 | y :: l,hm,h=>by
  have hle : ∀ l : List α,(l.filter q).length ≤ (l.filter p).length:=by
   intro l
   induction l with
   | nil=>simp
   | cons z l ih =>
    rw [qYk,qYk]
    by_cases hq : q z = true
    ·rw [if_pos hq,if_pos (hm z hq)]; simp only [qZq]; omega
    ·rw [if_neg hq]
     split
     ·simp only [qZq]; omega
     ·exact ih
  rw [qYk,qYk]
  by_cases hy : p y = true ∧ q y = false
  ·rw [if_pos hy.1,if_neg (by rw [hy.2]; simp)]
   have:=hle l
   simp only [qZq]; omega
  ·have h' : ∃ x ∈ l,p x = true ∧ q x = false:=by
    obtain ⟨x,hx,h1⟩:=h
    rcases qQn.1 hx with rfl | hx
    ·exact absurd h1 hy
    ·exact ⟨x,hx,h1⟩
   have ih:=filter_lt hm h'
   by_cases hq : q y = true
   ·rw [if_pos hq,if_pos (hm y hq)]; simp only [qZq]; omega
   ·rw [if_neg hq]
    split
    ·simp only [qZq]; omega
    ·exact ih
theorem vr {L L' : Nat → Bool} {es : List (Option Tmp × SV)} {k : Nat} {sl : List SV} (h : ∀ j,j < es.length → L (k + j) = L' (k + j)) : bC L es k sl = bC L' es k sl:=by
 apply qZm
 intro t
 rw [jZ,jZ,oc (L:=L) (L':=L') es k fun j v hj=>h j (aA hj)]
theorem uy {ops : List Oper} {i : Nat} {x y : Oper} (h : qB ops i x y = true) : waits y i = true ∨ ((∀ d,x.dst = some d → d ∉ looks ops y ∧ y.dst ≠ some d) ∧ ∀ d,y.dst = some d → d ∉ looks ops x):=by
 unfold qB at h
 rw [qZw] at h
 refine h.imp id fun h=>?_
 rw [qQi] at h
 obtain ⟨h1,h2⟩:=h
 refine ⟨fun d hd=>?_,fun d hd=>?_⟩
 ·rw [hd] at h1
  simpa using h1
 ·rw [hd] at h2
  simpa using h2
theorem rX {ops : List Oper} (h : la ops = true) {i j : Nat} {x y : Oper} (hx : ops[i]? = some x) (hy : ops[j]? = some y) (gk : i < j) : qB ops i x y = true:=by
 unfold la at h
 have h1:=qQp.1 h (y,j) (qY2.2 ⟨j,by simp [qY4,hy]⟩)
 simp only [qQi] at h1
 have h2:=qQp.1 h1.1.2 (x,i) (qY2.2 ⟨i,by simp [qY4,hx]⟩)
 simpa [gk] using h2
theorem Ah {ops : List Oper} (h : la ops = true) {j : Nat} {y : Oper} (hy : ops[j]? = some y) {e : Edge} (he : e ∈ y.after) (hb : Region.binds .any e = true) : e.on < j:=by
 unfold la at h
 have h1:=qQp.1 h (y,j) (qY2.2 ⟨j,by simp [qY4,hy]⟩)
 simp only [qQi] at h1
 have h2:=qQp.1 h1.1.1 e (by simpa using he)
 simpa [hb] using h2
theorem zi {y : Oper} {i : Nat} (h : waits y i = true) : ∃ e ∈ y.after,e.on = i ∧ Region.binds .any e = true:=by
 unfold waits at h
 obtain ⟨e,h1,h2⟩:=qXh.1 h
 simp only [qQi,beq_iff_eq] at h2
 exact ⟨e,by simpa using h1,h2.1,h2.2⟩
section
variable {P : Program} {X : Ctx} {own0 : Nat → Option Nat} {w0 : World} {st : St} {a : Act} {w w' : World} {g g' : Gh} {R : Type} {E : Env}
theorem DQ (hE : dr P X.T E) (dh : P.follows .mixedOrders = true) (h : Rel X own0 w0 st a w g) {id : Nat} {ops : Array Oper} (hd : la ops.toList = true) {K : St → Option R} {r : R} (hq : iX E ops.toList ops.toList st K = some r)
  {Q : Exit → Act → World → Prop} (hK : ∀ ae a' w' g',Rel X own0 w0 ae a' w' g' → K ae = some r → Q .normal a' w') : (Code.region id ops true).wp P Q a w:=by
 obtain ⟨es,ae,iG,ng⟩:=uL hq
 obtain ⟨hlen,rfl⟩:=vn iG
 refine wp_region_any dh ?_
 let Lf : Array Bool → Nat → Bool:=fun l j=>l.getD j false
 have gj : ∀ {l : Array Bool} {j : Nat},l.size = ops.size → j < ops.size → l.getD j true = l.getD j false:=fun {l j} hs hj=>by
  have : j < l.size:=by omega
  simp [Array.getD,this]
 have gp : ∀ {j : Nat} {o : Oper},ops[j]? = some o → ops.toList[j]? = some o:=fun h=>by rw [qYc]; exact h
 have sM : ∀ {j : Nat} {d : Option Tmp} {v : SV},es[j]? = some (d,v) → ∃ o,ops[j]? = some o ∧ o.dst = d:=fun {j d v} hj=>by
  have av : j < ops.toList.length:=by rw [← hlen]; exact aA hj
  obtain ⟨u,h1,_⟩:=rh iG (qQg av)
  rw [hj] at h1
  refine ⟨ops.toList[j],by rw [← qYc]; exact qQg av,?_⟩
  exact (qQq Prod.fst (qQc h1)).symm
 have key : ∀ (fuel : Nat) (l : Array Bool) (a : Act) (w : World) (g : Gh),((List.range ops.size).filter fun j=>!l.getD j true).length ≤ fuel → l.size = ops.size →
   (∀ (j : Nat) o,ops[j]? = some o → Lf l j = true → ∀ e ∈ o.after,Region.binds .any e = true → Lf l e.on = true) → Rel X own0 w0 ⟨bC (Lf l) es 0 st.sl,st.rt,st.np⟩ a w g → wpAny P .any ops Q fuel l a w:=by
  intro fuel
  induction fuel with
  | zero =>
   intro l a w g te aR aL cU
   have bO : ∀ j,j < ops.size → Lf l j = true:=fun j hj=>by
    show l.getD j false = true
    rw [← gj aR hj]
    cases hc : l.getD j true with
    | true=>rfl
    | false =>
     have : j ∈ (List.range ops.size).filter fun j=>!l.getD j true:=qZa.2 ⟨qZt.2 hj,by rw [hc]; rfl⟩
     have:=List.length_pos_of_mem this
     omega
   refine ⟨List.eq_nil_iff_forall_not_mem.2 fun j hj=>?_,hK _ _ _ g ?_ ng⟩
   ·obtain ⟨h1,o,ho,_⟩:=mem_ready.1 hj
    have gm : j < ops.size:=(qYb.1 ho).1
    have:=bO j gm
    rw [gj aR gm] at h1
    rw [show Lf l j = l.getD j false from rfl,h1] at this
    cases this
   ·rw [show bC (fun _=>true) es 0 st.sl = bC (Lf l) es 0 st.sl from vr fun j hj=>by
     rw [qQy]; exact (bO j (by rw [hlen] at hj; simpa using hj)).symm]
    exact cU
  | succ fuel ih =>
   intro l a w g te aR aL cU
   refine ⟨fun tg=>?_,fun i hi=>?_⟩
   ·have bO : ∀ j,j < ops.size → Lf l j = true:=fun j=>by
     induction j using Nat.strongRecOn with
     | _ j ihj =>
      intro hj
      cases hc : Lf l j with
      | true=>rfl
      | false =>
       exfalso
       have : j ∈ Region.ready .any ops l:=mem_ready.2 ⟨by rw [gj aR hj]; exact hc,ops[j],qY6 hj,fun e he hb=>by
        have av:=Ah hd (gp (qY6 hj)) he hb
        exact ihj e.on av (by omega)⟩
       rw [tg] at this; simp at this
    refine hK _ _ _ g ?_ ng
    rw [show bC (fun _=>true) es 0 st.sl = bC (Lf l) es 0 st.sl from vr fun j hj=>by
     rw [qQy]; exact (bO j (by rw [hlen] at hj; simpa using hj)).symm]
    exact cU
   ·obtain ⟨h1,o,ho,pP⟩:=mem_ready.1 hi
    have dw : i < ops.size:=(qYb.1 ho).1
    have ir : Lf l i = false:=by rw [gj aR dw] at h1; exact h1
    obtain ⟨v,hv,fm⟩:=rh iG (gp ho)
    
    have wN : ∀ {j : Nat} {oj : Oper},ops[j]? = some oj → waits oj i = true → Lf l j = false:=fun {j oj} hj hw=>by
     cases hc : Lf l j with
     | false=>rfl
     | true =>
      obtain ⟨e,he,tm,hb⟩:=zi hw
      have:=aL j oj hj hc e he hb
      rw [tm,ir] at this; cases this
    have wK : ∀ t,t ∈ looks ops.toList o → (bC (Lf l) es 0 st.sl).getD t .no = (bC (fun j=>decide (j < i)) es 0 st.sl).getD t .no:=fun t ht=>by
     rw [qQe,qQe,jZ,jZ,oc (L:=Lf l) (L':=fun j=>decide (j < i)) es 0 fun j u hj=>?_]
     rw [qQy]
     obtain ⟨oj,cw,iw⟩:=sM hj
     rcases Nat.lt_trichotomy j i with dg | rfl | dg
     ·rw [qQa dg]
      rcases uy (rX hd (gp cw) (gp ho) dg) with hw | ⟨hw,_⟩
      ·obtain ⟨e,he,tm,hb⟩:=zi hw
       have:=pP e he hb
       rw [tm] at this; exact this
      ·exact absurd ht (hw t iw).1
     ·rw [ir]; simp
     ·rw [qQm (by omega)]
      rcases uy (rX hd (gp ho) (gp cw) dg) with hw | ⟨_,hw⟩
      ·exact wN cw hw
      ·exact absurd ht (hw t iw)
    have hw : fS ops.toList o ⟨bC (Lf l) es 0 st.sl,st.rt,st.np⟩ = fS ops.toList o ⟨bC (fun j=>decide (j < i)) es 0 st.sl,st.rt,st.np⟩:=Eu wK
    have lI : eh E o ⟨bC (Lf l) es 0 st.sl,st.rt,st.np⟩ some = eh E o ⟨bC (fun j=>decide (j < i)) es 0 st.sl,st.rt,st.np⟩ some:=Da fun t ht=>wK t (xO ht)
    rw [← hw,← lI] at fm
    have fF : ∀ j,Lf (l.setIfInBounds i true) j = if j = i then true else Lf l j:=fun j=>by
     show (l.setIfInBounds i true).getD j false = if j = i then true else l.getD j false
     by_cases dg : j = i
     ·subst dg
      rw [if_pos rfl]
      have : j < l.size:=by omega
      simp [Array.getD,this]
     ·rw [if_neg dg,qZr,qY5 (fun hh=>dg hh.symm),← qZr]
    have nI : bC (Lf (l.setIfInBounds i true)) es 0 st.sl = cL (bC (Lf l) es 0 st.sl) o.dst v:=by
     apply qZm
     intro t
     rw [jZ,dq,jZ,qYr]
     congr 1
     funext x
     simp only [qXy]
     by_cases hdt : o.dst = some t
     ·rw [if_pos hdt,xN es 0 i (v:=v) (by rw [hv,hdt]) (by rw [qQy,fF,if_pos rfl]) fun j u gk hj=>?_]
      ·rfl
      ·rw [qQy,fF,if_neg (by omega)]
       obtain ⟨oj,cw,iw⟩:=sM hj
       rcases uy (rX hd (gp ho) (gp cw) gk) with hw | ⟨hw,_⟩
       ·exact wN cw hw
       ·exact absurd iw (hw t hdt).2
     ·rw [if_neg hdt,oc (L:=Lf (l.setIfInBounds i true)) (L':=Lf l) es 0 fun j u hj=>by
       rw [qQy,fF,if_neg]
       rintro rfl
       obtain ⟨oj,cw,iw⟩:=sM hj
       rw [ho] at cw; cases cw
       exact hdt iw]
    have iH : ∀ a' w' g',Rel X own0 w0 ((⟨bC (Lf l) es 0 st.sl,st.rt,st.np⟩ : St).put o.dst v) a' w' g' → wpAny P .any ops Q fuel (l.setIfInBounds i true) a' w':=fun a' w' g' hr=>by
     refine ih _ a' w' g' ?_ (by rw [qJb]; exact aR) (fun j oj cw hj e he hb=>?_) ?_
     ·have : ((List.range ops.size).filter fun j=>!(l.setIfInBounds i true).getD j true).length < ((List.range ops.size).filter fun j=>!l.getD j true).length:=by
       refine filter_lt (fun x hx=>?_) ⟨i,qZt.2 dw,by rw [h1]; rfl,?_⟩
       ·by_cases hxi : x = i
        ·subst hxi; rw [h1]; rfl
        ·rwa [qZr,qY5 (fun hh=>hxi hh.symm),← qZr] at hx
       ·have : i < l.size:=by omega
        simp [Array.getD,this]
      omega
     ·rw [fF] at hj ⊢
      split
      ·rfl
      ·split at hj
       ·rename_i dg
        subst dg
        rw [ho] at cw; cases cw
        exact pP e he hb
       ·exact aL j oj cw hj e he hb
     ·rw [nI]
      rw [fz] at hr
      exact hr
    unfold wpOp
    simp only [ho]
    have qg : ∀ b,fS ops.toList o ⟨bC (Lf l) es 0 st.sl,st.rt,st.np⟩ = some b → Region.wanted o (yielded ops a.tmps) = b:=fun b hb=>by
     have tu : jd ops.toList o ⟨bC (Lf l) es 0 st.sl,st.rt,st.np⟩ (fun _=>some true) (fun _=>some false) = some b:=by
      rw [ve,hb]; cases b <;> rfl
     obtain ⟨_,_,_,h3⟩:=zk cU tu
     rcases h3 with ⟨h3,h4⟩ | ⟨h3,h4⟩ <;> rw [h3] <;> exact qQc h4
    rcases fm with ⟨sG,fG⟩ | ⟨sG,fG⟩
    ·rw [if_pos (qg _ sG)]
     exact .inl (Dc hE cU fG _ _ fun v w' g' hr=>iH _ w' g' hr)
    ·rw [if_neg (by rw [qg _ sG]; simp)]
     subst fG
     exact iH _ _ g (cU.put o.dst (sv:=.ud) rfl)
 refine key ops.size _ a _ g ?_ (by simp) (fun j o hj hL=>?_) ?_
 ·refine qZd (qYv _ _) (by simp)
 ·have : Lf (Array.replicate ops.size false) j = false:=by
   show (Array.replicate ops.size false).getD j false = false
   simp [Array.getD]
  rw [this] at hL; cases hL
 ·have e : (Lf (Array.replicate ops.size false)) = fun _=>false:=funext fun j=>by
   show (Array.replicate ops.size false).getD j false = false
   simp [Array.getD]
  rw [e,vu]
  exact h.grow rfl rfl rfl (qQb _) fun _ _=>rfl
end
end Go.Proofs.YtaghmjcfaplkiaaGreat.Eng
/- half -/
