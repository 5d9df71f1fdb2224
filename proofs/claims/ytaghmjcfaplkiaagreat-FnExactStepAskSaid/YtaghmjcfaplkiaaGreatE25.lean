/- The evaluator: parts 18 to 25. Of no program. -/
import Derived.Test.YtaghmjcfaplkiaaGreatE17
namespace Go.Proofs.YtaghmjcfaplkiaaGreat.Eng
open Go.RowKit
set_option linter.unusedVariables false
set_option linter.unusedSimpArgs false
section
variable {P : Program} {X : Ctx} {own0 : Nat → Option Nat} {w0 : World} {st : St} {a : Act} {w w' : World} {g g' : Gh} {R : Type}
theorem aw.dR {rt rt' : List aa} {g' : Gh} {w' : World} (f : Cl → Cl) (hf : ∀ x v,aF X w rt g x v → aF X w' rt' g' (f x) v) : ∀ {xs : List Cl} {vs : List Value},aw X w rt g xs vs → aw X w' rt' g' (xs.map f) vs
 | [],[],_=>trivial
 | x :: xs,v :: vs,h=>⟨hf _ _ h.1,aw.dR f hf h.2⟩
 | [],_ :: _,h=>h.elim
 | _ :: _,[],h=>h.elim
theorem bJ.dR {rt rt' : List aa} (f : aH → aH) (hf : ∀ x v,je X w rt g x v → je X w' rt' g' (f x) v) : ∀ {xs : List aH} {vs : List Value},bJ X w rt g xs vs → bJ X w' rt' g' (xs.map f) vs
 | [],[],_=>trivial
 | x :: xs,v :: vs,h=>⟨hf _ _ h.1,bJ.dR f hf h.2⟩
 | [],_ :: _,h=>h.elim
 | _ :: _,[],h=>h.elim
theorem bm.dR {rt rt' : List aa} (f : Cl → Cl) (hf : ∀ x v,aF X w rt g x v → aF X w' rt' g' (f x) v) : ∀ {xs : List (Bool × List Cl)} {vs : List Value},bm X w rt g xs vs → bm X w' rt' g' (xs.map fun x=>(x.1,x.2.map f)) vs
 | [],[],_=>trivial
 | (true,xs) :: ys,v :: vs,h=>by
  obtain ⟨⟨cs,h1,h2⟩,h3⟩:=h
  exact ⟨⟨cs,h1,aw.dR f hf h2⟩,bm.dR f hf h3⟩
 | (false,[x]) :: ys,v :: vs,h=>⟨hf _ _ h.1,bm.dR f hf h.2⟩
 | (false,[]) :: ys,v :: vs,h=>bm.dR (xs:=ys) f hf h
 | (false,x :: y :: zs) :: ys,v :: vs,h=>bm.dR (xs:=ys) f hf h
 | [],_ :: _,h=>h.elim
 | (true,_) :: _,[],h=>h.elim
 | (false,[]) :: _,[],h=>h.elim
 | (false,[_]) :: _,[],h=>h.elim
 | (false,_ :: _ :: _) :: _,[],h=>h.elim
def Gh.bR (g : Gh) (r : Nat) : Gh:=⟨fun x=>if g.own x = some r then none else g.own x,g.v,g.b⟩
theorem Gh.pI {r x : Nat} (h : g.own x = none) : (g.bR r).own x = none:=by
 show (if g.own x = some r then none else g.own x) = _
 rw [h]; rfl
theorem Gh.pH {r s x : Nat} (hs : s ≠ r) (h : g.own x = some s) : (g.bR r).own x = some s:=by
 show (if g.own x = some r then none else g.own x) = _
 rw [h,if_neg (fun he=>hs (qQc he))]
theorem Gh.AE {r s x : Nat} (h : (g.bR r).own x = some s) : g.own x = some s:=by
 have h : (if g.own x = some r then none else g.own x) = some s:=h
 split at h
 ·cases h
 ·exact h
theorem Rel.freeze (h : Rel X own0 w0 st a w g) (r : Nat) (aO : st.np ≤ r) : ∃ g',Rel X own0 w0 (st.freeze r) a w g' ∧ (∀ b,g.own b = none → g'.own b = none) ∧ (∀ s,dt st.rt s → ∀ b,g.own b = some r → s = r → g'.own b = none) ∧ g'.v = g.v ∧ g'.b = g.b ∧ (∀ b s,s ≠ r → g.own b = some s → g'.own b = some s) ∧ (∀ b s,g'.own b = some s → g.own b = some s):=by
 unfold St.freeze
 split
 ·rename_i e0 d0 xs hr
  have av:=aA hr
  have bn : ∀ b,g.own b = some r → aq X w (g.bR r) b:=fun b hb=>by
   refine ⟨by show (if g.own b = some r then none else g.own b) = none; rw [if_pos hb],h.mem.lt b (by rw [hb]; simp),?_⟩
   rcases h.mem.pm b r hb with hh | ⟨hh,_⟩
   ·exact .inr hh
   ·rw [h.mem.np] at aO; omega
  have fp : ∀ b,aq X w g b → aq X w (g.bR r) b:=fun b hb=>⟨Gh.pI hb.1,hb.2⟩
  let ae : St:=(⟨st.sl.map (SV.bR r xs),st.rt.map (aa.bR r xs),st.np⟩ : St).aG r .gone
  have bw : ∀ (i : Nat),i ≠ r → ae.rt[i]? = (st.rt[i]?).map (aa.bR r xs):=fun i hi=>by
   show ((st.rt.map _).set r aa.gone)[i]? = _
   rw [qYo (fun he=>hi he.symm),qQj]
  have aB : ∀ (i : Nat) e d ys,i ≠ r → st.rt[i]? = some (.row e d ys) → ae.rt[i]? = some (.row e d ys):=fun i e d ys hi hh=>by rw [bw i hi,hh]; rfl
  have aL : ∀ x v,aF X w st.rt g x v → aF X w ae.rt (g.bR r) (Cl.bR r xs x) v:=by
   intro x v hx
   cases x <;> try exact hx
   ·exact aE.imp hx fun b hb=>⟨fp b hb,rfl⟩
   ·rename_i r' p e
    simp only [Cl.bR]
    split
    ·rename_i he; subst he
     obtain ⟨e1,d1,ys,h1,h2⟩:=aF.fY h.mem hx
     obtain ⟨rfl,rfl,rfl⟩ : e0 = e1 ∧ d0 = d1 ∧ xs = ys:=by rw [hr] at h1; cases h1; exact ⟨rfl,rfl,rfl⟩
     exact h2 _ bn fp
    ·rename_i he
     obtain ⟨e1,d1,ys,h1,h2,h3⟩:=hx
     exact ⟨e1,d1,ys,aB r' _ _ _ he h1,h2,h3⟩
  have gN : ∀ e us o v,cX X w g e us o v → cX X w (g.bR r) e us o v:=by
   rintro e us o v ⟨b,off,h1,h2,h3,h4⟩
   refine ⟨b,off,h1,fp b h2,h3,fun j u ct hu ai=>?_⟩
   obtain ⟨x,h5,h6⟩:=h4 j u ct hu ai
   exact ⟨x,h5,h6.imp fun b hb=>⟨fp b hb,rfl⟩⟩
  have wP : ∀ s o v,eQ st.rt g s o v → eQ ae.rt (g.bR r) s o v:=by
   rintro s o v ⟨h1,t,cs,h2⟩
   have tO : s ≠ r:=by rintro rfl; rw [hr] at h2; cases h2
   exact ⟨h1,t,cs.map (Cl.bR r xs),by rw [bw s tO,h2]; rfl⟩
  have bI : ∀ x v,ay X w st.rt g x v → ay X w ae.rt (g.bR r) (SV.bR r xs x) v:=by
   intro x v hx
   cases x with
   | c x =>
    by_cases hn : x = .no
    ·subst hn; trivial
    ·exact ay.cj (aL x v (hx.cl hn))
   | ag ys=>obtain ⟨cs,h1,h2⟩:=hx; exact ⟨cs,h1,aw.dR _ aL h2⟩
   | bx s o=>exact wP s o v hx
   | pr e us o=>exact gN e us o v hx
   | po r' p e i o =>
    simp only [SV.bR]
    split
    ·rename_i he; subst he
     obtain ⟨e1,d1,ys,b,q,n,c,h1,h2,h3,h4,h5⟩:=hx
     obtain ⟨rfl,rfl,rfl⟩ : e0 = e1 ∧ d0 = d1 ∧ xs = ys:=by rw [hr] at h1; cases h1; exact ⟨rfl,rfl,rfl⟩
     have lh : aF X w st.rt g (.al r' p e) (.slice (some ⟨b,q,none⟩) n c):=⟨e0,d0,xs,hr,h2,h3⟩
     obtain ⟨e2,d2,zs,q1,q2⟩:=aF.fY h.mem lh
     obtain ⟨rfl,rfl,rfl⟩ : e0 = e2 ∧ d0 = d2 ∧ xs = zs:=by rw [hr] at q1; cases q1; exact ⟨rfl,rfl,rfl⟩
     obtain ⟨b',o',c',q3,q4⟩:=aE.elem (q2 _ bn fp) h4
     cases q3
     obtain ⟨b2,off,q5,q6,q7,q8⟩:=q4
     refine ⟨b2,off,?_,q6,q7,q8⟩
     have q9 : b = b2 ∧ q + i * X.T.size e = off + 0:=by
      simp only [Value.pointer.injEq,qZo,Addr.mk.injEq,and_true] at q5
      exact q5
     rw [h5,q9.1,← qQ4,show q + i * X.T.size e = off from by omega]
    ·rename_i he
     obtain ⟨e1,d1,ys,b,q,n,c,h1,h2,h3,h4,h5⟩:=hx
     exact ⟨e1,d1,ys,b,q,n,c,aB r' _ _ _ he h1,h2,h3,h4,h5⟩
   | fn f az =>
    obtain ⟨vs,h1,h2⟩:=hx
    refine ⟨vs,h1,bJ.dR _ (fun x v hx=>?_) h2⟩
    cases x with
    | c x=>exact aL x v hx
    | bx s o=>exact wP s o v hx
    | pr e us o=>exact gN e us o v hx
   | bf ys=>obtain ⟨vs,h1,h2⟩:=hx; exact ⟨vs,h1,bm.dR _ aL h2⟩
   | ud=>exact hx
  refine ⟨g.bR r,⟨⟨fun i y hy=>?_,fun b hb=>?_,fun b s hb=>?_,h.mem.n0,h.mem.np,?_,fun b s hb=>?_,h.mem.pv⟩,?_,fun i sv hi=>?_,h.df,⟨h.fr.os,h.fr.tape,h.fr.output,h.fr.size,fun b hb ho=>?_⟩⟩,fun b hb=>Gh.pI hb,fun s _ b hb _=>(bn b hb).1,rfl,rfl,fun b s hs hb=>Gh.pH hs hb,fun b s hb=>Gh.AE hb⟩
  ·by_cases hi : i = r
   ·subst hi
    have : ae.rt[i]? = some .gone:=by
     show ((st.rt.map _).set i aa.gone)[i]? = _
     rw [qYy (by rw [qQk]; exact av)]
    obtain rfl:=qQc (this.symm.trans hy)
    trivial
   ·have hy:=(bw i hi).symm.trans hy
    obtain ⟨z,hz,rfl⟩:=qQf.1 hy
    have lP:=h.mem.rt i z hz
    cases z with
    | box t cs =>
     obtain ⟨vs,h1,h2,h3⟩:=lP
     exact ⟨vs,h1,Gh.pH hi h2,aw.dR _ aL h3⟩
    | row e d ys =>
     cases d with
     | true=>exact ak.mono (h:=lP) fun b hb=>Gh.pH hi hb
     | false=>exact aZ.imp lP (fun b hb=>⟨Gh.pH hi hb,rfl⟩) (fun b hb=>⟨fp b hb,rfl⟩)
    | gone=>trivial
  ·exact h.mem.lt b fun hn=>hb (Gh.pI hn)
  ·have : g.own b = some s:=by
    have hb : (if g.own b = some r then none else g.own b) = some s:=hb
    split at hb
    ·cases hb
    ·exact hb
   have:=h.mem.ob b s this
   show s < ((st.rt.map _).set r aa.gone).length
   rw [qQl,qQk]; exact this
  ·show X.np ≤ ((st.rt.map _).set r aa.gone).length
   rw [qQl,qQk]; exact h.mem.nl
  ·have : g.own b = some s:=by
    have hb : (if g.own b = some r then none else g.own b) = some s:=hb
    split at hb
    ·cases hb
    ·exact hb
   exact h.mem.pm b s this
  ·show (st.sl.map _).length ≤ _
   rw [qQk]; exact h.sz
  ·have hi : (st.sl.map (SV.bR r xs))[i]? = some sv:=hi
   rw [qQj] at hi
   obtain ⟨y,hy,rfl⟩:=qQf.1 hi
   exact bI y _ (h.sl i y hy)
  ·obtain ⟨e1,e2⟩:=h.fr.block b hb ho
   exact ⟨Gh.pI e1,e2⟩
 ·rename_i hr
  refine ⟨g,h,fun _ hb=>hb,fun s hs b hb he=>?_,rfl,rfl,fun _ _ _ hb=>hb,fun _ _ hb=>hb⟩
  subst he
  obtain ⟨e,d,xs,hs⟩:=hs
  exact absurd hs (hr e d xs)
end
theorem uG : ∀ {l : List Nat} {r i k : Nat},posOf r l i = some k → i ≤ k ∧ l[k - i]? = some r
 | [],r,i,k,h=>by cases h
 | x :: xs,r,i,k,h=>by
  unfold posOf at h
  split at h
  ·rename_i hx; subst hx; cases h; exact ⟨qQb _,by simp⟩
  ·obtain ⟨h1,h2⟩:=uG h
   refine ⟨by omega,?_⟩
   obtain ⟨d,rfl⟩ : ∃ d,k = i + 1 + d:=⟨k - (i + 1),by omega⟩
   rw [show i + 1 + d - i = d + 1 from by omega]
   rw [show i + 1 + d - (i + 1) = d from by omega] at h2
   simpa using h2
theorem uF : ∀ {l : List Nat} {r i k : Nat},l.Nodup → l[k]? = some r → posOf r l i = some (i + k)
 | [],r,i,k,_,h=>by simp at h
 | x :: xs,r,i,0,_,h=>by
  simp at h; subst h
  unfold posOf; rw [if_pos rfl]; rfl
 | x :: xs,r,i,k + 1,hn,h=>by
  have ca:=qYd.1 hn
  have h1 : xs[k]? = some r:=by simpa using h
  unfold posOf
  rw [if_neg (by rintro rfl; exact ca.1 (qQz h1)),uF ca.2 h1]
  congr 1; omega
theorem kY : ∀ (xs acc : List Nat),acc.Nodup → (dedup acc xs).Nodup ∧ ∃ l,dedup acc xs = acc ++ l
 | [],acc,h=>⟨h,[],by simp [dedup]⟩
 | x :: xs,acc,h=>by
  unfold dedup
  split
  ·exact kY xs acc h
  ·rename_i hx
   have hx : x ∉ acc:=by simpa using hx
   have h1 : (acc ++ [x]).Nodup:=by
    rw [List.nodup_append]
    exact ⟨h,by simp,fun a ha b hb=>by rw [qZj] at hb; subst hb; rintro rfl; exact hx ha⟩
   obtain ⟨h2,l,h3⟩:=kY xs (acc ++ [x]) h1
   exact ⟨h2,x :: l,by rw [h3]; simp⟩
section
variable {P : Program} {X : Ctx} {own0 : Nat → Option Nat} {w0 : World} {st : St} {a : Act} {w w' : World} {g g' : Gh} {R : Type}
def Gh.bE (g : Gh) (ord : List Nat) : Gh:=⟨fun x=>(g.own x).bind fun r=>posOf r ord 0,fun k=>g.v (ord.getD k 0),fun k=>g.b (ord.getD k 0)⟩
theorem Rel.DB (h : Rel X own0 w0 st a w g) {ord : List Nat} (hn : ord.Nodup) (gu : ∀ i,i < X.np → ord[i]? = some i) (hl : X.np ≤ ord.length) :
  Rel X own0 w0 ⟨st.sl.map (SV.bE ord),ord.map fun r=>match st.rt[r]? with | some x=>x.bE ord | none=>.gone,st.np⟩ a w (g.bE ord):=by
 let ae : St:=⟨st.sl.map (SV.bE ord),ord.map fun r=>match st.rt[r]? with | some x=>x.bE ord | none=>.gone,st.np⟩
 have fu : ∀ {r k},posOf r ord 0 = some k → ord[k]? = some r ∧ ord.getD k 0 = r:=fun hk=>by
  have:=(uG hk).2
  rw [Nat.sub_zero] at this
  exact ⟨this,cr this⟩
 have bw : ∀ {r k x},posOf r ord 0 = some k → st.rt[r]? = some x → ae.rt[k]? = some (x.bE ord):=by
  intro r k x hk hx
  show (ord.map _)[k]? = _
  rw [qQj,(fu hk).1]
  simp [hx]
 have bn : ∀ b,aq X w g b → aq X w (g.bE ord) b:=fun b hb=>⟨by show (g.own b).bind _ = none; rw [hb.1]; rfl,hb.2⟩
 have bo : ∀ {b r k},posOf r ord 0 = some k → g.own b = some r → (g.bE ord).own b = some k:=fun hk hb=>by
  show (g.own _).bind _ = _
  rw [hb]; exact hk
 have hv : ∀ {r k},posOf r ord 0 = some k → (g.bE ord).v k = g.v r:=fun hk=>by
  show g.v (ord.getD _ 0) = _
  rw [(fu hk).2]
 have hb : ∀ {r k},posOf r ord 0 = some k → (g.bE ord).b k = g.b r:=fun hk=>by
  show g.b (ord.getD _ 0) = _
  rw [(fu hk).2]
 have aL : ∀ x v,aF X w st.rt g x v → aF X w ae.rt (g.bE ord) (Cl.bE ord x) v:=by
  intro x v hx
  cases x <;> try exact hx
  ·exact aE.imp hx fun b hb=>⟨bn b hb,rfl⟩
  ·rename_i r p e
   simp only [Cl.bE]
   split
   ·rename_i k hk
    obtain ⟨e0,d,xs,h1,h2,h3⟩:=hx
    exact ⟨e0,d,xs,bw hk h1,h2,by rw [hv hk]; exact h3⟩
   ·exact hx.one h.mem
 have gN : ∀ e us o v,cX X w g e us o v → cX X w (g.bE ord) e us o v:=by
  rintro e us o v ⟨b,off,h1,h2,h3,h4⟩
  refine ⟨b,off,h1,bn b h2,h3,fun j u ct hu ai=>?_⟩
  obtain ⟨x,h5,h6⟩:=h4 j u ct hu ai
  exact ⟨x,h5,h6.imp fun b hb=>⟨bn b hb,rfl⟩⟩
 have bI : ∀ x v,ay X w st.rt g x v → ay X w ae.rt (g.bE ord) (SV.bE ord x) v:=by
  intro x v hx
  cases x with
  | c x =>
   by_cases hn : x = .no
   ·subst hn; trivial
   ·exact ay.cj (aL x v (hx.cl hn))
  | ag ys=>obtain ⟨cs,h1,h2⟩:=hx; exact ⟨cs,h1,aw.dR _ aL h2⟩
  | bx r o =>
   simp only [SV.bE]
   split
   ·rename_i k hk
    obtain ⟨h1,t,cs,h2⟩:=hx
    exact ⟨by rw [hb hk]; exact h1,t,_,bw hk h2⟩
   ·trivial
  | pr e us o=>exact gN e us o v hx
  | po r p e i o =>
   simp only [SV.bE]
   split
   ·rename_i k hk
    obtain ⟨e0,d,xs,b,q,n,c,h1,h2,h3,h4,h5⟩:=hx
    exact ⟨e0,d,xs,b,q,n,c,bw hk h1,h2,by rw [hv hk]; exact h3,h4,h5⟩
   ·trivial
  | fn f az =>
   obtain ⟨vs,h1,h2⟩:=hx
   refine ⟨vs,h1,bJ.dR _ (fun x v hx=>?_) h2⟩
   cases x with
   | c x=>exact aL x v hx
   | bx r o =>
    simp only [aH.bE]
    split
    ·rename_i k hk
     obtain ⟨h1,t,cs,h2⟩:=hx
     exact ⟨by rw [hb hk]; exact h1,t,_,bw hk h2⟩
    ·obtain ⟨h1,_⟩:=hx
     show v.oneCell' = true
     rw [h1]; rfl
   | pr e us o=>exact gN e us o v hx
  | bf ys=>obtain ⟨vs,h1,h2⟩:=hx; exact ⟨vs,h1,bm.dR _ aL h2⟩
  | ud=>exact hx
 have nM : ∀ {b k},(g.bE ord).own b = some k → ∃ r,g.own b = some r ∧ posOf r ord 0 = some k:=fun hk=>qZi.1 hk
 refine ⟨⟨fun k y hy=>?_,fun b au=>?_,fun b k hk=>?_,h.mem.n0,h.mem.np,by show X.np ≤ (ord.map _).length; rw [qQk]; exact hl,fun b k hk=>?_,fun s hs=>?_⟩,by show (st.sl.map _).length ≤ _; rw [qQk]; exact h.sz,fun i sv hi=>?_,h.df,
  ⟨h.fr.os,h.fr.tape,h.fr.output,h.fr.size,fun b au ho=>?_⟩⟩
 ·have hy : (ord.map fun r=>match st.rt[r]? with | some x=>x.bE ord | none=>aa.gone)[k]? = some y:=hy
  rw [qQj] at hy
  obtain ⟨r,hr,rfl⟩:=qQf.1 hy
  have hk : posOf r ord 0 = some k:=by rw [uF hn hr,qQy]
  cases hx : st.rt[r]? with
  | none=>trivial
  | some x =>
   have hz:=h.mem.rt r x hx
   cases x with
   | box t cs =>
    obtain ⟨vs,h1,h2,h3⟩:=hz
    exact ⟨vs,by rw [hb hk]; exact h1,by rw [hb hk]; exact bo hk h2,aw.dR _ aL h3⟩
   | row e d ys =>
    cases d with
    | true =>
     show ak _ _ _ _ _ ((g.bE ord).v k)
     rw [hv hk]
     exact ak.mono (h:=hz) fun b au=>bo hk au
    | false =>
     show aZ _ _ _ _ _ _ ((g.bE ord).v k)
     rw [hv hk]
     exact aZ.imp hz (fun b au=>⟨bo hk au,rfl⟩) (fun b au=>⟨bn b au,rfl⟩)
   | gone=>trivial
 ·exact h.mem.lt b fun iD=>au (by show (g.own b).bind _ = none; rw [iD]; rfl)
 ·obtain ⟨r,h1,h2⟩:=nM hk
  show k < (ord.map _).length
  rw [qQk]
  exact aA (fu h2).1
 ·obtain ⟨r,h1,h2⟩:=nM hk
  rcases h.mem.pm b r h1 with hh | ⟨hh,hp⟩
  ·exact .inl hh
  ·right
   have:=uF (i:=0) hn (gu r hh)
   rw [h2] at this
   obtain rfl : k = r:=by have:=qQc this; omega
   exact ⟨hh,hp⟩
 ·show g.v (ord.getD s 0) = _
  rw [cr (gu s hs)]
  exact h.mem.pv s hs
 ·have hi : (st.sl.map (SV.bE ord))[i]? = some sv:=hi
  rw [qQj] at hi
  obtain ⟨y,hy,rfl⟩:=qQf.1 hi
  exact bI y _ (h.sl i y hy)
 ·obtain ⟨e1,e2⟩:=h.fr.block b au ho
  exact ⟨by show (g.own b).bind _ = none; rw [e1]; rfl,e2⟩
theorem Rel.qI (h : Rel X own0 w0 st a w g) : ∃ g',Rel X own0 w0 st.qI a w g':=by
 obtain ⟨h1,l1,h2⟩:=kY (st.sl.flatMap SV.af) (List.range st.np) List.nodup_range
 have k1 : ∀ (L : List Nat) (i : Nat),i < X.np → (dedup (dedup (List.range st.np) (st.sl.flatMap SV.af)) L)[i]? = some i:=by
  intro L i hi
  obtain ⟨_,l2,h4⟩:=kY L _ h1
  rw [h4,h2,qZ4,qQu (by rw [List.length_range,h.mem.np]; exact hi),qZy (by rw [h.mem.np]; exact hi)]
 have k2 : ∀ L : List Nat,X.np ≤ (dedup (dedup (List.range st.np) (st.sl.flatMap SV.af)) L).length:=by
  intro L
  obtain ⟨_,l2,h4⟩:=kY L _ h1
  rw [h4,h2,qQ6,qQ6,List.length_range,h.mem.np]; omega
 exact ⟨_,h.DB (kY _ _ h1).1 (k1 _) (k2 _)⟩
theorem xJ : ∀ {l : List SV} {live : List Nat} {i0 i : Nat} {x : SV},(gT live l i0)[i]? = some x → x = .no ∨ l[i]? = some x
 | [],live,i0,i,x,h=>by simp [gT] at h
 | y :: l,live,i0,0,x,h=>by
  simp only [gT,List.getElem?_cons_zero,qZo] at h
  subst h
  split
  ·exact .inr rfl
  ·exact .inl rfl
 | y :: l,live,i0,i + 1,x,h=>by
  simp only [gT,qY1] at h
  exact (xJ h).imp id fun h=>by simpa using h
theorem xK : ∀ (l : List SV) (live : List Nat) (i0 : Nat),(gT live l i0).length = l.length
 | [],_,_=>rfl
 | y :: l,live,i0=>by simp [gT,xK l]
theorem Rel.live (h : Rel X own0 w0 st a w g) (live : List Nat) : Rel X own0 w0 ⟨gT live st.sl 0,st.rt,st.np⟩ a w g:=by
 refine ⟨⟨h.mem.rt,h.mem.lt,h.mem.ob,h.mem.n0,h.mem.np,h.mem.nl,h.mem.pm,h.mem.pv⟩,by show (gT _ _ _).length ≤ _; rw [xK]; exact h.sz,fun i sv hi=>?_,h.df,h.fr⟩
 rcases xJ hi with rfl | hi
 ·trivial
 ·exact h.sl i sv hi
theorem Rel.gL : ∀ (is : List Nat) {st : St} {g : Gh},Rel X own0 w0 st a w g → ∃ g',Rel X own0 w0 (gL st is) a w g'
 | [],st,g,h=>⟨g,h⟩
 | i :: is,st,g,h=>by
  unfold Eng.gL
  split
  ·rename_i r _ _
   split
   ·rename_i aO
    obtain ⟨g',h1,_⟩:=h.freeze r aO
    exact Rel.gL is h1
   ·exact Rel.gL is h
  ·exact Rel.gL is h
theorem DZ {b : Nat} {vs : Array Value} {t : TypeId} (h : w.heap[b]? = some (.cells vs t (0,0))) : w.setRow b vs = w:=by
 have e : (w.setRow b vs).heap = w.heap:=by
  apply Array.ext_getElem?
  intro i
  by_cases hi : i = b
  ·subst hi
   rw [h]
   exact setRow_heap w i vs vs t (0,0) h
  ·exact setRow_other w b i vs hi
 unfold World.setRow at e ⊢
 simp only at e
 rw [e]
theorem Rel.fw : ∀ (is : List (Nat × Nat × TypeId)) {st : St} {g : Gh},Rel X own0 w0 st a w g → ∃ g',Rel X own0 w0 (fw st is) a w g'
 | [],st,g,h=>⟨g,h⟩
 | (t,o,e) :: is,st,g,h=>by
  unfold Eng.fw
  split
  ·rename_i r _
   split
   ·rename_i ty cs hr
    split
    ·rename_i hn
     have h1:=h.oU e
     have iF : (st.add (.row e true [])).rt[r]? = some (.box ty cs):=by rw [jX _ _ _ (aA hr)]; exact hr
     obtain ⟨vs,k1,k2,k3⟩:=h1.mem.rt r _ iF
     have hv : vs.toList[o]? = some (.slice none 0 0):=by
      obtain ⟨v,q1,q2⟩:=k3.get hn
      rw [q1]; exact qQq some q2
     have hs : vs.toList.set o (.slice none 0 0) = vs.toList:=by
      apply qZm
      intro i
      rw [qQ9]
      split
      ·rename_i hi; subst hi
       rw [if_pos (aA hv),hv]
      ·rfl
     have h2:=h1.yP iF (cs':=cs.set o (.al st.rt.length [] e)) (vs':=vs) (by
      rw [← hs]
      exact k3.set ((rn (X:=X) (w:=w) (g:=g) (st:=st) (e:=e)).cl (by intro hh; cases hh)))
     rw [DZ k1] at h2
     exact Rel.fw is h2
    ·exact Rel.fw is h
   ·exact Rel.fw is h
  ·exact Rel.fw is h
theorem Rel.clean (h : Rel X own0 w0 st a w g) (hint : Option kQ) : ∃ g',Rel X own0 w0 (st.clean hint) a w g':=by
 cases hint with
 | none=>exact ⟨g,h⟩
 | some hh =>
  obtain ⟨g1,h1⟩:=h.gL hh.bR
  obtain ⟨g2,h2⟩:=h1.fw hh.xX
  exact (h2.live hh.live).qI
def Left (rt : List aa) : Option Nat → aa → Prop
 | some r,x=>(∃ e d ys,x = .row e d ys) ∧ rt[r]? = some x
 | none,x=>∃ e d,x = .row e d []
def eB (rt : List aa) : List (Option Nat) → List aa → Prop
 | [],[]=>True
 | r :: rs,x :: xs=>Left rt r x ∧ eB rt rs xs
 | _,_=>False
theorem eB.append {rt : List aa} : ∀ {rs : List (Option Nat)} {xs : List aa} {gA : List (Option Nat)} {cd : List aa},eB rt rs xs → eB rt gA cd → eB rt (rs ++ gA) (xs ++ cd)
 | [],[],_,_,_,h=>h
 | r :: rs,x :: xs,_,_,h,h'=>⟨h.1,eB.append h.2 h'⟩
 | [],_ :: _,_,_,h,_=>h.elim
 | _ :: _,[],_,_,h,_=>h.elim
theorem eB.length {rt : List aa} : ∀ {rs : List (Option Nat)} {xs : List aa},eB rt rs xs → rs.length = xs.length
 | [],[],_=>rfl
 | r :: rs,x :: xs,h=>by simp [eB.length h.2]
 | [],_ :: _,h=>h.elim
 | _ :: _,[],h=>h.elim
theorem eB.get {rt : List aa} : ∀ {rs : List (Option Nat)} {xs : List aa},eB rt rs xs → ∀ {k : Nat} {x : aa},xs[k]? = some x → ∃ r,rs[k]? = some r ∧ Left rt r x
 | [],[],_,k,x,h=>by simp at h
 | r :: rs,y :: ys,h,0,x,hx=>by simp at hx; subst hx; exact ⟨r,rfl,h.1⟩
 | r :: rs,y :: ys,h,k + 1,x,hx=>by
  obtain ⟨s,h1,h2⟩:=eB.get h.2 (k:=k) (x:=x) (by simpa using hx)
  exact ⟨s,by simpa using h1,h2⟩
 | [],_ :: _,h,_,_,_=>h.elim
 | _ :: _,[],h,_,_,_=>h.elim
def fx (s : Nat) : List (Option Nat) → Nat → Option Nat
 | [],_=>none
 | some r :: rs,i=>if r = s then some i else fx s rs (i + 1)
 | none :: rs,i=>fx s rs (i + 1)
theorem uD : ∀ {rs : List (Option Nat)} {s i k : Nat},(rs.filterMap id).Nodup → rs[k]? = some (some s) → fx s rs i = some (i + k)
 | [],s,i,k,_,h=>by simp at h
 | none :: rs,s,i,0,_,h=>by simp at h
 | some r :: rs,s,i,0,_,h=>by simp at h; subst h; simp [fx]
 | none :: rs,s,i,k + 1,hn,h=>by
  have h1 : rs[k]? = some (some s):=by simpa using h
  rw [fx,uD (by simpa using hn) h1]; congr 1; omega
 | some r :: rs,s,i,k + 1,hn,h=>by
  have h1 : rs[k]? = some (some s):=by simpa using h
  simp only [List.filterMap_cons_some (show id (some r) = some r from rfl)] at hn
  have ca:=qYd.1 hn
  have aW : ¬ r = s:=by
   rintro rfl
   exact ca.1 (qZs.2 ⟨some r,qQz h1,rfl⟩)
  rw [fx,if_neg aW,uD ca.2 h1]; congr 1; omega
theorem uE : ∀ {rs : List (Option Nat)} {s i k : Nat},fx s rs i = some k → i ≤ k ∧ rs[k - i]? = some (some s)
 | [],s,i,k,h=>by cases h
 | none :: rs,s,i,k,h=>by
  rw [fx] at h
  obtain ⟨h1,h2⟩:=uE h
  obtain ⟨d,rfl⟩ : ∃ d,k = i + 1 + d:=⟨k - (i + 1),by omega⟩
  rw [show i + 1 + d - (i + 1) = d from by omega] at h2
  exact ⟨by omega,by rw [show i + 1 + d - i = d + 1 from by omega]; simpa using h2⟩
 | some r :: rs,s,i,k,h=>by
  rw [fx] at h
  split at h
  ·rename_i hr; subst hr; cases h; exact ⟨qQb _,by simp⟩
  ·obtain ⟨h1,h2⟩:=uE h
   obtain ⟨d,rfl⟩ : ∃ d,k = i + 1 + d:=⟨k - (i + 1),by omega⟩
   rw [show i + 1 + d - (i + 1) = d from by omega] at h2
   exact ⟨by omega,by rw [show i + 1 + d - i = d + 1 from by omega]; simpa using h2⟩
def Gh.out (g : Gh) (np : Nat) (rs : List (Option Nat)) : Gh :=
 ⟨fun x=>(g.own x).bind fun s=>if s < np then some s else fx s rs np,fun k=>if k < np then g.v k else match rs[k - np]? with | some (some r)=>g.v r | _=>.slice none 0 0,g.b⟩
theorem Rel.out (h : Rel X own0 w0 st a w g) {rs : List (Option Nat)} {xs ms : List aa} (hl : eB st.rt rs xs) (hn : (rs.filterMap id).Nodup) (aO : ∀ r,some r ∈ rs → X.np ≤ r) (lC : ms.length = X.np) (hm : ∀ (i : Nat) x,ms[i]? = some x → st.rt[i]? = some x ∧ ∃ e d ys,x = .row e d ys) :
  Mem X ⟨[],ms ++ xs,X.np⟩ w (g.out X.np rs) ∧ Fr own0 w0 w (g.out X.np rs) ∧ (∀ b,g.own b = none → (g.out X.np rs).own b = none) ∧ (∀ (k r : Nat),rs[k]? = some (some r) → (g.out X.np rs).v (X.np + k) = g.v r) ∧ (∀ (k : Nat),rs[k]? = some none → (g.out X.np rs).v (X.np + k) = .slice none 0 0):=by
 have dC : ∀ b,g.own b = none → (g.out X.np rs).own b = none:=fun b hb=>by show (g.own b).bind _ = none; rw [hb]; rfl
 have bn : ∀ b,aq X w g b → aq X w (g.out X.np rs) b:=fun b hb=>⟨dC b hb.1,hb.2⟩
 have kv : ∀ (k r : Nat),rs[k]? = some (some r) → (g.out X.np rs).v (X.np + k) = g.v r:=fun k r hk=>by
  show (if X.np + k < X.np then _ else match rs[X.np + k - X.np]? with | some (some r)=>g.v r | _=>_) = _
  rw [if_neg (by omega),show X.np + k - X.np = k from by omega,hk]
 have dQ : ∀ (k : Nat),rs[k]? = some none → (g.out X.np rs).v (X.np + k) = .slice none 0 0:=fun k hk=>by
  show (if X.np + k < X.np then _ else match rs[X.np + k - X.np]? with | some (some r)=>g.v r | _=>_) = _
  rw [if_neg (by omega),show X.np + k - X.np = k from by omega,hk]
 have tS : ∀ k,k < X.np → (g.out X.np rs).v k = g.v k:=fun k hk=>if_pos hk
 have nM : ∀ {b k},(g.out X.np rs).own b = some k → ∃ s,g.own b = some s ∧ ((s < X.np ∧ k = s) ∨ (X.np ≤ s ∧ fx s rs X.np = some k)):=by
  intro b k hk
  obtain ⟨s,h1,h2⟩:=qZi.1 hk
  refine ⟨s,h1,?_⟩
  split at h2
  ·rename_i hs; cases h2; exact .inl ⟨hs,rfl⟩
  ·rename_i hs; exact .inr ⟨by omega,h2⟩
 refine ⟨⟨fun k y hy=>?_,fun b hb=>?_,fun b k hk=>?_,h.mem.n0,rfl,by show X.np ≤ (ms ++ xs).length; rw [qQ6]; omega,fun b k hk=>?_,fun k hk=>?_⟩,⟨h.fr.os,h.fr.tape,h.fr.output,h.fr.size,fun b hb ho=>?_⟩,dC,kv,dQ⟩
 ·have hy : (ms ++ xs)[k]? = some y:=hy
  by_cases hk : k < X.np
  ·rw [qQu (by omega)] at hy
   obtain ⟨h1,e,d,ys,rfl⟩:=hm k y hy
   have h2:=h.mem.rt k _ h1
   have hF : ∀ b,g.own b = some k → (g.out X.np rs).own b = some k:=fun b hb=>by show (g.own b).bind _ = _; rw [hb]; exact if_pos hk
   cases d with
   | true =>
    show ak _ _ _ _ _ ((g.out X.np rs).v k)
    rw [tS k hk]
    exact ak.mono (h:=h2) hF
   | false =>
    show aZ _ _ _ _ _ _ ((g.out X.np rs).v k)
    rw [tS k hk]
    exact aZ.imp h2 (fun b hb=>⟨hF b hb,rfl⟩) (fun b hb=>⟨bn b hb,rfl⟩)
  ·rw [qQx (by omega),lC] at hy
   obtain ⟨r,h1,h2⟩:=hl.get hy
   obtain ⟨d0,rfl⟩ : ∃ d,k = X.np + d:=⟨k - X.np,by omega⟩
   rw [show X.np + d0 - X.np = d0 from by omega] at h1
   cases r with
   | none =>
    obtain ⟨e,d,rfl⟩:=h2
    cases d with
    | true =>
     show ak _ _ _ _ _ ((g.out X.np rs).v _)
     rw [dQ d0 h1]; exact ak.nil e
    | false =>
     show aZ _ _ _ _ _ _ ((g.out X.np rs).v _)
     rw [dQ d0 h1]
     exact ⟨[],fun _ _=>undef,.of (World.ownsRow_nil w 0 e _),fun b hb=>by simp [oB] at hb,fun i j x hx=>by simp at hx,fun i x hx=>by simp at hx,fun i j x u ct hx=>by simp at hx⟩
   | some r =>
    obtain ⟨⟨e,d,ys,rfl⟩,h3⟩:=h2
    have h4:=h.mem.rt r _ h3
    have hr:=aO r (qQz h1)
    have hF : ∀ b,g.own b = some r → (g.out X.np rs).own b = some (X.np + d0):=fun b hb=>by
     show (g.own b).bind _ = _
     rw [hb]
     show (if r < X.np then some r else fx r rs X.np) = _
     rw [if_neg (by omega),uD hn h1]
    cases d with
    | true =>
     show ak _ _ _ _ _ ((g.out X.np rs).v _)
     rw [kv d0 r h1]
     exact ak.mono (h:=h4) hF
    | false =>
     show aZ _ _ _ _ _ _ ((g.out X.np rs).v _)
     rw [kv d0 r h1]
     exact aZ.imp h4 (fun b hb=>⟨hF b hb,rfl⟩) (fun b hb=>⟨bn b hb,rfl⟩)
 ·exact h.mem.lt b fun iD=>hb (dC b iD)
 ·obtain ⟨s,h1,h2⟩:=nM hk
  show k < (ms ++ xs).length
  rw [qQ6,lC,← hl.length]
  rcases h2 with ⟨h3,rfl⟩ | ⟨h3,h4⟩
  ·omega
  ·obtain ⟨h5,h6⟩:=uE h4
   have:=aA h6
   omega
 ·obtain ⟨s,h1,h2⟩:=nM hk
  rcases h.mem.pm b s h1 with hh | hh
  ·exact .inl hh
  ·rcases h2 with ⟨h3,rfl⟩ | ⟨h3,h4⟩
   ·exact .inr hh
   ·omega
 ·rw [tS k hk]; exact h.mem.pv k hk
 ·obtain ⟨e1,e2⟩:=h.fr.block b hb ho
  exact ⟨dC b e1,e2⟩
end
section
variable {P : Program} {X : Ctx} {own0 : Nat → Option Nat} {w0 : World} {st : St} {a : Act} {w w' : World} {g g' : Gh} {R : Type}
structure jW (X : Ctx) (st : St) (w : World) (g : Gh) (md : RM) (vs : List Value) (rs : List (Option Nat)) (n : Nat) (z : List Cl × List aa) : Prop where
 left : eB st.rt rs z.2
 np : ∀ r,some r ∈ rs → X.np ≤ r
 cls : ∀ (rt' : List aa) (g' : Gh),(∀ b,aq X w g b → aq X w g' b) → (md = .ro → ∀ b s,g.own b = some s → X.np ≤ s → aq X w g' b) → (∀ (k r : Nat),rs[k]? = some (some r) → g'.v (n + k) = g.v r) →
  (∀ (k : Nat),rs[k]? = some none → g'.v (n + k) = .slice none 0 0) → (∀ (k : Nat) x,z.2[k]? = some x → rt'[n + k]? = some x) → aw X w rt' g' z.1 vs
theorem jW.kW {md : RM} {vs : List Value} {rs : List (Option Nat)} {n : Nat} {z : List Cl × List aa} (h : jW X st w g md vs rs n z) {c : Cl} {v : Value} (hc : ∀ (rt' : List aa) (g' : Gh),(∀ b,aq X w g b → aq X w g' b) → (md = .ro → ∀ b s,g.own b = some s → X.np ≤ s → aq X w g' b) → aF X w rt' g' c v) :
  jW X st w g md (v :: vs) rs n (c :: z.1,z.2) :=
 ⟨h.left,h.np,fun rt' g' h1 h2 h3 h4 h5=>⟨hc rt' g' h1 h2,h.cls rt' g' h1 h2 h3 h4 h5⟩⟩
theorem jW.pn {md : RM} {vs : List Value} {rs : List (Option Nat)} {n : Nat} {z : List Cl × List aa} (h : jW X st w g md vs rs (n + 1) z) {r : Option Nat} {e : TypeId} {d : Bool} {ys : List (List U)} {v : Value} (hl : Left st.rt r (.row e d ys)) (aO : ∀ s,r = some s → X.np ≤ s)
  (hv : ∀ g' : Gh,(∀ s,r = some s → g'.v n = g.v s) → (r = none → g'.v n = .slice none 0 0) → v = g'.v n) : jW X st w g md (v :: vs) (r :: rs) n (.al n [] e :: z.1,.row e d ys :: z.2):=by
 refine ⟨⟨hl,h.left⟩,fun s hs=>?_,fun rt' g' h1 h2 h3 h4 h5=>⟨?_,h.cls rt' g' h1 h2 (fun k s hk=>?_) (fun k hk=>?_) (fun k x hk=>?_)⟩⟩
 ·rcases qQn.1 hs with hs | hs
  ·exact aO s hs.symm
  ·exact h.np s hs
 ·have aB:=h5 0 _ rfl
  rw [qQ5] at aB
  refine ⟨e,d,ys,aB,.inl rfl,?_⟩
  have:=hv g' (fun s hs=>by have:=h3 0 s (by rw [hs]; rfl); rwa [qQ5] at this) (fun hs=>by have:=h4 0 (by rw [hs]; rfl); rwa [qQ5] at this)
  rw [this]; exact .nil _ _ _
 ·have:=h3 (k + 1) s (by simpa using hk)
  rwa [show n + (k + 1) = n + 1 + k from by omega] at this
 ·have:=h4 (k + 1) (by simpa using hk)
  rwa [show n + (k + 1) = n + 1 + k from by omega] at this
 ·have:=h5 (k + 1) x (by simpa using hk)
  rwa [show n + (k + 1) = n + 1 + k from by omega] at this
theorem gx (h : Rel X own0 w0 st a w g) {md : RM} : ∀ {ab : List CT} {cls : List Cl} {vs : List Value} {us : List U} {rs : List (Option Nat)},fv st.rt md X.np ab cls = some (us,rs) → aw X w st.rt g cls vs →
  ∀ (all : List U) (i n : Nat),(∀ (k : Nat) u,us[k]? = some u → all[i + k]? = some u) → jW X st w g md vs rs n (aI md ab all i n)
 | [],[],[],us,rs,hq,_,all,i,n,_=>by
  cases hq
  exact ⟨trivial,fun r hr=>by simp at hr,fun _ _ _ _ _ _ _=>trivial⟩
 | .aj e :: ts,x :: xs,v :: vs,us,rs,hq,hc,all,i,n,bO=>by
  have hd : ∀ {y : List U × List (Option Nat)} {u : U},us = u :: y.1 → all.getD i U0 = u ∧ ∀ (k : Nat) u',y.1[k]? = some u' → all[i + 1 + k]? = some u':=by
   rintro y u rfl
   refine ⟨cr (by have:=bO 0 u rfl; rwa [qQ5] at this),fun k u' hk=>?_⟩
   have:=bO (k + 1) u' (by simpa using hk)
   rwa [show i + (k + 1) = i + 1 + k from by omega] at this
  unfold fv at hq
  cases x with
  | nil =>
   simp only at hq
   obtain ⟨y,h1,h2⟩:=qQf.1 hq
   obtain ⟨h3,h4⟩:=qQv h2
   obtain ⟨h5,h6⟩:=hd h3.symm
   have hv : v = .slice none 0 0:=hc.1
   cases md with
   | ro =>
    simp only [if_true] at h4
    subst h4
    refine (gx h h1 hc.2 all (i + 1) n h6).kW fun rt' g' _ _=>?_
    rw [h5,hv]; exact aE.nil e 0 none
   | own =>
    simp only [reduceCtorEq,qZe] at h4
    subst h4
    unfold aI
    simp only [h5,U.oI]
    exact (gx h h1 hc.2 all (i + 1) (n + 1) h6).pn (r:=none) ⟨e,_,rfl⟩ (fun s hs=>by cases hs) (fun g' _ h8=>by rw [h8 rfl,hv])
   | _ =>
    simp only [reduceCtorEq,qZe] at h4
    subst h4
    unfold aI
    simp only [h5,U.oI]
    exact (gx h h1 hc.2 all (i + 1) (n + 1) h6).pn (r:=none) ⟨e,_,rfl⟩ (fun s hs=>by cases hs) (fun g' _ h8=>by rw [h8 rfl,hv])
  | rd e' ys =>
   simp only at hq
   split at hq
   ·rename_i hh
    obtain ⟨rfl,rfl⟩:=hh
    obtain ⟨y,h1,h2⟩:=qQf.1 hq
    obtain ⟨h3,h4⟩:=qQv h2
    obtain ⟨h5,h6⟩:=hd h3.symm
    subst h4
    refine (gx h h1 hc.2 all (i + 1) n h6).kW fun rt' g' bn _=>?_
    rw [h5]
    exact aE.imp hc.1 fun b hb=>⟨bn b hb,rfl⟩
   ·cases hq
  | al r p e' =>
   simp only at hq
   split at hq
   ·rename_i e0 deep ys hr
    split at hq
    ·rename_i hh
     obtain ⟨rfl,aO⟩:=hh
     split at hq
     ·rename_i td
      subst td
      obtain ⟨y,h1,h2⟩:=qQf.1 hq
      obtain ⟨h3,h4⟩:=qQv h2
      obtain ⟨h5,h6⟩:=hd h3.symm
      subst h4
      refine (gx h h1 hc.2 all (i + 1) n h6).kW fun rt' g' bn dj=>?_
      rw [h5]
      obtain ⟨e1,d1,zs,q1,q2⟩:=aF.fY h.mem hc.1
      obtain ⟨rfl,rfl,rfl⟩ : e0 = e1 ∧ deep = d1 ∧ ys = zs:=by rw [hr] at q1; cases q1; exact ⟨rfl,rfl,rfl⟩
      exact q2 _ (fun b hb=>dj rfl b r hb aO) bn
     ·rename_i td
      split at hq
      ·rename_i hh
       obtain ⟨rfl,rfl,sL⟩:=hh
       obtain ⟨y,h1,h2⟩:=qQf.1 hq
       obtain ⟨h3,h4⟩:=qQv h2
       obtain ⟨h5,h6⟩:=hd h3.symm
       subst h4
       have hv : v = g.v r:=by
        obtain ⟨e1,d1,zs,q1,q2,q3⟩:=hc.1
        exact q3.bX.2.2
       cases md with
       | ro=>exact absurd rfl td
       | own =>
        unfold aI
        simp only [h5,U.oI]
        exact (gx h h1 hc.2 all (i + 1) (n + 1) h6).pn (r:=some r) ⟨⟨_,_,_,rfl⟩,by rw [hr,sL]; simp⟩ (fun s hs=>by cases hs; exact aO) (fun g' h8 _=>by rw [h8 r rfl,hv])
       | _ =>
        unfold aI
        simp only [h5,U.oI]
        exact (gx h h1 hc.2 all (i + 1) (n + 1) h6).pn (r:=some r) ⟨⟨_,_,_,rfl⟩,by rw [hr,sL]⟩ (fun s hs=>by cases hs; exact aO) (fun g' h8 _=>by rw [h8 r rfl,hv])
      ·cases hq
    ·cases hq
   ·cases hq
  | _=>cases hq
 | [],_ :: _,_,_,_,hq,_,_,_,_,_=>by simp [fv] at hq
 | _ :: _,[],_,_,_,hq,_,_,_,_,_=>by simp [fv] at hq
 | _,_ :: _,[],_,_,_,hc,_,_,_,_=>hc.elim
 | [],[],_ :: _,_,_,_,hc,_,_,_,_=>hc.elim
 | .int k :: ts,x :: xs,v :: vs,us,rs,hq,hc,all,i,n,bO=>by
  unfold fv at hq
  split at hq
  ·rename_i hm
   obtain ⟨y,h1,h2⟩:=qQf.1 hq
   obtain ⟨h3,h4⟩:=qQv h2
   subst h4
   have h5 : all.getD i U0 = gI st.rt x:=cr (by have:=bO 0 (gI st.rt x) (by rw [← h3]; rfl); rwa [qQ5] at this)
   have h6 : ∀ (k : Nat) u',y.1[k]? = some u' → all[i + 1 + k]? = some u':=fun k u' hk=>by
    have:=bO (k + 1) u' (by rw [← h3]; simpa using hk)
    rwa [show i + (k + 1) = i + 1 + k from by omega] at this
   refine (gx h h1 hc.2 all (i + 1) n h6).kW fun rt' g' _ _=>?_
   rw [h5]
   have hx:=hc.1
   cases x <;> simp [gd,CT.bU] at hm
   subst hm; exact hx
  ·cases hq
 | .bool :: ts,x :: xs,v :: vs,us,rs,hq,hc,all,i,n,bO=>by
  unfold fv at hq
  split at hq
  ·rename_i hm
   obtain ⟨y,h1,h2⟩:=qQf.1 hq
   obtain ⟨h3,h4⟩:=qQv h2
   subst h4
   have h5 : all.getD i U0 = gI st.rt x:=cr (by have:=bO 0 (gI st.rt x) (by rw [← h3]; rfl); rwa [qQ5] at this)
   have h6 : ∀ (k : Nat) u',y.1[k]? = some u' → all[i + 1 + k]? = some u':=fun k u' hk=>by
    have:=bO (k + 1) u' (by rw [← h3]; simpa using hk)
    rwa [show i + (k + 1) = i + 1 + k from by omega] at this
   refine (gx h h1 hc.2 all (i + 1) n h6).kW fun rt' g' _ _=>?_
   rw [h5]
   have hx:=hc.1
   cases x <;> simp [gd,CT.bU] at hm
   exact hx
  ·cases hq
 | .str :: ts,x :: xs,v :: vs,us,rs,hq,hc,all,i,n,bO=>by
  unfold fv at hq
  split at hq
  ·rename_i hm
   obtain ⟨y,h1,h2⟩:=qQf.1 hq
   obtain ⟨h3,h4⟩:=qQv h2
   subst h4
   have h5 : all.getD i U0 = gI st.rt x:=cr (by have:=bO 0 (gI st.rt x) (by rw [← h3]; rfl); rwa [qQ5] at this)
   have h6 : ∀ (k : Nat) u',y.1[k]? = some u' → all[i + 1 + k]? = some u':=fun k u' hk=>by
    have:=bO (k + 1) u' (by rw [← h3]; simpa using hk)
    rwa [show i + (k + 1) = i + 1 + k from by omega] at this
   refine (gx h h1 hc.2 all (i + 1) n h6).kW fun rt' g' _ _=>?_
   rw [h5]
   have hx:=hc.1
   cases x <;> simp [gd,CT.bU] at hm
   exact hx
  ·cases hq
def kM (tmps : Array Value) : ResultVar → Sem Value
 | .tmp t=>pure (tmps.getD t undef)
 | .cell x t=>do loadVar t (← asAddr (tmps.getD x undef))
theorem DI (hT : aX P X.T) (h : Rel X own0 w0 st a w g) {t : TypeId} {rv : ResultVar} {cs : List Cl} (hq : qJ X.T st t rv = some cs) :
  ∃ v,(kM a.tmps rv).run P w = .ok v w ∧ ((X.T.agg t = true ∧ ∃ vs : Array Value,v = .agg vs ∧ aw X w st.rt g cs vs.toList) ∨ (X.T.agg t = false ∧ aw X w st.rt g cs [v])):=by
 have bD : ∀ x,ay X w st.rt g (st.sl.getD x .no) (a.tmps.getD x undef):=fun x=>ba h (.tmp x)
 cases rv with
 | tmp x =>
  refine ⟨_,rfl,?_⟩
  have hx:=bD x
  simp only [qJ] at hq
  generalize st.sl.getD x .no = sv at hx hq
  cases sv with
  | c c =>
   cases ha : X.T.agg t with
   | true=>rw [ha] at hq; cases c <;> cases hq
   | false =>
    rw [ha] at hq
    refine .inr ⟨rfl,?_⟩
    cases c <;> cases hq <;> exact ⟨hx,trivial⟩
  | ag xs =>
   cases ha : X.T.agg t with
   | false=>rw [ha] at hq; cases hq
   | true =>
    rw [ha] at hq
    cases hq
    obtain ⟨vs,h1,h2⟩:=hx
    exact .inl ⟨rfl,vs,h1,h2⟩
  | _=>cases hq
 | cell x t' =>
  have hx:=bD x
  simp only [qJ] at hq
  generalize st.sl.getD x .no = sv at hx hq
  split at hq <;> try (cases hq; done)
  rename_i r
  split at hq <;> try (cases hq; done)
  rename_i t2 rR hr
  split at hq
  ·rename_i hh
   obtain ⟨rfl,ht,hl⟩:=hh
   cases hq
   obtain ⟨vs,h1,h2,h3⟩:=h.mem.rt r _ hr
   have h4:=oA (w:=w) hT ht (b:=g.b r) (o:=0) (cs:=vs.toList) (by rw [← h3.length]; exact hl) (fun j v hv=>by rw [qQy,nv h1]; simpa using hv)
   refine ⟨dm (X.T.agg t') vs.toList,?_,?_⟩
   ·have h5 : (loadVar t' ⟨g.b r,0,none⟩).run P w = .ok (dm (X.T.agg t') vs.toList) w:=by
     simpa [Instr.loadAt,Instr.sureAddr] using h4
    simp [kM,hx.1,asAddr,h5]
   ·cases ha : X.T.agg t' with
    | true=>exact .inl ⟨rfl,vs,by simp [dm],h3⟩
    | false =>
     have h6:=my hT ht ha
     rw [h6] at hl
     have h7:=h3.length
     rw [hl] at h7
     refine .inr ⟨rfl,?_⟩
     match hv : vs.toList,h7 with
     | [v],_=>rw [hv] at h3; simpa [dm] using h3
  ·cases hq
structure zr (X : Ctx) (st : St) (w : World) (g : Gh) (ro : Prop) (vs : List Value) (rs : List (Option Nat)) (n : Nat) (z : List (Bool × List Cl) × List aa) : Prop where
 left : eB st.rt rs z.2
 np : ∀ r,some r ∈ rs → X.np ≤ r
 bf : ∀ (rt' : List aa) (g' : Gh),(∀ b,aq X w g b → aq X w g' b) → (ro → ∀ b s,g.own b = some s → X.np ≤ s → aq X w g' b) → (∀ (k r : Nat),rs[k]? = some (some r) → g'.v (n + k) = g.v r) →
  (∀ (k : Nat),rs[k]? = some none → g'.v (n + k) = .slice none 0 0) → (∀ (k : Nat) x,z.2[k]? = some x → rt'[n + k]? = some x) → bm X w rt' g' z.1 vs
theorem yy (md : RM) : ∀ (ab : List CT) (us : List U) (i n : Nat),(aI md ab us i n).1.length = ab.length
 | [],us,i,n=>rfl
 | c :: ts,us,i,n=>by
  cases c <;> cases md <;> simp [aI,yy]
theorem yl (hT : aX P X.T) (h : Rel X own0 w0 st a w g) : ∀ {aS : List RM} {ts : List TypeId} {jT : List ResultVar} {res : List (List U)} {rs : List (Option Nat)},kH X.T st X.np aS ts jT = some (res,rs) → (∀ t ∈ ts,(X.T.row t).d.known = true) →
  ∃ vs : List Value,(jT.mapM (kM a.tmps)).run P w = .ok vs w ∧ vs.length = ts.length ∧ ∀ (all : List (List U)) (i n : Nat),(∀ (k : Nat) u,res[k]? = some u → all[i + k]? = some u) → zr X st w g (.ro ∈ aS) vs rs n (results1 X.T aS ts all i n)
 | aS,[],[],res,rs,hq,_=>by
  have hq : some ([],[]) = some (res,rs):=by
   unfold kH at hq; exact hq
  cases hq
  refine ⟨[],rfl,rfl,fun all i n _=>?_⟩
  have : results1 X.T aS [] all i n = ([],[]):=by unfold results1; rfl
  rw [this]
  exact ⟨trivial,fun r hr=>by simp at hr,fun _ _ _ _ _ _ _=>trivial⟩
 | aS,t :: ts,rv :: jT,res,rs,hq,hk=>by
  unfold kH at hq
  split at hq
  ·cases hq
  rename_i aO
  have BM : ∀ us n,ej X.T (aS.headD .own) t us n = aI (aS.headD .own) (X.T.ct t) us 0 n:=fun us n=>by
   unfold ej
   split
   ·rename_i e he; rw [he] at aO; exact absurd rfl aO
   ·rfl
  split at hq
  ·rename_i cs bG
   split at hq
   ·rename_i y z hy hz
    obtain ⟨us,ra⟩:=y
    obtain ⟨DC,rb⟩:=z
    obtain ⟨dM,lf⟩:=qQv (qQc hq)
    dsimp only at dM lf
    subst dM lf
    obtain ⟨v,h1,h2⟩:=DI (P:=P) hT h bG
    obtain ⟨vs,h3,h4,h5⟩:=yl hT h hz fun t' tP=>hk t' (by simp [tP])
    refine ⟨v :: vs,by simp [h1,h3],by simp [h4],fun all i n bO=>?_⟩
    have hu : all.getD i [] = us:=cr (by have:=bO 0 us rfl; rwa [qQ5] at this)
    have AY : ∀ (k : Nat) u,DC[k]? = some u → all[i + 1 + k]? = some u:=fun k u hk=>by
     have:=bO (k + 1) u (by simpa using hk)
     rwa [show i + (k + 1) = i + 1 + k from by omega] at this
    
    have Be : ∃ vl : List Value,aw X w st.rt g cs vl ∧ (X.T.agg t = true → ∃ va : Array Value,v = .agg va ∧ va.toList = vl) ∧ (X.T.agg t = false → vl = [v]):=by
     rcases h2 with ⟨ha,va,rfl,hc⟩ | ⟨ha,hc⟩
     ·exact ⟨va.toList,hc,fun _=>⟨va,rfl,rfl⟩,fun hf=>(by rw [ha] at hf; cases hf)⟩
     ·exact ⟨[v],hc,fun hf=>(by rw [ha] at hf; cases hf),fun _=>rfl⟩
    obtain ⟨vl,hc,AW,lH⟩:=Be
    have hA:=gx h hy hc us 0 n (fun k u hk=>by rw [qQy]; exact hk)
    have hlen:=hA.left.length
    have hB:=h5 all (i + 1) (n + (aI (aS.headD .own) (X.T.ct t) us 0 n).2.length) AY
    have e1 : results1 X.T aS (t :: ts) all i n = ((X.T.agg t,(aI (aS.headD .own) (X.T.ct t) us 0 n).1) :: (results1 X.T aS.tail ts all (i + 1) (n + (aI (aS.headD .own) (X.T.ct t) us 0 n).2.length)).1,
      (aI (aS.headD .own) (X.T.ct t) us 0 n).2 ++ (results1 X.T aS.tail ts all (i + 1) (n + (aI (aS.headD .own) (X.T.ct t) us 0 n).2.length)).2):=by
     conv=>lhs; unfold results1
     rw [hu,BM]
    rw [e1]
    refine ⟨hA.left.append hB.left,fun r hr=>?_,fun rt' g' q1 q2 q3 q4 q5=>?_⟩
    ·rcases qZg.1 hr with hr | hr
     ·exact hA.np r hr
     ·exact hB.np r hr
    ·have tF : aS.headD .own = .ro → RM.ro ∈ aS:=fun he=>by
      cases aS with
      | nil=>cases he
      | cons m ms=>simp at he; simp [he]
     have tG : RM.ro ∈ aS.tail → RM.ro ∈ aS:=fun he=>qXl he
     have c1:=hA.cls rt' g' q1 (fun he=>q2 (tF he)) (fun k r hk=>q3 k r (by rw [qQu (aA hk)]; exact hk)) (fun k hk=>q4 k (by rw [qQu (aA hk)]; exact hk)) (fun k x hk=>q5 k x (by rw [qQu (aA hk)]; exact hk))
     have c2:=hB.bf rt' g' q1 (fun he=>q2 (tG he)) (fun k r hk=>by
       have:=q3 ((aI (aS.headD .own) (X.T.ct t) us 0 n).2.length + k) r (by rw [← hlen,qQx (by omega)]; simpa using hk)
       rwa [← qQ4] at this) (fun k hk=>by
       have:=q4 ((aI (aS.headD .own) (X.T.ct t) us 0 n).2.length + k) (by rw [← hlen,qQx (by omega)]; simpa using hk)
       rwa [← qQ4] at this) (fun k x hk=>by
       have:=q5 ((aI (aS.headD .own) (X.T.ct t) us 0 n).2.length + k) x (by rw [qQx (by omega)]; simpa using hk)
       rwa [← qQ4] at this)
     cases ha : X.T.agg t with
     | true =>
      obtain ⟨va,hv,Cc⟩:=AW ha
      exact ⟨⟨va,hv,by rw [Cc]; exact c1⟩,c2⟩
     | false =>
      rw [lH ha] at c1
      have eK:=yy (aS.headD .own) (X.T.ct t) us 0 n
      have BS : (X.T.ct t).length = 1:=my hT (hk t (by simp)) ha
      rw [BS] at eK
      match hz : (aI (aS.headD .own) (X.T.ct t) us 0 n).1,eK with
      | [c],_=>rw [hz] at c1; exact ⟨c1.1,c2⟩
   ·cases hq
  ·cases hq
 | _,[],_ :: _,_,_,hq,_=>by simp [kH] at hq
 | _,_ :: _,[],_,_,hq,_=>by simp [kH] at hq
end
def dk : List (TypeId × Bool) → List (List (List U)) → List aa
 | [],_=>[]
 | e :: ps,ms=>.row e.1 e.2 (ms.headD []) :: dk ps ms.tail
def rf (X : Ctx) (own0 : Nat → Option Nat) (w0 : World) (sg : jg) (uJ : List TypeId) (ps : List (TypeId × Bool)) (ret : aJ) (v : Value) (w' : World) : Prop :=
 ∃ g',Mem X ⟨[],dk ps ret.ms ++ (results1 X.T sg.rs uJ ret.res 0 X.np).2,X.np⟩ w' g' ∧ Fr own0 w0 w' g' ∧
  ay X w' (dk ps ret.ms ++ (results1 X.T sg.rs uJ ret.res 0 X.np).2) g' (iW sg.rs (results1 X.T sg.rs uJ ret.res 0 X.np).1) v
section
variable {P : Program} {X : Ctx} {own0 : Nat → Option Nat} {w0 : World} {st : St} {a : Act} {w w' : World} {g g' : Gh} {R : Type}
theorem uu {rt : List aa} : ∀ {ps : List (TypeId × Bool)} {i : Nat} {ms : List (List (List U))},ou rt ps i = some ms → (dk ps ms).length = ps.length ∧ ∀ (k : Nat) x,(dk ps ms)[k]? = some x → rt[i + k]? = some x ∧ ∃ e d ys,x = .row e d ys
 | [],i,ms,h=>⟨rfl,fun k x hx=>by simp [dk] at hx⟩
 | (e,d) :: ps,i,ms,h=>by
  unfold ou at h
  split at h
  ·rename_i e' d' xs b hx hb
   split at h
   ·rename_i he; obtain ⟨rfl,rfl⟩:=he
    obtain rfl:=qQc h
    obtain ⟨h1,h2⟩:=uu hb
    refine ⟨by simp [dk,h1],fun k x hk=>?_⟩
    cases k with
    | zero=>simp [dk] at hk; subst hk; exact ⟨by rw [qQ5]; exact hx,_,_,_,rfl⟩
    | succ k =>
     have:=h2 k x (by simpa [dk] using hk)
     rwa [show i + (k + 1) = i + 1 + k from by omega]
   ·cases h
  ·cases h
theorem yM {fn : Func} {tmps : Array Value} {vs : List Value} (h : (fn.results.toList.mapM (kM tmps)).run P w = .ok vs w) : (results fn tmps).run P w = .ok (if h : vs.length = 1 then vs[0] else .tuple vs.toArray) w:=by
 have h1 : (fn.results.mapM (kM tmps)).run P w = .ok vs.toArray w:=by
  rw [Array.mapM_eq_mapM_toList]
  simp [h]
 have h2 : (results fn tmps) = (do let vs ← fn.results.mapM (kM tmps); pure (if h : vs.size = 1 then vs[0] else .tuple vs)):=by
  unfold results
  congr 1
 rw [h2]
 simp [h1]
theorem DF {rt : List aa} {z : List (Bool × List Cl)} {vs : List Value} (h : bm X w rt g z vs) (hz : z.length = vs.length) : ay X w rt g (dx z) (if h : vs.length = 1 then vs[0] else .tuple vs.toArray):=by
 match z,vs,h,hz with
 | [],[],h,_=>exact ⟨#[],rfl,trivial⟩
 | [(true,cs)],[v],h,_=>exact h.1
 | [(false,[c])],[v],h,_=>exact ay.cj h.1
 | [(false,[])],[v],h,_=>trivial
 | [(false,_ :: _ :: _)],[v],h,_=>trivial
 | x :: y :: z,v :: u :: vs,h,_ =>
  have e1 : dx (x :: y :: z) = .bf (x :: y :: z):=by
   obtain ⟨b,cs⟩:=x
   cases b <;> (try rfl) <;> (cases cs with | nil=>rfl | cons c cs=>cases cs <;> rfl)
  rw [e1,dif_neg (by simp)]
  exact ⟨_,rfl,by simpa using h⟩
theorem yB (T : ax) : ∀ (aS : List RM) (ts : List TypeId) (all : List (List U)) (i n : Nat),(results1 T aS ts all i n).1.length = ts.length
 | aS,[],all,i,n=>by unfold results1; rfl
 | aS,t :: ts,all,i,n=>by unfold results1; simp [yB T aS.tail ts]
theorem DJ (hT : aX P X.T) (h : Rel X own0 w0 st a w g) {fn : Func} {sg : jg} {ps : List (TypeId × Bool)} {ret : aJ} (gO : ps.length = X.np) (hk : ef sg.rs = true ∨ ∀ t ∈ fn.resultTypes.toList,(X.T.row t).d.known = true)
  (hq : qL X.T sg fn.resultTypes.toList fn.results.toList ps st = some ret) : ∃ v,(results fn a.tmps).run P w = .ok v w ∧ rf X own0 w0 sg fn.resultTypes.toList ps ret v w:=by
 unfold qL at hq
 split at hq
 ·split at hq <;> try (cases hq; done)
  rename_i e x t gQ tJ bw
  split at hq <;> try (cases hq; done)
  rename_i r e' hx
  split at hq <;> try (cases hq; done)
  rename_i e0 xs ms hr lC
  split at hq <;> try (cases hq; done)
  rename_i hh
  obtain ⟨rfl,rfl,hle⟩:=hh
  obtain rfl:=qQc hq
  have bI : ay X w st.rt g (.po r [] e0 0 0) (a.tmps.getD x undef):=by
   rw [← hx]
   exact ba h (.tmp x)
  obtain ⟨m1,m2⟩:=uu lC
  obtain ⟨q1,q2,q3,q4,q5⟩:=h.out (rs:=[some r]) (xs:=[.row e0 false xs]) ⟨⟨⟨_,_,_,rfl⟩,hr⟩,trivial⟩ (by simp) (fun s hs=>by simp at hs; subst hs; omega) (m1.trans gO) (fun i x hx=>by have:=m2 i x hx; rwa [qQy] at this)
  have e1 : results1 X.T sg.rs fn.resultTypes.toList [[.lst xs]] 0 X.np = ([(X.T.agg t,[.al X.np [] e0])],[.row e0 false xs]):=by
   rw [gQ,bw]
   simp [results1,ej]
  refine ⟨_,yM (vs:=[a.tmps.getD x undef]) (by rw [tJ]; simp [kM]),g.out X.np [some r],?_,q2,?_⟩
  ·rw [e1]; exact q1
  ·rw [e1,gQ]
   obtain ⟨e2,d2,ys,b,q,n,c,h1,h2,h3,h4,h5⟩:=bI
   rw [hr] at h1
   cases h1
   obtain ⟨-,-,hv⟩:=h3.bX
   show ay X w _ _ (.po X.np [] e0 0 0) _
   refine ⟨e0,false,xs,b,q,n,c,?_,.inl rfl,?_,h4,h5⟩
   ·rw [qQx (by rw [m1,gO]; exact qQb _),m1,gO]; simp
   ·have:=q4 0 r rfl
    rw [qQ5] at this
    rw [this,← hv]; exact .nil _ _ _
 rename_i aO
 have hk:=hk.resolve_left aO
 have jG : ∀ z,iW sg.rs z = dx z:=fun z=>if_neg aO
 split at hq
 ·rename_i res rs ms xl lC
  split at hq
  ·rename_i hh
   obtain ⟨lE,dj⟩:=hh
   obtain rfl:=qQc hq
   rw [gO] at xl
   obtain ⟨vs,h1,h2,h3⟩:=yl (P:=P) hT h xl hk
   have hO:=h3 res 0 X.np (fun k u hk=>by rw [qQy]; exact hk)
   obtain ⟨m1,m2⟩:=uu lC
   obtain ⟨q1,q2,q3,q4,q5⟩:=h.out hO.left (lV lE) hO.np (m1.trans gO) (fun i x hx=>by have:=m2 i x hx; rwa [qQy] at this)
   refine ⟨_,yM h1,g.out X.np rs,q1,q2,jG _ ▸ DF (hO.bf _ _ (fun b hb=>⟨q3 b hb.1,hb.2⟩) (fun hr b s hb hs=>?_) q4 q5 (fun k x hx=>?_)) (by rw [yB]; exact h2.symm)⟩
   ·have gQ : rs = []:=by
     rcases dj with dj | dj
     ·rw [show sg.rs.elem RM.ro = true from by simpa using hr] at dj; cases dj
     ·simpa using dj
    subst gQ
    refine ⟨?_,h.mem.lt b (by rw [hb]; simp),?_⟩
    ·show (g.own b).bind _ = none
     rw [hb]
     show (if s < X.np then some s else fx s [] X.np) = none
     rw [if_neg (by omega)]; rfl
    ·rcases h.mem.pm b s hb with hh | ⟨hh,_⟩
     ·exact .inr hh
     ·omega
   ·show (dk ps ms ++ _)[X.np + k]? = _
    rw [qQx (by omega),m1,gO,show X.np + k - X.np = k from by omega]; exact hx
  ·cases hq
 ·cases hq
end
section
variable {P : Program} {X X' : Ctx} {own0 : Nat → Option Nat} {w0 : World} {st : St} {a : Act} {w w' : World} {g g' : Gh} {R : Type}
structure Reads (X : Ctx) (w : World) (g : Gh) (kr : List Nat) (X' : Ctx) (g' : Gh) : Prop where
 T : X'.T = X.T
 ok : ∀ b,aq X w g b → aq X' w g' b
 kr : ∀ b s,s ∈ kr → g.own b = some s → aq X' w g' b
theorem Reads.mono {kr xL : List Nat} (h : Reads X w g kr X' g') (hk : ∀ s ∈ xL,s ∈ kr) : Reads X w g xL X' g':=⟨h.T,h.ok,fun b s hs hb=>h.kr b s (hk s hs) hb⟩
theorem uh (hm : Mem X st w g) {x : Cl} {v : Value} {rt' : List aa} (hr : Reads X w g x.af X' g') (h : aF X w st.rt g x v) : aF X' w rt' g' (kB st.rt x) v:=by
 cases x with
 | al r p e =>
  obtain ⟨e0,d,xs,h1,h2⟩:=aF.fY hm h
  simp only [kB,h1]
  show aE X'.T.ct w _ _ _ _
  rw [hr.T]
  exact h2 _ (fun b hb=>hr.kr b r (by simp [Cl.af]) hb) hr.ok
 | rd e xs =>
  show aE X'.T.ct w _ _ _ _
  rw [hr.T]
  exact aE.imp h fun b hb=>⟨hr.ok b hb,rfl⟩
 | _=>exact h
theorem xI (hm : Mem X st w g) {rt' : List aa} : ∀ {xs : List Cl} {vs : List Value},Reads X w g (xs.flatMap Cl.af) X' g' → aw X w st.rt g xs vs → aw X' w rt' g' (xs.map (kB st.rt)) vs
 | [],[],_,_=>trivial
 | x :: xs,v :: vs,hr,h=>⟨uh hm (hr.mono fun s hs=>by simp [hs]) h.1,xI hm (hr.mono fun s hs=>by rw [qQ1]; exact qQ8 _ hs) h.2⟩
 | [],_ :: _,_,h=>h.elim
 | _ :: _,[],_,h=>h.elim
theorem zY (hm : Mem X st w g) {x : Cl} {v : Value} {ct : CT} (hr : Reads X w g x.af X' g') (hc : gd ct x = true) (h : aF X w st.rt g x v) : aE X'.T.ct w (aq X' w g') ct (gI st.rt x) v:=by
 rw [hr.T]
 cases ct <;> cases x <;> simp [gd] at hc
 ·subst hc; rw [show v = _ from h]; exact .int _ _
 ·rw [show v = _ from h]; exact .bool _
 ·rw [show v = _ from h]; exact .str _
 ·subst hc; exact aE.imp h fun b hb=>⟨hr.ok b hb,rfl⟩
 ·rw [show v = _ from h]; exact aE.nil _ 0 none
 ·subst hc
  rename_i r p
  obtain ⟨e0,d,xs,h1,h2⟩:=aF.fY hm h
  simp only [gI,h1]
  exact h2 _ (fun b hb=>hr.kr b r (by simp [Cl.af]) hb) hr.ok
theorem we : ∀ {ab : List CT} {cs : List Cl},px ab cs = true → cs.length = ab.length ∧ ∀ (j : Nat) ct c,ab[j]? = some ct → cs[j]? = some c → gd ct c = true
 | [],[],_=>⟨rfl,fun j ct c h=>by simp at h⟩
 | t :: ts,x :: xs,h=>by
  simp only [px,qQi] at h
  obtain ⟨h1,h2⟩:=we h.2
  refine ⟨by simp [h1],fun j ct c ai hc=>?_⟩
  cases j with
  | zero=>simp at ai hc; subst ai hc; exact h.1
  | succ j=>exact h2 j ct c (by simpa using ai) (by simpa using hc)
 | [],_ :: _,h=>by cases h
 | _ :: _,[],h=>by cases h
def reach (rt : List aa) (rs : List Nat) : List Nat:=rs ++ rs.flatMap fun r=>match rt[r]? with | some c=>c.af | none=>[]
theorem rJ (hm : Mem X st w g) {x y : aH} {v : Value} {rt' : List aa} (hr : Reads X w g (reach st.rt x.af) X' g') (hq : kS X.T st.rt x = some y) (h : je X w st.rt g x v) : ay X' w rt' g' y.sv v:=by
 cases x with
 | c x =>
  simp only [kS,qZo] at hq
  subst hq
  exact ay.cj (uh hm (hr.mono fun s hs=>qZf _ hs) h)
 | bx r o =>
  simp only [kS] at hq
  split at hq
  ·rename_i t cs aB
   split at hq
   ·rename_i hc
    obtain rfl:=qQc hq
    obtain ⟨hl,bD⟩:=we hc
    obtain ⟨vs,h1,h2,h3⟩:=hm.rt r _ aB
    obtain ⟨rfl,_⟩:=h
    refine ⟨g.b r,0,by rw [qQy],hr.kr _ r (qZf _ (by simp [aH.af])) h2,by rw [qQk,hr.T]; exact hl,fun j u ct hu ai=>?_⟩
    rw [qQj] at hu
    obtain ⟨c,sH,rfl⟩:=qQf.1 hu
    obtain ⟨u,h4,h5⟩:=h3.get sH
    rw [hr.T] at ai
    refine ⟨u,by rw [nv h1,qQy]; simpa using h4,zY hm (hr.mono fun s hs=>?_) (bD j ct c ai sH) h5⟩
    refine qQ8 _ (qZ1.2 ⟨r,by simp [aH.af],?_⟩)
    rw [aB]
    exact qZ1.2 ⟨c,qQz sH,hs⟩
   ·cases hq
  ·cases hq
 | pr e us o =>
  simp only [kS,qZo] at hq
  subst hq
  obtain ⟨b,off,h1,h2,h3,h4⟩:=h
  refine ⟨b,off,h1,hr.ok b h2,by rw [hr.T]; exact h3,fun j u ct hu ai=>?_⟩
  rw [hr.T] at ai ⊢
  obtain ⟨x,h5,h6⟩:=h4 j u ct hu ai
  exact ⟨x,h5,h6.imp fun b hb=>⟨hr.ok b hb,rfl⟩⟩
theorem vM (hm : Mem X st w g) {rt' : List aa} : ∀ {xs ys : List aH} {vs : List Value},Reads X w g (reach st.rt (xs.flatMap aH.af)) X' g' → pg X.T st.rt xs = some ys → bJ X w st.rt g xs vs → bJ X' w rt' g' ys vs
 | [],ys,[],_,hq,_=>by cases hq; trivial
 | x :: xs,ys,v :: vs,hr,hq,h=>by
  unfold pg at hq
  split at hq
  ·rename_i a b ha hb
   obtain rfl:=qQc hq
   have h1:=rJ (rt':=rt') hm (hr.mono fun s hs=>by
    rcases qZg.1 hs with hs | hs
    ·exact qZf _ (by rw [qQ1]; exact qZf _ hs)
    ·refine qQ8 _ ?_
     rw [qQ1,qJd]; exact qZf _ hs) ha h.1
   refine ⟨?_,vM hm (hr.mono fun s hs=>?_) hb h.2⟩
   ·cases a with
    | c c =>
     by_cases hn : c = .no
     ·subst hn
      exact (show v.oneCell' = true from by
       cases x with
       | c x=>exact aF.one hm h.1
       | bx r o=>rw [h.1.1]; rfl
       | pr e us o=>obtain ⟨b,off,hv,_⟩:=h.1; rw [hv]; rfl)
     ·exact ay.cl h1 hn
    | bx r o=>exact h1
    | pr e us o=>exact h1
   ·rcases qZg.1 hs with hs | hs
    ·exact qZf _ (by rw [qQ1]; exact qQ8 _ hs)
    ·refine qQ8 _ ?_
     rw [qQ1,qJd]; exact qQ8 _ hs
  ·cases hq
 | [],_,_ :: _,_,_,h=>h.elim
 | _ :: _,_,[],_,_,h=>h.elim
theorem zC (hm : Mem X st w g) {x y : SV} {v : Value} {rt' : List aa} (hr : Reads X w g (reach st.rt x.af) X' g') (hq : mN X.T st.rt x = some y) (h : ay X w st.rt g x v) : ay X' w rt' g' y v:=by
 cases x with
 | c x =>
  by_cases hn : x = .no
  ·subst hn; cases hq
  ·have tu : some (SV.c (kB st.rt x)) = some y:=by cases x <;> first | exact absurd rfl hn | exact hq
   obtain rfl:=qQc tu
   exact ay.cj (uh hm (hr.mono fun s hs=>qZf _ hs) (h.cl hn))
 | ag xs =>
  obtain rfl:=qQc hq
  obtain ⟨vs,h1,h2⟩:=h
  exact ⟨vs,h1,xI hm (hr.mono fun s hs=>qZf _ hs) h2⟩
 | bx r o =>
  simp only [mN] at hq
  obtain ⟨z,hz,rfl⟩:=qQf.1 hq
  exact rJ (x:=.bx r o) hm hr hz h
 | pr e us o =>
  obtain rfl:=qQc hq
  exact rJ (x:=.pr e us o) (y:=.pr e us o) hm (hr.mono fun s hs=>by simp [aH.af,reach] at hs) rfl h
 | po r p e i o =>
  simp only [mN] at hq
  split at hq
  ·rename_i e0 d xs aB
   obtain rfl:=qQc hq
   obtain ⟨e1,d1,ys,b,q,n,c,h1,h2,h3,h4,h5⟩:=h
   obtain ⟨rfl,rfl,rfl⟩ : e0 = e1 ∧ d = d1 ∧ xs = ys:=by rw [aB] at h1; cases h1; exact ⟨rfl,rfl,rfl⟩
   have lh : aF X w st.rt g (.al r p e) (.slice (some ⟨b,q,none⟩) n c):=⟨e0,d,xs,aB,h2,h3⟩
   obtain ⟨e2,d2,zs,q1,q2⟩:=aF.fY hm lh
   obtain ⟨rfl,rfl,rfl⟩ : e0 = e2 ∧ d = d2 ∧ xs = zs:=by rw [aB] at q1; cases q1; exact ⟨rfl,rfl,rfl⟩
   have hR:=q2 (aq X' w g') (fun b hb=>hr.kr b r (qZf _ (by simp [SV.af])) hb) hr.ok
   rw [← hr.T] at hR
   obtain ⟨b',o',c',q3,q4⟩:=aE.elem hR h4
   cases q3
   obtain ⟨b2,off,q5,q6,q7,q8⟩:=q4
   have q9 : b = b2 ∧ q + i * X'.T.size e = off + 0:=by
    simp only [Value.pointer.injEq,qZo,Addr.mk.injEq,and_true] at q5
    exact q5
   refine ⟨b2,off,?_,q6,q7,q8⟩
   rw [h5,q9.1,← hr.T,← qQ4,show q + i * X'.T.size e = off from by omega]
  ·cases hq
 | fn f az =>
  simp only [mN] at hq
  obtain ⟨z,hz,rfl⟩:=qQf.1 hq
  obtain ⟨vs,h1,h2⟩:=h
  exact ⟨vs,h1,vM hm hr hz h2⟩
 | _=>cases hq
theorem xV {ct : CT} {x : Cl} {v : Value} {rt' : List aa} (h : aF X' w rt' g' x v) : aF X' w rt' g' (oi ct x) v:=by
 unfold oi
 split
 ·rename_i e
  rw [show v = _ from h]; exact aE.nil e 0 none
 ·exact h
theorem xW {rt' : List aa} : ∀ {ab : List CT} {xs : List Cl} {vs : List Value},aw X' w rt' g' xs vs → aw X' w rt' g' (qy ab xs) vs
 | t :: ts,x :: xs,v :: vs,h=>⟨xV h.1,xW h.2⟩
 | [],xs,vs,h=>by unfold qy; exact h
 | t :: ts,[],[],h=>trivial
 | t :: ts,[],_ :: _,h=>h.elim
 | t :: ts,_ :: _,[],h=>h.elim
theorem Au {T : ax} {ty : Option TypeId} {x : SV} {v : Value} {rt' : List aa} (h : ay X' w rt' g' x v) : ay X' w rt' g' (sf T ty x) v:=by
 unfold sf
 split
 ·exact h
 ·split
  ·rename_i y
   split
   ·rename_i ct _
    by_cases hn : y = .no
    ·subst hn
     have : oi ct .no = .no:=by cases ct <;> rfl
     rw [this]; trivial
    ·exact ay.cj (xV (h.cl hn))
   ·exact h
  ·obtain ⟨vs,h1,h2⟩:=h
   exact ⟨vs,h1,xW h2⟩
  ·exact h
def vm (X : Ctx) (st : St) (w : World) (g : Gh) (l : aa × Option (Nat × Path)) (v : Value) : Prop :=
 ∃ e dp d,l.1 = .row e dp d ∧ ((l.2 = none ∧ dp = true ∧ d = [] ∧ v = .slice none 0 0) ∨
  ∃ r p e0 xs,l.2 = some (r,p) ∧ st.rt[r]? = some (.row e0 dp xs) ∧ (p = [] ∨ dp = true) ∧ d = bc xs p ∧ At X.T.ct w (.aj e0) (.lst xs) (g.v r) p (.aj e) (.lst d) v)
def ck (X : Ctx) (st : St) (w : World) (g : Gh) : List (aa × Option (Nat × Path)) → List Value → Prop
 | [],[]=>True
 | l :: ls,v :: vs=>vm X st w g l v ∧ ck X st w g ls vs
 | _,_=>False
theorem ck.append {X : Ctx} {st : St} {w : World} {g : Gh} : ∀ {ls : List (aa × Option (Nat × Path))} {vs : List Value} {kC : List (aa × Option (Nat × Path))} {vs' : List Value},ck X st w g ls vs → ck X st w g kC vs' → ck X st w g (ls ++ kC) (vs ++ vs')
 | [],[],_,_,_,h=>h
 | l :: ls,v :: vs,_,_,h,h'=>⟨h.1,ck.append h.2 h'⟩
 | [],_ :: _,_,_,h,_=>h.elim
 | _ :: _,[],_,_,h,_=>h.elim
theorem ck.length {X : Ctx} {st : St} {w : World} {g : Gh} : ∀ {ls : List (aa × Option (Nat × Path))} {vs : List Value},ck X st w g ls vs → ls.length = vs.length
 | [],[],_=>rfl
 | l :: ls,v :: vs,h=>by simp [ck.length h.2]
 | [],_ :: _,h=>h.elim
 | _ :: _,[],h=>h.elim
def fC (ls : List (aa × Option (Nat × Path))) (lv : List Value) (n : Nat) (rt' : List aa) (g' : Gh) : Prop :=
 (∀ (k : Nat) l,ls[k]? = some l → rt'[n + k]? = some l.1) ∧ ∀ (k : Nat) v,lv[k]? = some v → g'.v (n + k) = v
theorem fC.left {ls kC : List (aa × Option (Nat × Path))} {lv qw : List Value} {n : Nat} {rt' : List aa} (h : fC (ls ++ kC) (lv ++ qw) n rt' g') : fC ls lv n rt' g' :=
 ⟨fun k l hk=>h.1 k l (by rw [qQu (aA hk)]; exact hk),fun k v hk=>h.2 k v (by rw [qQu (aA hk)]; exact hk)⟩
theorem fC.right {ls kC : List (aa × Option (Nat × Path))} {lv qw : List Value} {n : Nat} {rt' : List aa} (h : fC (ls ++ kC) (lv ++ qw) n rt' g') (hl : ls.length = lv.length) : fC kC qw (n + ls.length) rt' g' :=
 ⟨fun k l hk=>by have:=h.1 (ls.length + k) l (by rw [qQx (by omega)]; simpa using hk)
                 rwa [← qQ4] at this,
  fun k v hk=>by have:=h.2 (ls.length + k) v (by rw [hl,qQx (by omega)]; simpa using hk)
                 rwa [← qQ4] at this⟩
theorem zD {ct : CT} {x y : Cl} {v : Value} {n : Nat} {ls : List (aa × Option (Nat × Path))} (hq : mO st.rt ct x n = some (y,ls)) (h : aF X w st.rt g x v) :
  ∃ lv,ck X st w g ls lv ∧ ∀ (X' : Ctx) (rt' : List aa) (g' : Gh),X'.T = X.T → fC ls lv n rt' g' → aF X' w rt' g' y v:=by
 unfold mO at hq
 split at hq
 ·rename_i e r p e'
  split at hq
  ·rename_i e0 xs hr
   split at hq
   ·rename_i he; subst he
    obtain ⟨h1,h2⟩:=qQv (qQc hq)
    subst h1 h2
    obtain ⟨e1,d1,ys,q1,q2,q3⟩:=h
    obtain ⟨rfl,rfl,rfl⟩ : e0 = e1 ∧ true = d1 ∧ xs = ys:=by rw [hr] at q1; cases q1; exact ⟨rfl,rfl,rfl⟩
    refine ⟨[v],⟨⟨e,true,bc xs p,rfl,.inr ⟨r,p,e0,xs,rfl,hr,.inr rfl,rfl,q3⟩⟩,trivial⟩,fun X' rt' g' hT hs=>?_⟩
    have s1:=hs.1 0 _ rfl
    have s2:=hs.2 0 _ rfl
    rw [qQ5] at s1 s2
    refine ⟨e,true,bc xs p,s1,.inl rfl,?_⟩
    rw [s2]; exact .nil _ _ _
   ·cases hq
  ·cases hq
 ·rename_i e
  obtain ⟨h1,h2⟩:=qQv (qQc hq)
  subst h1 h2
  refine ⟨[v],⟨⟨e,true,[],rfl,.inl ⟨rfl,rfl,rfl,h⟩⟩,trivial⟩,fun X' rt' g' hT hs=>?_⟩
  have s1:=hs.1 0 _ rfl
  have s2:=hs.2 0 _ rfl
  rw [qQ5] at s1 s2
  refine ⟨e,true,[],s1,.inl rfl,?_⟩
  rw [s2]; exact .nil _ _ _
 ·cases hq
 ·rename_i h1 h2 h3
  split at hq
  case isFalse=>cases hq
  rename_i hm
  obtain ⟨e1,e2⟩:=qQv (qQc hq)
  subst e1 e2
  refine ⟨[],trivial,fun X' rt' g' hT hs=>?_⟩
  have tk : ct.bU = false:=by cases ct <;> first | rfl | (exfalso; simp_all)
  cases ct <;> cases x <;> simp [gd,CT.bU] at hm tk <;> exact h
theorem rE : ∀ {ab : List CT} {xs ys : List Cl} {vs : List Value} {n : Nat} {ls : List (aa × Option (Nat × Path))},gH st.rt ab xs n = some (ys,ls) → aw X w st.rt g xs vs →
  ∃ lv,ck X st w g ls lv ∧ ∀ (X' : Ctx) (rt' : List aa) (g' : Gh),X'.T = X.T → fC ls lv n rt' g' → aw X' w rt' g' ys vs
 | [],[],ys,[],n,ls,hq,_=>by
  cases hq
  exact ⟨[],trivial,fun _ _ _ _ _=>trivial⟩
 | t :: ts,x :: xs,ys,v :: vs,n,ls,hq,h=>by
  unfold gH at hq
  split at hq
  ·rename_i y l hy
   obtain ⟨z,h1,h2⟩:=qQf.1 hq
   obtain ⟨h3,h4⟩:=qQv h2
   subst h3 h4
   obtain ⟨oe,q1,q2⟩:=zD hy h.1
   obtain ⟨kD,q3,q4⟩:=rE (ys:=z.1) (ls:=z.2) h1 h.2
   exact ⟨oe ++ kD,q1.append q3,fun X' rt' g' hT hs=>⟨q2 X' rt' g' hT hs.left,q4 X' rt' g' hT (hs.right q1.length)⟩⟩
  ·cases hq
 | [],_ :: _,_,_,_,_,hq,_=>by simp [gH] at hq
 | _ :: _,[],_,_,_,_,hq,_=>by simp [gH] at hq
 | [],[],_,_ :: _,_,_,_,h=>h.elim
 | _ :: _,_ :: _,_,[],_,_,_,h=>h.elim
theorem zF {rt : List aa} {n : Nat} : ∀ ab : List CT,gH rt ab [.no] n = none
 | []=>by simp [gH]
 | t :: ts=>by
  have : mO rt t .no n = none:=by cases t <;> simp [mO,gd]
  simp [gH,this]
def cY (X : Ctx) (w : World) (rt : List aa) (g : Gh) : List SV → List Value → Prop
 | [],[]=>True
 | x :: xs,v :: vs=>ay X w rt g x v ∧ cY X w rt g xs vs
 | _,_=>False
theorem mg (hm : Mem X st w g) : ∀ {uC : List PM} {uY : List TypeId} {xs ys : List SV} {vs : List Value} {n : Nat} {ls : List (aa × Option (Nat × Path))} {kr : List Nat},gy X.T st.rt uC uY xs n = some (ys,ls,kr) → cY X w st.rt g xs vs →
  ∃ lv,ck X st w g ls lv ∧ ∀ (X' : Ctx) (rt' : List aa) (g' : Gh),Reads X w g kr X' g' → fC ls lv n rt' g' → cY X' w rt' g' ys vs
 | uC,uY,[],ys,[],n,ls,kr,hq,_=>by
  have hq : some ([],[],[]) = some (ys,ls,kr):=by unfold gy at hq; exact hq
  cases hq
  exact ⟨[],trivial,fun _ _ _ _ _=>trivial⟩
 | uC,uY,x :: xs,ys,v :: vs,n,ls,kr,hq,h=>by
  unfold gy at hq
  split at hq
  ·split at hq
   ·rename_i y hy
    obtain ⟨z,h1,h2⟩:=qQf.1 hq
    obtain ⟨h3,h4⟩:=qQv h2
    obtain ⟨h5,h6⟩:=qQv h4
    subst h3 h5 h6
    obtain ⟨lv,q1,q2⟩:=mg hm (ys:=z.1) (ls:=z.2.1) (kr:=z.2.2) h1 h.2
    exact ⟨lv,q1,fun X' rt' g' hr hs=>⟨Au (zC hm (hr.mono fun s aM=>qZf _ aM) hy h.1),q2 X' rt' g' (hr.mono fun s aM=>qQ8 _ aM) hs⟩⟩
   ·cases hq
  ·split at hq
   ·rename_i c
    split at hq
    ·rename_i y l hy
     obtain ⟨z,h1,h2⟩:=qQf.1 hq
     obtain ⟨h3,h4⟩:=qQv h2
     obtain ⟨h5,h6⟩:=qQv h4
     subst h3 h5 h6
     have sJ : c ≠ .no:=by rintro rfl; rw [zF] at hy; cases hy
     obtain ⟨oe,q1,q2⟩:=rE (vs:=[v]) hy ⟨h.1.cl sJ,trivial⟩
     obtain ⟨kD,q3,q4⟩:=mg hm (ys:=z.1) (ls:=z.2.1) (kr:=z.2.2) h1 h.2
     exact ⟨oe ++ kD,q1.append q3,fun X' rt' g' hr hs=>⟨ay.cj (q2 X' rt' g' hr.T hs.left).1,q4 X' rt' g' hr (hs.right q1.length)⟩⟩
    ·cases hq
   ·rename_i cs
    split at hq
    ·rename_i y l hy
     obtain ⟨z,h1,h2⟩:=qQf.1 hq
     obtain ⟨h3,h4⟩:=qQv h2
     obtain ⟨h5,h6⟩:=qQv h4
     subst h3 h5 h6
     obtain ⟨va,hv,hc⟩:=h.1
     obtain ⟨oe,q1,q2⟩:=rE hy hc
     obtain ⟨kD,q3,q4⟩:=mg hm (ys:=z.1) (ls:=z.2.1) (kr:=z.2.2) h1 h.2
     exact ⟨oe ++ kD,q1.append q3,fun X' rt' g' hr hs=>⟨⟨va,hv,q2 X' rt' g' hr.T hs.left⟩,q4 X' rt' g' hr (hs.right q1.length)⟩⟩
    ·cases hq
   ·rename_i r e
    split at hq <;> try (cases hq; done)
    rename_i e0 d0 zs aB
    split at hq <;> try (cases hq; done)
    rename_i he
    subst he
    obtain ⟨z,h1,h2⟩:=qQf.1 hq
    obtain ⟨h3,h4⟩:=qQv h2
    obtain ⟨h5,h6⟩:=qQv h4
    subst h3 h5 h6
    obtain ⟨e1,d1,ws,b,q,m,c,g1,g2,g3,g4,g5⟩:=h.1
    rw [aB] at g1
    cases g1
    obtain ⟨kD,q3,q4⟩:=mg hm (ys:=z.1) (ls:=z.2.1) (kr:=z.2.2) h1 h.2
    refine ⟨.slice (some ⟨b,q,none⟩) m c :: kD,⟨⟨e,d0,zs,rfl,.inr ⟨r,[],e,zs,rfl,aB,.inl rfl,rfl,g3⟩⟩,q3⟩,fun X' rt' g' hR hs=>⟨?_,q4 X' rt' g' hR (fC.right (ls:=[_]) (lv:=[_]) hs rfl)⟩⟩
    have s1:=hs.1 0 _ rfl
    have s2:=hs.2 0 _ rfl
    rw [qQ5] at s1 s2
    refine ⟨e,d0,zs,b,q,m,c,s1,.inl rfl,?_,g4,by rw [hR.T]; exact g5⟩
    rw [s2]; exact .nil _ _ _
   ·cases hq
 | _,_,[],_,_ :: _,_,_,_,_,h=>h.elim
 | _,_,_ :: _,_,[],_,_,_,_,h=>h.elim
end
end Go.Proofs.YtaghmjcfaplkiaaGreat.Eng
/- half -/
