/- The evaluator: parts 33 to 33. Of no program. -/
import Derived.Test.YtaghmjcfaplkiaaGreatE32
import Derived.LoopN
namespace Go.Proofs.YtaghmjcfaplkiaaGreat.Eng
open Go.RowKit
set_option linter.unusedVariables false
set_option linter.unusedSimpArgs false
def pS (ps : List (Nat × Bool)) (x : SV) : SV:=ps.foldl (fun x p=>x.ah p.1 p.2) x
def pR (ps : List (Nat × Bool)) (x : aa) : aa:=ps.foldl (fun x p=>x.ah p.1 p.2) x
def Cl.le (x y : Cl) : Prop:=x = .no ∨ x = y
def eA.le (xs ys : List Cl) : Prop:=xs.length = ys.length ∧ ∀ (i : Nat) x y,xs[i]? = some x → ys[i]? = some y → Cl.le x y
inductive SV.le : SV → SV → Prop
 | no (y : SV) : SV.le (.c .no) y
 | same (x : SV) : SV.le x x
 | part (x y : SV) (h : x.whole = false) : SV.le x y
theorem SV.le.eq {x y : SV} (h : SV.le x y) (hw : x.whole = true) : x = y:=by
 cases h with
 | no=>cases hw
 | same=>rfl
 | part _ _ h=>rw [h] at hw; cases hw
theorem SV.le.trans {x y z : SV} (h : SV.le x y) (k : SV.le y z) : SV.le x z:=by
 cases h with
 | no=>exact .no _
 | same=>exact k
 | part _ _ h=>exact .part _ _ h
def aa.le : aa → aa → Prop
 | .box t xs,.box t' ys=>t = t' ∧ eA.le xs ys
 | x,y=>x = y
theorem eA.le_refl (xs : List Cl) : eA.le xs xs:=⟨rfl,fun i x y hx hy=>.inr (qQc (hx.symm.trans hy))⟩
theorem Cl.le.trans {x y z : Cl} (h : Cl.le x y) (k : Cl.le y z) : Cl.le x z:=by
 rcases h with rfl | rfl
 ·exact .inl rfl
 ·exact k
theorem eA.le.trans {xs ys zs : List Cl} (h : eA.le xs ys) (k : eA.le ys zs) : eA.le xs zs:=by
 refine ⟨h.1.trans k.1,fun i x z hx hz=>?_⟩
 have hi:=aA hx
 have hy:=qQg (l:=ys) (i:=i) (by rw [← h.1]; exact hi)
 exact (h.2 i x _ hx hy).trans (k.2 i _ z hy hz)
theorem aa.le_refl (x : aa) : aa.le x x:=by
 cases x with
 | box t cs=>exact ⟨rfl,eA.le_refl _⟩
 | _=>rfl
theorem aa.le.trans {x y z : aa} (h : aa.le x y) (k : aa.le y z) : aa.le x z:=by
 cases x with
 | box t xs=>cases y with
  | box t' ys=>cases z with
   | box t'' zs=>exact ⟨h.1.trans k.1,h.2.trans k.2⟩
   | _=>exact (by cases k)
  | _=>exact (by cases h)
 | row e d xs=>cases y with
  | box=>exact (by cases h)
  | _=>have h : _ = _:=h; rw [h]; exact k
 | gone=>cases y with
  | box=>exact (by cases h)
  | _=>have h : _ = _:=h; rw [h]; exact k
theorem Cl.mi (x : Cl) (r : Nat) (k : Bool) : Cl.le (x.ah r k) x:=by
 cases x <;> try exact .inr rfl
 simp only [Cl.ah]
 split
 ·split
  ·exact .inr rfl
  ·exact .inl rfl
 ·exact .inr rfl
theorem map_le {f : Cl → Cl} (h : ∀ x,Cl.le (f x) x) (xs : List Cl) : eA.le (xs.map f) xs:=by
 refine ⟨by simp,fun i x y hx hy=>?_⟩
 rw [qQj,hy] at hx
 obtain rfl:=qQc hx
 exact h y
theorem og {α : Type} {f : α → α} {p : α → Bool} (h : ∀ x,f x = x ∨ p (f x) = true) : ∀ xs : List α,xs.map f = xs ∨ (xs.map f).any p = true
 | []=>.inl rfl
 | x :: xs=>by
  rw [qQ0,qYn]
  rcases h x with hx | hx
  ·rcases og h xs with k | k
   ·left; rw [hx,k]
   ·right; rw [k,Bool.or_true]
  ·right; rw [hx,Bool.true_or]
theorem Cl.qD (x : Cl) (r : Nat) (k : Bool) : x.ah r k = x ∨ (x.ah r k).fK = true:=by
 rcases Cl.mi x r k with h | h
 ·right; rw [h]; rfl
 ·exact .inl h
theorem rq {α : Type} {p : α → Bool} {xs : List α} (h : xs.any p = true) : (xs.all fun x=>!p x) = false:=by
 rw [qYw]
 simp only [Bool.not_not,h,qXa]
theorem SV.mi (x : SV) (r : Nat) (k : Bool) : SV.le (x.ah r k) x:=by
 cases x with
 | c x =>
  rcases Cl.qD x r k with h | h
  ·simp only [SV.ah,h]; exact .same _
  ·refine .part _ _ ?_
   simp only [SV.ah,SV.whole,h]; rfl
 | ag xs =>
  rcases og (f:=Cl.ah r k) (p:=Cl.fK) (fun x=>Cl.qD x r k) xs with h | h
  ·simp only [SV.ah,h]; exact .same _
  ·exact .part _ _ (rq h)
 | po r' p e i o =>
  simp only [SV.ah]
  split
  ·split
   ·exact .same _
   ·exact .no _
  ·exact .same _
 | fn g az =>
  rcases og (f:=aH.bW (Cl.ah r k)) (p:=fun | .c x=>x.fK | _=>false) (fun x=>by
   cases x with
   | c x =>
    rcases Cl.qD x r k with h | h
    ·left; simp only [aH.bW,h]
    ·exact .inr h
   | _=>exact .inl rfl) az with h | h
  ·simp only [SV.ah,h]; exact .same _
  ·refine .part _ _ ?_
   have:=rq h
   refine Eq.trans ?_ this
   simp only [SV.ah,SV.whole]
   congr 1
   funext x
   cases x <;> rfl
 | bf vs =>
  rcases og (f:=fun (x : Bool × List Cl)=>(x.1,x.2.map (Cl.ah r k))) (p:=fun x=>x.2.any Cl.fK) (fun x=>by
   rcases og (f:=Cl.ah r k) (p:=Cl.fK) (fun x=>Cl.qD x r k) x.2 with h | h
   ·left; show (x.1,x.2.map (Cl.ah r k)) = x; rw [h]
   ·exact .inr h) vs with h | h
  ·simp only [SV.ah,h]; exact .same _
  ·refine .part _ _ ?_
   have:=rq h
   refine Eq.trans ?_ this
   simp only [SV.ah,SV.whole]
   congr 1
   funext x
   rw [qYw]
   simp only [Bool.not_not]
 | _=>exact .same _
theorem yo : ∀ (ps : List (Nat × Bool)) (x : SV),SV.le (pS ps x) x
 | [],x=>.same _
 | p :: ps,x=>(yo ps _).trans (SV.mi x p.1 p.2)
theorem aa.mi (x : aa) (r : Nat) (k : Bool) : aa.le (x.ah r k) x:=by
 cases x with
 | box t cs=>exact ⟨rfl,map_le (fun x=>Cl.mi x r k) cs⟩
 | _=>rfl
theorem ym : ∀ (ps : List (Nat × Bool)) (x : aa),aa.le (pR ps x) x
 | [],x=>aa.le_refl _
 | p :: ps,x=>(ym ps _).trans (aa.mi x p.1 p.2)
theorem Cl.mh {x : Cl} {r : Nat} {k : Bool} (h : r ∉ x.af) : x.ah r k = x:=by
 cases x <;> try rfl
 simp only [Cl.af,qZj] at h
 simp only [Cl.ah,if_neg (fun e=>h (Eq.symm e))]
theorem map_id' {α : Type} {f : α → α} : ∀ {xs : List α},(∀ x ∈ xs,f x = x) → xs.map f = xs
 | [],_=>rfl
 | x :: xs,h=>by rw [qQ0,h x (by simp),map_id' fun y hy=>h y (by simp [hy])]
theorem SV.mh {x : SV} {r : Nat} {k : Bool} (h : r ∉ x.af) : x.ah r k = x:=by
 cases x with
 | c x=>simp only [SV.ah,Cl.mh (x:=x) h]
 | ag xs=>simp only [SV.ah]; rw [map_id' fun y hy=>Cl.mh fun hr=>h (qZ1.2 ⟨y,hy,hr⟩)]
 | po r' p e i o =>
  simp only [SV.af,qZj] at h
  simp only [SV.ah,if_neg (fun e=>h (Eq.symm e))]
 | fn g az =>
  simp only [SV.ah]
  rw [map_id' fun y hy=>?_]
  cases y with
  | c y=>simp only [aH.bW]; rw [Cl.mh fun hr=>h (qZ1.2 ⟨_,hy,hr⟩)]
  | _=>rfl
 | bf vs =>
  simp only [SV.ah]
  rw [map_id' fun y hy=>?_]
  rw [map_id' fun z hz=>Cl.mh fun hr=>h (qZ1.2 ⟨y,hy,qZ1.2 ⟨z,hz,hr⟩⟩)]
 | _=>rfl
theorem yn : ∀ {ps : List (Nat × Bool)} {x : SV},(∀ p ∈ ps,p.1 ∉ x.af) → pS ps x = x
 | [],x,_=>rfl
 | p :: ps,x,h=>by
  show pS ps (x.ah p.1 p.2) = x
  rw [SV.mh (h p (by simp))]
  exact yn fun q hq=>h q (by simp [hq])
theorem Dp (ps qs : List (Nat × Bool)) (x : SV) : pS (ps ++ qs) x = pS qs (pS ps x):=qXw ..
theorem Dm (ps qs : List (Nat × Bool)) (x : aa) : pR (ps ++ qs) x = pR qs (pR ps x):=qXw ..
structure zq (T : List Nat) (rt : List aa) (np : Nat) (F : List SV → St) (ps : List (Nat × Bool)) (dH : List aa) : Prop where
 gO : ∀ p ∈ ps,p.1 ∈ T ∨ (rt.length ≤ p.1 ∧ p.1 < dH.length)
 hle : rt.length ≤ dH.length
 bw : ∀ r,r < rt.length → r ∉ T → dH[r]? = (rt[r]?).map (pR ps)
 heq : ∀ sl,F sl = ⟨sl.map (pS ps),dH,np⟩
def Loc (T : List Nat) (rt : List aa) (np : Nat) (F : List SV → St) : Prop:=∃ ps dH,zq T rt np F ps dH
theorem Loc.start {T : List Nat} {rt : List aa} {np : Nat} : Loc T rt np fun sl=>⟨sl,rt,np⟩ :=
 ⟨[],rt,fun p hp=>by simp at hp,qQb _,fun r _ _=>by rw [show pR [] = _root_.id from rfl,Option.map_id]; rfl,fun sl=>by rw [show pS [] = _root_.id from rfl,qYg]⟩
theorem Loc.ah {T : List Nat} {rt : List aa} {np : Nat} {F : List SV → St} (h : Loc T rt np F) {r : Nat} {k : Bool} (hr : r ∈ T ∨ (rt.length ≤ r ∧ ∀ sl,r < (F sl).rt.length)) : Loc T rt np fun sl=>(F sl).ah r k:=by
 obtain ⟨ps,dH,h1,h2,h3,h4⟩:=h
 refine ⟨ps ++ [(r,k)],dH.map (aa.ah r k),fun p hp=>?_,by rw [qQk]; exact h2,fun i hi hT=>?_,fun sl=>?_⟩
 ·rw [qQk]
  rcases qZg.1 hp with hp | hp
  ·exact h1 p hp
  ·rw [qZj] at hp; subst hp
   exact hr.imp _root_.id fun hh=>⟨hh.1,by have:=hh.2 []; rw [h4] at this; exact this⟩
 ·rw [qQj,h3 i hi hT,qYr]
  congr 1
  funext x
  rw [qXy,Dm]; rfl
 ·rw [h4]
  show (⟨(sl.map (pS ps)).map (SV.ah r k),_,_⟩ : St) = _
  rw [qYx]
  congr 2
  funext x
  rw [qXy,Dp]; rfl
theorem Loc.aG {T : List Nat} {rt : List aa} {np : Nat} {F : List SV → St} (h : Loc T rt np F) {r : Nat} {x : aa} (hr : r ∈ T ∨ rt.length ≤ r) : Loc T rt np fun sl=>(F sl).aG r x:=by
 obtain ⟨ps,dH,h1,h2,h3,h4⟩:=h
 refine ⟨ps,dH.set r x,fun p hp=>by rw [qQl]; exact h1 p hp,by rw [qQl]; exact h2,fun i hi hT=>?_,fun sl=>by rw [h4]; rfl⟩
 rw [qYo (by rintro rfl; rcases hr with hr | hr; exact hT hr; omega),h3 i hi hT]
theorem Loc.ext {T : List Nat} {rt : List aa} {np : Nat} {F : List SV → St} (h : Loc T rt np F) (xs : List aa) : Loc T rt np fun sl=>⟨(F sl).sl,(F sl).rt ++ xs,np⟩:=by
 obtain ⟨ps,dH,h1,h2,h3,h4⟩:=h
 refine ⟨ps,dH ++ xs,fun p hp=>?_,by rw [qQ6]; omega,fun i hi hT=>?_,fun sl=>by rw [h4]⟩
 ·rw [qQ6]
  exact (h1 p hp).imp _root_.id fun hh=>⟨hh.1,by omega⟩
 ·rw [qQu (by omega),h3 i hi hT]
theorem Loc.consume {T : List Nat} {rt : List aa} {np : Nat} : ∀ {rs : List Nat} {F : List SV → St},Loc T rt np F → (∀ r ∈ rs,r ∈ T) → Loc T rt np fun sl=>(F sl).consume rs
 | [],F,h,_=>h
 | r :: rs,F,h,hr=>Loc.consume (F:=fun sl=>((F sl).ah r false).aG r .gone) ((h.ah (.inl (hr r (by simp)))).aG (.inl (hr r (by simp)))) fun s hs=>hr s (by simp [hs])
theorem Loc.lW {T : List Nat} {rt : List aa} {np : Nat} {F : List SV → St} (h : Loc T rt np F) (sl : List SV) : (F sl).np = np:=by
 obtain ⟨ps,dH,h1,h2,h3,h4⟩:=h
 rw [h4]
theorem Loc.rt_eq {T : List Nat} {rt : List aa} {np : Nat} {F : List SV → St} (h : Loc T rt np F) (sl sl' : List SV) : (F sl).rt = (F sl').rt:=by
 obtain ⟨ps,dH,h1,h2,h3,h4⟩:=h
 rw [h4,h4]
theorem Loc.bz {T : List Nat} {rt : List aa} {np : Nat} : ∀ {ls : List (Option (Nat × Path))} {ms : List (List (List U))} {i : Nat} {F : List SV → St},Loc T rt np F → (∀ r ∈ bq ls,r ∈ T) → Loc T rt np fun sl=>bz (F sl) ls ms i
 | [],ms,i,F,h,_=>h
 | none :: ls,ms,i,F,h,hr=>Loc.bz (ls:=ls) h hr
 | some (r,p) :: ls,ms,i,F,h,hr=>by
  have hT : r ∈ T:=hr r (qZs.2 ⟨some (r,p),by simp,rfl⟩)
  have bw : ∀ sl,(F sl).rt[r]? = (F []).rt[r]?:=fun sl=>by rw [h.rt_eq sl []]
  cases hx : (F []).rt[r]? with
  | some x =>
   cases x with
   | row e d xs =>
    have:=Loc.bz (ls:=ls) (ms:=ms) (i:=i + 1) (F:=fun sl=>((F sl).ah r true).aG r (.row e d (cD xs p (ms.getD i [])))) ((h.ah (.inl hT)).aG (.inl hT)) fun s hs=>hr s (by
     obtain ⟨o,h1,h2⟩:=qZs.1 hs
     exact qZs.2 ⟨o,by simp [h1],h2⟩)
    have e : (fun sl=>Eng.bz (F sl) (some (r,p) :: ls) ms i) = fun sl=>Eng.bz (((F sl).ah r true).aG r (.row e d (cD xs p (ms.getD i [])))) ls ms (i + 1):=by
     funext sl
     rw [Eng.bz]
     simp only [bw sl,hx]
    rw [e]; exact this
   | _ =>
    have e : (fun sl=>Eng.bz (F sl) (some (r,p) :: ls) ms i) = F:=by
     funext sl
     rw [Eng.bz]
     simp only [bw sl,hx]
    rw [e]; exact h
  | none =>
   have e : (fun sl=>Eng.bz (F sl) (some (r,p) :: ls) ms i) = F:=by
    funext sl
    rw [Eng.bz]
    simp only [bw sl,hx]
   rw [e]; exact h
theorem wh {rt : List aa} {np : Nat} {deep : Bool} : ∀ {ab : List CT} {cs : List Cl} {us : List U} {rs : List Nat},aQ rt np deep ab cs = some (us,rs) → ∀ s ∈ rs,s ∈ cs.flatMap Cl.af:=by
 intro ab cs
 induction cs generalizing ab with
 | nil =>
  intro us rs h s hs
  cases ab with
  | nil=>simp [aQ] at h; rw [h.2] at hs; simp at hs
  | cons t ts=>cases t <;> simp [aQ] at h
 | cons c cs ih =>
  intro us rs h s hs
  rw [qQ1]
  have tail : ∀ {f : List U × List Nat → List U × List Nat} {ts : List CT},(aQ rt np deep ts cs).map f = some (us,rs) → (∀ y,(f y).2 = y.2) → s ∈ c.af ++ cs.flatMap Cl.af:=by
   intro f ts hm hf
   obtain ⟨y,h1,h2⟩:=qQf.1 hm
   have h3:=hf y
   rw [h2] at h3
   exact qQ8 _ (ih h1 s (by rw [← h3]; exact hs))
  have oF : ∀ {q : Prop} [Decidable q] {f : List U × List Nat → List U × List Nat} {ts : List CT},(if q then (aQ rt np deep ts cs).map f else none) = some (us,rs) → (∀ y,(f y).2 = y.2) → s ∈ c.af ++ cs.flatMap Cl.af:=by
   intro q _ f ts hm hf
   split at hm
   ·exact tail hm hf
   ·cases hm
  cases ab with
  | nil=>simp [aQ] at h
  | cons t ts =>
   cases t <;> cases c <;> (try simp only [aQ] at h) <;> try (first | (cases h; done) | exact tail h (fun _=>rfl) | exact oF h (fun _=>rfl))
   rename_i e r p e'
   cases p with
   | cons=>simp [aQ] at h
   | nil =>
    simp only [aQ] at h
    split at h
    ·split at h
     ·obtain ⟨y,h1,h2⟩:=qQf.1 h
      have h3 : rs = r :: y.2:=by rw [← (qQv h2).2]
      rw [h3,qQn] at hs
      rcases hs with rfl | hs
      ·exact qZf _ (by simp [Cl.af])
      ·exact qQ8 _ (ih h1 s hs)
     ·cases h
    ·cases h
theorem zZ {x : SV} {cs : List Cl} (h : ig x = some cs) : cs.flatMap Cl.af = x.af:=by
 cases x with
 | c x=>cases x <;> simp [ig] at h <;> subst h <;> simp [SV.af]
 | ag xs=>simp [ig] at h; subst h; rfl
 | _=>simp [ig] at h
theorem Ej {T : ax} {sl : List SV} {rt : List aa} {np : Nat} {t : TypeId} {a x : SV} {d : Option Tmp} {aD : St} (h : dV T ⟨sl,rt,np⟩ t a x d some = some aD) :
  ∃ F,Loc (a.af ++ x.af) rt np F ∧ ∀ sl',dV T ⟨sl',rt,np⟩ t a x d some = some ((F sl').put d .no):=by
 unfold dV at h
 split at h
 ·rename_i cs bG
  split at h
  ·rename_i hc
   split at h
   ·rename_i r o
    split at h
    ·rename_i t' cO hr
     split at h
     ·rename_i bs v hb
      cases hz : decide (o < bs.length) with
      | false=>rw [hz] at h; cases h
      | true =>
       refine ⟨fun sl=>(⟨sl,rt,np⟩ : St).aG r (.box t' (iY v o bs 0)),Loc.start.aG (.inl (by simp [SV.af])),fun sl'=>?_⟩
       simp only at hr
       simp only [dV,bG,hr,if_pos hc,hb,hz,qQh]
     rename_i hb
     split at h
     ·rename_i hl
      refine ⟨fun sl=>(⟨sl,rt,np⟩ : St).aG r (.box t' (gB cO o cs)),Loc.start.aG (.inl (by simp [SV.af])),fun sl'=>?_⟩
      simp only at hr
      simp only [dV,bG,hr,if_pos hc,hb,if_pos hl]
     ·cases h
    ·cases h
   ·rename_i r p e i o
    split at h
    ·rename_i e0 deep xs hr
     split at h
     ·rename_i us rs he
      split at h
      ·rename_i hn
       have gn : ∀ s ∈ rs,s ∈ (SV.po r p e i o).af ++ x.af:=fun s hs=>qQ8 _ (by rw [← zZ bG]; exact wh he s hs)
       refine ⟨fun sl=>(((⟨sl,rt,np⟩ : St).consume rs).ah r true).aG r (.row e0 deep (cD xs p (bY (bc xs p) i o us))),
        ((Loc.start.consume gn).ah (.inl (by simp [SV.af]))).aG (.inl (by simp [SV.af])),fun sl'=>?_⟩
       simp only at hr he
       simp only [dV,bG,hr,if_pos hc,he,if_pos hn]
      ·cases h
     ·cases h
    ·cases h
   ·cases h
  ·cases h
 ·cases h
theorem zB {T : ax} {sl : List SV} {rt : List aa} {np : Nat} {t t2 : TypeId} {s x : SV} {d : Option Tmp} {aD : St} (h : dW T ⟨sl,rt,np⟩ t t2 s x d some = some aD) :
  ∃ F v,Loc (s.af ++ x.af) rt np F ∧ ∀ sl',dW T ⟨sl',rt,np⟩ t t2 s x d some = some ((F sl').put d v):=by
 unfold dW at h
 split at h <;> try (cases h; done)
 rename_i e dB
 split at h <;> try (cases h; done)
 rename_i hk
 split at h <;> try (cases h; done)
 rename_i Eh r hb
 
 obtain ⟨G,hG,wG,hr⟩ : ∃ G : List SV → St,Loc (s.af ++ x.af) rt np G ∧ (∀ sl',mQ ⟨sl',rt,np⟩ e s = some (G sl',r)) ∧ (r ∈ s.af ++ x.af ∨ (rt.length ≤ r ∧ ∀ sl,r < (G sl).rt.length)):=by
  unfold mQ at hb
  split at hb
  ·obtain ⟨h1,h2⟩:=qQv (qQc hb)
   subst h2
   refine ⟨fun sl=>(⟨sl,rt,np⟩ : St).add (.row e true []),Loc.start.ext [.row e true []],fun sl'=>rfl,.inr ⟨qQb _,fun sl=>?_⟩⟩
   show rt.length < (rt ++ [_]).length
   simp
  ·rename_i r' e'
   split at hb
   ·rename_i he
    obtain ⟨h1,h2⟩:=qQv (qQc hb)
    subst h2
    refine ⟨fun sl=>⟨sl,rt,np⟩,Loc.start,fun sl'=>by simp only [mQ,if_pos he],.inl (by simp [SV.af,Cl.af])⟩
   ·cases hb
  ·cases hb
 have BX : Eh = G sl:=(qQv (qQc (hb.symm.trans (wG sl)))).1
 subst BX
 have bw : ∀ sl',(G sl').rt = (G sl).rt:=fun sl'=>hG.rt_eq _ _
 have aO : ∀ sl',(G sl').np = (G sl).np:=fun sl'=>by rw [hG.lW,hG.lW]
 have dN : r ∈ s.af ++ x.af ∨ rt.length ≤ r:=hr.imp id fun hh=>hh.1
 split at h <;> try (cases h; done)
 rename_i e0 deep xs aB
 split at h <;> try (cases h; done)
 rename_i hh
 have base : ∀ sl',dW T ⟨sl',rt,np⟩ t t2 s x d some = (if fj (T.ct e) then
     (match (generalizing:=false) (match x with
      | .c .nil=>some (e,[])
      | x=>mA (G sl').rt x) with
     | some (e',ys)=>if e' = e then
      (bif room (xs.length + ys.length) (T.row e).bytes then some ((((G sl').ah r false).aG r (.row e deep (xs ++ ys))).put d (.c (.al r [] e))) else none) else none
     | none=>none)
    else match (generalizing:=false) deep,x with
     | true,.c (.al r2 [] e2)=>match (G sl').rt[r2]? with
      | some (.row eU true ys)=>if eU = e ∧ e2 = e ∧ r2 ≠ r ∧ (G sl').np ≤ r2 then
       (bif room (xs.length + ys.length) (T.row e).bytes then some (((((G sl').consume [r2]).ah r false).aG r (.row e true (xs ++ ys))).put d (.c (.al r [] e))) else none) else none
      | _=>none
     | false,.c (.rd e2 ys)=>if e2 = e then
       (bif room (xs.length + ys.length) (T.row e).bytes then some ((((G sl').ah r false).aG r (.row e false (xs ++ ys))).put d (.c (.al r [] e))) else none) else none
     | false,.c (.al r2 [] e2)=>match (G sl').rt[r2]? with
      | some (.row eU false ys)=>if eU = e ∧ e2 = e ∧ r2 ≠ r then
       (bif room (xs.length + ys.length) (T.row e).bytes then some ((((G sl').ah r false).aG r (.row e false (xs ++ ys))).put d (.c (.al r [] e))) else none) else none
      | _=>none
     | _,_=>none):=fun sl'=>by
  have q1 : (G sl').rt[r]? = some (.row e0 deep xs):=by rw [bw]; exact aB
  have q2 : e0 = e ∧ (G sl').np ≤ r:=by rw [aO]; exact hh
  simp only [dW,dB,if_pos hk,wG,q1,if_pos q2]
  rfl
 split at h
 ·rename_i hf
  split at h <;> try (cases h; done)
  rename_i e' ys cG
  split at h <;> try (cases h; done)
  rename_i he
  cases aP : room (xs.length + ys.length) (T.row e).bytes with
  | false=>rw [aP] at h; cases h
  | true =>
   refine ⟨fun sl=>((G sl).ah r false).aG r (.row e deep (xs ++ ys)),.c (.al r [] e),(hG.ah hr).aG dN,fun sl'=>?_⟩
   rw [base,if_pos hf]
   have q3 : (match x with | .c .nil=>some (e,[]) | x=>mA (G sl').rt x) = some (e',ys):=by rw [bw]; exact cG
   simp only [q3,if_pos he,aP,qQh]
 ·rename_i hf
  split at h <;> try (cases h; done)
  ·rename_i r2 e2
   split at h <;> try (cases h; done)
   rename_i eU ys tz
   split at h <;> try (cases h; done)
   rename_i hc
   cases aP : room (xs.length + ys.length) (T.row e).bytes with
   | false=>rw [aP] at h; cases h
   | true =>
    refine ⟨fun sl=>(((G sl).consume [r2]).ah r false).aG r (.row e true (xs ++ ys)),.c (.al r [] e),((hG.consume fun s hs=>by rw [qZj] at hs; subst hs; simp [SV.af,Cl.af]).ah (hr.imp id fun hh=>⟨hh.1,fun sl=>?_⟩)).aG dN,fun sl'=>?_⟩
    ·show r < (((G sl).rt.map _).set r2 _).length
     rw [qQl,qQk]; exact hh.2 sl
    ·rw [base,if_neg hf]
     have q3 : (G sl').rt[r2]? = some (.row eU true ys):=by rw [bw]; exact tz
     have q4 : eU = e ∧ e2 = e ∧ r2 ≠ r ∧ (G sl').np ≤ r2:=by rw [aO]; exact hc
     simp only [q3,if_pos q4,aP,qQh]
  ·rename_i e2 ys
   split at h <;> try (cases h; done)
   rename_i hc
   cases aP : room (xs.length + ys.length) (T.row e).bytes with
   | false=>rw [aP] at h; cases h
   | true =>
    refine ⟨fun sl=>((G sl).ah r false).aG r (.row e false (xs ++ ys)),.c (.al r [] e),(hG.ah hr).aG dN,fun sl'=>?_⟩
    rw [base,if_neg hf]
    simp only [if_pos hc,aP,qQh]
  ·rename_i r2 e2
   split at h <;> try (cases h; done)
   rename_i eU ys tz
   split at h <;> try (cases h; done)
   rename_i hc
   cases aP : room (xs.length + ys.length) (T.row e).bytes with
   | false=>rw [aP] at h; cases h
   | true =>
    refine ⟨fun sl=>((G sl).ah r false).aG r (.row e false (xs ++ ys)),.c (.al r [] e),(hG.ah hr).aG dN,fun sl'=>?_⟩
    rw [base,if_neg hf]
    have q3 : (G sl').rt[r2]? = some (.row eU false ys):=by rw [bw]; exact tz
    simp only [q3,if_pos hc,aP,qQh]
theorem wo {rt : List aa} {np : Nat} {deep : Bool} {ab : List CT} : ∀ {els : List (List Cl)} {xs : List (List U)} {rs : List Nat},dz rt np deep ab els = some (xs,rs) → ∀ s ∈ rs,s ∈ els.flatMap fun x=>x.flatMap Cl.af
 | [],xs,rs,h,s,hs=>by simp [dz] at h; rw [h.2] at hs; simp at hs
 | c :: els,xs,rs,h,s,hs=>by
  unfold dz at h
  split at h
  ·rename_i y z hy hz
   obtain ⟨rfl,rfl⟩:=qQv (qQc h)
   rw [qQ1]
   rcases qZg.1 hs with hs | hs
   ·exact qZf _ (wh (us:=y.1) hy s hs)
   ·exact qQ8 _ (wo (xs:=z.1) hz s hs)
  ·cases h
theorem En (rt : List aa) (c : Cl) : (jU rt c).af = []:=by
 cases c with
 | al r p e =>
  show (match rt[r]? with | some (.row _ _ xs)=>Cl.rd e (bc xs p) | _=>Cl.no).af = []
  split <;> rfl
 | _=>rfl
theorem rV : ∀ (xs acc : List Nat) (r : Nat),r ∈ dedup acc xs → r ∈ acc ∨ r ∈ xs
 | [],acc,r,h=>by unfold dedup at h; exact .inl h
 | x :: xs,acc,r,h=>by
  unfold dedup at h
  split at h
  ·rcases rV xs acc r h with h | h
   ·exact .inl h
   ·exact .inr (qZp _ h)
  ·rcases rV xs _ r h with h | h
   ·rcases qZg.1 h with h | h
    ·exact .inl h
    ·rw [qZj] at h; exact .inr (by simp [h])
   ·exact .inr (qZp _ h)
theorem xT {T : ax} {TT : List Nat} {rt : List aa} {np : Nat} {G : List SV → St} (hG : Loc TT rt np G) {sl : List SV} {e : TypeId} {deep : Bool} {els : List (List Cl)} {d : Option Tmp} {aD : St}
  (h : fN T (G sl) e deep els d some = some aD) (hT : ∀ r ∈ els.flatMap (fun x=>x.flatMap Cl.af),r ∈ TT) :
  ∃ F v,Loc TT rt np F ∧ ∀ sl',fN T (G sl') e deep els d some = some ((F sl').put d v):=by
 unfold fN at h
 split at h <;> try (cases h; done)
 rename_i xs rs dB
 split at h <;> try (cases h; done)
 rename_i hn
 have hL:=hG.consume (rs:=rs) fun r hr=>hT r (wo dB r hr)
 refine ⟨fun sl=>⟨((G sl).consume rs).sl,((G sl).consume rs).rt ++ [.row e deep xs],np⟩,.c (.al (G sl).rt.length [] e),hL.ext [.row e deep xs],fun sl'=>?_⟩
 have e1 : (G sl').rt = (G sl).rt:=hG.rt_eq _ _
 have e2 : (G sl').np = (G sl).np:=by rw [hG.lW,hG.lW]
 unfold fN
 simp only [e1,e2,dB,if_pos hn]
 have e3 : ((G sl').consume rs).np = np:=hL.lW sl'
 unfold St.add
 rw [e3]
theorem CP {T : ax} {TT : List Nat} {sl : List SV} {rt : List aa} {np : Nat} {e : TypeId} {els : List (List Cl)} {d : Option Tmp} {aD : St} (h : fO T ⟨sl,rt,np⟩ e els d some = some aD) (hT : ∀ r ∈ els.flatMap (fun x=>x.flatMap Cl.af),r ∈ TT) :
  ∃ F v,Loc TT rt np F ∧ ∀ sl',fO T ⟨sl',rt,np⟩ e els d some = some ((F sl').put d v):=by
 unfold fO at h
 dsimp only at h
 split at h
 ·rename_i hc
  obtain ⟨F,v,h1,h2⟩:=xT (G:=fun sl=>⟨sl,rt,np⟩) Loc.start h hT
  refine ⟨F,v,h1,fun sl'=>?_⟩
  unfold fO
  dsimp only
  rw [if_pos hc]
  exact h2 sl'
 ·rename_i hc
  split at h
  ·rename_i hq
   obtain ⟨F,v,h1,h2⟩:=xT (G:=fun sl=>(⟨sl,rt,np⟩ : St).consume (dedup [] (els.flatMap fun x=>x.flatMap Cl.af))) (Loc.start.consume fun r hr=>hT r ((rV _ _ r hr).resolve_left (by simp))) h (fun r hr=>by
    obtain ⟨x,hx,hr⟩:=qZ1.1 hr
    obtain ⟨y,_,rfl⟩:=qQo.1 hx
    obtain ⟨c,hc,hr⟩:=qZ1.1 hr
    obtain ⟨c',_,rfl⟩:=qQo.1 hc
    rw [En] at hr; simp at hr)
   refine ⟨F,v,h1,fun sl'=>?_⟩
   unfold fO
   dsimp only
   rw [if_neg hc,if_pos hq]
   exact h2 sl'
  ·cases h
theorem zQ {E : Env} {sl : List SV} {rt : List aa} {np : Nat} {g : FuncId} {args : List SV} {az : List aH} {d : Option Tmp} {aD : St} (dj : ¬ ((E.sig g).rs.any fun m=>!decide (m = .own)) = true) (h : cA E ⟨sl,rt,np⟩ g args az d some = some aD) :
  ∃ F v T,(∃ eO af aN cJ kr,E.fns g = some (eO,af) ∧ gy E.T rt (E.sig g).ps eO (args ++ az.map aH.sv) 0 = some (aN,cJ,kr) ∧ T = cJ.filterMap fun l=>l.2.map (·.1)) ∧ Loc T rt np F ∧
   ∀ sl',cA E ⟨sl',rt,np⟩ g args az d some = some ((F sl').put d v):=by
 have dj : ((E.sig g).rs.any fun m=>!decide (m = .own)) = false:=by simpa using dj
 unfold cA at h
 split at h <;> try (cases h; done)
 rename_i eO af hf
 split at h <;> try (cases h; done)
 rename_i hk
 split at h <;> try (cases h; done)
 rename_i aN cJ kr hp
 simp only at h hp
 split at h <;> try (cases h; done)
 rename_i hc
 rw [bZ fE,bZ kg] at h
 obtain ⟨ret,nt,h⟩:=qZi.1 h
 have hL:=Loc.bz (T:=cJ.filterMap fun l=>l.2.map (·.1)) (rt:=rt) (np:=np) (ls:=cJ.map (·.2)) (ms:=ret.ms) (i:=0) Loc.start fun r hr=>by
  unfold bq at hr
  rw [List.filterMap_map] at hr
  exact hr
 have hlen : ∀ sl',(bz (⟨sl',rt,np⟩ : St) (cJ.map (·.2)) ret.ms 0).rt.length = (bz (⟨sl,rt,np⟩ : St) (cJ.map (·.2)) ret.ms 0).rt.length:=fun sl'=>by rw [hL.rt_eq sl' sl]
 refine ⟨fun sl'=>⟨(bz ⟨sl',rt,np⟩ (cJ.map (·.2)) ret.ms 0).sl,(bz ⟨sl',rt,np⟩ (cJ.map (·.2)) ret.ms 0).rt ++ (results1 E.T (E.sig g).rs af ret.res 0 (bz (⟨sl,rt,np⟩ : St) (cJ.map (·.2)) ret.ms 0).rt.length).2,np⟩,
  iW (E.sig g).rs (results1 E.T (E.sig g).rs af ret.res 0 (bz (⟨sl,rt,np⟩ : St) (cJ.map (·.2)) ret.ms 0).rt.length).1,_,⟨eO,af,aN,cJ,kr,hf,hp,rfl⟩,hL.ext _,fun sl'=>?_⟩
 have nj : cK (List.filterMap (fun l=>Option.map (fun x=>x.fst) l.snd) cJ) = true ∧ ((List.filterMap (fun l=>Option.map (fun x=>x.fst) l.snd) cJ).all fun r=>!kr.elem r) = true ∧
  (cJ.any uS = false ∨ kr = []) ∧ (((E.sig g).rs.any fun m=>!decide (m = .own)) = false ∨ (xY rt kr = true ∧ (kr.all fun r=>decide (np ≤ r)) = true)):=hc
 unfold cA
 simp only [hf]
 rw [if_pos hk]
 simp only [hp]
 rw [if_pos nj,bZ fE,bZ kg,nt]
 simp only [qYi,bT,dj,qZv,qZe,hlen,hL.lW]
theorem yi {E : Env} {o : Oper} {sl : List SV} {rt : List aa} {np : Nat} {aD : St} (h : dG E o ⟨sl,rt,np⟩ some = some aD) :
  ∃ F v,Loc (eo E o ⟨sl,rt,np⟩) rt np F ∧ ∀ sl',(∀ t,Operand.tmp t ∈ o.op.operands.toList → sl.getD t .no = sl'.getD t .no) → dG E o ⟨sl',rt,np⟩ some = some ((F sl').put o.dst v):=by
 have bP : ∀ {sl' : List SV},(∀ t,Operand.tmp t ∈ o.op.operands.toList → sl.getD t .no = sl'.getD t .no) → ∀ x ∈ o.op.operands.toList,ev ⟨sl',rt,np⟩ x = ev ⟨sl,rt,np⟩ x:=fun hs x hx=>wv fun t ht=>(hs t (ht ▸ hx)).symm
 unfold dG at h
 split at h
 ·rename_i t a x ho
  obtain ⟨F,h1,h2⟩:=Ej h
  refine ⟨F,.no,?_,fun sl' hs=>?_⟩
  ·unfold eo; rw [ho]; exact h1
  ·have e1:=bP hs a (by rw [ho]; simp [Op.operands])
   have e2:=bP hs x (by rw [ho]; simp [Op.operands])
   unfold dG
   rw [ho]
   simp only [e1,e2]
   exact h2 sl'
 ·rename_i t len parts ho
  unfold eF at h
  split at h <;> try (cases h; done)
  rename_i e dB
  split at h <;> try (cases h; done)
  rename_i hk
  split at h <;> try (cases h; done)
  rename_i cs bG
  obtain ⟨F,v,h1,h2⟩:=CP (TT:=eo E o ⟨sl,rt,np⟩) h (fun r hr=>by
   unfold eo
   rw [ho]
   simp only [dB,bG]
   exact hr)
  refine ⟨F,v,h1,fun sl' hs=>?_⟩
  unfold dG
  rw [ho]
  have e1 : eE (fun i=>some (i * E.T.size e,E.T.size e)) (ev ⟨sl',rt,np⟩) (zeroCells (E.T.ct e) (len * E.T.size e)) parts.toList = some cs:=by
   rw [← bG]
   refine mT fun x hx=>bP hs x.2 ?_
   rw [ho]
   show x.2 ∈ ((parts.toList.map (·.2)).toArray).toList
   exact qQo.2 ⟨x,hx,rfl⟩
  show eF _ _ _ _ _ _ _ = _
  unfold eF
  simp only [dB,if_pos hk,e1]
  exact h2 sl'
 ·rename_i c ho
  have cu : ∀ {sl' : List SV},(∀ t,Operand.tmp t ∈ o.op.operands.toList → sl.getD t .no = sl'.getD t .no) → ∀ x ∈ c.args.toList,ev ⟨sl',rt,np⟩ x = ev ⟨sl,rt,np⟩ x:=fun hs x hx=>bP hs x (by
   rw [ho]
   show x ∈ (c.operands).toList
   unfold Call.operands
   rw [qYs]
   exact qQ8 _ hx)
  split at h
  ·rename_i zE yZ f hc
   split at h
   ·rename_i g az hf
    split at h
    ·cases h
    ·rename_i dj
     obtain ⟨F,v,T,⟨eO,af,aN,cJ,kr,h1,h2,h3⟩,h4,h5⟩:=zQ dj h
     refine ⟨F,v,?_,fun sl' hs=>?_⟩
     ·unfold eo
      rw [ho]
      simp only [hc,hf,h1,h2]
      rw [← h3]; exact h4
     ·have e1 : ev ⟨sl',rt,np⟩ f = ev ⟨sl,rt,np⟩ f:=bP hs f (by
       rw [ho]
       show f ∈ (c.operands).toList
       unfold Call.operands
       rw [hc,qYs]
       exact qZf _ (by simp))
      have e2 : c.args.toList.map (ev ⟨sl',rt,np⟩) = c.args.toList.map (ev ⟨sl,rt,np⟩):=qYu (cu hs)
      unfold dG
      rw [ho]
      simp only [hc,e1,hf,if_neg dj,e2]
      exact h5 sl'
   ·cases h
  ·rename_i s x t t2 hc pK gR
   obtain ⟨F,v,h1,h2⟩:=zB h
   refine ⟨F,v,?_,fun sl' hs=>?_⟩
   ·unfold eo
    rw [ho]
    simp only [hc,pK]
    simpa using h1
   ·have e1:=cu hs s (by rw [pK]; simp)
    have e2:=cu hs x (by rw [pK]; simp)
    unfold dG
    rw [ho]
    simp only [hc,pK,gR,e1,e2]
    exact h2 sl'
  ·cases h
 ·cases h
def eP (T : List Nat) (rt rt' : List aa) : Prop:=∀ (r : Nat) x,r ∉ T → rt[r]? = some x → x ≠ .gone → ∃ x',rt'[r]? = some x' ∧ aa.le x x'
theorem uj (T : List Nat) : ∀ (rt : List aa) (i r : Nat),(eN T rt i)[r]? = (rt[r]?).map fun x=>if T.elem (i + r) then .gone else x
 | [],i,r=>by simp [eN]
 | x :: xs,i,0=>by simp [eN]
 | x :: xs,i,r + 1=>by
  simp only [eN,qY1]
  rw [uj T xs (i + 1) r,show i + 1 + r = i + (r + 1) from by omega]
theorem uk {T : List Nat} {rt rt' : List aa} (h : eP T rt rt') {r : Nat} {e : TypeId} {d : Bool} {xs : List (List U)} (hr : (eN T rt 0)[r]? = some (.row e d xs)) : rt'[r]? = some (.row e d xs):=by
 rw [uj] at hr
 obtain ⟨x,h1,h2⟩:=qQf.1 hr
 rw [qQy] at h2
 split at h2
 ·cases h2
 ·rename_i hT
  subst h2
  obtain ⟨x',h3,h4⟩:=h r _ (by simpa using hT) h1 (by simp)
  cases x' with
  | row=>have h4 : aa.row _ _ _ = aa.row _ _ _:=h4; rw [h4]; exact h3
  | _=>cases h4
theorem CI {T : List Nat} {rt rt' : List aa} (h : eP T rt rt') {r : Nat} {t : TypeId} {cs : List Cl} (hr : (eN T rt 0)[r]? = some (.box t cs)) : ∃ cs',rt'[r]? = some (.box t cs') ∧ eA.le cs cs':=by
 rw [uj] at hr
 obtain ⟨x,h1,h2⟩:=qQf.1 hr
 rw [qQy] at h2
 split at h2
 ·cases h2
 ·rename_i hT
  subst h2
  obtain ⟨x',h3,h4⟩:=h r _ (by simpa using hT) h1 (by simp)
  cases x' with
  | box t' cs'=>obtain ⟨rfl,h5⟩:=h4; exact ⟨cs',h3,h5⟩
  | _=>cases h4
theorem eA.le.part {xs ys : List Cl} (h : eA.le xs ys) (o n : Nat) (hw : (((xs.drop o).take n).all fun x=>!x.fK) = true) : (ys.drop o).take n = (xs.drop o).take n:=by
 apply qZm
 intro i
 rw [qZk,qZk,qZb,qZb]
 split
 ·rename_i hi
  cases hx : xs[o + i]? with
  | none =>
   have : ¬ o + i < xs.length:=fun av=>by rw [qQg av] at hx; cases hx
   rw [qZh (by rw [← h.1]; omega)]
  | some x =>
   have av:=aA hx
   have hy:=qQg (l:=ys) (i:=o + i) (by rw [← h.1]; exact av)
   rw [hy]
   rcases h.2 (o + i) x _ hx hy with rfl | rfl
   ·have:=qQp.1 hw .no (qY2.2 ⟨i,by rw [qZk,if_pos hi,qZb,hx]⟩)
    simp [Cl.fK] at this
   ·rfl
 ·rfl
theorem Dr {agg : Bool} {cs : List Cl} (h : (pack agg cs).whole = true) : (cs.all fun x=>!x.fK) = true:=by
 unfold pack at h
 cases agg with
 | true=>exact h
 | false =>
  simp only [qZv,qZe] at h
  split at h
  ·simpa [SV.whole] using h
  ·cases h
theorem zJ : ∀ {cs cs' : List Cl} {bs : List Bool},jj cs = some bs → eA.le cs cs' → cs' = cs:=by
 intro cs cs' bs h hl
 obtain rfl:=mS h
 apply qZm
 intro i
 cases hx : (bs.map Cl.bool)[i]? with
 | none =>
  have : ¬ i < (bs.map Cl.bool).length:=fun av=>by rw [qQg av] at hx; cases hx
  rw [qZh (by rw [← hl.1]; omega)]
 | some x =>
  have av:=aA hx
  have hy:=qQg (l:=cs') (i:=i) (by rw [← hl.1]; exact av)
  rw [hy]
  rcases hl.2 i x _ hx hy with rfl | rfl
  ·rw [qQj] at hx
   obtain ⟨b,_,hb⟩:=qQf.1 hx
   cases hb
  ·rfl
theorem Cs {k : IntKind} : ∀ {cs cs' : List Cl} {ns : List Int},jL k cs = some ns → eA.le cs cs' → cs' = cs:=by
 intro cs cs' ns h hl
 obtain rfl:=qq h
 apply qZm
 intro i
 cases hx : (ns.map (Cl.int k))[i]? with
 | none =>
  have : ¬ i < (ns.map (Cl.int k)).length:=fun av=>by rw [qQg av] at hx; cases hx
  rw [qZh (by rw [← hl.1]; omega)]
 | some x =>
  have av:=aA hx
  have hy:=qQg (l:=cs') (i:=i) (by rw [← hl.1]; exact av)
  rw [hy]
  rcases hl.2 i x _ hx hy with rfl | rfl
  ·rw [qQj] at hx
   obtain ⟨b,_,hb⟩:=qQf.1 hx
   cases hb
  ·rfl
theorem Cr {T : ax} {t' t : TypeId} {cs : List Cl} {k : IntKind} {ns : List Int} {o : Nat} (h : iL T t' t cs = some (k,ns)) (hl : ((cs.drop o).take (T.size t)).length = T.size t) : o < ns.length:=by
 unfold iL at h
 split at h
 ·rename_i k' g1 g2 g3
  obtain ⟨xZ,h4,h5⟩:=qQf.1 h
  cases h5
  have:=qq h4
  have hs : T.size t = 1:=by show (T.ct t).length = 1; rw [g2]; rfl
  rw [hs,this,qZc,qZl,qQk] at hl
  omega
 ·cases h
theorem Cq {T : ax} {t' t : TypeId} {cs cs' : List Cl} {k : IntKind} {ns : List Int} (h : iL T t' t cs = some (k,ns)) (hl : eA.le cs cs') : cs' = cs:=by
 unfold iL at h
 split at h
 ·obtain ⟨xZ,h4,h5⟩:=qQf.1 h
  exact Cs h4 hl
 ·cases h
theorem CE {T : ax} {M : List Nat} {rt rt' : List aa} (h : eP M rt rt') {t : TypeId} {a v : SV} (hq : iN T (eN M rt 0) t a some = some v) (hw : v.whole = true) : iN T rt' t a some = some v:=by
 unfold iN at hq ⊢
 split at hq
 ·rename_i hk
  rw [if_pos hk]
  split at hq
  ·rename_i r o
   split at hq
   ·rename_i t' cs hr
    obtain ⟨cs',h1,h2⟩:=CI h hr
    cases hz : hY T t' t cs with
    | some bs =>
     have e : cs' = cs:=by
      have hz:=hz
      unfold hY at hz
      split at hz
      ·exact zJ hz h2
      ·cases hz
     subst e
     simp only [h1]
     exact hq
    | none =>
    rw [hz] at hq
    simp only at hq
    cases hy : iL T t' t cs with
    | some kn =>
     obtain ⟨k,ns⟩:=kn
     obtain rfl:=Cq hy h2
     simp only [h1]
     rw [hz,hy]
     rw [hy] at hq
     exact hq
    | none =>
    rw [hy] at hq
    simp only at hq
    split at hq
    ·rename_i hl
     obtain rfl:=qQc hq
     have h3:=h2.part o (T.size t) (Dr hw)
     simp only [h1]
     cases hz' : hY T t' t cs' with
     | some bs =>
      have h4 : ((cs'.drop o).take (T.size t)).length = T.size t:=by rw [h3]; exact hl
      have h5 : o < bs.length:=by
       unfold hY at hz'
       split at hz'
       ·rename_i g1 g2 g3
        have:=mS hz'
        have hs : T.size t = 1:=by show (T.ct t).length = 1; rw [g2]; rfl
        rw [hs,this,qZc,qZl,qQk] at h4
        omega
       ·cases hz'
      simp only
      rw [qQa h5,qQh,← (vD hz' h5).2,h3]
     | none =>
      simp only
      cases cy : iL T t' t cs' with
      | some kn =>
       obtain ⟨k,ns⟩:=kn
       have h5:=Cr (o:=o) cy (by rw [h3]; exact hl)
       simp only
       rw [qQa h5,qQh,← (xD cy h5).2,h3]
      | none =>
       simp only [h3]
       rw [if_pos hl]
    ·cases hq
   ·cases hq
  ·exact hq
  ·split at hq
   ·rename_i hr
    simp only [uk h hr]
    exact hq
   ·cases hq
  ·cases hq
 ·cases hq
theorem Cm {T : ax} {M : List Nat} {rt rt' : List aa} (h : eP M rt rt') {t : TypeId} {x i v : SV} (hq : kz T (eN M rt 0) t x i some = some v) : kz T rt' t x i some = some v:=by
 unfold kz at hq ⊢
 split at hq
 ·split at hq
  ·exact hq
  ·split at hq
   ·rename_i hr
    simp only [uk h hr]
    exact hq
   ·cases hq
  ·cases hq
 ·split at hq
  ·exact hq
  ·cases hq
 ·cases hq
theorem CC {M : List Nat} {rt rt' : List aa} (h : eP M rt rt') {x v : SV} (hq : lS (eN M rt 0) x some = some v) : lS rt' x some = some v:=by
 unfold lS at hq ⊢
 split at hq
 ·exact hq
 ·exact hq
 ·split at hq
  ·rename_i hr
   simp only [uk h hr]
   exact hq
  ·cases hq
 ·cases hq
theorem Dz {T : ax} {bh : TypeId → Bool} {M : List Nat} {rt rt' : List aa} (h : eP M rt rt') {ρ : Operand → SV} {op : Op} {v : SV} (hq : qK T bh (eN M rt 0) ρ op some = some v) (hw : v.whole = true) : qK T bh rt' ρ op some = some v:=by
 cases op
 case load t a=>exact CE h hq hw
 case indexAddr t x i=>exact Cm h hq
 case call c =>
  simp only [qK] at hq ⊢
  generalize c.callee = ce at hq ⊢
  generalize c.args.toList = ar at hq ⊢
  generalize c.argTypes.toList = ty at hq ⊢
  split at hq
  ·split at hq
   ·exact CC h hq
   ·exact hq
   ·cases hq
  ·exact hq
  ·exact hq
  ·cases hq
 case unOp u t x=>cases u <;> exact hq
 case makeFunc fn first az=>cases fn <;> exact hq
 case slice t x lo hi mx=>cases mx <;> exact hq
 all_goals exact hq
structure Mv (X : Ctx) (w : World) (rt : List aa) (g : Gh) (X' : Ctx) (rt' : List aa) (g' : Gh) (P : Nat → Prop) : Prop where
 T : X'.T = X.T
 ok : ∀ b,aq X w g b → aq X' w g' b
 row : ∀ (r : Nat) e d xs,P r → rt[r]? = some (.row e d xs) → rt'[r]? = some (.row e d xs) ∧ g'.v r = g.v r
 box : ∀ (r : Nat) t cs,P r → rt[r]? = some (.box t cs) → g'.b r = g.b r ∧ ∃ cs',rt'[r]? = some (.box t cs')
section
variable {X X' : Ctx} {w : World} {rt rt' : List aa} {g g' : Gh} {P : Nat → Prop}
theorem aF.mv (h : Mv X w rt g X' rt' g' P) {x : Cl} {v : Value} (hP : ∀ r ∈ x.af,P r) (hx : aF X w rt g x v) : aF X' w rt' g' x v:=by
 cases x with
 | rd e xs=>show aE X'.T.ct w _ _ _ _; rw [h.T]; exact aE.imp hx fun b hb=>⟨h.ok b hb,rfl⟩
 | al r p e =>
  obtain ⟨e0,d,xs,h1,h2,h3⟩:=hx
  obtain ⟨h4,h5⟩:=h.row r _ _ _ (hP r (by simp [Cl.af])) h1
  exact ⟨e0,d,xs,h4,h2,by rw [h.T,h5]; exact h3⟩
 | _=>exact hx
theorem aw.mv (h : Mv X w rt g X' rt' g' P) : ∀ {xs : List Cl} {vs : List Value},(∀ r ∈ xs.flatMap Cl.af,P r) → aw X w rt g xs vs → aw X' w rt' g' xs vs
 | [],[],_,_=>trivial
 | x :: xs,v :: vs,hP,hx=>⟨hx.1.mv h fun r hr=>hP r (by rw [qQ1]; exact qZf _ hr),aw.mv h (fun r hr=>hP r (by rw [qQ1]; exact qQ8 _ hr)) hx.2⟩
 | [],_ :: _,_,h=>h.elim
 | _ :: _,[],_,h=>h.elim
theorem cX.mv (h : Mv X w rt g X' rt' g' P) {e : TypeId} {us : List U} {o : Nat} {v : Value} (hx : cX X w g e us o v) : cX X' w g' e us o v:=by
 obtain ⟨b,off,h1,h2,h3,h4⟩:=hx
 refine ⟨b,off,h1,h.ok b h2,by rw [h.T]; exact h3,fun j u ct hu ai=>?_⟩
 rw [h.T] at ai ⊢
 obtain ⟨x,h5,h6⟩:=h4 j u ct hu ai
 exact ⟨x,h5,h6.imp fun b hb=>⟨h.ok b hb,rfl⟩⟩
theorem eQ.mv (h : Mv X w rt g X' rt' g' P) {r o : Nat} {v : Value} (hP : P r) (hx : eQ rt g r o v) : eQ rt' g' r o v:=by
 obtain ⟨h1,t,cs,h2⟩:=hx
 obtain ⟨h3,cs',h4⟩:=h.box r t cs hP h2
 exact ⟨by rw [h3]; exact h1,t,cs',h4⟩
theorem bJ.mv (h : Mv X w rt g X' rt' g' P) : ∀ {xs : List aH} {vs : List Value},(∀ r ∈ xs.flatMap aH.af,P r) → bJ X w rt g xs vs → bJ X' w rt' g' xs vs
 | [],[],_,_=>trivial
 | x :: xs,v :: vs,hP,hx=>by
  have h0 : ∀ r ∈ x.af,P r:=fun r hr=>hP r (by rw [qQ1]; exact qZf _ hr)
  refine ⟨?_,bJ.mv h (fun r hr=>hP r (by rw [qQ1]; exact qQ8 _ hr)) hx.2⟩
  cases x with
  | c x=>exact aF.mv h h0 hx.1
  | bx r o=>exact eQ.mv h (h0 r (by simp [aH.af])) hx.1
  | pr e us o=>exact cX.mv h hx.1
 | [],_ :: _,_,h=>h.elim
 | _ :: _,[],_,h=>h.elim
theorem bm.mv (h : Mv X w rt g X' rt' g' P) : ∀ {xs : List (Bool × List Cl)} {vs : List Value},(∀ r ∈ xs.flatMap (fun x=>x.2.flatMap Cl.af),P r) → bm X w rt g xs vs → bm X' w rt' g' xs vs
 | [],[],_,_=>trivial
 | (true,xs) :: ys,v :: vs,hP,hx=>by
  obtain ⟨⟨cs,h1,h2⟩,h3⟩:=hx
  exact ⟨⟨cs,h1,h2.mv h fun r hr=>hP r (by rw [qQ1]; exact qZf _ hr)⟩,bm.mv h (fun r hr=>hP r (by rw [qQ1]; exact qQ8 _ hr)) h3⟩
 | (false,[x]) :: ys,v :: vs,hP,hx=>⟨aF.mv h (fun r hr=>hP r (by rw [qQ1]; exact qZf _ (by simpa using hr))) hx.1,bm.mv h (fun r hr=>hP r (by rw [qQ1]; exact qQ8 _ hr)) hx.2⟩
 | (false,[]) :: ys,v :: vs,hP,hx=>bm.mv (xs:=ys) h (fun r hr=>hP r (by rw [qQ1]; exact qQ8 _ hr)) hx
 | (false,x :: y :: zs) :: ys,v :: vs,hP,hx=>bm.mv (xs:=ys) h (fun r hr=>hP r (by rw [qQ1]; exact qQ8 _ hr)) hx
 | [],_ :: _,_,h=>h.elim
 | (true,_) :: _,[],_,h=>h.elim
 | (false,[]) :: _,[],_,h=>h.elim
 | (false,[_]) :: _,[],_,h=>h.elim
 | (false,_ :: _ :: _) :: _,[],_,h=>h.elim
theorem ay.mv (h : Mv X w rt g X' rt' g' P) {x : SV} {v : Value} (hP : ∀ r ∈ x.af,P r) (hx : ay X w rt g x v) : ay X' w rt' g' x v:=by
 cases x with
 | c x =>
  by_cases hn : x = .no
  ·subst hn; trivial
  ·exact ay.cj (aF.mv h hP (hx.cl hn))
 | ag xs=>obtain ⟨cs,h1,h2⟩:=hx; exact ⟨cs,h1,h2.mv h hP⟩
 | bx r o=>exact eQ.mv h (hP r (by simp [SV.af])) hx
 | pr e us o=>exact cX.mv h hx
 | po r p e i o =>
  obtain ⟨e0,d,xs,b,q,n,c,h1,h2,h3,h4,h5⟩:=hx
  obtain ⟨h6,h7⟩:=h.row r _ _ _ (hP r (by simp [SV.af])) h1
  exact ⟨e0,d,xs,b,q,n,c,h6,h2,by rw [h.T,h7]; exact h3,h4,by rw [h.T]; exact h5⟩
 | fn f az=>obtain ⟨vs,h1,h2⟩:=hx; exact ⟨vs,h1,h2.mv h hP⟩
 | bf ys=>obtain ⟨vs,h1,h2⟩:=hx; exact ⟨vs,h1,h2.mv h hP⟩
 | ud=>exact hx
end
def Ctx.less (X : Ctx) (Z : Nat → Prop) : Ctx:={ X with S:=fun b=>X.S b ∧ ¬ Z b,nw:=fun b=>X.nw b ∧ ¬ Z b }
theorem ye {X : Ctx} {Z : Nat → Prop} {w : World} {g : Gh} {b : Nat} : aq (X.less Z) w g b ↔ aq X w g b ∧ ¬ Z b:=by
 constructor
 ·rintro ⟨h1,h2,h3 | h3⟩
  ·exact ⟨⟨h1,h2,.inl h3.1⟩,h3.2⟩
  ·exact ⟨⟨h1,h2,.inr h3.1⟩,h3.2⟩
 ·rintro ⟨⟨h1,h2,h3 | h3⟩,h4⟩
  ·exact ⟨h1,h2,.inl ⟨h3,h4⟩⟩
  ·exact ⟨h1,h2,.inr ⟨h3,h4⟩⟩
def eC (ks : List Nat) (g : Gh) (b : Nat) : Prop:=∃ k ∈ ks,g.own b = some k
open Classical in
noncomputable def Gh.cn (g : Gh) (ks : List Nat) : Gh:=⟨fun b=>if eC ks g b then none else g.own b,g.v,g.b⟩
open Classical in
noncomputable def Gh.bL (g : Gh) (ks : List Nat) (gz : Gh) : Gh:=⟨fun b=>if eC ks gz b then gz.own b else g.own b,fun r=>if r ∈ ks then gz.v r else g.v r,fun r=>if r ∈ ks then gz.b r else g.b r⟩
section
variable {X : Ctx} {own0 uw : Nat → Option Nat} {w0 w1 : World} {st : St} {a : Act} {w w' : World} {g g' gz : Gh} {ks : List Nat}
theorem Gh.jm {b r : Nat} : (g.cn ks).own b = some r ↔ g.own b = some r ∧ r ∉ ks:=by
 unfold Gh.cn
 simp only
 split
 ·rename_i hz
  obtain ⟨k,h1,h2⟩:=hz
  constructor
  ·intro h; cases h
  ·rintro ⟨h3,h4⟩; rw [h2] at h3; cases h3; exact absurd h1 h4
 ·rename_i hz
  exact ⟨fun h=>⟨h,fun hr=>hz ⟨r,hr,h⟩⟩,fun h=>h.1⟩
theorem Gh.rO {b : Nat} (h : g.own b = none) : (g.cn ks).own b = none:=by
 unfold Gh.cn
 simp only [h,ite_self]
theorem Rel.cn {sl : List SV} {rt rt' : List aa} {np : Nat} (h : Rel X own0 w0 ⟨sl,rt,np⟩ a w g) (hlen : X.np ≤ rt'.length) (hg : ∀ k ∈ ks,∀ x,rt'[k]? = some x → x = .gone) (bw : ∀ r,r ∉ ks → rt'[r]? = rt[r]?)
  (hrefs : ∀ (r : Nat) x,rt'[r]? = some x → ∀ s ∈ x.af,s ∉ ks) {sl' : List SV} (fg : sl'.length ≤ sl.length) (hs : ∀ (t : Nat) sv,sl'[t]? = some sv → sv = .c .no ∨ (sl[t]? = some sv ∧ ∀ s ∈ sv.af,s ∉ ks)) :
  Rel (X.less (eC ks g)) (g.cn ks).own w ⟨sl',rt',np⟩ a w (g.cn ks):=by
 have AU : ∀ b,eC ks g b → b < w.heap.size:=fun b ⟨k,_,hb⟩=>h.mem.lt b (by rw [hb]; simp)
 have bn : ∀ b,aq X w g b → aq (X.less (eC ks g)) w (g.cn ks) b:=fun b hb=>by
  refine ye.2 ⟨⟨Gh.rO hb.1,hb.2⟩,?_⟩
  rintro ⟨k,_,hk⟩
  rw [hb.1] at hk; cases hk
 have hM : Mv X w rt g (X.less (eC ks g)) rt' (g.cn ks) fun r=>r ∉ ks:=⟨rfl,bn,fun r e d xs hr hx=>⟨by rw [bw r hr]; exact hx,rfl⟩,fun r t cs hr hx=>⟨rfl,cs,by rw [bw r hr]; exact hx⟩⟩
 refine ⟨⟨fun r x hx=>?_,fun b hb=>?_,fun b r hb=>?_,fun b hb=>⟨h.mem.n0 b hb,fun hz=>by have:=AU b hz; omega⟩,h.mem.np,?_,fun b r hb=>?_,h.mem.pv⟩,qZd fg h.sz,fun t sv ht=>?_,h.df,⟨rfl,rfl,rfl,qQb _,fun b _ hb=>⟨hb,rfl⟩⟩⟩
 ·by_cases hr : r ∈ ks
  ·obtain rfl:=hg r hr x hx
   trivial
  ·have cg : rt[r]? = some x:=by rw [← bw r hr]; exact hx
   have hR:=h.mem.rt r x cg
   cases x with
   | box t cs =>
    obtain ⟨vs,h1,h2,h3⟩:=hR
    exact ⟨vs,h1,Gh.jm.2 ⟨h2,hr⟩,h3.mv hM fun s aM=>hrefs r _ hx s aM⟩
   | row e d xs =>
    cases d with
    | true=>exact ak.mono (h:=hR) fun b hb=>Gh.jm.2 ⟨hb,hr⟩
    | false=>exact aZ.imp hR (fun b hb=>⟨Gh.jm.2 ⟨hb,hr⟩,rfl⟩) fun b hb=>⟨bn b hb,rfl⟩
   | gone=>trivial
 ·cases hc : (g.cn ks).own b with
  | none=>exact absurd hc hb
  | some r=>exact h.mem.lt b (by rw [(Gh.jm.1 hc).1]; simp)
 ·obtain ⟨h1,h2⟩:=Gh.jm.1 hb
  have h3 : r < rt.length:=h.mem.ob b r h1
  have h4:=bw r h2
  rw [qQg h3] at h4
  exact aA h4
 ·exact hlen
 ·obtain ⟨h1,h2⟩:=Gh.jm.1 hb
  refine (h.mem.pm b r h1).imp (fun hn=>⟨hn,?_⟩) id
  rintro ⟨k,hk,aK⟩
  rw [h1] at aK; cases aK; exact h2 hk
 ·rcases hs t sv ht with rfl | ⟨h1,h2⟩
  ·trivial
  ·exact (h.sl t sv h1).mv hM h2
theorem Gh.qX {b k : Nat} (hk : k ∈ ks) (h : gz.own b = some k) : (g.bL ks gz).own b = some k:=by
 unfold Gh.bL
 simp only
 rw [if_pos ⟨k,hk,h⟩,h]
theorem Gh.oL {b : Nat} (h : ¬ eC ks gz b) : (g.bL ks gz).own b = g.own b:=if_neg h
def zu (T : bl) (w : World) (ok : Nat → Prop) (gz : Gh) (k : Nat) : aa → Prop
 | .box t cs=>∃ vs : Array Value,w.heap[gz.b k]? = some (.cells vs t (0,0)) ∧ gz.own (gz.b k) = some k ∧ ∀ (X : Ctx) (rt : List aa) (g : Gh),X.T.ct = T → (∀ b,ok b → aq X w g b) → aw X w rt g cs vs.toList
 | .row e true xs=>ak T w (fun b=>gz.own b = some k) (.aj e) (.lst xs) (gz.v k)
 | .row e false xs=>aZ T w (fun b=>gz.own b = some k) ok e xs (gz.v k)
 | .gone=>True
theorem Rel.bL {sl : List SV} {rt rt' : List aa} {np : Nat} (h : Rel (X.less (eC ks gz)) uw w1 ⟨sl,rt,np⟩ a w g) (hlen : rt'.length = rt.length) (hg : ∀ k ∈ ks,rt[k]? = some .gone) (bw : ∀ r,r ∉ ks → rt'[r]? = rt[r]?)
  (hZ : ∀ b k,k ∈ ks → gz.own b = some k → g.own b = none ∧ b < w.heap.size ∧ (X.nw b ∨ (k < X.np ∧ X.po b = some k))) (AT : ∀ b,w.heap.size ≤ b → X.nw b) (fe : ∀ k ∈ ks,k < rt.length) (BP : ∀ k ∈ ks,k < X.np → gz.v k = X.pv k)
  {ok : Nat → Prop} (bn : ∀ b,ok b → aq X w (g.bL ks gz) b) (hx : ∀ k ∈ ks,∀ x,rt'[k]? = some x → zu X.T.ct w ok gz k x)
  {sl' : List SV} (fg : sl'.length ≤ a.tmps.size) (hs : ∀ (t : Nat) sv,sl'[t]? = some sv → sl[t]? = some sv ∨ ay X w rt' (g.bL ks gz) sv (a.tmps.getD t undef)) (eI : Fr own0 w0 w (g.bL ks gz)) :
  Rel X own0 w0 ⟨sl',rt',np⟩ a w (g.bL ks gz):=by
 have fJ : ∀ b,aq (X.less (eC ks gz)) w g b → aq X w (g.bL ks gz) b:=fun b hb=>by
  obtain ⟨h1,h2⟩:=ye.1 hb
  exact ⟨by rw [Gh.oL h2]; exact h1.1,h1.2⟩
 have iE : ∀ {r : Nat} {x : aa},rt[r]? = some x → x ≠ .gone → r ∉ ks:=fun hr aW hk=>by
  rw [hg _ hk] at hr; cases hr; exact aW rfl
 have hM : Mv (X.less (eC ks gz)) w rt g X rt' (g.bL ks gz) fun _=>True :=
  ⟨rfl,fJ,fun r e d xs _ hx=>⟨by rw [bw r (iE hx (by simp))]; exact hx,if_neg (iE hx (by simp))⟩,fun r t cs _ hx=>⟨if_neg (iE hx (by simp)),cs,by rw [bw r (iE hx (by simp))]; exact hx⟩⟩
 have bo : ∀ {b r},(g.bL ks gz).own b = some r → (r ∈ ks ∧ gz.own b = some r) ∨ (¬ eC ks gz b ∧ g.own b = some r):=fun {b r} hb=>by
  by_cases hz : eC ks gz b
  ·left
   obtain ⟨k,h1,h2⟩:=hz
   rw [Gh.qX h1 h2] at hb
   cases hb
   exact ⟨h1,h2⟩
  ·right; rw [Gh.oL hz] at hb; exact ⟨hz,hb⟩
 have sW : ∀ {b r},g.own b = some r → (g.bL ks gz).own b = some r:=fun {b r} hb=>by
  rw [Gh.oL]
  ·exact hb
  ·rintro ⟨k,h1,h2⟩
   rw [(hZ b k h1 h2).1] at hb; cases hb
 refine ⟨⟨fun r x cg=>?_,fun b hb=>?_,fun b r hb=>?_,AT,h.mem.np,?_,fun b r hb=>?_,fun r hr=>?_⟩,fg,fun t sv ht=>?_,h.df,eI⟩
 ·by_cases hr : r ∈ ks
  ·have hC:=hx r hr x cg
   cases x with
   | box t cs =>
    obtain ⟨vs,h1,h2,h3⟩:=hC
    have hb : (g.bL ks gz).b r = gz.b r:=if_pos hr
    exact ⟨vs,by rw [hb]; exact h1,by rw [hb]; exact Gh.qX hr h2,h3 X rt' _ rfl bn⟩
   | row e d xs =>
    have hv : (g.bL ks gz).v r = gz.v r:=if_pos hr
    cases d with
    | true =>
     show ak _ _ _ _ _ ((g.bL ks gz).v r)
     rw [hv]
     exact ak.mono (h:=hC) fun b hb=>Gh.qX hr hb
    | false =>
     show aZ _ _ _ _ _ _ ((g.bL ks gz).v r)
     rw [hv]
     exact aZ.imp hC (fun b hb=>⟨Gh.qX hr hb,rfl⟩) fun b hb=>⟨bn b hb,rfl⟩
   | gone=>trivial
  ·have dD : rt[r]? = some x:=by rw [← bw r hr]; exact cg
   have hR:=h.mem.rt r x dD
   cases x with
   | box t cs =>
    obtain ⟨vs,h1,h2,h3⟩:=hR
    have hb : (g.bL ks gz).b r = g.b r:=if_neg hr
    exact ⟨vs,by rw [hb]; exact h1,by rw [hb]; exact sW h2,h3.mv hM fun _ _=>trivial⟩
   | row e d xs =>
    have hv : (g.bL ks gz).v r = g.v r:=if_neg hr
    cases d with
    | true =>
     show ak _ _ _ _ _ ((g.bL ks gz).v r)
     rw [hv]
     exact ak.mono (h:=hR) fun b hb=>sW hb
    | false =>
     show aZ _ _ _ _ _ _ ((g.bL ks gz).v r)
     rw [hv]
     exact aZ.imp hR (fun b hb=>⟨sW hb,rfl⟩) fun b hb=>⟨fJ b hb,rfl⟩
   | gone=>trivial
 ·cases hc : (g.bL ks gz).own b with
  | none=>exact absurd hc hb
  | some r =>
   rcases bo hc with ⟨h1,h2⟩ | ⟨_,h2⟩
   ·exact (hZ b r h1 h2).2.1
   ·exact h.mem.lt b (by rw [h2]; simp)
 ·show r < rt'.length
  rw [hlen]
  rcases bo hb with ⟨h1,h2⟩ | ⟨_,h2⟩
  ·exact fe r h1
  ·exact h.mem.ob b r h2
 ·show X.np ≤ rt'.length
  rw [hlen]; exact h.mem.nl
 ·rcases bo hb with ⟨h1,h2⟩ | ⟨_,h2⟩
  ·exact (hZ b r h1 h2).2.2
  ·exact (h.mem.pm b r h2).imp (fun hh=>hh.1) id
 ·show (if r ∈ ks then gz.v r else g.v r) = X.pv r
  by_cases hk : r ∈ ks
  ·rw [if_pos hk]; exact BP r hk hr
  ·rw [if_neg hk]; exact h.mem.pv r hr
 ·rcases hs t sv ht with h1 | h1
  ·exact (h.sl t sv h1).mv hM fun _ _=>trivial
  ·exact h1
end
section
variable {P : Program} {X : Ctx} {own0 uw : Nat → Option Nat} {w0 w1 : World} {st : St} {a : Act} {w w' : World} {g g' gz : Gh} {ks : List Nat} {E : Env}
theorem zm {fB st : St} {o : Oper} (hw : oM fB o = true) (fg : ∀ t,Operand.tmp t ∈ o.op.operands.toList → SV.le (fB.sl.getD t .no) (st.sl.getD t .no)) : ∀ x ∈ o.op.operands.toList,ev fB x = ev st x:=by
 intro x hx
 have h1:=qQp.1 hw x hx
 cases x with
 | tmp t=>exact (fg t hx).eq h1
 | _=>rfl
theorem DA (hE : dr P X.T E) (h : Rel X own0 w0 st a w g) {o : Oper} {fB : St} {T : List Nat} {v : SV} (hq : gV E o ⟨fB.sl,eN T fB.rt 0,fB.np⟩ some = some v) (hw : oM fB o = true) (hv : v.whole = true)
  (fg : ∀ t,Operand.tmp t ∈ o.op.operands.toList → SV.le (fB.sl.getD t .no) (st.sl.getD t .no)) (bw : eP T fB.rt st.rt) : bg P X own0 w0 o a w (st.put o.dst v):=by
 have bP:=zm hw fg
 have sN : ∀ x ∈ o.op.operands.toList,ev ⟨fB.sl,eN T fB.rt 0,fB.np⟩ x = ev st x:=fun x hx=>by rw [← bP x hx]; cases x <;> rfl
 unfold gV at hq
 split at hq
 ·rename_i t parts ho
  rw [ho] at sN
  rw [vG (ρ':=ev st) fun x hx=>sN x.2 (by
   show x.2 ∈ ((parts.toList.map (·.2)).toArray).toList
   exact qQo.2 ⟨x,hx,rfl⟩),hE.tE] at hq
  obtain ⟨u,h3,h4⟩:=rG hE.cE h hq
  exact bg.value (v:=u) (w':=w) (by simp [execOp,ho,h3]) (h.put o.dst h4)
 ·simp only at hq
  rw [yx (ρ':=ev st) sN] at hq
  have h2:=Dz bw hq hv
  rw [hE.tE] at h2
  obtain ⟨u,h3,h4⟩:=qG hE.cE hE.eq h o h2
  exact bg.value h3 (h.put o.dst h4)
theorem Ai {rt : List aa} {np : Nat} {deep : Bool} : ∀ {ab : List CT} {cs : List Cl} {us : List U} {rs : List Nat},aQ [] 0 deep ab cs = some (us,rs) → rs = [] ∧ aQ rt np deep ab cs = some (us,[]):=by
 intro ab cs
 induction cs generalizing ab with
 | nil =>
  intro us rs h
  cases ab with
  | nil=>simp [aQ] at h ⊢; exact ⟨h.2,h.1⟩
  | cons t ts=>cases t <;> simp [aQ] at h
 | cons c cs ih =>
  intro us rs h
  have tail : ∀ {f : List U × List Nat → List U × List Nat} {ts : List CT},(aQ [] 0 deep ts cs).map f = some (us,rs) → (∀ y,(f y).2 = y.2) → (∀ y z,y.1 = z.1 → (f y).1 = (f z).1) → rs = [] ∧ (aQ rt np deep ts cs).map f = some (us,[]):=by
   intro f ts hm hf ny
   obtain ⟨y,h1,h2⟩:=qQf.1 hm
   obtain ⟨h3,h4⟩:=ih (us:=y.1) (rs:=y.2) h1
   have h5:=hf y
   rw [h2,h3] at h5
   refine ⟨h5,?_⟩
   rw [h4]
   simp only [qQ7,qZo]
   have e1:=hf (y.1,[])
   have e2:=ny (y.1,[]) y rfl
   rw [h2] at e2
   exact Prod.ext e2 e1
  have oF : ∀ {q : Prop} [Decidable q] {f : List U × List Nat → List U × List Nat} {ts : List CT},(if q then (aQ [] 0 deep ts cs).map f else none) = some (us,rs) → (∀ y,(f y).2 = y.2) → (∀ y z,y.1 = z.1 → (f y).1 = (f z).1) → rs = [] ∧ (if q then (aQ rt np deep ts cs).map f else none) = some (us,[]):=by
   intro q _ f ts hm hf ny
   split at hm
   ·rename_i hq
    rw [if_pos hq]; exact tail hm hf ny
   ·cases hm
  cases ab with
  | nil=>simp [aQ] at h
  | cons t ts =>
   cases t <;> cases c <;> (try simp only [aQ] at h ⊢) <;> try (first | (cases h; done) | exact tail h (fun _=>rfl) (fun _ _ e=>by simp only [e]) | exact oF h (fun _=>rfl) (fun _ _ e=>by simp only [e]))
   rename_i e r p e'
   cases p with
   | cons=>simp [aQ] at h
   | nil =>
    simp only [aQ] at h
    split at h
    ·simp at h
    ·cases h
theorem wk {rt : List aa} {np : Nat} {deep : Bool} {ab : List CT} : ∀ {els : List (List Cl)} {xs : List (List U)} {rs : List Nat},dz [] 0 deep ab els = some (xs,rs) → dz rt np deep ab els = some (xs,[])
 | [],xs,rs,h=>by simp [dz] at h ⊢; exact h.1
 | c :: els,xs,rs,h=>by
  unfold dz at h
  split at h
  ·rename_i y z hy hz
   obtain ⟨rfl,rfl⟩:=qQv (qQc h)
   obtain ⟨_,h2⟩:=Ai (rt:=rt) (np:=np) (us:=y.1) (rs:=y.2) hy
   have h3:=wk (rt:=rt) (np:=np) (xs:=z.1) (rs:=z.2) hz
   unfold dz
   rw [h2,h3]; rfl
  ·cases h
theorem Aj {deep : Bool} {ab : List CT} {cs : List Cl} {us : List U} {rs : List Nat} (h : aQ [] 0 deep ab cs = some (us,rs)) : cs.flatMap Cl.af = []:=by
 induction cs generalizing ab us rs with
 | nil=>rfl
 | cons c cs ih =>
  rw [qQ1]
  have tail : ∀ {f : List U × List Nat → List U × List Nat} {ts : List CT},(aQ [] 0 deep ts cs).map f = some (us,rs) → cs.flatMap Cl.af = []:=by
   intro f ts hm
   obtain ⟨y,h1,_⟩:=qQf.1 hm
   exact ih (us:=y.1) (rs:=y.2) h1
  have oF : ∀ {q : Prop} [Decidable q] {f : List U × List Nat → List U × List Nat} {ts : List CT},(if q then (aQ [] 0 deep ts cs).map f else none) = some (us,rs) → cs.flatMap Cl.af = []:=by
   intro q _ f ts hm
   split at hm
   ·exact tail hm
   ·cases hm
  cases ab with
  | nil=>simp [aQ] at h
  | cons t ts =>
   cases t <;> cases c <;> (try simp only [aQ] at h) <;> try (first | (cases h; done) | (rw [tail h]; rfl) | (rw [oF h]; rfl))
   rename_i e r p e'
   cases p with
   | cons=>simp [aQ] at h
   | nil =>
    simp only [aQ] at h
    split at h
    ·simp at h
    ·cases h
theorem wm {deep : Bool} {ab : List CT} : ∀ {els : List (List Cl)} {xs : List (List U)} {rs : List Nat},dz [] 0 deep ab els = some (xs,rs) → (els.flatMap fun x=>x.flatMap Cl.af) = []
 | [],xs,rs,h=>rfl
 | c :: els,xs,rs,h=>by
  unfold dz at h
  split at h
  ·rename_i y z hy hz
   rw [qQ1,Aj (us:=y.1) (rs:=y.2) hy,wm (xs:=z.1) (rs:=z.2) hz]; rfl
  ·cases h
theorem AB (hE : dr P X.T E) (h : Rel X own0 w0 st a w g) {o : Oper} {ρ : Operand → SV} (tZ : ∀ x ∈ o.op.operands.toList,ρ x = ev st x) {k : Nat} {x : aa} {v : SV} (hq : eW X.T ρ o.op k (fun x v=>some (x,v)) = some (x,v)) :
  ∃ f : Nat → SV,v = f k ∧ bg P X own0 w0 o a w ((st.add x).put o.dst (f st.rt.length)) ∧ ((∃ t cs,x = .box t cs ∧ f = fun n=>.bx n 0) ∨ ∃ e d xs,x = .row e d xs ∧ f = fun n=>.c (.al n [] e)):=by
 unfold eW at hq
 split at hq
 ·rename_i t ho
  split at hq
  ·rename_i hk
   obtain ⟨h1,h2⟩:=qQv (qQc hq)
   subst h1 h2
   refine ⟨fun n=>.bx n 0,rfl,?_,.inl ⟨_,_,rfl,rfl⟩⟩
   obtain ⟨ae,h1,h2⟩:=vp (ar:=false) (K:=some) (r:=(st.add (.box t ((X.T.ct t).map ez))).put o.dst (.bx st.rt.length 0)) hE.cE h ho (by unfold hJ; rw [if_pos hk,if_neg (by decide)])
   obtain rfl:=qQc h1
   exact h2
  ·cases hq
 ·rename_i t len parts ho
  split at hq <;> try (cases hq; done)
  rename_i e he
  split at hq <;> try (cases hq; done)
  rename_i hk
  split at hq <;> try (cases hq; done)
  rename_i cs bG
  split at hq <;> try (cases hq; done)
  rename_i xs rs dB
  obtain ⟨h1,h2⟩:=qQv (qQc hq)
  subst h1 h2
  refine ⟨fun n=>.c (.al n [] e),rfl,?_,.inr ⟨_,_,_,rfl,rfl⟩⟩
  have Bf : eE (fun i=>some (i * X.T.size e,X.T.size e)) (ev st) (zeroCells (X.T.ct e) (len * X.T.size e)) parts.toList = some cs:=by
   rw [← bG]
   refine (mT fun x hx=>tZ x.2 ?_).symm
   rw [ho]
   show x.2 ∈ ((parts.toList.map (·.2)).toArray).toList
   exact qQo.2 ⟨x,hx,rfl⟩
  obtain ⟨ae,h1,h2⟩:=rH (K:=some) (r:=(st.add (.row e (!(chunk (X.T.size e) cs len).any jy) xs)).put o.dst (.c (.al st.rt.length [] e))) hE.cE h ho (by
   unfold eF
   simp only [he,if_pos hk,Bf]
   have tv : (dedup [] ((chunk (X.T.size e) cs len).flatMap fun x=>x.flatMap Cl.af)).isEmpty = true:=by rw [wm dB]; rfl
   unfold fO
   simp only [tv,Bool.or_true,if_true]
   unfold fN
   simp only [wk dB]
   rfl)
  obtain rfl:=qQc h1
  exact h2
 ·cases hq
theorem aw.refs {rt : List aa} : ∀ {xs : List Cl} {vs : List Value},aw X w rt g xs vs → ∀ r ∈ xs.flatMap Cl.af,∃ y,rt[r]? = some y ∧ y ≠ .gone
 | [],[],_,r,hr=>by simp at hr
 | x :: xs,v :: vs,h,r,hr=>by
  rw [qQ1] at hr
  rcases qZg.1 hr with hr | hr
  ·cases x <;> simp [Cl.af] at hr
   subst hr
   obtain ⟨e0,d,ys,h1,_⟩:=h.1
   exact ⟨_,h1,by simp⟩
  ·exact aw.refs h.2 r hr
 | [],_ :: _,h,_,_=>h.elim
 | _ :: _,[],h,_,_=>h.elim
theorem ay.refs {rt : List aa} {x : SV} {v : Value} (ht : x.tidy = true) (h : ay X w rt g x v) : ∀ r ∈ x.af,∃ y,rt[r]? = some y ∧ y ≠ .gone:=by
 intro r hr
 cases x with
 | c x=>exact aw.refs (xs:=[x]) (vs:=[v]) ⟨h.cl (by rintro rfl; simp [SV.af,Cl.af] at hr),trivial⟩ r (by simpa [SV.af] using hr)
 | ag xs=>obtain ⟨cs,_,h2⟩:=h; exact h2.refs r hr
 | bx s o=>simp [SV.af] at hr; subst hr; obtain ⟨_,t,cs,h2⟩:=h; exact ⟨_,h2,by simp⟩
 | pr=>simp [SV.af] at hr
 | po s p e i o=>simp [SV.af] at hr; subst hr; obtain ⟨e0,d,xs,b,q,n,c,h1,_⟩:=h; exact ⟨_,h1,by simp⟩
 | fn f az =>
  obtain ⟨vs,_,h2⟩:=h
  have key : ∀ {az : List aH} {vs : List Value},bJ X w rt g az vs → ∀ r ∈ az.flatMap aH.af,∃ y,rt[r]? = some y ∧ y ≠ .gone:=by
   intro az
   induction az with
   | nil=>intro vs _ r hr; simp at hr
   | cons x xs ih =>
    intro vs h r hr
    cases vs with
    | nil=>exact h.elim
    | cons v vs =>
     rw [qQ1] at hr
     rcases qZg.1 hr with hr | hr
     ·cases x with
      | c x=>exact aw.refs (xs:=[x]) (vs:=[v]) ⟨h.1,trivial⟩ r (by simpa [aH.af] using hr)
      | bx s o=>simp [aH.af] at hr; subst hr; obtain ⟨_,t,cs,h2⟩:=h.1; exact ⟨_,h2,by simp⟩
      | pr=>simp [aH.af] at hr
     ·exact ih h.2 r hr
  exact key h2 r hr
 | bf ys =>
  obtain ⟨vs,_,h2⟩:=h
  have key : ∀ {ys : List (Bool × List Cl)} {vs : List Value},(ys.all fun x=>x.1 || x.2.length == 1) = true → bm X w rt g ys vs → ∀ r ∈ ys.flatMap (fun x=>x.2.flatMap Cl.af),∃ y,rt[r]? = some y ∧ y ≠ .gone:=by
   intro ys
   induction ys with
   | nil=>intro vs _ _ r hr; simp at hr
   | cons x xs ih =>
    intro vs ht h r hr
    rw [List.all_cons,qQi] at ht
    rw [qQ1] at hr
    obtain ⟨b,cs⟩:=x
    cases vs with
    | nil=>cases b <;> (try exact h.elim) <;> (cases cs with | nil=>exact h.elim | cons c cs=>cases cs <;> exact h.elim)
    | cons v vs =>
     cases b with
     | true =>
      obtain ⟨⟨ds,_,h3⟩,h4⟩:=h
      rcases qZg.1 hr with hr | hr
      ·exact h3.refs r hr
      ·exact ih ht.2 h4 r hr
     | false =>
      have h1 : cs.length = 1:=by simpa using ht.1
      match cs,h1,h,hr with
      | [c],_,h,hr =>
       rcases qZg.1 hr with hr | hr
       ·exact aw.refs (xs:=[c]) (vs:=[v]) ⟨h.1,trivial⟩ r hr
       ·exact ih ht.2 h.2 r hr
  exact key ht h2 r hr
 | ud=>simp [SV.af] at hr
theorem AD (hE : dr P X.T E) (h : Rel X own0 w0 st a w g) (tQ : ∀ sv ∈ st.sl,sv.tidy = true) {o : Oper} {ρ : Operand → SV} (tZ : ∀ x ∈ o.op.operands.toList,ρ x = ev st x) {k i : Nat} (hk : st.rt[k]? = some .gone) (aO : X.np ≤ k) {x : aa} {v : SV}
  (hq : eW X.T ρ o.op k (fun x v=>some (x,v)) = some (x,v)) (hr : x.af = []) : bg P X own0 w0 o a w (Fl.ap ⟨i,o.dst,v,some (k,x)⟩ st):=by
 obtain ⟨f,rfl,lI,hf⟩:=AB hE h tZ hq
 intro next Q hn
 refine lI next Q fun u w' g1 h1=>?_
 have fe:=aA hk
 have EP : k ≠ st.rt.length:=by omega
 have xq : ∀ (s : St) (d : Option Tmp) (sv : SV),(s.put d sv) = ⟨cL s.sl d sv,s.rt,s.np⟩:=fz
 rw [xq] at h1
 have ku : (st.add x).rt = st.rt ++ [x]:=rfl
 
 have BU : ∀ (t : Nat) sv,st.sl[t]? = some sv → ∀ s ∈ sv.af,s < st.rt.length:=fun t sv ht s hs=>by
  obtain ⟨y,hy,_⟩:=(h.sl t sv ht).refs (tQ sv (qQz ht)) s hs
  exact aA hy
 have hC:=h1.cn (ks:=[st.rt.length]) (rt':=st.rt) (sl':=cL st.sl o.dst .no) h.mem.nl (fun k' aK y hy=>by
   rw [qZj] at aK; subst aK
   have:=aA hy; omega)
  (fun r lL=>by
   rw [qZj] at lL
   rw [ku]
   by_cases av : r < st.rt.length
   ·rw [qQu av]
   ·rw [qZh (by omega),qZh (by simp; omega)])
  (fun r y hy s hs=>by
   rw [qZj]
   have hR:=h.mem.rt r y hy
   cases y with
   | box t cs=>obtain ⟨vs,_,_,h4⟩:=hR; obtain ⟨z,hz,_⟩:=h4.refs s hs; have:=aA hz; omega
   | _=>simp [aa.af] at hs)
  (by
   show (cL st.sl o.dst .no).length ≤ (cL (st.add x).sl o.dst _).length
   cases o.dst <;> simp [cL,St.add])
  (fun t sv ht=>by
   rw [dq] at ht
   obtain ⟨y,hy,rfl⟩:=qQf.1 ht
   split
   ·exact .inl rfl
   ·rename_i hd
    refine .inr ⟨?_,fun s hs=>?_⟩
    ·rw [dq]
     show ((st.sl)[t]?).map _ = _
     rw [hy]; simp [hd]
    ·rw [qZj]; have:=BU t y hy s hs; omega)
 let gz : Gh:=⟨fun b=>if g1.own b = some st.rt.length then some k else none,fun _=>g1.v st.rt.length,fun _=>g1.b st.rt.length⟩
 have lu : ∀ b s,gz.own b = some s ↔ (g1.own b = some st.rt.length ∧ s = k):=fun b s=>by
  show (if g1.own b = some st.rt.length then some k else none) = some s ↔ _
  split
  ·rename_i hh; simp [hh,eq_comm]
  ·rename_i hh; simp [hh]
 have hZ : eC [st.rt.length] g1 = eC [k] gz:=by
  funext b
  rw [qXd]
  constructor
  ·rintro ⟨s,hs,hb⟩
   rw [qZj] at hs; subst hs
   exact ⟨k,by simp,(lu b k).2 ⟨hb,rfl⟩⟩
  ·rintro ⟨s,hs,hb⟩
   exact ⟨st.rt.length,by simp,((lu b s).1 hb).1⟩
 rw [hZ] at hC
 have bt:=h1.mem.rt st.rt.length x (by show (st.rt ++ [x])[_]? = _; simp)
 have sJ : ∀ b,g1.own b = none → (g1.cn [st.rt.length]).own b = none:=fun b hb=>Gh.rO hb
 have nT : ∀ b,g1.own b = none → ((g1.cn [st.rt.length]).bL [k] gz).own b = none:=fun b hb=>by
  rw [Gh.oL]
  ·exact sJ b hb
  ·rw [← hZ]; rintro ⟨s,_,hs⟩; rw [hb] at hs; cases hs
 have bn : ∀ b,aq X w' g1 b → aq X w' ((g1.cn [st.rt.length]).bL [k] gz) b:=fun b hb=>⟨nT b hb.1,hb.2⟩
 have qd : ∀ r,(st.rt.set k x)[r]? = if r = k then some x else st.rt[r]?:=fun r=>by
  by_cases nN : r = k
  ·subst nN; rw [if_pos rfl,qYy fe]
  ·rw [if_neg nN,qYo (fun hh=>nN hh.symm)]
 have Ce : ((g1.cn [st.rt.length]).bL [k] gz).v k = g1.v st.rt.length:=if_pos (by simp)
 have Bc : ((g1.cn [st.rt.length]).bL [k] gz).b k = g1.b st.rt.length:=if_pos (by simp)
 have hW:=hC.bL (own0:=own0) (w0:=w0) (ks:=[k]) (rt':=st.rt.set k x) (sl':=cL st.sl o.dst (f k)) (ok:=aq X w' g1) (by rw [qQl]) (fun k' aK=>by rw [qZj] at aK; subst aK; exact hk)
  (fun r lL=>by rw [qd,if_neg (by simpa using lL)])
  (fun b s hs hb=>by
   obtain ⟨h5,rfl⟩:=(lu b s).1 hb
   refine ⟨?_,h1.mem.lt b (by rw [h5]; simp),?_⟩
   ·cases hc : (g1.cn [st.rt.length]).own b with
    | none=>rfl
    | some r =>
     obtain ⟨h6,h7⟩:=Gh.jm.1 hc
     rw [h5] at h6; cases h6; simp at h7
   ·rcases h1.mem.pm b _ h5 with hh | ⟨hh,_⟩
    ·exact .inl hh
    ·have:=h.mem.nl; omega)
  h1.mem.n0 (fun s hs=>by rw [qZj] at hs; subst hs; exact fe) (fun s hs av=>by rw [qZj] at hs; omega) bn
  (fun s hs y hy=>by
   rw [qZj] at hs; subst hs
   rw [qd,if_pos rfl] at hy
   obtain rfl:=qQc hy
   cases x with
   | box t cs =>
    obtain ⟨vs,h5,h6,h7⟩:=bt
    refine ⟨vs,h5,(lu _ _).2 ⟨h6,rfl⟩,fun X2 qM g2 sw fp=>?_⟩
    have bG : ∀ {cs : List Cl} {vs : List Value},cs.flatMap Cl.af = [] → aw X w' (st.rt ++ [.box t cs]) g1 cs vs → True:=fun _ _=>trivial
    have key : ∀ {cs : List Cl} {vs : List Value} {rt0 : List aa},cs.flatMap Cl.af = [] → aw X w' rt0 g1 cs vs → aw X2 w' qM g2 cs vs:=by
     intro cs
     induction cs with
     | nil=>intro vs rt0 _ hh; cases vs <;> exact hh
     | cons c cs ih =>
      intro vs rt0 he hh
      cases vs with
      | nil=>exact hh.elim
      | cons v vs =>
       rw [qQ1,List.append_eq_nil_iff] at he
       refine ⟨?_,ih he.2 hh.2⟩
       cases c with
       | al r p e=>simp [Cl.af] at he
       | rd e xs=>show aE X2.T.ct w' _ _ _ _; rw [sw]; exact aE.imp hh.1 fun b hb=>⟨fp b hb,rfl⟩
       | _=>exact hh.1
    exact key hr h7
   | row e d xs =>
    cases d with
    | true=>exact ak.mono (h:=bt) fun b hb=>(lu b s).2 ⟨hb,rfl⟩
    | false=>exact aZ.imp bt (fun b hb=>⟨(lu b s).2 ⟨hb,rfl⟩,rfl⟩) fun b hb=>⟨hb,rfl⟩
   | gone=>trivial)
  (by
   have:=h1.sz
   have e1 : (cL (st.add x).sl o.dst (f st.rt.length)).length = (cL st.sl o.dst (f k)).length:=by cases o.dst <;> simp [cL,St.add]
   rw [← e1]; exact this)
  (fun t sv ht=>by
   rw [dq] at ht
   obtain ⟨y,hy,rfl⟩:=qQf.1 ht
   by_cases hd : o.dst = some t
   ·right
    rw [if_pos hd]
    have h5:=h1.sl t (f st.rt.length) (by rw [dq]; show ((st.sl)[t]?).map _ = _; rw [hy]; simp [hd])
    rcases hf with ⟨t',cs,rfl,rfl⟩ | ⟨e,d,xs,rfl,rfl⟩
    ·obtain ⟨h6,_⟩:=h5
     exact ⟨by rw [Bc]; exact h6,t',cs,by rw [qd,if_pos rfl]⟩
    ·obtain ⟨e0,d0,ys,h6,h7,h8⟩:=h5
     have h6 : (st.rt ++ [aa.row e d xs])[st.rt.length]? = some (.row e0 d0 ys):=h6
     simp at h6
     obtain ⟨rfl,rfl,rfl⟩:=h6
     exact ay.cj ⟨e,d,xs,by rw [qd,if_pos rfl],.inl rfl,by rw [Ce]; exact h8⟩
   ·left
    rw [if_neg hd,dq,hy]; simp [hd])
  ⟨h1.fr.os,h1.fr.tape,h1.fr.output,h1.fr.size,fun b hb ho=>by
   obtain ⟨h5,h6⟩:=h1.fr.block b hb ho
   exact ⟨nT b h5,h6⟩⟩
 refine hn u w' ((g1.cn [st.rt.length]).bL [k] gz) ?_
 show Rel X own0 w0 ((st.aG k x).put o.dst (f k)) _ _ _
 rw [xq]
 exact hW
end
def aU (xs : List Fl) (st : St) : St:=xs.foldl (fun s e=>e.ap s) st
theorem Fl.ga (e : Fl) (st : St) : (e.ap st).sl = cL st.sl e.d e.v:=by
 unfold Fl.ap
 split <;> rw [fz] <;> rfl
theorem Fl.rD (e : Fl) (st : St) : (e.ap st).np = st.np:=by
 unfold Fl.ap
 split <;> rw [fz] <;> rfl
theorem Fl.ji (e : Fl) (st : St) : (e.ap st).rt = match e.x with | some (k,r)=>st.rt.set k r | none=>st.rt:=by
 unfold Fl.ap
 cases hx : e.x with
 | none=>simp only [fz]
 | some kx=>obtain ⟨k,r⟩:=kx; simp only [fz]; rfl
theorem kJ (sl : List SV) (d : Option Tmp) (v : SV) : (cL sl d v).length = sl.length:=by cases d <;> simp [cL]
theorem fD (e : Fl) (xs : List Fl) (st : St) : aU (e :: xs) st = aU xs (e.ap st):=rfl
theorem oW (xs : List Fl) : ∀ (st : St),(aU xs st).np = st.np:=by
 induction xs with
 | nil=>exact fun _=>rfl
 | cons e xs ih=>intro st; rw [fD,ih,e.rD]
theorem rA (xs : List Fl) : ∀ (st : St),(aU xs st).sl.length = st.sl.length:=by
 induction xs with
 | nil=>exact fun _=>rfl
 | cons e xs ih=>intro st; rw [fD,ih,e.ga,kJ]
theorem Fl.vw (e : Fl) (st : St) : (e.ap st).rt.length = st.rt.length:=by
 rw [e.ji]; split <;> simp
theorem oX (xs : List Fl) : ∀ (st : St),(aU xs st).rt.length = st.rt.length:=by
 induction xs with
 | nil=>exact fun _=>rfl
 | cons e xs ih=>intro st; rw [fD,ih,e.vw]
theorem fZ {t : Nat} : ∀ {xs : List Fl} {st : St},(∀ e ∈ xs,e.d ≠ some t) → (aU xs st).sl[t]? = st.sl[t]?
 | [],st,_=>rfl
 | e :: xs,st,h=>by
  rw [fD,fZ fun e' he=>h e' (by simp [he]),e.ga,dq]
  have:=h e (by simp)
  simp only [this,qZe]
  exact qY3 ..
theorem jh {t : Nat} {e : Fl} : ∀ {xs : List Fl} {st : St},e ∈ xs → e.d = some t → (∀ e' ∈ xs,e'.d = some t → e' = e) → (aU xs st).sl[t]? = (st.sl[t]?).map fun _=>e.v
 | [],st,he,_,_=>by simp at he
 | e0 :: xs,st,he,hd,hu=>by
  rw [fD]
  by_cases bH : e ∈ xs
  ·rw [jh bH hd fun e' aY=>hu e' (by simp [aY]),e0.ga,dq,qYr]; rfl
  ·obtain rfl : e = e0:=by
    rcases qQn.1 he with h | h
    ·exact h
    ·exact absurd h bH
   rw [fZ (xs:=xs) fun e' aY eZ=>bH (hu e' (qZp _ aY) eZ ▸ aY),e.ga,dq]
   simp only [hd,if_true]
theorem jY {r : Nat} : ∀ {xs : List Fl} {st : St},(∀ e ∈ xs,∀ k x,e.x = some (k,x) → k ≠ r) → (aU xs st).rt[r]? = st.rt[r]?
 | [],st,_=>rfl
 | e :: xs,st,h=>by
  rw [fD,jY fun e' he=>h e' (by simp [he]),e.ji]
  split
  ·rename_i k x hx
   rw [qYo (h e (by simp) k x hx)]
  ·rfl
theorem kR {r : Nat} {x : aa} {e : Fl} : ∀ {xs : List Fl} {st : St},e ∈ xs → e.x = some (r,x) → (∀ e' ∈ xs,∀ x',e'.x = some (r,x') → e' = e) → (aU xs st).rt[r]? = (st.rt[r]?).map fun _=>x
 | [],st,he,_,_=>by simp at he
 | e0 :: xs,st,he,hd,hu=>by
  rw [fD]
  by_cases bH : e ∈ xs
  ·rw [kR bH hd fun e' aY=>hu e' (by simp [aY]),e0.ji]
   split
   ·rename_i k y hy
    rw [qQ9]
    split
    ·rename_i hk; subst hk
     split
     ·rename_i hl; rw [qQg hl]; rfl
     ·rename_i hl; rw [qZh (by omega)]
    ·rfl
   ·rfl
  ·obtain rfl : e = e0:=by
    rcases qQn.1 he with h | h
    ·exact h
    ·exact absurd h bH
   rw [jY (xs:=xs) fun e' aY k y hy hk=>bH (by subst hk; exact hu e' (qZp _ aY) y hy ▸ aY),e.ji]
   simp only [hd]
   rw [qQ9]
   simp only [if_true]
   split
   ·rename_i hl; rw [qQg hl]; rfl
   ·rename_i hl; rw [qZh (by omega)]; rfl
def rl (xs : List Fl) : Prop:=∀ e ∈ xs,∀ e' ∈ xs,(∀ t,e.d = some t → e'.d = some t → e = e') ∧ ∀ k x x',e.x = some (k,x) → e'.x = some (k,x') → e = e'
theorem mL {ks : List Nat} {st : St} (h : mK ks st = true) : (∀ k ∈ ks,st.rt[k]? = some .gone) ∧ (∀ sv ∈ st.sl,(∀ r ∈ sv.af,r ∉ ks) ∧ sv.tidy = true) ∧ ∀ x ∈ st.rt,∀ r ∈ x.af,r ∉ ks:=by
 unfold mK at h
 simp only [qQi] at h
 refine ⟨fun k hk=>?_,fun sv hs=>?_,fun x hx r hr=>?_⟩
 ·have:=qQp.1 h.1.1 k hk
  unfold wE at this
  split at this
  ·assumption
  ·cases this
 ·have:=qQp.1 h.1.2 sv hs
  simp only [qQi] at this
  exact ⟨fun r hr=>by simpa using qQp.1 this.1 r hr,this.2⟩
 ·have:=qQp.1 (qQp.1 h.2 x hx) r hr
  simpa using this
section
variable {P : Program} {X : Ctx} {own0 uw : Nat → Option Nat} {w0 w1 : World} {st aD : St} {a : Act} {w w' : World} {g g' gz : Gh} {ks : List Nat} {E : Env}
theorem Dg (hE : dr P X.T E) (h : Rel X own0 w0 st a w g) {o : Oper} (hq : dG E o st some = some aD) : bg P X own0 w0 o a w aD:=by
 have hT:=hE.tE
 unfold dG at hq
 split at hq
 ·rename_i t x y ho
  rw [hT] at hq
  obtain ⟨ae,h1,h2⟩:=yW hE.cE h ho hq
  obtain rfl:=qQc h1
  exact h2
 ·rename_i t len parts ho
  rw [hT] at hq
  obtain ⟨ae,h1,h2⟩:=rH hE.cE h ho hq
  obtain rfl:=qQc h1
  exact h2
 ·rename_i c ho
  split at hq
  ·rename_i zE yZ f hc
   split at hq
   ·rename_i bF az bP
    split at hq
    ·cases hq
    ·obtain ⟨ae,h1,h2⟩:=vK hE h ho hc bP hq
     obtain rfl:=qQc h1
     exact h2
   ·cases hq
  ·rename_i s x t t2 hc cu gR
   rw [hT] at hq
   obtain ⟨ae,h1,h2⟩:=vA hE.cE h (s:=s) (x:=x) (t:=t) (t2:=t2) (by
    rw [ho]
    obtain ⟨ce,ar,ty⟩:=c
    have e1 : ar = #[s,x]:=qZ2.1 cu
    have e2 : ty = #[t,t2]:=qZ2.1 gR
    subst e1 e2
    simp only at hc
    rw [hc]) hq
   obtain rfl:=qQc h1
   exact h2
  ·cases hq
 ·cases hq
theorem aw.cn {w w' : World} {rt : List aa} {X2 : Ctx} {qM : List aa} {g2 : Gh} (hT : X2.T.ct = X.T.ct) (bn : ∀ b,aq X w g b → aq X2 w' g2 b ∧ w'.heap[b]? = w.heap[b]?) : ∀ {cs : List Cl} {vs : List Value},cs.flatMap Cl.af = [] → aw X w rt g cs vs → aw X2 w' qM g2 cs vs
 | [],[],_,_=>trivial
 | c :: cs,v :: vs,he,hh=>by
  rw [qQ1,List.append_eq_nil_iff] at he
  refine ⟨?_,aw.cn hT bn he.2 hh.2⟩
  cases c with
  | al r p e=>simp [Cl.af] at he
  | rd e xs=>show aE X2.T.ct w' _ _ _ _; rw [hT]; exact aE.imp hh.1 bn
  | _=>exact hh.1
 | [],_ :: _,_,h=>h.elim
 | _ :: _,[],_,h=>h.elim
theorem Bl (hE : dr P X.T E) {xs : List Fl} {o : Oper} (h : Rel X own0 w0 (aU xs st) a w g) (hq : dG E o st some = some aD) (hu : rl xs)
  (sY : ∀ e ∈ xs,∀ d,e.d = some d → Operand.tmp d ∉ o.op.operands.toList ∧ o.dst ≠ some d) (aL : ∀ e ∈ xs,∀ r ∈ e.v.af,r ∉ eo E o st ++ news st.rt.length aD.rt.length)
  (eY : mK ks st = true) (wZ : ∀ e ∈ xs,∀ k x,e.x = some (k,x) → k ∈ ks) (tv : ∀ e ∈ xs,e.x = none → ∀ r ∈ e.v.af,r ∉ ks)
  (wW : ∀ e ∈ xs,∀ k x,e.x = some (k,x) → x.af = [] ∧ ((∃ t cs,x = .box t cs ∧ e.v = .bx k 0) ∨ ∃ e' d ys,x = .row e' d ys ∧ e.v = .c (.al k [] e')))
  (sC : ∀ e ∈ xs,∀ k x,e.x = some (k,x) → aD.rt[k]? = some .gone) : bg P X own0 w0 o a w (aU xs aD):=by
 obtain ⟨A1,A2,A3⟩:=mL eY
 let eg : List Nat:=xs.filterMap fun e=>e.x.map (·.1)
 have lA : ∀ k,k ∈ eg ↔ ∃ e ∈ xs,∃ x,e.x = some (k,x):=fun k=>by
  constructor
  ·intro hk
   obtain ⟨e,h1,h2⟩:=qZs.1 hk
   obtain ⟨⟨k',x⟩,h3,h4⟩:=qQf.1 h2
   simp only at h4; subst h4
   exact ⟨e,h1,x,h3⟩
  ·rintro ⟨e,h1,x,h2⟩
   exact qZs.2 ⟨e,h1,by rw [h2]; rfl⟩
 have pU : ∀ k ∈ eg,k ∈ ks:=fun k hk=>by obtain ⟨e,h1,x,h2⟩:=(lA k).1 hk; exact wZ e h1 k x h2
 have xu : ∀ (s : St) r,r ∉ eg → (aU xs s).rt[r]? = s.rt[r]?:=fun s r hr=>jY fun e he k x hx nD=>hr ((lA r).2 ⟨e,he,x,nD ▸ hx⟩)
 let cond : Nat → Bool:=fun t=>xs.any fun e=>e.x.isSome && e.d == some t
 let oC : List SV:=(aU xs st).sl.zipIdx.map fun x=>if cond x.2 then .c .no else x.1
 have qe : ∀ t : Nat,oC[t]? = ((aU xs st).sl[t]?).map fun x=>if cond t then .c .no else x:=fun t=>by
  show ((aU xs st).sl.zipIdx.map _)[t]? = _
  rw [qQj,qY4,qYr]
  simp only [qQy]; rfl
 have fm : ∀ t,cond t = true ↔ ∃ e ∈ xs,e.x.isSome = true ∧ e.d = some t:=fun t=>by
  constructor
  ·intro hc
   obtain ⟨e,h1,h2⟩:=qXh.1 hc
   simp only [qQi,beq_iff_eq] at h2
   exact ⟨e,h1,h2⟩
  ·rintro ⟨e,h1,h2,h3⟩
   exact qXh.2 ⟨e,h1,by simp [h2,h3]⟩
 have xb : oC.length = st.sl.length:=by
  show ((aU xs st).sl.zipIdx.map _).length = _
  rw [qQk,List.length_zipIdx,rA]
 have e0 : aU xs st = ⟨(aU xs st).sl,(aU xs st).rt,st.np⟩:=by rw [← oW xs st]
 rw [e0] at h
 
 have hC:=h.cn (ks:=eg) (rt':=st.rt) (sl':=oC) (by have:=h.mem.nl; rw [show (⟨(aU xs st).sl,(aU xs st).rt,st.np⟩ : St).rt.length = st.rt.length from oX xs st] at this; exact this)
  (fun k hk x hx=>by rw [A1 k (pU k hk)] at hx; exact (qQc hx).symm) (fun r hr=>(xu st r hr).symm) (fun r x hx s hs hk=>A3 x (qQz hx) s hs (pU s hk))
  (by rw [xb,rA]; exact qQb _) (fun t sv ht=>by
   rw [qe] at ht
   obtain ⟨y,hy,rfl⟩:=qQf.1 ht
   by_cases hc : cond t = true
   ·rw [if_pos hc]; exact .inl rfl
   ·rw [if_neg hc]
    refine .inr ⟨hy,fun s hs hk=>?_⟩
    by_cases hd : ∃ e ∈ xs,e.d = some t
    ·obtain ⟨e,h1,h2⟩:=hd
     rw [jh h1 h2 fun e' aY eZ=>(hu e' aY e h1).1 t eZ h2] at hy
     obtain ⟨z,_,rfl⟩:=qQf.1 hy
     cases hx : e.x with
     | some kx=>exact hc ((fm t).2 ⟨e,h1,by rw [hx]; rfl,h2⟩)
     | none=>exact tv e h1 hx s hs (pU s hk)
    ·rw [fZ fun e he eZ=>hd ⟨e,he,eZ⟩] at hy
     exact (A2 y (qQz hy)).1 s hs (pU s hk))
 
 have rY : st = ⟨st.sl,st.rt,st.np⟩:=rfl
 rw [rY] at hq
 obtain ⟨F,v,⟨ps,dH,hL⟩,hF⟩:=yi hq
 have eM : aD = (F st.sl).put o.dst v:=by
  have:=hF st.sl fun _ _=>rfl
  rw [hq] at this
  exact qQc this
 rw [hL.heq] at eM
 have ku : aD.rt = dH:=by rw [eM,fz]
 have tN : aD.sl = cL (st.sl.map (pS ps)) o.dst v:=by rw [eM,fz]
 have lI:=hF oC (fun t ht=>by
  rw [qQe,qQe,qe,fZ fun e he hd=>(sY e he t hd).1 ht]
  have hc : cond t = false:=by
   cases hc : cond t with
   | false=>rfl
   | true=>obtain ⟨e,h1,_,h2⟩:=(fm t).1 hc; exact absurd ht (sY e h1 t h2).1
  simp only [hc,qZv,qZe,qY3])
 rw [hL.heq,fz] at lI
 have AK : dr P (X.less (eC eg g)).T E:=hE
 have hS:=Dg AK hC lI
 intro next Q hn
 refine hS next Q fun u w' g' h'=>hn u w' (g'.bL eg g) ?_
 
 have nA : ∀ b,b < w.heap.size → (g.cn eg).own b = none → g'.own b = none ∧ w'.heap[b]? = w.heap[b]?:=fun b hb hc=>h'.fr.block b hb hc
 have pO : ∀ {b k},k ∈ eg → g.own b = some k → (g.cn eg).own b = none:=fun {b k} hk hb=>by
  cases hc : (g.cn eg).own b with
  | none=>rfl
  | some r=>obtain ⟨h1,h2⟩:=Gh.jm.1 hc; rw [hb] at h1; cases h1; exact absurd hk h2
 have av : ∀ {b k},g.own b = some k → b < w.heap.size:=fun hb=>h.mem.lt _ (by rw [hb]; simp)
 have nT : ∀ b,b < w.heap.size → g.own b = none → (g'.bL eg g).own b = none ∧ w'.heap[b]? = w.heap[b]?:=fun b hb hg=>by
  obtain ⟨h1,h2⟩:=nA b hb (Gh.rO hg)
  refine ⟨?_,h2⟩
  rw [Gh.oL]
  ·exact h1
  ·rintro ⟨k,_,hk⟩; rw [hg] at hk; cases hk
 have bn : ∀ b,aq X w g b → aq X w' (g'.bL eg g) b ∧ w'.heap[b]? = w.heap[b]?:=fun b hb=>by
  obtain ⟨h1,h2⟩:=nT b hb.2.1 hb.1
  exact ⟨⟨h1,qQ2 hb.2.1 h'.fr.size,hb.2.2⟩,h2⟩
 have BZ : ∀ t,o.dst ≠ some t → (a.put o.dst u).tmps.getD t undef = a.tmps.getD t undef:=fun t ht=>by
  cases hd : o.dst with
  | none=>rfl
  | some d =>
   show (a.tmps.setIfInBounds d u).getD t undef = _
   rw [qZr,qY5 (fun hh=>ht (by rw [hd,hh])),← qZr]
 have lH : ∀ {k x e},e ∈ xs → e.x = some (k,x) → (aU xs aD).rt[k]? = some x ∧ (aU xs st).rt[k]? = some x:=fun {k x e} he hx=>by
  have lO : ∀ e' ∈ xs,∀ x',e'.x = some (k,x') → e' = e:=fun e' aY x' cg=>(hu e' aY e he).2 k x' x cg hx
  refine ⟨?_,?_⟩
  ·rw [kR he hx lO,sC e he k x hx]; rfl
  ·rw [kR he hx lO,A1 k (wZ e he k x hx)]; rfl
 have hW:=h'.bL (own0:=own0) (w0:=w0) (rt':=(aU xs aD).rt) (sl':=(aU xs aD).sl) (ok:=aq X w g) (by rw [oX,ku])
  (fun k hk=>by obtain ⟨e,h1,x,h2⟩:=(lA k).1 hk; rw [← ku]; exact sC e h1 k x h2) (fun r hr=>by rw [xu aD r hr,ku])
  (fun b k hk hb=>⟨(nA b (av hb) (pO hk hb)).1,qQ2 (av hb) h'.fr.size,h.mem.pm b k hb⟩) (fun b hb=>(h'.mem.n0 b hb).1)
  (fun k hk=>by obtain ⟨e,h1,x,h2⟩:=(lA k).1 hk; rw [← ku]; exact aA (sC e h1 k x h2)) (fun k _ hk=>h.mem.pv k hk) (fun b hb=>(bn b hb).1)
  (fun k hk x hx=>by
   obtain ⟨e,h1,x',h2⟩:=(lA k).1 hk
   obtain ⟨h3,h4⟩:=lH h1 h2
   obtain rfl:=qQc (h3.symm.trans hx)
   have hR:=h.mem.rt k x' h4
   cases x' with
   | box t cs =>
    obtain ⟨vs,h5,h6,h7⟩:=hR
    exact ⟨vs,(nA _ (av h6) (pO hk h6)).2.trans h5,h6,fun X2 qM g2 sw fp=>aw.cn sw (fun b hb=>⟨fp b hb,(bn b hb).2⟩) (wW e h1 k _ h2).1 h7⟩
   | row e' d ys =>
    cases d with
    | true=>exact ak.imp hR fun b hb=>⟨hb,(nA b (av hb) (pO hk hb)).2⟩
    | false=>exact aZ.imp hR (fun b hb=>⟨hb,(nA b (av hb) (pO hk hb)).2⟩) fun b hb=>⟨hb,(bn b hb).2⟩
   | gone=>trivial)
  (by
   have:=h'.sz
   have e1 : (cL (oC.map (pS ps)) o.dst v).length = st.sl.length:=by rw [kJ,qQk,xb]
   rw [rA,tN,kJ,qQk,← e1]; exact this)
  (fun t sv ht=>by
   by_cases hd : ∃ e ∈ xs,e.d = some t
   ·obtain ⟨e,h1,h2⟩:=hd
    have lE:=(sY e h1 t h2).2
    have lO : ∀ e' ∈ xs,e'.d = some t → e' = e:=fun e' aY eZ=>(hu e' aY e h1).1 t eZ h2
    rw [jh h1 h2 lO,tN,dq,qYr] at ht
    obtain ⟨y,hy,rfl⟩:=qQf.1 ht
    rw [qQj] at hy
    obtain ⟨y0,nW,_⟩:=qQf.1 hy
    have hold : (aU xs st).sl[t]? = some e.v:=by rw [jh h1 h2 lO,nW]; rfl
    show _ ∨ ay X w' _ _ e.v _
    cases hx : e.x with
    | some kx =>
     obtain ⟨k,x⟩:=kx
     right
     have hv:=h.sl t e.v hold
     rw [BZ t lE]
     obtain ⟨h3,h4⟩:=lH h1 hx
     have hk : k ∈ eg:=(lA k).2 ⟨e,h1,x,hx⟩
     rcases (wW e h1 k x hx).2 with ⟨t',cs,rfl,he⟩ | ⟨e',d,ys,rfl,he⟩
     ·rw [he] at hv ⊢
      exact ⟨hv.1.trans (by show _ = Value.pointer (some ⟨(g'.bL eg g).b k,0,none⟩); rw [show (g'.bL eg g).b k = g.b k from if_pos hk]),t',cs,h3⟩
     ·rw [he] at hv ⊢
      obtain ⟨e1,d1,zs,h5,h6,h7⟩:=hv
      have h5 : (aU xs st).rt[k]? = some (.row e1 d1 zs):=h5
      rw [h4] at h5
      cases h5
      refine ay.cj ⟨e',d,ys,h3,.inl rfl,?_⟩
      rw [show (g'.bL eg g).v k = g.v k from if_pos hk]
      obtain ⟨q1,q2,q3⟩:=h7.bX
      rw [q3]
      exact .nil _ _ _
    | none =>
     left
     rw [dq,qQj,qe,hold]
     have hc : ¬ cond t = true:=fun hc=>by
      obtain ⟨e',h3,h4,h5⟩:=(fm t).1 hc
      rw [lO e' h3 h5,hx] at h4; cases h4
     have gO : pS ps e.v = e.v:=yn fun p hp hr=>by
      have nm:=aL e h1 p.1 hr
      rcases hL.gO p hp with h3 | ⟨h3,h4⟩
      ·exact nm (qZf _ h3)
      ·refine nm (qQ8 _ ?_)
       unfold news
       rw [ku]
       exact qQo.2 ⟨p.1 - st.rt.length,qZt.2 (by omega),by omega⟩
     simp only [qQ7,if_neg hc,gO,lE,qZe]; rfl
   ·left
    have ca : ∀ e ∈ xs,e.d ≠ some t:=fun e he eZ=>hd ⟨e,he,eZ⟩
    rw [fZ ca,tN,dq,qQj] at ht
    rw [dq,qQj,qe,fZ ca]
    have hc : ¬ cond t = true:=fun hc=>by
     obtain ⟨e',h3,_,h5⟩:=(fm t).1 hc
     exact ca e' h3 h5
    simp only [if_neg hc,qY3]
    exact ht)
  ⟨h'.fr.os.trans h.fr.os,h'.fr.tape.trans h.fr.tape,h'.fr.output.trans h.fr.output,qZd h.fr.size h'.fr.size,fun b hb ho=>by
   obtain ⟨h1,h2⟩:=h.fr.block b hb ho
   obtain ⟨h3,h4⟩:=nT b (qQ2 hb h.fr.size) h1
   exact ⟨h3,h4.trans h2⟩⟩
 have aO : aD.np = st.np:=by rw [eM,fz]
 rw [show aU xs aD = ⟨(aU xs aD).sl,(aU xs aD).rt,st.np⟩ from by rw [← aO,← oW xs aD]]
 exact hW
end
section
variable {R : Type}
theorem vo (T : ax) (ar : Bool) (st : St) (t : TypeId) (d : Option Tmp) (K : St → Option R) : hJ T ar st t d K = (hJ T ar st t d some).bind K:=by
 unfold hJ ml; repeat' split
 all_goals rfl
theorem ze (T : ax) (st : St) (t : TypeId) (a : SV) (d : Option Tmp) (K : St → Option R) : jV T st t a d K = (jV T st t a d some).bind K:=by
 unfold jV; repeat' split
 all_goals rfl
theorem vF (T : ax) (ar : Bool) (st : St) (t : TypeId) (x : SV) (d : Option Tmp) (K : St → Option R) : jk T ar st t x d K = (jk T ar st t x d some).bind K:=by
 unfold jk ml; repeat' split
 all_goals rfl
theorem CO (T : ax) (st : St) (e : TypeId) (els : List (List Cl)) (d : Option Tmp) (K : St → Option R) : fO T st e els d K = (fO T st e els d some).bind K:=by
 have e : ∀ st deep els,fN T st e deep els d K = (fN T st e deep els d some).bind K:=fun st deep els=>by
  unfold fN
  split
  ·split <;> rfl
  ·rfl
 unfold fO
 dsimp only
 split
 ·exact e ..
 ·split
  ·exact e ..
  ·rfl
theorem mU (T : ax) (st : St) (t : TypeId) (len : Nat) (parts : List (Nat × Operand)) (d : Option Tmp) (K : St → Option R) : eF T st t len parts d K = (eF T st t len parts d some).bind K:=by
 unfold eF
 split
 ·split
  ·split
   ·exact CO ..
   ·rfl
  ·rfl
 ·rfl
theorem xP (T : ax) (st : St) (t : TypeId) (l c : Operand) (d : Option Tmp) (K : St → Option R) : jN T st t l c d K = (jN T st t l c d some).bind K:=by
 unfold jN
 repeat' split
 all_goals first | rfl | contradiction | simp only [kb,qYq,qYi]
theorem oE (T : ax) (st : St) (t : TypeId) (a x : SV) (d : Option Tmp) (K : St → Option R) : dV T st t a x d K = (dV T st t a x d some).bind K:=by
 unfold dV
 repeat' split
 all_goals first | rfl | contradiction | simp only [kb,qYq,qYi]
theorem mM (T : ax) (st : St) (t t2 : TypeId) (s x : SV) (d : Option Tmp) (K : St → Option R) : dW T st t t2 s x d K = (dW T st t t2 s x d some).bind K:=by
 unfold dW
 repeat' split
 all_goals first | rfl | contradiction | simp only [kb,qYq,qYi]
theorem Dd (E : Env) (o : Oper) (st : St) (K : St → Option R) : dG E o st K = (dG E o st some).bind K:=by
 unfold dG
 split
 ·exact oE ..
 ·exact mU ..
 ·split
  ·split
   ·split
    ·rfl
    ·unfold cA
     simp only [bZ fE,bZ kg,bT]
     split
     ·split
      ·split
       ·split
        ·rw [Option.bind_assoc]; rfl
        ·rfl
       ·rfl
      ·rfl
     ·rfl
   ·rfl
  ·exact mM ..
  ·rfl
 ·rfl
theorem sq (T : ax) (ρ : Operand → SV) (op : Op) (k : Nat) (K : aa → SV → Option R) : eW T ρ op k K = (eW T ρ op k fun x v=>some (x,v)).bind fun p=>K p.1 p.2:=by
 unfold eW
 repeat' split
 all_goals first | rfl | contradiction
theorem Dj (E : Env) (o : Oper) (st : St) (K : SV → Option R) : gV E o st K = (gV E o st some).bind K:=by
 unfold gV
 split
 ·exact ia ..
 ·exact kK ..
theorem jv (xs : List Nat) (K : List Nat → R) : cq (fun x K=>cQ x K) xs K = K xs:=bZ (fun x K=>ju x K) xs K
structure oQ (E : Env) (ops : List Oper) (aC : List (List Nat)) (pl : Nat → Nat) (ts : List (Nat × List Nat)) (st : St) (o : Oper) (e : Fl) : Prop where
 whole : oM st o = true
 tidy : e.v.tidy = true
 clear : e.v.clear (kE (aC.getD e.i []) ts) = true
 lK : (kA o = true ∧ ∃ x,eW E.T (ev st) o.op (pl e.i) (fun x v=>some (x,v)) = some (x,e.v) ∧ x.af = [] ∧ e.x = some (pl e.i,x)) ∨
  (kA o = false ∧ gV E o ⟨st.sl,eN (kE (aC.getD e.i []) ts) st.rt 0,st.np⟩ some = some e.v ∧ e.v.whole = true ∧ e.x = none ∧ ((∀ x ∈ ts,x.1 ∈ aC.getD e.i [] ∨ cC ops x.1 = true) ∨ e.v.clear ((jx ops).map pl) = true))
def fX (E : Env) (ops : List Oper) (aC : List (List Nat)) (pl : Nat → Nat) : List Nat → List (Nat × List Nat) → St → List Fl → St → Prop
 | [],ts,st,fs,ae=>fs = [] ∧ ae = st
 | i :: L,ts,st,fs,ae=>mK (((i :: L).filter (cC ops)).map pl) st = true ∧ ∃ o,ops[i]? = some o ∧
   ((dF ops o = true ∧ ∃ aD,dG E o st some = some aD ∧ fX E ops aC pl L (ts ++ [(i,eo E o st ++ news st.rt.length aD.rt.length)]) aD fs ae) ∨
   (dF ops o = false ∧ ∃ e cZ,fs = e :: cZ ∧ e.i = i ∧ e.d = o.dst ∧ oQ E ops aC pl ts st o e ∧ fX E ops aC pl L (if kA o = true then ts ++ [(i,[pl i])] else ts) (e.ap st) cZ ae))
theorem wD {T : ax} {ρ : Operand → SV} {op : Op} {k : Nat} {x : aa} {v : SV} (h : eW T ρ op k (fun x v=>some (x,v)) = some (x,v)) : v.tidy = true ∧ ((∃ t cs,x = .box t cs ∧ v = .bx k 0) ∨ ∃ e d ys,x = .row e d ys ∧ v = .c (.al k [] e)):=by
 unfold eW at h
 repeat' split at h
 all_goals first | (cases h; done) | skip
 ·obtain ⟨h1,h2⟩:=qQv (qQc h); subst h1 h2; exact ⟨rfl,.inl ⟨_,_,rfl,rfl⟩⟩
 ·obtain ⟨h1,h2⟩:=qQv (qQc h); subst h1 h2; exact ⟨rfl,.inr ⟨_,_,_,rfl,rfl⟩⟩
theorem qO {E : Env} {ops : List Oper} {aC : List (List Nat)} {pl : Nat → Nat} {K : St → Option R} {r : R} : ∀ {L : List Nat} {ts : List (Nat × List Nat)} {st : St},runM E ops aC pl L ts st K = some r → ∃ fs ae,fX E ops aC pl L ts st fs ae ∧ K ae = some r
 | [],ts,st,h=>⟨[],st,⟨rfl,rfl⟩,h⟩
 | i :: L,ts,st,h=>by
  unfold runM at h
  split at h <;> try (cases h; done)
  rename_i eY
  split at h <;> try (cases h; done)
  rename_i o ho
  split at h
  ·rename_i hh
   rw [Dd] at h
   obtain ⟨aD,h1,h2⟩:=qZi.1 h
   rw [bT,jv] at h2
   obtain ⟨fs,ae,h3,h4⟩:=qO h2
   exact ⟨fs,ae,⟨eY,o,ho,.inl ⟨hh,aD,h1,h3⟩⟩,h4⟩
  ·rename_i hh
   have hh : dF ops o = false:=by simpa using hh
   rw [jv] at h
   split at h
   ·rename_i hf
    rw [sq] at h
    obtain ⟨⟨x,v⟩,h1,h2⟩:=qZi.1 h
    simp only at h2
    split at h2 <;> try (cases h2; done)
    rename_i hc
    simp only [qQi,qQw] at hc
    rw [bT] at h2
    obtain ⟨fs,ae,h3,h4⟩:=qO h2
    refine ⟨⟨i,o.dst,v,some (pl i,x)⟩ :: fs,ae,⟨eY,o,ho,.inr ⟨hh,_,fs,rfl,rfl,rfl,⟨hc.1.1,(wD h1).1,hc.1.2,.inl ⟨hf,x,h1,hc.2,rfl⟩⟩,?_⟩⟩,h4⟩
    rw [if_pos hf]; exact h3
   ·rename_i hf
    have sO : kA o = false:=by simpa using hf
    rw [Dj] at h
    obtain ⟨v,h1,h2⟩:=qZi.1 h
    split at h2 <;> try (cases h2; done)
    rename_i hc
    simp only [qQi,qZw] at hc
    rw [bT] at h2
    obtain ⟨fs,ae,h3,h4⟩:=qO h2
    obtain ⟨⟨⟨⟨c1,c2⟩,c3⟩,c4⟩,c5⟩:=hc
    refine ⟨⟨i,o.dst,v,none⟩ :: fs,ae,⟨eY,o,ho,.inr ⟨hh,_,fs,rfl,rfl,rfl,⟨c1,c3,c4,.inr ⟨sO,h1,c2,rfl,c5.imp (fun hc x hx=>?_) id⟩⟩,?_⟩⟩,h4⟩
    ·have:=qQp.1 hc x hx
     simpa using this
    ·rw [if_neg hf]; exact h3
end
structure mH (ops : List Oper) (aC : List (List Nat)) (sched : List Nat) : Prop where
 guard : ∀ (i : Nat) o,ops[i]? = some o → o.guard = none
 dep : ∀ (i : Nat) o,ops[i]? = some o → ∀ a ∈ eT o,a < i
 cE : ∀ (i : Nat) o,ops[i]? = some o → ∀ j ∈ aC.getD i [],∃ a ∈ eT o,a = j ∨ j ∈ aC.getD a []
 apart : ∀ (i j : Nat) x y,ops[i]? = some x → ops[j]? = some y → i ≠ j → j ∉ aC.getD i [] → i ∉ aC.getD j [] → ∀ d,x.dst = some d → Operand.tmp d ∉ y.op.operands.toList
 dst : ∀ (i j : Nat) x y,ops[i]? = some x → ops[j]? = some y → i ≠ j → ∀ d,x.dst = some d → y.dst ≠ some d
 all : ∀ i,i < ops.length → i ∈ sched
 ord : fh ops aC sched [] = true
theorem CL {ops : List Oper} {aC : List (List Nat)} {sched : List Nat} (h : qx ops aC sched = true) : mH ops aC sched:=by
 unfold qx at h
 simp only [qQi] at h
 obtain ⟨⟨h1,h2⟩,h3⟩:=h
 have hz : ∀ {i : Nat} {o : Oper},ops[i]? = some o → (o,i) ∈ ops.zipIdx:=fun {i o} ho=>qY2.2 ⟨i,by simp [qY4,ho]⟩
 have key:=fun {i : Nat} {o : Oper} (ho : ops[i]? = some o)=>qQp.1 h1 (o,i) (hz ho)
 simp only [qQi] at key
 refine ⟨fun i o ho=>by simpa using (key ho).1.1.1.1.1,fun i o ho a ha=>by simpa using qQp.1 (key ho).1.1.1.2 a ha,fun i o ho j hj=>?_,fun i j x y hx hy gk hj hi d hd=>?_,fun i j x y hx hy gk d hd he=>?_,fun i hi=>?_,h3⟩
 ·obtain ⟨a,h4,h5⟩:=qXh.1 (qQp.1 (key ho).1.1.2 j hj)
  refine ⟨a,h4,?_⟩
  simpa using h5
 ·have h4:=qQp.1 (key hy).1.2 (x,i) (hz hx)
  simp only [qZw,beq_iff_eq,qZ6,qQw] at h4
  rcases h4 with ((h4 | h4) | h4) | h4
  ·exact absurd h4 gk
  ·exact absurd h4 hj
  ·exact absurd h4 hi
  ·unfold vz at h4
   rw [hd] at h4
   simp only [qQi,qZ5,qZ6,qYj] at h4
   exact fun hh=>h4.1.1 (xO hh)
 ·have h4:=qQp.1 (key hy).2 (x,i) (hz hx)
  simp only [qZw,beq_iff_eq,qZ5,qYj] at h4
  rcases h4 with (h4 | h4) | h4
  ·exact gk h4
  ·rw [hd] at h4; cases h4
  ·exact h4 (hd.trans he.symm)
 ·have:=qQp.1 h2 i (qZt.2 hi)
  simpa using this
theorem lZ {ops : List Oper} {aC : List (List Nat)} {i : Nat} {L done : List Nat} (h : fh ops aC (i :: L) done = true) :
  (∀ j ∈ aC.getD i [],j ∈ done) ∧ i ∉ done ∧ (∀ o,ops[i]? = some o → dF ops o = true → ∀ j ∈ done,j ∈ aC.getD i []) ∧ fh ops aC L (done ++ [i]) = true:=by
 unfold fh at h
 simp only [qQi] at h
 obtain ⟨⟨⟨h1,h2⟩,h3⟩,h4⟩:=h
 refine ⟨fun j hj=>by simpa using qQp.1 h1 j hj,by simpa using h2,fun o ho hh j hj=>?_,h4⟩
 rw [ho] at h3
 simp only [hh,qXa,Bool.false_or] at h3
 simpa using qQp.1 h3 j hj
theorem jO {ops : List Oper} {aC : List (List Nat)} : ∀ {L done : List Nat},fh ops aC L done = true → ∀ j ∈ L,j ∉ done
 | [],_,_,j,hj=>by simp at hj
 | i :: L,done,h,j,hj=>by
  obtain ⟨_,h2,_,h4⟩:=lZ h
  rcases qQn.1 hj with rfl | hj
  ·exact h2
  ·exact fun hd=>jO h4 j hj (by simp [hd])
theorem yk {ops : List Oper} {aC : List (List Nat)} : ∀ {L done : List Nat},fh ops aC L done = true → ∀ i ∈ L,∀ o,ops[i]? = some o → dF ops o = true → ∀ j ∈ done,j ∈ aC.getD i []
 | [],_,_,i,hi,_,_,_,_,_=>by simp at hi
 | i0 :: L,done,h,i,hi,o,ho,hh,j,hj=>by
  obtain ⟨_,_,h3,h4⟩:=lZ h
  rcases qQn.1 hi with rfl | hi
  ·exact h3 o ho hh j hj
  ·exact yk h4 i hi o ho hh j (by simp [hj])
section
variable {E : Env} {ops : List Oper} {aC : List (List Nat)} {pl : Nat → Nat}
theorem dK : ∀ {L : List Nat} {ts : List (Nat × List Nat)} {st ae : St} {fs : List Fl},fX E ops aC pl L ts st fs ae → ∀ e ∈ fs,e.i ∈ L ∧ ∃ o dI en,ops[e.i]? = some o ∧ dF ops o = false ∧ e.d = o.dst ∧ oQ E ops aC pl dI en o e ∧ ∀ x ∈ ts,x ∈ dI
 | [],ts,st,ae,fs,h,e,he=>by rw [h.1] at he; simp at he
 | i :: L,ts,st,ae,fs,h,e,he=>by
  obtain ⟨_,o,ho,⟨hh,aD,_,h2⟩ | ⟨hh,e0,cZ,rfl,h1,h2,h3,h4⟩⟩:=h
  ·obtain ⟨q1,o',dI,en,q2,q3,q4,q5,q6⟩:=dK h2 e he
   exact ⟨by simp [q1],o',dI,en,q2,q3,q4,q5,fun x hx=>q6 x (by simp [hx])⟩
  ·rcases qQn.1 he with rfl | he
   ·exact ⟨by simp [h1],o,ts,st,by rw [h1]; exact ho,hh,h2,h3,fun x hx=>hx⟩
   ·obtain ⟨q1,o',dI,en,q2,q3,q4,q5,q6⟩:=dK h4 e he
    exact ⟨by simp [q1],o',dI,en,q2,q3,q4,q5,fun x hx=>q6 x (by split <;> simp [hx])⟩
theorem mJ : ∀ {L done : List Nat} {ts : List (Nat × List Nat)} {st ae : St} {fs : List Fl},fX E ops aC pl L ts st fs ae → fh ops aC L done = true → ∀ e ∈ fs,∀ e' ∈ fs,e.i = e'.i → e = e'
 | [],_,ts,st,ae,fs,h,_,e,he,_,_,_=>by rw [h.1] at he; simp at he
 | i :: L,done,ts,st,ae,fs,h,ho,e,he,e',aY,hi=>by
  obtain ⟨_,_,_,h4⟩:=lZ ho
  obtain ⟨_,o,_,⟨_,aD,_,h2⟩ | ⟨_,e0,cZ,rfl,h1,_,_,h5⟩⟩:=h
  ·exact mJ h2 h4 e he e' aY hi
  ·have aW : ∀ e ∈ cZ,e.i ≠ i:=fun e he nx=>jO h4 e.i (dK h5 e he).1 (by simp [nx])
   rcases qQn.1 he with k1 | k1
   ·rcases qQn.1 aY with k2 | k2
    ·rw [k1,k2]
    ·rw [k1] at hi; exact absurd (hi.symm.trans h1) (aW e' k2)
   ·rcases qQn.1 aY with k2 | k2
    ·rw [k2] at hi; exact absurd (hi.trans h1) (aW e k1)
    ·exact mJ h5 h4 e k1 e' k2 hi
theorem zv {sched : List Nat} (hS : mH ops aC sched) (gq : ∀ i j,cC ops i = true → cC ops j = true → pl i = pl j → i = j) {L done : List Nat} {ts : List (Nat × List Nat)} {st ae : St} {fs : List Fl} (h : fX E ops aC pl L ts st fs ae) (ho : fh ops aC L done = true) : rl fs:=by
 intro e he e' aY
 obtain ⟨_,o,dI,en,q2,q3,q4,q5,_⟩:=dK h e he
 obtain ⟨_,o',Fs,Fi,p2,p3,p4,p5,_⟩:=dK h e' aY
 refine ⟨fun t h1 h2=>?_,fun k x x' h1 h2=>?_⟩
 ·by_cases hi : e.i = e'.i
  ·exact mJ h ho e he e' aY hi
  ·rw [q4] at h1; rw [p4] at h2
   exact absurd h2 (hS.dst e.i e'.i o o' q2 p2 hi t h1)
 ·have f1 : cC ops e.i = true ∧ k = pl e.i:=by
   rcases q5.lK with ⟨hf,y,_,_,hy⟩ | ⟨_,_,_,hy,_⟩
   ·rw [h1] at hy; cases hy
    exact ⟨by unfold cC; rw [q2]; simp [hf,q3],rfl⟩
   ·rw [h1] at hy; cases hy
  have f2 : cC ops e'.i = true ∧ k = pl e'.i:=by
   rcases p5.lK with ⟨hf,y,_,_,hy⟩ | ⟨_,_,_,hy,_⟩
   ·rw [h2] at hy; cases hy
    exact ⟨by unfold cC; rw [p2]; simp [hf,p3],rfl⟩
   ·rw [h2] at hy; cases hy
  exact mJ h ho e he e' aY (gq _ _ f1.1 f2.1 (f1.2.symm.trans f2.2))
theorem na {e : Fl} {o : Oper} {ts : List (Nat × List Nat)} {st : St} (h : oQ E ops aC pl ts st o e) (ho : ops[e.i]? = some o) (hh : dF ops o = false) {k : Nat} {x : aa} (hx : e.x = some (k,x)) : k = pl e.i ∧ cC ops e.i = true ∧ kA o = true:=by
 rcases h.lK with ⟨hf,y,_,_,hy⟩ | ⟨_,_,_,hy,_⟩
 ·rw [hx] at hy; cases hy
  exact ⟨rfl,by unfold cC; rw [ho]; simp [hf,hh],hf⟩
 ·rw [hx] at hy; cases hy
theorem um {pre : List Nat} {ts : List (Nat × List Nat)} {r : Nat} : r ∈ kE pre ts ↔ ∃ x ∈ ts,x.1 ∉ pre ∧ r ∈ x.2:=by
 unfold kE
 rw [qZ1]
 constructor
 ·rintro ⟨x,hx,hr⟩
  by_cases hp : x.1 ∈ pre
  ·simp [hp] at hr
  ·simp only [qZ6,hp,decide_false,qZv,qZe] at hr
   exact ⟨x,hx,hp,hr⟩
 ·rintro ⟨x,hx,hp,hr⟩
  exact ⟨x,hx,by simp only [qZ6,hp,decide_false,qZv,qZe]; exact hr⟩
theorem ry {t : Nat} : ∀ (xs : List Fl) {s1 s2 : St},s1.sl.length = s2.sl.length → SV.le (s1.sl.getD t .no) (s2.sl.getD t .no) → SV.le ((aU xs s1).sl.getD t .no) ((aU xs s2).sl.getD t .no)
 | [],s1,s2,_,h=>h
 | e :: xs,s1,s2,hl,h=>by
  rw [fD,fD]
  refine ry xs (by rw [e.ga,e.ga,kJ,kJ]; exact hl) ?_
  rw [e.ga,e.ga,qQe,qQe,dq,dq]
  rw [qQe,qQe] at h
  by_cases hd : e.d = some t
  ·simp only [hd,if_true]
   by_cases ht : t < s1.sl.length
   ·rw [qQg ht,qQg (by omega)]; exact .same _
   ·rw [qZh (by omega),qZh (by omega)]; exact .same _
  ·simp only [hd,qZe,qY3]; exact h
theorem DL (M : List Nat) (rt : List aa) : eP M rt rt:=fun r x _ hx _=>⟨x,hx,aa.le_refl x⟩
theorem aa.CB {x y : aa} (h : aa.le x y) (hx : x ≠ .gone) : y ≠ .gone:=by
 rintro rfl
 cases x with
 | gone=>exact hx rfl
 | box=>cases h
 | row=>cases h
theorem eP.trans {M : List Nat} {r1 r2 r3 : List aa} (h : eP M r1 r2) (k : eP M r2 r3) : eP M r1 r3:=fun r x hr hx hn=>by
 obtain ⟨y,h1,h2⟩:=h r x hr hx hn
 obtain ⟨z,h3,h4⟩:=k r y hr h1 (aa.CB h2 hn)
 exact ⟨z,h3,aa.le.trans h2 h4⟩
theorem rz {M : List Nat} : ∀ (xs : List Fl) {s1 s2 : St},(∀ e ∈ xs,∀ k x,e.x = some (k,x) → k < s2.rt.length) → eP M s1.rt s2.rt → eP M (aU xs s1).rt (aU xs s2).rt
 | [],s1,s2,_,h=>h
 | e :: xs,s1,s2,hl,h=>by
  rw [fD,fD]
  refine rz xs (fun e' aY k x hx=>by rw [e.vw]; exact hl e' (by simp [aY]) k x hx) ?_
  rw [e.ji,e.ji]
  split
  ·rename_i k x hx
   intro r y hr hy hn
   rw [qQ9] at hy
   rw [qQ9]
   split at hy
   ·rename_i hk
    subst hk
    split at hy
    ·obtain rfl:=qQc hy
     rw [if_pos rfl,if_pos (hl e (by simp) k x hx)]
     exact ⟨x,rfl,aa.le_refl x⟩
    ·cases hy
   ·rename_i hk
    rw [if_neg hk]
    exact h r y hr hy hn
  ·exact h
theorem rj {sched : List Nat} (hS : mH ops aC sched) {p : Nat → Bool} {q : Nat} {oq : Oper} (pW : ops[q]? = some oq) (sV : dF ops oq = false) (pY : p q = false) (gu : ∀ j ∈ aC.getD q [],p j = true)
  (aL : ∀ j,p j = true → j < ops.length → ∀ a ∈ aC.getD j [],p a = true) : ∀ {L done : List Nat} {ts : List (Nat × List Nat)} {st ae : St} {fs : List Fl},fX E ops aC pl L ts st fs ae → fh ops aC L done = true → q ∈ L → (∀ i ∈ L,∀ o,ops[i]? = some o → dF ops o = true → p i = false) →
  ∃ e ∈ fs,e.i = q ∧ e.d = oq.dst ∧ ∃ jc jb,oQ E ops aC pl jc jb oq e ∧ (∀ x ∈ ts,x ∈ jc) ∧
   (∀ t,Operand.tmp t ∈ oq.op.operands.toList → SV.le (jb.sl.getD t .no) ((aU (fs.filter fun e=>p e.i) st).sl.getD t .no)) ∧ eP (kE (aC.getD q []) jc) jb.rt (aU (fs.filter fun e=>p e.i) st).rt
 | [],_,_,_,_,_,_,_,hq,_=>by simp at hq
 | i :: L,done,ts,st,ae,fs,h,ho,hq,iz=>by
  obtain ⟨o1,o2,o3,o4⟩:=lZ ho
  obtain ⟨eY,o,dZ,wQ⟩:=h
  obtain ⟨A1,A2,A3⟩:=mL eY
  have EN : i < ops.length:=aA dZ
  have place : ∀ {fs : List Fl} {ts : List (Nat × List Nat)} {s s' : St},fX E ops aC pl L ts s fs s' → ∀ e ∈ fs,∀ k x,e.x = some (k,x) → st.rt[k]? = some .gone:=fun hT e he k x hx=>by
   obtain ⟨q1,o',dI,en,q2,q3,q4,q5,_⟩:=dK hT e he
   obtain ⟨rfl,f2,_⟩:=na q5 q2 q3 hx
   exact A1 _ (qQo.2 ⟨e.i,qZa.2 ⟨by simp [q1],f2⟩,rfl⟩)
  by_cases hiq : i = q
  ·subst hiq
   obtain rfl : o = oq:=qQc (dZ.symm.trans pW)
   rcases wQ with ⟨hh,_⟩ | ⟨_,e,cZ,rfl,e1,e2,e3,e4⟩
   ·rw [sV] at hh; cases hh
   refine ⟨e,by simp,e1,e2,ts,st,e3,fun x hx=>hx,?_⟩
   have nz : (e :: cZ).filter (fun e=>p e.i) = cZ.filter fun e=>p e.i:=by rw [qYk,if_neg (by rw [e1,pY]; simp)]
   rw [nz]
   have hx : ∀ e' ∈ cZ.filter (fun e=>p e.i),e' ∈ cZ ∧ p e'.i = true:=fun e' aY=>by simpa using qZa.1 aY
   refine ⟨fun t ht=>?_,fun r x hr tU hn=>?_⟩
   ·rw [qQe,qQe,fZ fun e' aY hd=>?_]
    ·exact .same _
    ·obtain ⟨cb,cR⟩:=hx e' aY
     obtain ⟨q1,o',dI,en,q2,q3,q4,q5,_⟩:=dK e4 e' cb
     have aW : e'.i ≠ i:=fun hh=>jO o4 e'.i q1 (by simp [hh])
     refine hS.apart e'.i i o' o q2 dZ aW (fun hh=>?_) (fun hh=>?_) t (q4 ▸ hd) ht
     ·have:=aL e'.i cR (aA q2) i hh
      rw [pY] at this; cases this
     ·exact jO o4 e'.i q1 (by simp [o1 e'.i hh])
   ·refine ⟨x,?_,aa.le_refl x⟩
    rw [jY fun e' aY k y hy hk=>?_]
    ·exact tU
    ·subst hk
     rw [place e4 e' (hx e' aY).1 k y hy] at tU
     cases tU; exact hn rfl
  ·have tw : q ∈ L:=by
    rcases qQn.1 hq with h | h
    ·exact absurd h.symm hiq
    ·exact h
   have kt : q ∉ aC.getD i []:=fun hh=>jO o4 q tw (by simp [o1 q hh])
   have wM : p i = false → ∀ d,o.dst = some d → Operand.tmp d ∉ oq.op.operands.toList:=fun fq d hd=>hS.apart i q o oq dZ pW hiq kt (fun hh=>by rw [gu i hh] at fq; cases fq) d hd
   rcases wQ with ⟨hh,aD,h1,h2⟩ | ⟨hh,e0,cZ,rfl,e1,e2,e3,e4⟩
   ·have fq:=iz i (by simp) o dZ hh
    obtain ⟨e,he,cb,cR,jc,jb,r1,r2,r3,r4⟩:=rj hS pW sV pY gu aL h2 o4 tw fun j hj=>iz j (by simp [hj])
    refine ⟨e,he,cb,cR,jc,jb,r1,fun x hx=>r2 x (by simp [hx]),fun t ht=>(r3 t ht).trans ?_,r4.trans ?_⟩
    all_goals
     have rY : st = ⟨st.sl,st.rt,st.np⟩:=rfl
     rw [rY] at h1
     obtain ⟨F,v,⟨ps,dH,hL⟩,hF⟩:=yi h1
     have eM : aD = (F st.sl).put o.dst v:=by
      have:=hF st.sl fun _ _=>rfl
      rw [h1] at this
      exact qQc this
     rw [hL.heq,fz] at eM
    ·refine ry _ (by rw [eM]; show (cL _ _ _).length = _; rw [kJ,qQk]) ?_
     rw [eM,qQe,qQe]
     show SV.le ((cL (st.sl.map (pS ps)) o.dst v)[t]?.getD .no) _
     rw [dq]
     have hd : o.dst ≠ some t:=fun hd=>wM fq t hd ht
     simp only [hd,qZe,qY3,qQj]
     cases st.sl[t]? with
     | none=>exact .same _
     | some x=>exact yo ps x
    ·refine rz _ (fun e' aY k x hx=>aA (place h2 e' (qZa.1 aY).1 k x hx)) ?_
     intro r x hr hx hn
     rw [eM] at hx
     have hx : dH[r]? = some x:=hx
     have iE : r ∉ eo E o st ++ news st.rt.length aD.rt.length:=fun hh=>hr (um.2 ⟨(i,eo E o st ++ news st.rt.length aD.rt.length),r2 _ (by simp),fun fb=>(by rw [gu i fb] at fq; cases fq),hh⟩)
     have av : r < st.rt.length:=by
      rcases Nat.lt_or_ge r st.rt.length with hl | hl
      ·exact hl
      ·exfalso
       apply iE
       refine qQ8 _ ?_
       unfold news
       have h5 : r < aD.rt.length:=by rw [eM]; exact aA hx
       exact qQo.2 ⟨r - st.rt.length,qZt.2 (by omega),by omega⟩
     rw [hL.bw r av fun hh=>iE (qZf _ hh)] at hx
     obtain ⟨y,hy,rfl⟩:=qQf.1 hx
     exact ⟨y,hy,ym ps y⟩
   ·obtain ⟨e,he,cb,cR,jc,jb,r1,r2,r3,r4⟩:=rj hS pW sV pY gu aL e4 o4 tw fun j hj=>iz j (by simp [hj])
    by_cases hp : p i = true
    ·refine ⟨e,by simp [he],cb,cR,jc,jb,r1,fun x hx=>r2 x (by split <;> simp [hx]),?_⟩
     have nz : (e0 :: cZ).filter (fun e=>p e.i) = e0 :: cZ.filter fun e=>p e.i:=by rw [qYk,if_pos (by rw [e1]; exact hp)]
     rw [nz,fD]
     exact ⟨r3,r4⟩
    ·have fq : p i = false:=by simpa using hp
     have nz : (e0 :: cZ).filter (fun e=>p e.i) = cZ.filter fun e=>p e.i:=by rw [qYk,if_neg (by rw [e1]; exact hp)]
     rw [nz]
     refine ⟨e,by simp [he],cb,cR,jc,jb,r1,fun x hx=>r2 x (by split <;> simp [hx]),fun t ht=>(r3 t ht).trans ?_,r4.trans ?_⟩
     ·refine ry _ (by rw [e0.ga,kJ]) ?_
      rw [e0.ga,qQe,qQe,dq]
      have hd : e0.d ≠ some t:=fun hd=>wM fq t (e2 ▸ hd) ht
      simp only [hd,qZe,qY3]
      exact .same _
     ·refine rz _ (fun e' aY k x hx=>aA (place e4 e' (qZa.1 aY).1 k x hx)) ?_
      rw [e0.ji]
      split
      ·rename_i k x hx
       obtain ⟨rfl,_,hf⟩:=na e3 (by rw [e1]; exact dZ) hh hx
       rw [if_pos hf] at r2
       intro r y hr hy hn
       have aW : ¬ pl e0.i = r:=fun hk=>hr (um.2 ⟨(i,[pl i]),r2 (i,[pl i]) (by simp),fun fb=>(by rw [gu i fb] at fq; cases fq),(by simp [← hk,e1])⟩)
       rw [qYo aW] at hy
       exact ⟨y,hy,aa.le_refl y⟩
      ·exact DL _ _
theorem zA {p p' : Nat → Bool} {fs : List Fl} {st : St} (hu : rl fs) {e : Fl} (he : e ∈ fs) (hp : p e.i = false) (xn : ∀ e' ∈ fs,p' e'.i = true ↔ p e'.i = true ∨ e' = e) : aU (fs.filter fun e=>p' e.i) st = e.ap (aU (fs.filter fun e=>p e.i) st):=by
 have m1 : ∀ x,x ∈ fs.filter (fun e=>p e.i) ↔ x ∈ fs ∧ p x.i = true:=fun x=>by simp
 have m2 : ∀ x,x ∈ fs.filter (fun e=>p' e.i) ↔ x ∈ fs ∧ (p x.i = true ∨ x = e):=fun x=>by
  rw [qZa]
  exact ⟨fun h=>⟨h.1,(xn x h.1).1 h.2⟩,fun h=>⟨h.1,(xn x h.1).2 h.2⟩⟩
 have me : e ∈ fs.filter (fun e=>p' e.i):=(m2 e).2 ⟨he,.inr rfl⟩
 have ne : e ∉ fs.filter (fun e=>p e.i):=fun h=>by rw [((m1 e).1 h).2] at hp; cases hp
 have qW : ∀ {x t},x ∈ fs → x.d = some t → ∀ y ∈ fs,y.d = some t → y = x:=fun hx ht y hy cN=>(hu y hy _ hx).1 _ cN ht
 have vd : ∀ {x k r},x ∈ fs → x.x = some (k,r) → ∀ y ∈ fs,∀ r',y.x = some (k,r') → y = x:=fun hx ht y hy r' cN=>(hu y hy _ hx).2 _ r' _ cN ht
 have e1 : (aU (fs.filter fun e=>p' e.i) st).sl = (e.ap (aU (fs.filter fun e=>p e.i) st)).sl:=by
  apply qZm
  intro t
  rw [e.ga,dq]
  by_cases hd : e.d = some t
  ·rw [jh me hd fun y hy cN=>qW he hd y ((m2 y).1 hy).1 cN,fZ fun y hy cN=>ne ((qW he hd y ((m1 y).1 hy).1 cN) ▸ hy)]
   simp only [hd,if_true]
  ·simp only [hd,qZe,qY3]
   by_cases hx : ∃ x ∈ fs.filter (fun e=>p e.i),x.d = some t
   ·obtain ⟨x,nV,dD⟩:=hx
    have iI:=((m1 x).1 nV)
    rw [jh ((m2 x).2 ⟨iI.1,.inl iI.2⟩) dD fun y hy cN=>qW iI.1 dD y ((m2 y).1 hy).1 cN,jh nV dD fun y hy cN=>qW iI.1 dD y ((m1 y).1 hy).1 cN]
   ·rw [fZ fun y hy cN=>?_,fZ fun y hy cN=>hx ⟨y,hy,cN⟩]
    obtain ⟨h1,h2⟩:=(m2 y).1 hy
    rcases h2 with h2 | rfl
    ·exact hx ⟨y,(m1 y).2 ⟨h1,h2⟩,cN⟩
    ·exact hd cN
 have e2 : (aU (fs.filter fun e=>p' e.i) st).rt = (e.ap (aU (fs.filter fun e=>p e.i) st)).rt:=by
  apply qZm
  intro r
  have other : (∀ x,e.x ≠ some (r,x)) → (aU (fs.filter fun e=>p' e.i) st).rt[r]? = (aU (fs.filter fun e=>p e.i) st).rt[r]?:=fun aW=>by
   by_cases hx : ∃ x ∈ fs.filter (fun e=>p e.i),∃ y,x.x = some (r,y)
   ·obtain ⟨x,nV,y,dD⟩:=hx
    have iI:=((m1 x).1 nV)
    rw [kR ((m2 x).2 ⟨iI.1,.inl iI.2⟩) dD fun z hz r' tV=>vd iI.1 dD z ((m2 z).1 hz).1 r' tV,kR nV dD fun z hz r' tV=>vd iI.1 dD z ((m1 z).1 hz).1 r' tV]
   ·rw [jY (r:=r) fun z hz k y hy hk=>?_,jY (r:=r) fun z hz k y hy hk=>hx ⟨z,hz,y,hk ▸ hy⟩]
    subst hk
    obtain ⟨h1,h2⟩:=(m2 z).1 hz
    rcases h2 with h2 | rfl
    ·exact hx ⟨z,(m1 z).2 ⟨h1,h2⟩,y,hy⟩
    ·exact aW y hy
  rw [e.ji]
  split
  ·rename_i k x hx
   rw [qQ9]
   split
   ·rename_i hk
    subst hk
    rw [kR me hx fun y hy r' cN=>vd he hx y ((m2 y).1 hy).1 r' cN]
    split
    ·rename_i hl
     rw [oX] at hl
     rw [qQg hl]; rfl
    ·rename_i hl
     rw [oX] at hl
     rw [qZh (by omega)]; rfl
   ·rename_i hk
    exact other fun y hy=>by rw [hx] at hy; cases hy; exact hk rfl
  ·rename_i hx
   exact other fun y hy=>by rw [hx] at hy; cases hy
 have e3 : (aU (fs.filter fun e=>p' e.i) st).np = (e.ap (aU (fs.filter fun e=>p e.i) st)).np:=by rw [e.rD,oW,oW]
 cases h1 : aU (fs.filter fun e=>p' e.i) st
 cases h2 : e.ap (aU (fs.filter fun e=>p e.i) st)
 rw [h1,h2] at e1 e2 e3
 simp only at e1 e2 e3
 rw [e1,e2,e3]
end
theorem yr {ops : List Oper} {aC : List (List Nat)} {sched : List Nat} (hS : mH ops aC sched) {p : Nat → Bool} (hp : ∀ (j : Nat) o,ops[j]? = some o → p j = true → ∀ a ∈ eT o,p a = true) :
  ∀ (i : Nat) o,ops[i]? = some o → (∀ a ∈ eT o,p a = true) → ∀ j ∈ aC.getD i [],p j = true:=by
 intro i
 induction i using Nat.strongRecOn with
 | _ i ih =>
  intro o ho hd j hj
  obtain ⟨a,h1,h2⟩:=hS.cE i o ho j hj
  rcases h2 with rfl | h2
  ·exact hd a h1
  ·have av:=hS.dep i o ho a h1
   have lh : a < ops.length:=Nat.lt_trans av (aA ho)
   exact ih a av _ (qQg lh) (hp a _ (qQg lh) (hd a h1)) j h2
theorem xQ {o : Oper} {a : Nat} : a ∈ eT o ↔ ∃ e ∈ o.after,e.on = a ∧ Region.binds .any e = true:=by
 unfold eT
 rw [qQo]
 constructor
 ·rintro ⟨e,h1,h2⟩
  obtain ⟨h3,h4⟩:=qZa.1 h1
  exact ⟨e,by simpa using h3,h2,h4⟩
 ·rintro ⟨e,h1,h2,h3⟩
  exact ⟨e,qZa.2 ⟨by simpa using h1,h3⟩,h2⟩
section
variable {P : Program} {X : Ctx} {own0 : Nat → Option Nat} {w0 : World} {st : St} {a : Act} {w w' : World} {g g' : Gh} {E : Env} {R : Type}
theorem ri {ops : List Oper} {aC : List (List Nat)} {pl : Nat → Nat} {p : Nat → Bool} : ∀ {L done : List Nat} {ts : List (Nat × List Nat)} {st mB : St} {fs : List Fl},fX E ops aC pl L ts st fs mB → fh ops aC L done = true → (∀ i ∈ done,p i = true) → (∀ i ∈ L,∀ o,ops[i]? = some o → dF ops o = true → p i = false) →
  ∃ L' kZ gZ ae cZ,fX E ops aC pl L' gZ ae cZ mB ∧ fh ops aC L' kZ = true ∧ (∀ i ∈ kZ,p i = true) ∧ (∀ i ∈ L',∀ o,ops[i]? = some o → dF ops o = true → p i = false) ∧ (∀ i,i ∈ done ∨ i ∈ L → i ∈ kZ ∨ i ∈ L') ∧
   aU (cZ.filter fun e=>p e.i) ae = aU (fs.filter fun e=>p e.i) st ∧ (∀ i eR,L' = i :: eR → p i = false) ∧ ae.np = st.np
 | [],done,ts,st,mB,fs,h,ho,hd,hh=>⟨[],done,ts,st,fs,h,ho,hd,hh,fun i hi=>hi,rfl,(fun i eR he=>by cases he),rfl⟩
 | i :: L,done,ts,st,mB,fs,h,ho,hd,hh=>by
  by_cases hp : p i = true
  ·obtain ⟨o1,o2,o3,o4⟩:=lZ ho
   obtain ⟨eY,o,dZ,⟨hv,_⟩ | ⟨hv,e,cZ,rfl,e1,e2,e3,e4⟩⟩:=h
   ·rw [hh i (by simp) o dZ hv] at hp; cases hp
   ·obtain ⟨L',kZ,gZ,ae,AF,r1,r2,r3,r4,r5,r6,r7,r8⟩:=ri e4 o4 (fun j hj=>by
     rcases qZg.1 hj with hj | hj
     ·exact hd j hj
     ·rw [qZj] at hj; subst hj; exact hp) fun j hj=>hh j (by simp [hj])
    refine ⟨L',kZ,gZ,ae,AF,r1,r2,r3,r4,fun j hj=>r5 j ?_,?_,r7,r8.trans (e.rD st)⟩
    ·rcases hj with hj | hj
     ·exact .inl (by simp [hj])
     ·rcases qQn.1 hj with rfl | hj
      ·exact .inl (by simp)
      ·exact .inr hj
    ·rw [r6,qYk,if_pos (by rw [e1]; exact hp)]; rfl
  ·exact ⟨i :: L,done,ts,st,fs,h,ho,hd,hh,fun i hi=>hi,rfl,(fun j eR he=>by cases he; simpa using hp),rfl⟩
theorem DR (hE : dr P X.T E) (dh : P.follows .mixedOrders = true) (h : Rel X own0 w0 st a w g) {id : Nat} {ops : Array Oper} {aC : List (List Nat)} {sched : List Nat} (hS : mH ops.toList aC sched) {pl : Nat → Nat}
  (gq : ∀ i j,cC ops.toList i = true → cC ops.toList j = true → pl i = pl j → i = j) (aO : ∀ i,cC ops.toList i = true → X.np ≤ pl i) {K : St → Option R} {r : R} (hq : runM E ops.toList aC pl sched [] st K = some r)
  {Q : Exit → Act → World → Prop} (hK : ∀ ae a' w' g',Rel X own0 w0 ae a' w' g' → K ae = some r → Q .normal a' w') : (Code.region id ops true).wp P Q a w:=by
 obtain ⟨sr,mB,iG,ng⟩:=qO hq
 refine wp_region_any dh ?_
 let Lf : Array Bool → Nat → Bool:=fun l j=>l.getD j false
 have gj : ∀ {l : Array Bool} {j : Nat},l.size = ops.size → j < ops.size → l.getD j true = l.getD j false:=fun {l j} hs hj=>by
  have : j < l.size:=by omega
  simp [Array.getD,this]
 have gp : ∀ {j : Nat} {o : Oper},ops[j]? = some o ↔ ops.toList[j]? = some o:=fun {j o}=>by rw [qYc]
 have key : ∀ (fuel : Nat) (l : Array Bool) (a : Act) (w : World) (g : Gh) (L done : List Nat) (ts : List (Nat × List Nat)) (st : St) (fs : List Fl),((List.range ops.size).filter fun j=>!l.getD j true).length ≤ fuel → l.size = ops.size →
   (∀ (j : Nat) o,ops.toList[j]? = some o → Lf l j = true → ∀ b ∈ eT o,Lf l b = true) → fX E ops.toList aC pl L ts st fs mB → fh ops.toList aC L done = true → (∀ i ∈ done,Lf l i = true) → (∀ i ∈ L,∀ o,ops.toList[i]? = some o → dF ops.toList o = true → Lf l i = false) →
   (∀ i,i < ops.size → i ∈ done ∨ i ∈ L) → Rel X own0 w0 (aU (fs.filter fun e=>Lf l e.i) st) a w g → wpAny P .any ops Q fuel l a w:=by
  intro fuel
  induction fuel with
  | zero =>
   intro l a w g L done ts st fs te aR aL hT kq nu iz bO cU
   have pQ : ∀ j,j < ops.size → Lf l j = true:=fun j hj=>by
    show l.getD j false = true
    rw [← gj aR hj]
    cases hc : l.getD j true with
    | true=>rfl
    | false =>
     have : j ∈ (List.range ops.size).filter fun j=>!l.getD j true:=qZa.2 ⟨qZt.2 hj,by rw [hc]; rfl⟩
     have:=List.length_pos_of_mem this
     omega
   obtain ⟨L',kZ,gZ,ae,cZ,r1,r2,r3,r4,r5,r6,r7,_⟩:=ri (p:=Lf l) hT kq nu iz
   rw [← r6] at cU
   cases L' with
   | nil =>
    obtain ⟨rfl,rfl⟩:=r1
    refine ⟨List.eq_nil_iff_forall_not_mem.2 fun j hj=>?_,hK _ _ _ g cU ng⟩
    obtain ⟨h1,o,ho,_⟩:=mem_ready.1 hj
    have gm : j < ops.size:=(qYb.1 ho).1
    have:=pQ j gm
    rw [gj aR gm] at h1
    rw [show Lf l j = l.getD j false from rfl,h1] at this
    cases this
   | cons i eR =>
    exfalso
    obtain ⟨_,o,dZ,_⟩:=r1
    have h1:=pQ i (by have:=aA dZ; simpa using this)
    rw [r7 i eR rfl] at h1; cases h1
  | succ fuel ih =>
   intro l a w g L0 EI yZ Fh sr te aR aL wI xj wS wY wL tB
   obtain ⟨L,done,ts,st,fs,hT,kq,nu,iz,r5,r6,r7,_⟩:=ri (p:=Lf l) wI xj wS wY
   rw [← r6] at tB
   have cU:=tB
   have bO : ∀ i,i < ops.size → i ∈ done ∨ i ∈ L:=fun i hi=>r5 i (wL i hi)
   clear tB r6 r5 wL wI xj wS wY
   have gu : ∀ j,Lf l j = true → j < ops.toList.length → ∀ b ∈ aC.getD j [],Lf l b = true:=fun j hj eJ=>yr hS aL j _ (qQg eJ) (aL j _ (qQg eJ) hj)
   refine ⟨fun tg=>?_,fun i hi=>?_⟩
   ·have pQ : ∀ j,j < ops.size → Lf l j = true:=fun j=>by
     induction j using Nat.strongRecOn with
     | _ j ihj =>
      intro hj
      cases hc : Lf l j with
      | true=>rfl
      | false =>
       exfalso
       have : j ∈ Region.ready .any ops l:=mem_ready.2 ⟨by rw [gj aR hj]; exact hc,ops[j],qY6 hj,fun e he hb=>by
        have av:=hS.dep j ops[j] (gp.1 (qY6 hj)) e.on (xQ.2 ⟨e,he,rfl,hb⟩)
        exact ihj e.on av (by omega)⟩
       rw [tg] at this; simp at this
    cases L with
    | nil =>
     obtain ⟨rfl,rfl⟩:=hT
     exact hK _ _ _ g cU ng
    | cons i eR =>
     exfalso
     obtain ⟨_,o,dZ,_⟩:=hT
     have h1:=pQ i (by have:=aA dZ; simpa using this)
     rw [r7 i eR rfl] at h1; cases h1
   ·obtain ⟨h1,o,ho,pP⟩:=mem_ready.1 hi
    have dw : i < ops.size:=(qYb.1 ho).1
    have bk:=gp.1 ho
    have ir : Lf l i = false:=by rw [gj aR dw] at h1; exact h1
    have wR : ∀ b ∈ eT o,Lf l b = true:=fun b hb=>by
     obtain ⟨e,he,rfl,Bb⟩:=xQ.1 hb
     exact pP e he Bb
    have fq:=yr hS aL i o bk wR
    have lz : i ∈ L:=by
     rcases bO i dw with hd | hd
     ·rw [nu i hd] at ir; cases ir
     ·exact hd
    have hu:=zv hS gq hT kq
    have fF : ∀ j,Lf (l.setIfInBounds i true) j = if j = i then true else Lf l j:=fun j=>by
     show (l.setIfInBounds i true).getD j false = if j = i then true else l.getD j false
     by_cases dg : j = i
     ·subst dg
      rw [if_pos rfl]
      have : j < l.size:=by omega
      simp [Array.getD,this]
     ·rw [if_neg dg,qZr,qY5 (fun hh=>dg hh.symm),← qZr]
    have xd : ((List.range ops.size).filter fun j=>!(l.setIfInBounds i true).getD j true).length ≤ fuel:=by
     have : ((List.range ops.size).filter fun j=>!(l.setIfInBounds i true).getD j true).length < ((List.range ops.size).filter fun j=>!l.getD j true).length:=by
      refine filter_lt (fun x hx=>?_) ⟨i,qZt.2 dw,by rw [h1]; rfl,?_⟩
      ·by_cases hxi : x = i
       ·subst hxi; rw [h1]; rfl
       ·rwa [qZr,qY5 (fun hh=>hxi hh.symm),← qZr] at hx
      ·have : i < l.size:=by omega
       simp [Array.getD,this]
     omega
    have nm : ∀ (j : Nat) o,ops.toList[j]? = some o → Lf (l.setIfInBounds i true) j = true → ∀ b ∈ eT o,Lf (l.setIfInBounds i true) b = true:=fun j oj cw hj b hb=>by
     rw [fF] at hj ⊢
     split
     ·rfl
     ·split at hj
      ·rename_i dg
       subst dg
       rw [bk] at cw; cases cw
       exact wR b hb
      ·exact aL j oj cw hj b hb
    have xy : (l.setIfInBounds i true).size = ops.size:=by rw [qJb]; exact aR
    have qg : Region.wanted o (yielded ops a.tmps) = true:=by unfold Region.wanted; rw [hS.guard i o bk]
    unfold wpOp
    simp only [ho]
    rw [if_pos qg]
    left
    by_cases hh : dF ops.toList o = true
    ·
     cases L with
     | nil=>simp at lz
     | cons i0 eR =>
      have BA:=r7 i0 eR rfl
      obtain ⟨o1,o2,o3,o4⟩:=lZ kq
      have iA : i = i0:=by
       rcases qQn.1 lz with fa | fa
       ·exact fa
       ·exfalso
        have:=fq i0 (yk o4 i fa o bk hh i0 (by simp))
        rw [BA] at this; cases this
      subst iA
      obtain ⟨eY,o',dZ,⟨_,aD,q1,q2⟩ | ⟨fa,_⟩⟩:=hT
      rotate_left
      ·rw [bk] at dZ; cases dZ; rw [hh] at fa; cases fa
      obtain rfl : o = o':=qQc (bk.symm.trans dZ)
      have ix : ∀ e ∈ fs.filter (fun e=>Lf l e.i),e ∈ fs ∧ Lf l e.i = true:=fun e he=>by simpa using qZa.1 he
      have tR : ∀ e ∈ fs.filter (fun e=>Lf l e.i),i ∉ aC.getD e.i [] ∧ e.i ≠ i:=fun e he=>by
       obtain ⟨cb,cR⟩:=ix e he
       obtain ⟨p1,_,_,_,p2,_⟩:=dK q2 e cb
       refine ⟨fun fb=>?_,fun fb=>by rw [fb,ir] at cR; cases cR⟩
       have:=gu e.i cR (aA p2) i fb
       rw [ir] at this; cases this
      have iE : cC ops.toList i = false:=by unfold cC; rw [bk]; simp [hh]
      have iH:=Bl (ks:=((i :: eR).filter (cC ops.toList)).map pl) hE (xs:=fs.filter fun e=>Lf l e.i) cU q1 (fun e he e' aY=>hu e (ix e he).1 e' (ix e' aY).1)
       (fun e he d hd=>by
        obtain ⟨cb,cR⟩:=ix e he
        obtain ⟨p1,iR,dI,en,p2,p3,p4,p5,p6⟩:=dK q2 e cb
        obtain ⟨k1,k2⟩:=tR e he
        have k3 : e.i ∉ aC.getD i []:=fun fb=>jO o4 e.i p1 (by simp [o1 e.i fb])
        exact ⟨hS.apart e.i i iR o p2 bk k2 k1 k3 d (p4 ▸ hd),hS.dst e.i i iR o p2 bk k2 d (p4 ▸ hd)⟩)
       (fun e he r hr bH=>by
        obtain ⟨cb,cR⟩:=ix e he
        obtain ⟨p1,iR,dI,en,p2,p3,p4,p5,p6⟩:=dK q2 e cb
        have:=qQp.1 p5.clear r hr
        have hm : r ∈ kE (aC.getD e.i []) dI:=um.2 ⟨_,p6 (i,eo E o st ++ news st.rt.length aD.rt.length) (by simp),(tR e he).1,bH⟩
        simp only [qZ5,qZ6,qYj] at this
        exact this hm)
       eY
       (fun e he k x hx=>by
        obtain ⟨cb,cR⟩:=ix e he
        obtain ⟨p1,iR,dI,en,p2,p3,p4,p5,p6⟩:=dK q2 e cb
        obtain ⟨rfl,f2,_⟩:=na p5 p2 p3 hx
        exact qQo.2 ⟨e.i,qZa.2 ⟨by simp [p1],f2⟩,rfl⟩)
       (fun e he hx r hr hk=>by
        obtain ⟨cb,cR⟩:=ix e he
        obtain ⟨p1,iR,dI,en,p2,p3,p4,p5,p6⟩:=dK q2 e cb
        rcases p5.lK with ⟨_,y,_,_,hy⟩ | ⟨_,_,_,_,hc⟩
        ·rw [hx] at hy; cases hy
        ·rcases hc with hc | hc
         ·rcases hc (i,eo E o st ++ news st.rt.length aD.rt.length) (p6 _ (by simp)) with hc | hc
          ·exact (tR e he).1 hc
          ·rw [iE] at hc; cases hc
         ·have:=qQp.1 hc r hr
          have hm : r ∈ (jx ops.toList).map pl:=by
           obtain ⟨j,hj,rfl⟩:=qQo.1 hk
           obtain ⟨EO,fH⟩:=qZa.1 hj
           refine qQo.2 ⟨j,qZa.2 ⟨qZt.2 ?_,fH⟩,rfl⟩
           unfold cC at fH
           split at fH
           ·rename_i cw; exact aA cw
           ·cases fH
          simp [hm] at this)
       (fun e he k x hx=>by
        obtain ⟨cb,cR⟩:=ix e he
        obtain ⟨p1,iR,dI,en,p2,p3,p4,p5,p6⟩:=dK q2 e cb
        rcases p5.lK with ⟨_,y,nX,ky,hy⟩ | ⟨_,_,_,hy,_⟩
        ·rw [hx] at hy; cases hy
         exact ⟨ky,(wD nX).2⟩
        ·rw [hx] at hy; cases hy)
       (fun e he k x hx=>by
        obtain ⟨cb,cR⟩:=ix e he
        obtain ⟨p1,iR,dI,en,p2,p3,p4,p5,p6⟩:=dK q2 e cb
        obtain ⟨rfl,f2,_⟩:=na p5 p2 p3 hx
        cases eR with
        | nil=>simp at p1
        | cons j L3 =>
         obtain ⟨AX,_⟩:=q2
         exact (mL AX).1 _ (qQo.2 ⟨e.i,qZa.2 ⟨p1,f2⟩,rfl⟩))
      refine iH _ _ fun v w' g' hr=>?_
      refine ih _ _ w' g' eR (done ++ [i]) _ aD fs xd xy nm q2 o4 (fun j hj=>?_) (fun j hj oj cw nC=>?_) (fun j hj=>?_) ?_
      ·rw [fF]
       rcases qZg.1 hj with hj | hj
       ·split
        ·rfl
        ·exact nu j hj
       ·rw [qZj] at hj; rw [if_pos hj]
      ·rw [fF,if_neg (fun dg=>jO o4 j hj (by simp [dg]))]
       exact iz j (by simp [hj]) oj cw nC
      ·rcases bO j hj with hd | hd
       ·exact .inl (by simp [hd])
       ·rcases qQn.1 hd with rfl | hd
        ·exact .inl (by simp)
        ·exact .inr hd
      ·have sQ : (fs.filter fun e=>Lf (l.setIfInBounds i true) e.i) = fs.filter fun e=>Lf l e.i:=List.filter_congr fun e he=>by
        rw [fF,if_neg]
        intro nx
        exact jO o4 e.i (dK q2 e he).1 (by simp [nx])
       rw [sQ]; exact hr
    ·
     have hh : dF ops.toList o = false:=by simpa using hh
     obtain ⟨e,he,cb,cR,jc,jb,r1,r2,r3,r4⟩:=rj hS bk hh ir fq gu hT kq lz iz
     have xp : Lf l e.i = false:=by rw [cb]; exact ir
     have BB : aU (fs.filter fun e=>Lf (l.setIfInBounds i true) e.i) st = e.ap (aU (fs.filter fun e=>Lf l e.i) st):=zA hu he xp fun e' aY=>by
      rw [fF]
      constructor
      ·intro hx
       split at hx
       ·rename_i nx; exact .inr (mJ hT kq e' aY e he (by rw [nx,cb]))
       ·exact .inl hx
      ·rintro (hx | rfl)
       ·split
        ·rfl
        ·exact hx
       ·rw [if_pos cb]
     have nI : ∀ v w' g',Rel X own0 w0 (e.ap (aU (fs.filter fun e=>Lf l e.i) st)) (a.put o.dst v) w' g' → wpAny P .any ops Q fuel (l.setIfInBounds i true) (a.put o.dst v) w':=fun v w' g' hr=>by
      refine ih _ _ w' g' L done ts st fs xd xy nm hT kq (fun j hj=>?_) (fun j hj oj cw nC=>?_) bO (by rw [BB]; exact hr)
      ·rw [fF]
       split
       ·rfl
       ·exact nu j hj
      ·rw [fF,if_neg (fun dg=>by rw [dg,bk] at cw; cases cw; rw [hh] at nC; cases nC)]
       exact iz j hj oj cw nC
     rcases r1.lK with ⟨hf,x,nX,ky,hy⟩ | ⟨hf,nX,ky,hy,_⟩
     ·
      have bP:=zm (st:=aU (fs.filter fun e=>Lf l e.i) st) r1.whole r3
      have sP : cC ops.toList e.i = true:=by unfold cC; rw [cb,bk]; simp [hf,hh]
      have iy : (aU (fs.filter fun e=>Lf l e.i) st).rt[pl e.i]? = some .gone:=by
       rw [jY fun e' aY k y cy hk=>?_]
       ·cases L with
        | nil=>simp at lz
        | cons i0 eR =>
         obtain ⟨eY,_⟩:=hT
         exact (mL eY).1 _ (qQo.2 ⟨e.i,qZa.2 ⟨by rw [cb]; exact lz,sP⟩,rfl⟩)
       ·have ll : e' ∈ fs ∧ Lf l e'.i = true:=by simpa using qZa.1 aY
        obtain ⟨_,iR,dI,en,p2,p3,p4,p5,p6⟩:=dK hT e' ll.1
        obtain ⟨lB,f2,_⟩:=na p5 p2 p3 cy
        have:=gq _ _ f2 sP (lB.symm.trans hk)
        rw [this,xp] at ll; cases ll.2
      have tQ : ∀ sv ∈ (aU (fs.filter fun e=>Lf l e.i) st).sl,sv.tidy = true:=fun sv bI=>by
       obtain ⟨t,ht⟩:=qZ0 bI
       by_cases hx : ∃ e' ∈ fs.filter (fun e=>Lf l e.i),e'.d = some t
       ·obtain ⟨e',aY,hd⟩:=hx
        have ll : e' ∈ fs ∧ Lf l e'.i = true:=by simpa using qZa.1 aY
        rw [jh aY hd fun y cy cN=>by
         have Ch : y ∈ fs ∧ Lf l y.i = true:=by simpa using qZa.1 cy
         exact (hu y Ch.1 e' ll.1).1 t cN hd] at ht
        obtain ⟨z,_,rfl⟩:=qQf.1 ht
        obtain ⟨_,iR,dI,en,p2,p3,p4,p5,p6⟩:=dK hT e' ll.1
        exact p5.tidy
       ·rw [fZ fun y cy cN=>hx ⟨y,cy,cN⟩] at ht
        cases L with
        | nil=>simp at lz
        | cons i0 eR =>
         obtain ⟨eY,_⟩:=hT
         exact ((mL eY).2.1 sv (qQz ht)).2
      have iH:=AD (i:=e.i) hE cU tQ bP iy (aO _ sP) (by rw [← hE.tE]; exact nX) ky
      rw [show (Fl.mk e.i o.dst e.v (some (pl e.i,x))) = e from by rw [← cR,← hy]] at iH
      exact iH _ _ nI
     ·have iH:=DA hE cU nX r1.whole ky r3 (by rw [cb]; exact r4)
      have e1 : e.ap (aU (fs.filter fun e=>Lf l e.i) st) = (aU (fs.filter fun e=>Lf l e.i) st).put o.dst e.v:=by
       unfold Fl.ap; rw [hy,cR]
      rw [e1] at nI
      exact iH _ _ nI
 refine key ops.size _ a _ g sched [] [] st sr ?_ (by simp) (fun j o hj hL=>?_) iG hS.ord (fun i hi=>by simp at hi) (fun i _ o _ _=>?_) (fun i hi=>.inr (hS.all i (by simpa using hi))) ?_
 ·exact qZd (qYv _ _) (by simp)
 ·have : Lf (Array.replicate ops.size false) j = false:=by
   show (Array.replicate ops.size false).getD j false = false
   simp [Array.getD]
  rw [this] at hL; cases hL
 ·show (Array.replicate ops.size false).getD i false = false
  simp [Array.getD]
 ·have sQ : (sr.filter fun e=>Lf (Array.replicate ops.size false) e.i) = []:=List.filter_eq_nil_iff.2 fun e _=>by
   show ¬ (Array.replicate ops.size false).getD e.i false = true
   simp [Array.getD]
  rw [sQ]
  exact h.grow rfl rfl rfl (qQb _) fun _ _=>rfl
theorem Rel.pV (h : Rel X own0 w0 st a w g) (n : Nat) : Rel X own0 w0 (pV st n) a w g:=by
 have hM : Mv X w st.rt g X (st.rt ++ List.replicate n aa.gone) g fun _=>True:=⟨rfl,fun b hb=>hb,fun r e d xs _ hx=>⟨by rw [qQu (aA hx)]; exact hx,rfl⟩,fun r t cs _ hx=>⟨rfl,cs,by rw [qQu (aA hx)]; exact hx⟩⟩
 refine ⟨⟨fun r x hx=>?_,h.mem.lt,fun b s hb=>?_,h.mem.n0,h.mem.np,?_,h.mem.pm,h.mem.pv⟩,h.sz,fun t sv ht=>(h.sl t sv ht).mv hM fun _ _=>trivial,h.df,h.fr⟩
 ·have hx : (st.rt ++ List.replicate n aa.gone)[r]? = some x:=hx
  by_cases hr : r < st.rt.length
  ·rw [qQu hr] at hx
   have hR:=h.mem.rt r x hx
   cases x with
   | box t cs=>obtain ⟨vs,h1,h2,h3⟩:=hR; exact ⟨vs,h1,h2,h3.mv hM fun _ _=>trivial⟩
   | row e d xs=>cases d <;> exact hR
   | gone=>trivial
  ·rw [qQx (by omega)] at hx
   have:=qQz hx
   rw [List.eq_of_mem_replicate this]; trivial
 ·have:=h.mem.ob b s hb
  show s < (st.rt ++ List.replicate n aa.gone).length
  rw [qQ6]; omega
 ·have:=h.mem.nl
  show X.np ≤ (st.rt ++ List.replicate n aa.gone).length
  rw [qQ6]; omega
theorem DT (hE : dr P X.T E) (dh : P.follows .mixedOrders = true) (h : Rel X own0 w0 st a w g) {id : Nat} {ops : Array Oper} {K : St → Option R} {r : R} (hq : mn E ops.toList st K = some r)
  {Q : Exit → Act → World → Prop} (hK : ∀ ae a' w' g',Rel X own0 w0 ae a' w' g' → K ae = some r → Q .normal a' w') : (Code.region id ops true).wp P Q a w:=by
 unfold mn at hq
 rw [bZ (fun x K=>jv x K),jv,jv] at hq
 split at hq
 ·rename_i hm
  rw [bT] at hq
  have fu : ∀ i,cC ops.toList i = true → ∃ k,posOf i (jx ops.toList) 0 = some k ∧ (jx ops.toList)[k]? = some i:=fun i hi=>by
   have gn : i ∈ jx ops.toList:=qZa.2 ⟨qZt.2 (by
    unfold cC at hi
    split at hi
    ·rename_i ho; exact aA ho
    ·cases hi),hi⟩
   have : ∀ (l : List Nat) (j : Nat),i ∈ l → ∃ k,posOf i l j = some k:=by
    intro l
    induction l with
    | nil=>intro j hh; simp at hh
    | cons x xs ih =>
     intro j hh
     unfold posOf
     split
     ·exact ⟨j,rfl⟩
     ·rename_i aW
      rcases qQn.1 hh with rfl | hh
      ·exact absurd rfl aW
      ·exact ih _ hh
   obtain ⟨k,hk⟩:=this _ 0 gn
   have:=(uG hk).2
   rw [Nat.sub_zero] at this
   exact ⟨k,hk,this⟩
  refine DR hE dh (h.pV (jx ops.toList).length) (CL hm) (fun i j hi hj gk=>?_) (fun i hi=>?_) hq hK
  ·obtain ⟨k,h1,h2⟩:=fu i hi
   obtain ⟨k',h3,h4⟩:=fu j hj
   unfold placeOf at gk
   rw [h1,h3] at gk
   simp only [qY7] at gk
   obtain rfl : k = k':=by omega
   rw [h2] at h4
   exact qQc h4
  ·unfold placeOf
   have:=h.mem.nl
   omega
 ·cases hq
end
def Ao : Ext → Exit | .normal=>.normal | .exit id=>.exit id | .ret=>.ret
section
variable {P : Program} {X : Ctx} {own0 : Nat → Option Nat} {w0 : World} {E : Env}
theorem jS (hE : dr P X.T E) (dh : P.follows .mixedOrders = true) {k : Nat} (iB : E.iter = fL k) : ∀ (c : Code) {st : St} {a : Act} {w : World} {g : Gh} {K : Ext → St → Option aJ} {r : aJ} {Q : Exit → Act → World → Prop},
  Rel X own0 w0 st a w g → bV E c st K = some r → (∀ x ae a' w' g',Rel X own0 w0 ae a' w' g' → K x ae = some r → Q (Ao x) a' w') → c.wp P Q a w
 | .skip,st,a,w,g,K,r,Q,h,hq,hK=>wp_skip (hK .normal _ _ _ _ h hq)
 | .region id ops draw,st,a,w,g,K,r,Q,h,hq,hK=>by
  unfold bV at hq
  cases draw with
  | true =>
   rw [if_pos rfl] at hq
   split at hq
   ·exact DT hE dh h hq fun ae a' w' g' h' hk=>hK .normal _ _ _ _ h' hk
   ·split at hq
    ·rename_i hd
     exact DQ hE dh h hd hq fun ae a' w' g' h' hk=>hK .normal _ _ _ _ (h'.iM ops.toList) hk
    ·cases hq
  | false =>
   rw [if_neg (by simp)] at hq
   exact wp_region_list (DV hE (fun ae a' w' g' h' hk=>hK .normal _ _ _ _ h' hk) ops.toList h hq)
 | .seq c d,st,a,w,g,K,r,Q,h,hq,hK=>by
  refine wp_seq (jS hE dh iB c h hq fun x ae a' w' g' h' hk=>?_)
  cases x with
  | normal =>
   have hk : oH E d (bV E d) K ae = some r:=hk
   unfold oH at hk
   split at hk
   ·rename_i hj _
    rw [bT,iB] at hk
    obtain ⟨g2,h2⟩:=h'.clean (some hj)
    exact jS hE dh iB d h2 hk hK
   ·exact jS hE dh iB d h' hk hK
  | exit id=>exact hK (.exit id) _ _ _ _ h' hk
  | ret=>exact hK .ret _ _ _ _ h' hk
 | .cond x c d,st,a,w,g,K,r,Q,h,hq,hK=>by
  unfold bV at hq
  split at hq
  ·rename_i z hz
   have hv:=ba h x
   rw [hz] at hv
   refine wp_cond (t:=z) hv ?_
   cases z with
   | true=>exact jS hE dh iB c h hq hK
   | false=>exact jS hE dh iB d h hq hK
  ·cases hq
 | .block id c,st,a,w,g,K,r,Q,h,hq,hK=>by
  refine wp_block (jS hE dh iB c h hq fun x ae a' w' g' h' hk=>?_)
  cases x with
  | normal=>exact hK .normal _ _ _ _ h' hk
  | exit i =>
   show Exit.inBlock id Q (.exit i) a' w'
   unfold Exit.inBlock
   simp only at hk ⊢
   split at hk
   ·rename_i hi; rw [if_pos hi]; exact hK .normal _ _ _ _ h' hk
   ·rename_i hi; rw [if_neg hi]; exact hK (.exit i) _ _ _ _ h' hk
  | ret=>exact hK .ret _ _ _ _ h' hk
 | .loop c,st,a,w,g,K,r,Q,h,hq,hK=>by
  unfold bV at hq
  rw [bT,iB] at hq
  have hq : rounds (fun st=>st.clean (dA E c)) (bV E c) k (st.clean (dA E c)) K = some r:=by
   cases c <;> first | exact hq | cases hq
  have key : ∀ (n : Nat) {st : St} {a : Act} {w : World} {g : Gh},Rel X own0 w0 st a w g → rounds (fun st=>st.clean (dA E c)) (bV E c) n st K = some r → Code.rounds P c Q n a w:=by
   intro n
   induction n with
   | zero=>intro st a w g h hq; cases hq
   | succ n ih =>
    intro st a w g h hq
    rw [rounds_succ]
    refine jS hE dh iB c h hq fun x ae a' w' g' h' hk=>?_
    cases x with
    | normal =>
     simp only [iO] at hk
     rw [bT] at hk
     obtain ⟨g2,h2⟩:=h'.clean (dA E c)
     exact ih h2 hk
    | exit id=>exact hK (.exit id) _ _ _ _ h' hk
    | ret=>exact hK .ret _ _ _ _ h' hk
  obtain ⟨g2,h2⟩:=h.clean (dA E c)
  exact wp_loop_rounds k (key k h2 hq)
 | .exit id,st,a,w,g,K,r,Q,h,hq,hK=>wp_exit (hK (.exit id) _ _ _ _ h hq)
 | .ret,st,a,w,g,K,r,Q,h,hq,hK=>wp_ret (hK .ret _ _ _ _ h hq)
 | .rangeFunc ..,st,a,w,g,K,r,Q,h,hq,hK=>by cases hq
 | .scope _,st,a,w,g,K,r,Q,h,hq,hK=>by cases hq
 | .label _,st,a,w,g,K,r,Q,h,hq,hK=>by cases hq
 | .goto _,st,a,w,g,K,r,Q,h,hq,hK=>by cases hq
theorem cY.length {X : Ctx} {w : World} {rt : List aa} {g : Gh} : ∀ {xs : List SV} {vs : List Value},cY X w rt g xs vs → xs.length = vs.length
 | [],[],_=>rfl
 | x :: xs,v :: vs,h=>by simp [cY.length h.2]
 | [],_ :: _,h=>h.elim
 | _ :: _,[],h=>h.elim
theorem cY.get {X : Ctx} {w : World} {rt : List aa} {g : Gh} : ∀ {xs : List SV} {vs : List Value},cY X w rt g xs vs → ∀ {i : Nat} {x : SV},xs[i]? = some x → ∃ v,vs[i]? = some v ∧ ay X w rt g x v
 | [],[],_,i,x,hx=>by simp at hx
 | y :: ys,v :: vs,h,0,x,hx=>by simp at hx; subst hx; exact ⟨v,by simp,h.1⟩
 | y :: ys,v :: vs,h,i + 1,x,hx=>by
  obtain ⟨u,h1,h2⟩:=cY.get h.2 (i:=i) (x:=x) (by simpa using hx)
  exact ⟨u,by simpa using h1,h2⟩
 | [],_ :: _,h,_,_,_=>h.elim
 | _ :: _,[],h,_,_,_=>h.elim
end
theorem bM.sound {P : Program} (C : bM) (hT : aX P C.T) (hq : kP P C.T C.bh) (pM : ∀ (g : FuncId) (fn : Func), P.funcs[g]? = some fn → (fn.name == "runtime.NumGoroutine") = false) (dh : P.follows .mixedOrders = true) (pZ : ∀ g p, C.fy g = some p → oS P C.T g p) :
  ∀ k,Sound P C.T C.sig (C.den P k)
 | 0=>fun f aN af ret h=>by cases h
 | k + 1=>fun f aN af ret h=>by
  have ih:=bM.sound C hT hq pM dh pZ k
  unfold bM.den bM.body at h
  split at h
  ·rename_i fn eH
   split at h
   ·rename_i c hc
    refine ⟨fn,eH,by rw [hc]; rfl,fun hk X w g args iu hm hs=>?_⟩
    have hE : dr P X.T (C.env P (C.den P k) (fL k) f):=⟨iu.symm,iu ▸ hT,iu ▸ hq,rfl,pM,iu ▸ ih,iu ▸ pZ⟩
    refine calls_of_wp eH hc ?_
    have hlen : aN.length = args.size:=by have:=hs.length; simpa using this
    have cU : Rel X g.own w ⟨aN ++ List.replicate (fn.ntmps - aN.length) .no,af,af.length⟩ { tmps:=args ++ Array.replicate (fn.ntmps - args.size) undef,defers:=[] } w g:=by
     refine ⟨⟨hm.rt,hm.lt,hm.ob,hm.n0,hm.np,hm.nl,hm.pm,hm.pv⟩,?_,fun i sv hi=>?_,rfl,⟨rfl,rfl,rfl,qQb _,fun b _ hb=>⟨hb,rfl⟩⟩⟩
     ·simp [hlen]
     ·have hi : (aN ++ List.replicate (fn.ntmps - aN.length) SV.no)[i]? = some sv:=hi
      by_cases av : i < aN.length
      ·rw [qQu av] at hi
       obtain ⟨v,h1,h2⟩:=hs.get hi
       have hv : (args ++ Array.replicate (fn.ntmps - args.size) undef).getD i undef = v:=by
        rw [qZr,qJc (by omega),← qYc,h1]; rfl
       show ay X w af g sv ((args ++ Array.replicate (fn.ntmps - args.size) undef).getD i undef)
       rw [hv]; exact h2
      ·rw [qQx (by omega)] at hi
       have:=qQz hi
       rw [List.eq_of_mem_replicate this]; trivial
    refine jS hE dh rfl c cU h fun x ae a' w' g' h' aK=>?_
    have key : x ≠ .normal ∨ x = .normal:=by cases x <;> simp
    have done : qL X.T (C.sig f) fn.resultTypes.toList fn.results.toList (cV af) ae = some ret → a'.defers = [] ∧ ∃ v,(results fn a'.tmps).run P w' = .ok v w' ∧ ∃ v',Ending.returned v = Ending.returned v' ∧ rf X g.own w (C.sig f) fn.resultTypes.toList (cV af) ret v' w':=fun hr=>by
     obtain ⟨v,h1,h2⟩:=DJ (P:=P) (iu ▸ hT) h' (by rw [gX]; exact hm.np) (hk.imp id fun hk t ht=>iu ▸ hk t ht) hr
     exact ⟨h'.df,v,h1,v,rfl,h2⟩
    cases x with
    | exit id=>cases aK
    | normal=>exact done (iu ▸ aK)
    | ret=>exact done (iu ▸ aK)
   ·cases h
  ·cases h
end Go.Proofs.YtaghmjcfaplkiaaGreat.Eng
/- half -/
