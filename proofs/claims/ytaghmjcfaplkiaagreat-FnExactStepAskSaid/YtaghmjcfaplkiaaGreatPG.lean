/- Who is reached from whom by pairs of numbers below six: by passes over all pairs,and by a queue. Of no program. -/
import Derived.Test.YtaghmjcfaplkiaaGreatPS
namespace Go.Proofs.YtaghmjcfaplkiaaGreat.Eng
open Go.RowKit
set_option linter.unusedVariables false

/-- A pair's numbers,where they are roles. -/
def PE (x : List U) : Bool:=decide (0 ≤ ui x 0) && decide (ui x 0 ≤ 5) && (decide (0 ≤ ui x 1) && decide (ui x 1 ≤ 5))
def Ed (l : List (List U)) (a b : Nat) : Prop:=∃ x ∈ l,PE x = true ∧ (ui x 0).toNat = a ∧ (ui x 1).toNat = b
theorem Xs {x : List U} (h : PE x = true) : ui x 0 = ((ui x 0).toNat : Int) ∧ (ui x 0).toNat < 6 ∧ ui x 1 = ((ui x 1).toNat : Int) ∧ (ui x 1).toNat < 6:=by
 simp only [PE,qQi,qQw] at h
 omega
theorem Ed.lt {l : List (List U)} {a b : Nat} (h : Ed l a b) : a < 6 ∧ b < 6:=by
 obtain ⟨x,_,h1,rfl,rfl⟩:=h
 exact ⟨(Xs h1).2.1,(Xs h1).2.2.2⟩
inductive IK (l : List (List U)) (a : Nat) : Nat → Prop
 | refl : IK l a a
 | step {b c : Nat} (h : IK l a b) (e : Ed l b c) : IK l a c
def Qk (l : List (List U)) (a c : Nat) : Prop:=∃ b,IK l a b ∧ Ed l b c
theorem IK.trans {l : List (List U)} {a b c : Nat} (h : IK l a b) (k : IK l b c) : IK l a c:=by
 induction k with
 | refl=>exact h
 | step _ e ih=>exact .step ih e
theorem Qk.first {l : List (List U)} {a c : Nat} (h : Qk l a c) : ∃ b,Ed l a b ∧ IK l b c:=by
 obtain ⟨d,h1,h2⟩:=h
 induction h1 generalizing c with
 | refl=>exact ⟨c,h2,.refl⟩
 | step h1 e ih =>
  obtain ⟨b,h3,h4⟩:=ih e
  exact ⟨b,h3,.step h4 h2⟩
theorem IK.Ys {l : List (List U)} {a c : Nat} : IK l a c ↔ c = a ∨ Qk l a c :=
 ⟨fun h=>by cases h with | refl=>exact .inl rfl | step h e=>exact .inr ⟨_,h,e⟩,fun h=>by rcases h with rfl | ⟨b,h,e⟩; exact .refl; exact .step h e⟩
/-- Marks of the numbers. -/
abbrev Mk:=Nat → Bool
def up (f : Mk) (i : Nat) : Mk:=fun k=>decide (k = i) || f k
def KZ (f : Mk) : Nat:=(List.range 6).countP f
theorem WL (f : Mk) : KZ f ≤ 6:=List.countP_le_length
theorem abn {f g : Mk} (h : ∀ k,k < 6 → f k = true → g k = true) : KZ f ≤ KZ g:=List.countP_mono_left fun k hk hf=>h k (qZt.1 hk) hf
theorem WM {f : Mk} {i : Nat} (hi : i < 6) (hf : f i = false) : KZ (up f i) = KZ f + 1:=by
 have e : ∀ j,up f i j = (decide (j = i) || f j):=fun j=>rfl
 rcases (by omega : i = 0 ∨ i = 1 ∨ i = 2 ∨ i = 3 ∨ i = 4 ∨ i = 5) with rfl | rfl | rfl | rfl | rfl | rfl <;> simp [KZ,List.range,List.range.loop,List.countP_cons,e,hf] <;> omega
theorem abm {f g : Mk} (h : ∀ k,k < 6 → f k = true → g k = true) {i : Nat} (hi : i < 6) (hf : f i = false) (hg : g i = true) : KZ f + 1 ≤ KZ g:=by
 rw [← WM hi hf]
 refine abn fun k hk hu=>?_
 simp only [up,qZw,qQw] at hu
 rcases hu with rfl | hu
 ·exact hg
 ·exact h k hk hu
/-! ### Passes -/
def PF (f : Mk) (x : List U) : Mk:=if PE x = true ∧ f (ui x 0).toNat = true then up f (ui x 1).toNat else f
def pass (l : List (List U)) (f : Mk) : Mk:=l.foldl PF f
theorem ZD {f : Mk} {x : List U} {k : Nat} (h : f k = true) : PF f x k = true:=by
 unfold PF; split
 ·simp [up,h]
 ·exact h
theorem Wg : ∀ (l : List (List U)) {f : Mk} {k : Nat},f k = true → pass l f k = true
 | [],_,_,h=>h
 | x :: l,f,k,h=>Wg l (ZD h)
theorem Zw : ∀ (l : List (List U)) {f : Mk} {a b : Nat},f a = true → Ed l a b → pass l f b = true
 | [],_,_,_,_,⟨x,hx,_⟩=>by simp at hx
 | y :: l,f,a,b,h,⟨x,hx,h1,h2,h3⟩=>by
  rcases qQn.1 hx with rfl | hx
  ·refine Wg l ?_
   unfold PF
   rw [if_pos ⟨h1,by rw [h2]; exact h⟩,h3]
   simp [up]
  ·exact Zw l (ZD h) ⟨x,hx,h1,h2,h3⟩
theorem Xt {C : Nat → Prop} : ∀ (l l0 : List (List U)),(∀ x ∈ l,x ∈ l0) → (∀ a b,C a → Ed l0 a b → C b) → ∀ {f : Mk},(∀ k,f k = true → C k) → ∀ k,pass l f k = true → C k
 | [],_,_,_,_,h,k,hk=>h k hk
 | x :: l,l0,hl,hC,f,h,k,hk=>by
  refine Xt l l0 (fun y hy=>hl y (qZp _ hy)) hC (fun j hj=>?_) k hk
  unfold PF at hj
  split at hj
  ·rename_i hh
   simp only [up,qZw,qQw] at hj
   rcases hj with rfl | hj
   ·exact hC _ _ (h _ hh.2) ⟨x,hl x (by simp),hh.1,rfl,rfl⟩
   ·exact h j hj
  ·exact h j hj
def OE (l : List (List U)) : Nat → Mk → Mk
 | 0,f=>f
 | n + 1,f=>OE l n (pass l f)
def closed (l : List (List U)) (f : Mk) : Prop:=∀ a b,f a = true → Ed l a b → f b = true
theorem Zx (l : List (List U)) : ∀ (n : Nat) {f : Mk},(∃ k,k < 6 ∧ f k = true) → (closed l f ∨ 6 < n + KZ f) → closed l (OE l n f)
 | 0,f,_,h=>by
  rcases h with h | h
  ·exact h
  ·have:=WL f; omega
 | n + 1,f,h0,h=>by
  have hm : ∀ k,f k = true → pass l f k = true:=fun k hk=>Wg l hk
  refine Zx l n (by obtain ⟨k,h1,h2⟩:=h0; exact ⟨k,h1,hm k h2⟩) ?_
  by_cases hc : closed l f
  ·left
   have e : ∀ k,pass l f k = true → f k = true:=Xt l l (fun _ h=>h) hc (fun _ h=>h)
   exact fun a b ha he=>hm b (hc a b (e a ha) he)
  ·right
   have h1:=h.resolve_left hc
   unfold closed at hc
   simp only [Classical.not_forall] at hc
   obtain ⟨a,b,ha,he,hb⟩:=hc
   have:=abm (f:=f) (g:=pass l f) (fun k _ hk=>hm k hk) he.lt.2 (by simpa using hb) (Zw l ha he)
   omega
theorem Zz (l : List (List U)) : ∀ (n : Nat) {f : Mk} {k : Nat},f k = true → OE l n f k = true
 | 0,_,_,h=>h
 | n + 1,_,_,h=>Zz l n (Wg l h)
theorem Zy {C : Nat → Prop} (l : List (List U)) (hC : ∀ a b,C a → Ed l a b → C b) : ∀ (n : Nat) {f : Mk},(∀ k,f k = true → C k) → ∀ k,OE l n f k = true → C k
 | 0,_,h,k,hk=>h k hk
 | n + 1,_,h,k,hk=>Zy l hC n (Xt l l (fun _ h=>h) hC h) k hk
/-- Six passes find all that are reached. -/
theorem adL (l : List (List U)) {r : Nat} (hr : r < 6) (k : Nat) : OE l 6 (fun k=>decide (k = r)) k = true ↔ IK l r k:=by
 constructor
 ·exact Zy l (C:=IK l r) (fun a b h e=>.step h e) 6 (fun k h=>by simp only [qQw] at h; subst h; exact .refl) k
 ·have hc : closed l (OE l 6 fun k=>decide (k = r)):=Zx l 6 ⟨r,hr,by simp⟩ (.inr (by
   have : 0 < KZ fun k=>decide (k = r):=List.countP_pos_iff.2 ⟨r,qZt.2 hr,by simp⟩
   omega))
  intro h
  induction h with
  | refl=>exact Zz l 6 (by simp)
  | step _ e ih=>exact hc _ _ ih e
/-! ### A queue -/
/-- What one more number finds: the marks,those that are new. -/
def Hl (a : Int) : List (List U) → Mk → Mk × List (List U)
 | [],f=>(f,[])
 | x :: l,f=>if ui x 0 = a ∧ (0 ≤ ui x 1 ∧ ui x 1 ≤ 5) ∧ f (ui x 1).toNat = false then ((Hl a l (up f (ui x 1).toNat)).1,[.int (ui x 1)] :: (Hl a l (up f (ui x 1).toNat)).2) else Hl a l f
theorem Om (a : Int) : ∀ (l : List (List U)) {f : Mk} {k : Nat},f k = true → (Hl a l f).1 k = true
 | [],_,_,h=>h
 | x :: l,f,k,h=>by
  unfold Hl; split
  ·exact Om a l (by simp [up,h])
  ·exact Om a l h
theorem WH (a : Int) : ∀ (l : List (List U)) (f : Mk),KZ (Hl a l f).1 = KZ f + (Hl a l f).2.length
 | [],_=>rfl
 | x :: l,f=>by
  unfold Hl; split
  ·rename_i h
   rw [WH a l,WM (by omega) h.2.2,qZq]; omega
  ·exact WH a l f
theorem Vj (a : Nat) (ha : a < 6) : ∀ (l : List (List U)) {f : Mk} (k : Nat),(Hl a l f).1 k = true → f k = true ∨ (Ed l a k ∧ [.int (k : Int)] ∈ (Hl a l f).2)
 | [],_,k,h=>.inl h
 | x :: l,f,k,h=>by
  unfold Hl at h ⊢
  split at h
  ·rename_i hh
   rw [if_pos hh]
   have hx : PE x = true:=by simp only [PE,qQi,qQw]; omega
   rcases Vj a ha l k h with h1 | ⟨⟨y,hy,h2⟩,h3⟩
   ·simp only [up,qZw,qQw] at h1
    rcases h1 with rfl | h1
    ·refine .inr ⟨⟨x,by simp,hx,by omega,rfl⟩,?_⟩
     rw [qXn hh.2.1.1]; simp
    ·exact .inl h1
   ·exact .inr ⟨⟨y,qZp _ hy,h2⟩,qZp _ h3⟩
  ·rename_i hh
   rw [if_neg hh]
   rcases Vj a ha l k h with h1 | ⟨⟨y,hy,h2⟩,h3⟩
   ·exact .inl h1
   ·exact .inr ⟨⟨y,qZp _ hy,h2⟩,h3⟩
theorem WI (a : Nat) : ∀ (l : List (List U)) {f : Mk} {k : Nat},Ed l a k → (Hl a l f).1 k = true
 | [],_,_,⟨x,hx,_⟩=>by simp at hx
 | y :: l,f,k,⟨x,hx,h1,h2,h3⟩=>by
  unfold Hl
  rcases qQn.1 hx with rfl | hx
  ·have av:=Xs h1
   by_cases hf : f k = true
   ·split
    ·exact Om _ l (by simp [up,hf])
    ·exact Om _ l hf
   ·rw [if_pos ⟨by omega,by omega,by rw [h3]; simpa using hf⟩]
    exact Om _ l (by simp [up,h3])
  ·split
   ·exact WI a l ⟨x,hx,h1,h2,h3⟩
   ·exact WI a l ⟨x,hx,h1,h2,h3⟩
theorem WJ (a : Int) : ∀ (l : List (List U)) {f : Mk} {y : List U},y ∈ (Hl a l f).2 → ∃ k : Nat,k < 6 ∧ y = [.int (k : Int)] ∧ (Hl a l f).1 k = true
 | [],_,_,h=>by simp [Hl] at h
 | x :: l,f,y,h=>by
  unfold Hl at h ⊢
  split at h
  ·rename_i hh
   rw [if_pos hh]
   rcases qQn.1 h with rfl | h
   ·exact ⟨(ui x 1).toNat,by omega,by rw [qXn hh.2.1.1],Om _ l (by simp [up])⟩
   ·exact WJ a l h
  ·rename_i hh
   rw [if_neg hh]
   exact WJ a l h
/-- What holds of the marks and the queue between two numbers. -/
structure NP (l : List (List U)) (r : Nat) (f : Mk) (q : List (List U)) : Prop where
 le : ∀ y ∈ q,∃ k : Nat,k < 6 ∧ y = [.int (k : Int)] ∧ (k = r ∨ f k = true)
 snd : ∀ k,f k = true → Qk l r k
 cmp : ∀ b,b = r ∨ f b = true → [.int (b : Int)] ∈ q ∨ ∀ c,Ed l b c → f c = true
theorem NP.init (l : List (List U)) {r : Nat} (hr : r < 6) : NP l r (fun _=>false) [[.int (r : Int)]] :=
 ⟨fun y hy=>⟨r,hr,by simpa using hy,.inl rfl⟩,fun k h=>by simp at h,fun b h=>by rcases h with rfl | h; exact .inl (by simp); simp at h⟩
theorem NP.next {l : List (List U)} {r : Nat} {f : Mk} {y : List U} {q : List (List U)} (h : NP l r f (y :: q)) : NP l r (Hl (ui y 0) l f).1 (q ++ (Hl (ui y 0) l f).2):=by
 obtain ⟨a,ha,rfl,har⟩:=h.le y (by simp)
 have e : ui [.int (a : Int)] 0 = (a : Int):=rfl
 rw [e]
 have hra : IK l r a:=by
  rcases har with rfl | h1
  ·exact .refl
  ·exact IK.Ys.2 (.inr (h.snd a h1))
 refine ⟨fun z hz=>?_,fun k hk=>?_,fun b hb=>?_⟩
 ·rcases qZg.1 hz with hz | hz
  ·obtain ⟨k,h1,h2,h3⟩:=h.le z (qZp _ hz)
   exact ⟨k,h1,h2,h3.imp id fun h3=>Om _ l h3⟩
  ·obtain ⟨k,h1,h2,h3⟩:=WJ _ l hz
   exact ⟨k,h1,h2,.inr h3⟩
 ·rcases Vj a ha l k hk with h1 | ⟨h1,_⟩
  ·exact h.snd k h1
  ·exact ⟨a,hra,h1⟩
 ·by_cases hba : b = a
  ·subst hba; exact .inr fun c hc=>WI b l hc
  ·have cO : b = r ∨ f b = true → [.int (b : Int)] ∈ q ++ (Hl (a : Int) l f).2 ∨ ∀ c,Ed l b c → (Hl (a : Int) l f).1 c = true:=by
    intro hb
    rcases h.cmp b hb with h1 | h1
    ·rcases qQn.1 h1 with h2 | h2
     ·simp only [qXk,U.int.injEq,and_true] at h2; omega
     ·exact .inl (qZf _ h2)
    ·exact .inr fun c hc=>Om _ l (h1 c hc)
   rcases hb with hb | hb
   ·exact cO (.inl hb)
   ·rcases Vj a ha l b hb with h1 | ⟨_,h1⟩
    ·exact cO (.inr h1)
    ·exact .inl (qQ8 _ h1)
theorem NP.done {l : List (List U)} {r : Nat} {f : Mk} (h : NP l r f []) (k : Nat) : f k = true ↔ Qk l r k:=by
 refine ⟨h.snd k,fun ⟨b,h1,h2⟩=>?_⟩
 have key : ∀ b,IK l r b → b = r ∨ f b = true:=by
  intro b hb
  induction hb with
  | refl=>exact .inl rfl
  | step _ e ih=>exact .inr (((h.cmp _ ih).resolve_left (by simp)) _ e)
 exact ((h.cmp b (key b h1)).resolve_left (by simp)) k h2
end Go.Proofs.YtaghmjcfaplkiaaGreat.Eng
/- half -/
