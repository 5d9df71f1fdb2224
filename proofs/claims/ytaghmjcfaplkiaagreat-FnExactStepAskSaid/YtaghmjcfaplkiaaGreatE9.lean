/- The evaluator: parts 1 to 9. Of no program. -/
import Derived.Below
import Derived.OwnWalk
import Derived.Maps.AppendAt
import Derived.Laws.Strings
import Derived.Laws.Small
import Derived.Laws.Concat
namespace Go.Proofs.YtaghmjcfaplkiaaGreat.Eng
abbrev qQa:=@decide_eq_true
abbrev qQb:=@Nat.le_refl
abbrev qQc:=@Option.some.inj
abbrev qQd:=@Int.toNat_natCast
abbrev qQe:=@List.getD_eq_getElem?_getD
abbrev qQf:=@Option.map_eq_some_iff
abbrev qQg:=@List.getElem?_eq_getElem
abbrev qQh:=@cond_true
abbrev qQi:=@Bool.and_eq_true
abbrev qQj:=@List.getElem?_map
abbrev qQk:=@List.length_map
abbrev qQl:=@List.length_set
abbrev qQm:=@decide_eq_false
abbrev qQn:=@List.mem_cons
abbrev qQo:=@List.mem_map
abbrev qQp:=@List.all_eq_true
abbrev qQq:=@congrArg
abbrev qQr:=@List.set_cons_succ
abbrev qQs:=@List.set_cons_zero
abbrev qQt:=@Nat.zero_le
abbrev qQu:=@List.getElem?_append_left
abbrev qQv:=@Prod.mk.inj
abbrev qQw:=@decide_eq_true_eq
abbrev qQx:=@List.getElem?_append_right
abbrev qQy:=@Nat.zero_add
abbrev qQz:=@List.mem_of_getElem?
abbrev qQ0:=@List.map_cons
abbrev qQ1:=@List.flatMap_cons
abbrev qQ2:=@Nat.lt_of_lt_of_le
abbrev qQ3:=@cond_false
abbrev qQ4:=@Nat.add_assoc
abbrev qQ5:=@Nat.add_zero
abbrev qQ6:=@List.length_append
abbrev qQ7:=@Option.map_some
abbrev qQ8:=@List.mem_append_right
abbrev qQ9:=@List.getElem?_set
abbrev qZa:=@List.mem_filter
abbrev qZb:=@List.getElem?_drop
abbrev qZc:=@List.length_take
abbrev qZd:=@Nat.le_trans
abbrev qZe:=@if_false
abbrev qZf:=@List.mem_append_left
abbrev qZg:=@List.mem_append
abbrev qZh:=@List.getElem?_eq_none
abbrev qZi:=@Option.bind_eq_some_iff
abbrev qZj:=@List.mem_singleton
abbrev qZk:=@List.getElem?_take
abbrev qZl:=@List.length_drop
abbrev qZm:=@List.ext_getElem?
abbrev qZn:=@Nat.sub_self
abbrev qZo:=@Option.some.injEq
abbrev qZp:=@List.mem_cons_of_mem
abbrev qZq:=@List.length_cons
abbrev qZr:=@Array.getD_eq_getD_getElem?
abbrev qZs:=@List.mem_filterMap
abbrev qZt:=@List.mem_range
abbrev qZu:=@of_decide_eq_true
abbrev qZv:=@Bool.false_eq_true
abbrev qZw:=@Bool.or_eq_true
abbrev qZx:=@Int.le_refl
abbrev qZy:=@List.getElem?_range
abbrev qZz:=@List.eq_nil_of_length_eq_zero
abbrev qZ0:=@List.getElem?_of_mem
abbrev qZ1:=@List.mem_flatMap
abbrev qZ2:=@Array.toList_inj
abbrev qZ3:=@Array.length_toList
abbrev qZ4:=@List.append_assoc
abbrev qZ5:=@Bool.not_eq_true'
abbrev qZ6:=@List.elem_eq_mem
abbrev qZ7:=@Nat.succ_mul
abbrev qZ8:=@Nat.lt_of_le_of_lt
abbrev qZ9:=@List.getD_cons_succ
abbrev qYa:=@List.getElem?_eq_some_iff
abbrev qYb:=@Array.getElem?_eq_some_iff
abbrev qYc:=@Array.getElem?_toList
abbrev qYd:=@List.nodup_cons
abbrev qYe:=@Nat.mul_comm
abbrev qYf:=@Nat.add_mul
abbrev qYg:=@List.map_id
abbrev qYh:=@List.drop_eq_getElem_cons
abbrev qYi:=@Option.bind_some
abbrev qYj:=@decide_eq_false_iff_not
abbrev qYk:=@List.filter_cons
abbrev qYl:=@Nat.mul_le_mul_right
abbrev qYm:=@List.getD_cons_zero
abbrev qYn:=@List.any_cons
abbrev qYo:=@List.getElem?_set_ne
abbrev qYp:=@List.drop_zero
abbrev qYq:=@Option.bind_none
abbrev qYr:=@Option.map_map
abbrev qYs:=@Array.toList_append
abbrev qYt:=@Array.toList_map
abbrev qYu:=@List.map_congr_left
abbrev qYv:=@List.length_filter_le
abbrev qYw:=@List.all_eq_not_any_not
abbrev qYx:=@List.map_map
abbrev qYy:=@List.getElem?_set_self
abbrev qYz:=@List.drop_length
abbrev qY0:=@Nat.pos_of_ne_zero
abbrev qY1:=@List.getElem?_cons_succ
abbrev qY2:=@List.mem_iff_getElem?
abbrev qY3:=@Option.map_id'
abbrev qY4:=@List.getElem?_zipIdx
abbrev qY5:=@Array.getElem?_setIfInBounds_ne
abbrev qY6:=@Array.getElem?_eq_getElem
abbrev qY7:=@Option.getD_some
abbrev qY8:=@Option.map_none
abbrev qY9:=@Option.getD_none
abbrev qXa:=@Bool.not_true
abbrev qXb:=@Bool.true_and
abbrev qXc:=@List.sum_cons
abbrev qXd:=@eq_iff_iff
abbrev qXe:=@Nat.zero_mul
abbrev qXf:=@List.take_of_length_le
abbrev qXg:=@Prod.mk.injEq
abbrev qXh:=@List.any_eq_true
abbrev qXi:=@Bool.eq_iff_iff
abbrev qXj:=@List.drop_drop
abbrev qXk:=@List.cons.injEq
abbrev qXl:=@List.mem_of_mem_tail
abbrev qXm:=@Nat.mul_one
abbrev qXn:=@Int.toNat_of_nonneg
abbrev qXo:=@List.length_nil
abbrev qXp:=@List.size_toArray
abbrev qXq:=@Int.eq_ofNat_of_zero_le
abbrev qXr:=@List.pairwise_cons
abbrev qXs:=@Bool.and_true
abbrev qXt:=@List.mem_or_eq_of_mem_set
abbrev qXu:=@List.range'_succ
abbrev qXv:=@List.range_eq_range'
abbrev qXw:=@List.foldl_append
abbrev qXx:=@List.take_append_drop
abbrev qXy:=@Function.comp_apply
abbrev qXz:=@List.isEmpty_iff
abbrev qX0:=@List.any_eq_false
abbrev qX1:=@List.append_nil
abbrev qX2:=@Nat.div_add_mod
abbrev qX3:=@Nat.min_eq_left
abbrev qX4:=@Nat.add_sub_cancel_left
abbrev qX5:=@Array.size_push
abbrev qX6:=@Nat.succ_le_of_lt
abbrev qX7:=@List.length_replicate
abbrev qX8:=@Array.size_append
abbrev qX9:=@List.take_left
abbrev qJa:=@Nat.lt_succ_self
abbrev qJb:=@Array.size_setIfInBounds
abbrev qJc:=@Array.getElem?_append_left
abbrev qJd:=@List.flatMap_append
abbrev qJe:=@Nat.div_lt_of_lt_mul
open Go.RowKit
set_option linter.unusedVariables false
set_option linter.unusedSimpArgs false
inductive CT where
 | int (k : IntKind) | bool | str | aj (e : TypeId)
 deriving DecidableEq
inductive U where
 | int (n : Int) | bool (b : Bool) | str (s : ByteArray) | lst (xs : List (List U))
def U.toInt : U → Int | .int n=>n | _=>0
def U.toBool : U → Bool | .bool b=>b | _=>false
def U.toStr : U → ByteArray | .str s=>s | _=>ByteArray.empty
def U.bB : U → List (List U) | .lst xs=>xs | _=>[]
abbrev U0 : U:=.int 0
@[simp] theorem U.toInt_int (n : Int) : (U.int n).toInt = n:=rfl
@[simp] theorem U.Fk (b : Bool) : (U.bool b).toBool = b:=rfl
@[simp] theorem U.Fq (s : ByteArray) : (U.str s).toStr = s:=rfl
@[simp] theorem U.oI (xs : List (List U)) : (U.lst xs).bB = xs:=rfl
abbrev bl:=TypeId → List CT
inductive aE (T : bl) (w : World) (aq : Nat → Prop) : CT → U → Value → Prop
 | int (k : IntKind) (n : Int) : aE T w aq (.int k) (.int n) (.int k n)
 | bool (b : Bool) : aE T w aq .bool (.bool b) (.bool b)
 | str (s : ByteArray) : aE T w aq .str (.str s) (.string s)
 | aj (e : TypeId) (xs : List (List U)) (A : Option Addr) (c : Nat) (V : Nat → Nat → Value) (hl : xs.length ≤ c) (hm : xs.length ≤ 9223372036854775807)
   (hA : 0 < xs.length → ∃ b o,A = some ⟨b,o,none⟩ ∧ aq b ∧ ∀ (i j : Nat) (x : List U),xs[i]? = some x → j < x.length → w.cell? ⟨b,o + (i * (T e).length + j),none⟩ = some (V i j))
   (hs : ∀ (i : Nat) (x : List U),xs[i]? = some x → x.length = (T e).length)
   (h : ∀ (i j : Nat) (x : List U) (u : U) (ct : CT),xs[i]? = some x → x[j]? = some u → (T e)[j]? = some ct → aE T w aq ct u (V i j)) : aE T w aq (.aj e) (.lst xs) (.slice A xs.length c)
theorem rK {w w' : World} {b : Nat} (h : w'.heap[b]? = w.heap[b]?) (o : Nat) : w'.cell? ⟨b,o,none⟩ = w.cell? ⟨b,o,none⟩:=by
 unfold World.cell?
 simp only [h]
theorem aE.imp {T : bl} {w w' : World} {aq okb' : Nat → Prop} {ct : CT} {u : U} {v : Value} (h : aE T w aq ct u v) (hb : ∀ b,aq b → okb' b ∧ w'.heap[b]? = w.heap[b]?) : aE T w' okb' ct u v:=by
 induction h with
 | int k n=>exact .int k n
 | bool b=>exact .bool b
 | str s=>exact .str s
 | aj e xs A c V hl hm hA hs h ih =>
  refine .aj e xs A c V hl hm (fun h0=>?_) hs ih
  obtain ⟨b,o,e1,e2,e3⟩:=hA h0
  exact ⟨b,o,e1,(hb b e2).1,fun i j x hx hj=>(rK (hb b e2).2 _).trans (e3 i j x hx hj)⟩
theorem aE.nil {T : bl} {w : World} {aq : Nat → Prop} (e : TypeId) (c : Nat) (A : Option Addr) : aE T w aq (.aj e) (.lst []) (.slice A 0 c) :=
 .aj e [] A c (fun _ _=>undef) (qQt _) (by decide) (fun h=>absurd h (Nat.lt_irrefl 0)) (fun i x h=>by simp at h) (fun i j x u ct h=>by simp at h)
def oB : Value → Option Nat
 | .slice (some a) _ c=>if c = 0 then none else some a.block
 | _=>none
theorem fP {b q n c g : Nat} (h : oB (.slice (some ⟨b,q,none⟩) n c) = some g) : b = g:=by
 have h : (if c = 0 then none else some b) = some g:=h
 by_cases hc : c = 0
 ·rw [if_pos hc] at h; cases h
 ·rw [if_neg hc] at h; exact qQc h
theorem lX {b q n c : Nat} (h : c ≠ 0) : oB (.slice (some ⟨b,q,none⟩) n c) = some b:=if_neg h
theorem ya (v : Value) : oB v = none ∨ oB v = v.ownBlock:=by
 unfold oB
 split
 ·split
  ·exact .inl rfl
  ·exact .inr rfl
 ·exact .inl rfl
theorem yb {A : Option Addr} {n : Nat} : oB (.slice A n 0) = none:=by cases A <;> rfl
def bA (w : World) (e : TypeId) (size : Nat) (v : Value) (n : Nat) (xs : List Value) : Prop :=
 xs.length = n * size ∧ (((∃ A,v = .slice A 0 0) ∧ n = 0) ∨
  ∃ g q cap cur,v = .slice (some ⟨g,q,none⟩) n cap ∧ w.heap[g]? = some (.cells cur e (0,0)) ∧ n ≤ cap ∧ cap ≤ maxLen ∧ q + cap * size ≤ cur.size ∧ (cur.toList.drop q).take (n * size) = xs)
inductive ak (T : bl) (w : World) : (Nat → Prop) → CT → U → Value → Prop
 | int (F : Nat → Prop) (k : IntKind) (n : Int) : ak T w F (.int k) (.int n) (.int k n)
 | bool (F : Nat → Prop) (b : Bool) : ak T w F .bool (.bool b) (.bool b)
 | str (F : Nat → Prop) (s : ByteArray) : ak T w F .str (.str s) (.string s)
 | row (F : Nat → Prop) (e : TypeId) (xs : List (List U)) (v : Value) (cs : List Value) (V : Nat → Nat → Value) (bp : Nat → Option (Nat × Nat))
   (ho : bA w e (T e).length v xs.length cs) (hg : ∀ g,oB v = some g → F g ∧ bp g = none)
   (hV : ∀ (i j : Nat) (x : List U),xs[i]? = some x → j < x.length → cs[i * (T e).length + j]? = some (V i j))
   (hs : ∀ (i : Nat) (x : List U),xs[i]? = some x → x.length = (T e).length)
   (h : ∀ (i j : Nat) (x : List U) (u : U) (ct : CT),xs[i]? = some x → x[j]? = some u → (T e)[j]? = some ct → ak T w (fun b=>F b ∧ bp b = some (i,j)) ct u (V i j)) : ak T w F (.aj e) (.lst xs) v
section
variable {w w' : World} {base : Nat} {e : TypeId} {size : Nat} {v : Value} {n : Nat} {xs : List Value}
theorem nv {w : World} {g : Nat} {cur : Array Value} {e : TypeId} {z : Nat × Nat} (h : w.heap[g]? = some (.cells cur e z)) (o : Nat) : w.cell? ⟨g,o,none⟩ = cur[o]?:=by
 unfold World.cell?
 simp only [h]
 rfl
theorem bA.of (h : w.ownsRow base e size v n xs) : bA w e size v n xs:=by
 refine ⟨h.1,?_⟩
 rcases h.2 with hn | ⟨g,cap,cur,rfl,hb,hg,h1,h2,h3,h4⟩
 ·exact .inl ⟨⟨none,hn.1⟩,hn.2⟩
 ·exact .inr ⟨g,0,cap,cur,rfl,hg,h1,h2,by rw [h3]; omega,by rw [qYp]; exact h4⟩
theorem mc (h : bA w e size v n xs) (hh : ∀ g,oB v = some g → w'.heap[g]? = w.heap[g]?) : bA w' e size v n xs:=by
 refine ⟨h.1,?_⟩
 rcases h.2 with hn | ⟨g,q,cap,cur,rfl,hg,hle,rest⟩
 ·exact .inl hn
 ·by_cases hc : cap = 0
  ·subst hc
   obtain rfl : n = 0:=by omega
   exact .inl ⟨⟨_,rfl⟩,rfl⟩
  ·exact .inr ⟨g,q,cap,cur,rfl,(hh g (lX hc)).trans hg,hle,rest⟩
theorem fQ (h : bA w e size v n xs) : ∃ A c,v = .slice A n c ∧ n ≤ c ∧ n ≤ 9223372036854775807:=by
 rcases h.2 with ⟨⟨A,rfl⟩,rfl⟩ | ⟨g,q,cap,cur,rfl,hg,h1,h2,rest⟩
 ·exact ⟨A,0,rfl,qQb _,by decide⟩
 ·exact ⟨_,_,rfl,h1,qZd h1 (by simpa [maxLen] using h2)⟩
theorem gW {g q c m : Nat} (h : bA w e size (.slice (some ⟨g,q,none⟩) m c) n xs) {j : Nat} {u : Value} (hu : xs[j]? = some u) : w.cell? ⟨g,q + j,none⟩ = some u:=by
 rcases h.2 with ⟨_,h0⟩ | ⟨g',q',cap,cur,hv,hg,h1,h2,h3,h4⟩
 ·have h1:=h.1
  rw [h0,qXe] at h1
  rw [qZz h1] at hu
  cases hu
 ·cases hv
  rw [← h4,qZk] at hu
  split at hu
  ·rw [qZb] at hu
   rw [nv hg,← qYc]; exact hu
  ·cases hu
theorem mf (h : bA w e size v n xs) (hn : 0 < n) : ∃ g q c,v = .slice (some ⟨g,q,none⟩) n c:=by
 rcases h.2 with ⟨_,h0⟩ | ⟨g,q,cap,cur,rfl,_⟩
 ·omega
 ·exact ⟨g,q,cap,rfl⟩
theorem qz (h : bA w e size v n xs) : ∀ k,oB v = some k → k < w.heap.size:=by
 intro k hk
 rcases h.2 with ⟨⟨A,rfl⟩,h0⟩ | ⟨g,q,cap,cur,rfl,hg,_⟩
 ·rw [yb] at hk; cases hk
 ·obtain rfl:=fP hk
  exact (qYb.1 hg).1
theorem ux (h : bA w e size v n xs) : ((∃ A,v = .slice A 0 0) ∧ n = 0) ∨
  ∃ g q cap cur,v = .slice (some ⟨g,q,none⟩) n cap ∧ w.heap[g]? = some (.cells cur e (0,0)) ∧ n ≤ cap ∧ cap ≤ maxLen ∧ q + cap * size ≤ cur.size ∧ (cur.toList.drop q).take (n * size) = xs ∧ cap ≠ 0:=by
 rcases h.2 with hn | ⟨g,q,cap,cur,rfl,h1,h2,h3,h4,h5⟩
 ·exact .inl hn
 ·by_cases hc : cap = 0
  ·subst hc
   obtain rfl : n = 0:=by omega
   exact .inl ⟨⟨_,rfl⟩,rfl⟩
  ·exact .inr ⟨g,q,cap,cur,rfl,h1,h2,h3,h4,h5,hc⟩
theorem jP {g q c m : Nat} (h : bA w e size (.slice (some ⟨g,q,none⟩) m c) n xs) (hn : 0 < n) : oB (.slice (some ⟨g,q,none⟩) m c) = some g:=by
 rcases h.2 with ⟨_,h0⟩ | ⟨g',q',cap,cur,hv,hg,h1,h2,h3,h4⟩
 ·omega
 ·cases hv
  exact lX (by omega)
end
theorem ak.imp {T : bl} {w : World} {F : Nat → Prop} {ct : CT} {u : U} {v : Value} (h : ak T w F ct u v) : ∀ {w' : World} {F' : Nat → Prop},(∀ b,F b → F' b ∧ w'.heap[b]? = w.heap[b]?) → ak T w' F' ct u v:=by
 induction h with
 | int F k n=>exact fun _=>.int _ k n
 | bool F b=>exact fun _=>.bool _ b
 | str F s=>exact fun _=>.str _ s
 | row F e xs v cs V bp ho hg hV hs h ih =>
  intro w' F' hF
  exact .row F' e xs v cs V bp (mc ho fun g e=>(hF g (hg g e).1).2) (fun g e=>⟨(hF g (hg g e).1).1,(hg g e).2⟩) hV hs (fun i j x u ct hx hu ai=>ih i j x u ct hx hu ai (fun b hb=>⟨⟨(hF b hb.1).1,hb.2⟩,(hF b hb.1).2⟩))
theorem ak.mono {T : bl} {w : World} {F F' : Nat → Prop} {ct : CT} {u : U} {v : Value} (h : ak T w F ct u v) (hF : ∀ b,F b → F' b) : ak T w F' ct u v:=h.imp (fun b hb=>⟨hF b hb,rfl⟩)
theorem ak.frame {T : bl} {w w' : World} {F : Nat → Prop} {ct : CT} {u : U} {v : Value} (h : ak T w F ct u v) (hF : ∀ b,F b → w'.heap[b]? = w.heap[b]?) : ak T w' F ct u v:=h.imp (fun b hb=>⟨hb,hF b hb⟩)
theorem ak.nil {T : bl} {w : World} {F : Nat → Prop} (e : TypeId) : ak T w F (.aj e) (.lst []) (.slice none 0 0) :=
 .row F e [] _ [] (fun _ _=>undef) (fun _=>none) (.of (World.ownsRow_nil w 0 e _)) (fun g h=>by simp [oB] at h) (fun i j x h=>by simp at h) (fun i x h=>by simp at h) (fun i j x u ct h=>by simp at h)
theorem ak.gC {T : bl} {w : World} {F : Nat → Prop} {ct : CT} {u : U} {v : Value} (h : ak T w F ct u v) : ∀ {aq : Nat → Prop},(∀ b,F b → aq b) → aE T w aq ct u v:=by
 induction h with
 | int F k n=>exact fun _=>.int k n
 | bool F b=>exact fun _=>.bool b
 | str F s=>exact fun _=>.str s
 | row F e xs v cs V bp ho hg hV hs h ih =>
  intro aq hF
  obtain ⟨A,c,rfl,hc,hm⟩:=fQ ho
  refine .aj e xs A c V hc hm (fun h0=>?_) hs (fun i j x u ct hx hu ai=>ih i j x u ct hx hu ai (fun b hb=>hF b hb.1))
  obtain ⟨g,q,c',hv⟩:=mf ho h0
  obtain ⟨rfl,-,rfl⟩:=Value.slice.inj hv
  exact ⟨g,q,rfl,hF g (hg g (jP ho h0)).1,fun i j x hx hj=>gW ho (hV i j x hx hj)⟩
structure aZ (T : bl) (w : World) (F aq : Nat → Prop) (e : TypeId) (xs : List (List U)) (v : Value) : Prop where
 ex : ∃ (cs : List Value) (V : Nat → Nat → Value),bA w e (T e).length v xs.length cs ∧ (∀ g,oB v = some g → F g) ∧
  (∀ (i j : Nat) (x : List U),xs[i]? = some x → j < x.length → cs[i * (T e).length + j]? = some (V i j)) ∧
  (∀ (i : Nat) (x : List U),xs[i]? = some x → x.length = (T e).length) ∧
  (∀ (i j : Nat) (x : List U) (u : U) (ct : CT),xs[i]? = some x → x[j]? = some u → (T e)[j]? = some ct → aE T w aq ct u (V i j))
theorem aZ.imp {T : bl} {w w' : World} {F F' aq okb' : Nat → Prop} {e : TypeId} {xs : List (List U)} {v : Value} (h : aZ T w F aq e xs v) (hF : ∀ b,F b → F' b ∧ w'.heap[b]? = w.heap[b]?) (hk : ∀ b,aq b → okb' b ∧ w'.heap[b]? = w.heap[b]?) : aZ T w' F' okb' e xs v:=by
 obtain ⟨cs,V,ho,hg,hV,hs,hr⟩:=h.ex
 exact ⟨cs,V,mc ho fun g e=>(hF g (hg g e)).2,fun g e=>(hF g (hg g e)).1,hV,hs,fun i j x u ct hx hu ai=>(hr i j x u ct hx hu ai).imp hk⟩
theorem aZ.gC {T : bl} {w : World} {F aq : Nat → Prop} {e : TypeId} {xs : List (List U)} {v : Value} (h : aZ T w F aq e xs v) {okb' : Nat → Prop} (hF : ∀ b,F b → okb' b) (hk : ∀ b,aq b → okb' b) : aE T w okb' (.aj e) (.lst xs) v:=by
 obtain ⟨cs,V,ho,hg,hV,hs,hr⟩:=h.ex
 obtain ⟨A,c,rfl,hc,hm⟩:=fQ ho
 refine .aj e xs A c V hc hm (fun h0=>?_) hs (fun i j x u ct hx hu ai=>(hr i j x u ct hx hu ai).imp fun b hb=>⟨hk b hb,rfl⟩)
 obtain ⟨g,q,c',hv⟩:=mf ho h0
 obtain ⟨rfl,-,rfl⟩:=Value.slice.inj hv
 exact ⟨g,q,rfl,hF g (hg g (jP ho h0)),fun i j x hx hj=>gW ho (hV i j x hx hj)⟩
theorem aE.nY {T : bl} {w : World} {aq : Nat → Prop} {k : IntKind} {u : U} {v : Value} (h : aE T w aq (.int k) u v) : u = .int u.toInt ∧ v = .int k u.toInt:=by
 cases h
 exact ⟨rfl,rfl⟩
theorem aE.pf {T : bl} {w : World} {aq : Nat → Prop} {u : U} {v : Value} (h : aE T w aq .bool u v) : u = .bool u.toBool ∧ v = .bool u.toBool:=by
 cases h
 exact ⟨rfl,rfl⟩
theorem aE.qU {T : bl} {w : World} {aq : Nat → Prop} {u : U} {v : Value} (h : aE T w aq .str u v) : u = .str u.toStr ∧ v = .string u.toStr:=by
 cases h
 exact ⟨rfl,rfl⟩
theorem aE.qR {T : bl} {w : World} {aq : Nat → Prop} {e : TypeId} {u : U} {v : Value} (h : aE T w aq (.aj e) u v) : u = .lst u.bB:=by
 cases h
 rfl
theorem aE.ja {T : bl} {w : World} {aq : Nat → Prop} {e : TypeId} {xs : List (List U)} {v : Value} (h : aE T w aq (.aj e) (.lst xs) v) : ∃ A c,v = .slice A xs.length c ∧ xs.length ≤ c ∧ xs.length ≤ 9223372036854775807:=by
 cases h with
 | aj e xs A c V hl hm=>exact ⟨A,c,rfl,hl,hm⟩
theorem ak.nY {T : bl} {w : World} {F : Nat → Prop} {k : IntKind} {u : U} {v : Value} (h : ak T w F (.int k) u v) : u = .int u.toInt ∧ v = .int k u.toInt:=by
 cases h
 exact ⟨rfl,rfl⟩
theorem ak.pf {T : bl} {w : World} {F : Nat → Prop} {u : U} {v : Value} (h : ak T w F .bool u v) : u = .bool u.toBool ∧ v = .bool u.toBool:=by
 cases h
 exact ⟨rfl,rfl⟩
theorem ak.qU {T : bl} {w : World} {F : Nat → Prop} {u : U} {v : Value} (h : ak T w F .str u v) : u = .str u.toStr ∧ v = .string u.toStr:=by
 cases h
 exact ⟨rfl,rfl⟩
theorem ak.qR {T : bl} {w : World} {F : Nat → Prop} {e : TypeId} {u : U} {v : Value} (h : ak T w F (.aj e) u v) : u = .lst u.bB:=by
 cases h
 rfl
inductive TD where
 | one (c : CT) | st (fs : List (TypeId × Nat)) | arr (n : Nat) (e : TypeId) | other
structure fW where
 d : TD
 ab : List CT
 bytes : Nat
abbrev ax:=List fW
def ax.row (T : ax) (t : TypeId) : fW:=T.getD t ⟨.other,[],0⟩
def ax.ct (T : ax) : bl:=fun t=>(T.row t).ab
def TD.isAgg : TD → Bool | .st _ | .arr ..=>true | _=>false
def TD.elem : TD → Option TypeId | .one (.aj e)=>some e | _=>none
def TD.known : TD → Bool | .other=>false | _=>true
def ax.agg (T : ax) (t : TypeId) : Bool:=(T.row t).d.isAgg
def ax.elem (T : ax) (t : TypeId) : Option TypeId:=(T.row t).d.elem
def ax.size (T : ax) (t : TypeId) : Nat:=(T.row t).ab.length
abbrev Path:=List (Nat × Nat)
inductive Cl where
 | int (k : IntKind) (n : Int) | bool (b : Bool) | str (s : ByteArray)
 | rd (e : TypeId) (xs : List (List U)) | nil | al (r : Nat) (p : Path) (e : TypeId) | no
inductive aH where
 | c (x : Cl) | bx (r o : Nat) | pr (e : TypeId) (us : List U) (o : Nat)
inductive SV where
 | c (x : Cl) | ag (xs : List Cl) | bx (r o : Nat) | pr (e : TypeId) (us : List U) (o : Nat) | po (r : Nat) (p : Path) (e : TypeId) (i o : Nat)
 | fn (g : FuncId) (az : List aH) | bf (vs : List (Bool × List Cl)) | ud
abbrev SV.no : SV:=.c .no
inductive aa where
 | box (t : TypeId) (cs : List Cl) | row (e : TypeId) (deep : Bool) (xs : List (List U)) | gone
structure St where
 sl : List SV
 rt : List aa
 np : Nat
structure aJ where
 res : List (List U)
 ms : List (List (List U))
inductive PM where | k | m deriving DecidableEq
inductive RM where | own | qQ | ro | ptr (e : TypeId) deriving DecidableEq
structure jg where
 ps : List PM
 rs : List RM
def St.put (st : St) (d : Option Tmp) (v : SV) : St:=match d with | some d=>{ st with sl:=st.sl.set d v } | none=>st
def St.add (st : St) (x : aa) : St:={ st with rt:=st.rt ++ [x] }
def St.aG (st : St) (r : Nat) (x : aa) : St:={ st with rt:=st.rt.set r x }
def Cl.dS : CT → U → Cl
 | .int k,u=>.int k u.toInt | .bool,u=>.bool u.toBool | .str,u=>.str u.toStr | .aj e,u=>.rd e u.bB
def ez : CT → Cl | .int k=>.int k 0 | .bool=>.bool false | .str=>.str ByteArray.empty | .aj _=>.nil
def mE : CT → U | .int _=>.int 0 | .bool=>.bool false | .str=>.str ByteArray.empty | .aj _=>.lst []
def bc : List (List U) → Path → List (List U)
 | xs,[]=>xs
 | xs,(i,o) :: p=>bc (((xs.getD i []).getD o U0).bB) p
def cD : List (List U) → Path → List (List U) → List (List U)
 | _,[],ys=>ys
 | xs,(i,o) :: p,ys=>xs.set i ((xs.getD i []).set o (.lst (cD (((xs.getD i []).getD o U0).bB) p ys)))
def fR (row : List U) (o : Nat) : List U → List U
 | []=>row
 | u :: us=>fR (row.set o u) (o + 1) us
def bY (xs : List (List U)) (i o : Nat) (us : List U) : List (List U):=xs.set i (fR (xs.getD i []) o us)
def gB (cs : List Cl) (o : Nat) : List Cl → List Cl
 | []=>cs
 | u :: us=>gB (cs.set o u) (o + 1) us
def gI (rt : List aa) : Cl → U
 | .int _ n=>.int n | .bool b=>.bool b | .str s=>.str s | .rd _ xs=>.lst xs | .nil=>.lst [] | .al r p _=>(match rt[r]? with | some (.row _ _ xs)=>.lst (bc xs p) | _=>.lst []) | .no=>U0
def kB (rt : List aa) : Cl → Cl
 | .al r p e=>(match rt[r]? with | some (.row _ _ xs)=>.rd e (bc xs p) | _=>.no)
 | x=>x
def gd : CT → Cl → Bool
 | .int k,.int k' _=>decide (k = k') | .bool,.bool _=>true | .str,.str _=>true
 | .aj e,.rd e' _=>decide (e = e') | .aj _,.nil=>true | .aj e,.al _ _ e'=>decide (e = e') | _,_=>false
def px : List CT → List Cl → Bool
 | [],[]=>true
 | t :: ts,x :: xs=>gd t x && px ts xs
 | _,_=>false
def CT.bU : CT → Bool | .aj _=>true | _=>false
def fj (ab : List CT) : Bool:=ab.all fun c=>!c.bU
section
variable {R : Type}
def cQ : Nat → (Nat → R) → R
 | 0,K=>K 0
 | n + 1,K=>cQ n fun m=>K (m + 1)
def cq {α : Type} (f : α → (α → R) → R) : List α → (List α → R) → R
 | [],K=>K []
 | x :: xs,K=>f x fun y=>cq f xs fun ys=>K (y :: ys)
def sd (x : Nat × Nat) (K : Nat × Nat → R) : R:=match x with | (i,o)=>cQ o fun o=>K (i,o)
def kf (x : Cl) (K : Cl → R) : R :=
 match x with
 | .int k n=>K (.int k n) | .bool b=>K (.bool b) | .str s=>K (.str s) | .rd e xs=>K (.rd e xs) | .nil=>K .nil
 | .al r p e=>cQ r fun r=>cq sd p fun p=>K (.al r p e) | .no=>K .no
def sb (x : aH) (K : aH → R) : R :=
 match x with
 | .c x=>kf x fun x=>K (.c x) | .bx r o=>cQ r fun r=>cQ o fun o=>K (.bx r o) | .pr e us o=>cQ o fun o=>K (.pr e us o)
def rZ (b : Bool) (K : Bool → R) : R:=match b with | true=>K true | false=>K false
def mX (x : SV) (K : SV → R) : R :=
 match x with
 | .c x=>kf x fun x=>K (.c x) | .ag xs=>cq kf xs fun xs=>K (.ag xs)
 | .bx r o=>cQ r fun r=>K (.bx r o) | .pr e us o=>cQ o fun o=>K (.pr e us o)
 | .po r p e i o=>cQ r fun r=>cq sd p fun p=>cQ o fun o=>K (.po r p e i o)
 | .fn g az=>cq sb az fun az=>K (.fn g az)
 | .bf vs=>cq (fun x K=>rZ x.1 fun b=>cq kf x.2 fun ys=>K (b,ys)) vs fun vs=>K (.bf vs) | .ud=>K .ud
def pD (x : aa) (K : aa → R) : R :=
 match x with
 | .box t cs=>cq kf cs fun cs=>K (.box t cs) | .row e d xs=>rZ d fun d=>K (.row e d xs) | .gone=>K .gone
def cM (st : St) (K : St → R) : R:=cq mX st.sl fun sl=>cq pD st.rt fun rt=>cQ st.np fun np=>K ⟨sl,rt,np⟩
theorem ju (n : Nat) (K : Nat → R) : cQ n K = K n:=by
 induction n generalizing K with
 | zero=>rfl
 | succ n ih=>exact ih _
theorem bZ {α : Type} {f : α → (α → R) → R} (hf : ∀ x K,f x K = K x) (xs : List α) (K : List α → R) : cq f xs K = K xs:=by
 induction xs generalizing K with
 | nil=>rfl
 | cons x xs ih=>unfold cq; rw [hf,ih]
theorem wy (x : Nat × Nat) (K : Nat × Nat → R) : sd x K = K x:=ju _ _
theorem pB (x : Cl) (K : Cl → R) : kf x K = K x:=by
 cases x <;> first | rfl | (unfold kf; simp only [ju]; exact bZ wy _ _)
theorem Ap (x : aH) (K : aH → R) : sb x K = K x:=by
 cases x <;> simp only [sb,pB,ju]
theorem wx (x : Bool) (K : Bool → R) : rZ x K = K x:=by cases x <;> rfl
theorem fE (x : SV) (K : SV → R) : mX x K = K x:=by
 cases x <;> simp only [mX,pB,ju,bZ pB,bZ wy,bZ Ap]
 exact bZ (fun x K=>by simp only [wx]) _ _
theorem kg (x : aa) (K : aa → R) : pD x K = K x:=by
 cases x <;> simp only [pD,bZ pB,wx]
theorem bT (st : St) (K : St → R) : cM st K = K st:=by
 unfold cM
 rw [bZ fE,bZ kg,ju]
end
def jn : Value → Cl
 | .bool b=>.bool b | .int k n=>.int k n | .string s=>.str s | .slice none 0 0=>.nil | _=>.no
def pq : List Value → Option (List Cl)
 | []=>some []
 | v :: vs=>match jn v with
  | .no=>none
  | c=>(pq vs).map (c :: ·)
def rP : Value → SV
 | .agg cs=>(match pq cs.toList with | some xs=>.ag xs | none=>.no)
 | v=>.c (jn v)
def ev (st : St) : Operand → SV
 | .tmp t=>st.sl.getD t .no
 | .const v=>rP v
 | .func f=>.fn f []
 | .global _=>.no
def pack (agg : Bool) (cells : List Cl) : SV:=if agg then .ag cells else match cells with | [x]=>.c x | _=>.no
def ib (ab : List CT) (us : List U) (o n : Nat) : List Cl:=(((ab.drop o).take n).zipIdx o).map fun x=>Cl.dS x.1 (us.getD x.2 U0)
def kT (deep : Bool) (r : Nat) (p : Path) (i : Nat) (ab : List CT) (us : List U) (o n : Nat) : List Cl :=
 (((ab.drop o).take n).zipIdx o).map fun x=>match x.1 with
  | .aj e=>if deep then .al r (p ++ [(i,x.2)]) e else .rd e (us.getD x.2 U0).bB
  | ct=>Cl.dS ct (us.getD x.2 U0)
section
variable {R : Type}
def jj : List Cl → Option (List Bool)
 | []=>some []
 | .bool b :: xs=>(jj xs).map (b :: ·)
 | _=>none
def hY (T : ax) (t' t : TypeId) (cs : List Cl) : Option (List Bool) :=
 match (T.row t').d,T.ct t,T.agg t with
 | .arr _ _,[.bool],false=>jj cs
 | _,_,_=>none
def jL (k : IntKind) : List Cl → Option (List Int)
 | []=>some []
 | .int k' n :: xs=>if k = k' then (jL k xs).map (n :: ·) else none
 | _=>none
def iL (T : ax) (t' t : TypeId) (cs : List Cl) : Option (IntKind × List Int) :=
 match (T.row t').d,T.ct t,T.agg t with
 | .arr _ _,[.int k],false=>(jL k cs).map (k,·)
 | _,_,_=>none
def iN (T : ax) (rt : List aa) (t : TypeId) (a : SV) (K : SV → Option R) : Option R :=
 if (T.row t).d.known then
  match a with
  | .bx r o=>match rt[r]? with
   | some (.box t' cs)=>match hY T t' t cs with
    | some bs=>bif decide (o < bs.length) then K (.c (.bool (bs.getD o false))) else none
    | none=>match iL T t' t cs with
     | some (k,ns)=>bif decide (o < ns.length) then K (.c (.int k (ns.getD o 0))) else none
     | none=>if ((cs.drop o).take (T.size t)).length = T.size t then K (pack (T.agg t) ((cs.drop o).take (T.size t))) else none
   | _=>none
  | .pr e us o=>if ((((T.ct e).drop o).take (T.size t)).length = T.size t) then K (pack (T.agg t) (ib (T.ct e) us o (T.size t))) else none
  | .po r p e i o=>match rt[r]? with
   | some (.row _ dp xs)=>if ((((T.ct e).drop o).take (T.size t)).length = T.size t) then K (pack (T.agg t) (kT dp r p i (T.ct e) ((bc xs p).getD i []) o (T.size t))) else none
   | _=>none
  | _=>none
 else none
def oV (a : SV) (o : Nat) (K : SV → Option R) : Option R :=
 match a with
 | .bx r j=>K (.bx r (j + o)) | .pr e us j=>K (.pr e us (j + o)) | .po r p e i j=>K (.po r p e i (j + o)) | _=>none
def pE (T : ax) (t : TypeId) (a : SV) (f : Nat) (K : SV → Option R) : Option R :=
 match (T.row t).d with
 | .st fs=>match fs[f]? with
  | some (ft,o)=>if T.size ft = 0 ∨ (T.row ft).d.known = false then none else oV a o K
  | none=>none
 | _=>none
def pF (T : ax) (t : TypeId) (a : SV) (f : Nat) (K : SV → Option R) : Option R :=
 match (T.row t).d,a with
 | .st fs,.ag cs=>match fs[f]? with
  | some (ft,o)=>if (T.row ft).d.known && decide (((cs.drop o).take (T.size ft)).length = T.size ft) then K (pack (T.agg ft) ((cs.drop o).take (T.size ft))) else none
  | none=>none
 | _,_=>none
def dE (n : Int) (len : Nat) : Bool:=decide (0 ≤ n ∧ n < (len : Int))
def kz (T : ax) (rt : List aa) (t : TypeId) (x i : SV) (K : SV → Option R) : Option R :=
 match (T.row t).d,i with
 | .one (.aj e),.c (.int _ n) =>
  match x with
  | .c (.rd e' xs)=>if e = e' ∧ (T.row e).d.known = true then (bif dE n xs.length then K (.pr e (xs.getD n.toNat []) 0) else none) else none
  | .c (.al r p e')=>(match rt[r]? with
   | some (.row _ _ xs)=>if e = e' ∧ (T.row e).d.known = true then (bif dE n (bc xs p).length then K (.po r p e n.toNat 0) else none) else none
   | _=>none)
  | _=>none
 | .arr len e,.c (.int _ n) =>
  match x with
  | .bx r o=>if (T.row e).d.known = true then (bif dE n len then (cQ (T.size e) fun k=>match k,o with | 1,0=>K (.bx r n.toNat) | k,o=>K (.bx r (o + n.toNat * k))) else none) else none
  | _=>none
 | _,_=>none
def qV : List Cl → Option (List ByteArray)
 | []=>some []
 | .str s :: xs=>(qV xs).map (s :: ·)
 | _=>none
def qm (T : ax) (t : TypeId) (x i : SV) (K : SV → Option R) : Option R :=
 match (T.row t).d,x,i with
 | .arr len e,.ag cs,.c (.int _ n) =>
  match (T.row e).d with
  | .one .str=>match qV cs with
   | some ss=>if ss.length = len ∧ T.size e = 1 then (bif dE n len then K (.c (.str (ss.getD n.toNat ByteArray.empty))) else none) else none
   | none=>none
  | .one (.int k)=>match jL k cs with
   | some ss=>if ss.length = len ∧ T.size e = 1 then (bif dE n len then K (.c (.int k (ss.getD n.toNat 0))) else none) else none
   | none=>none
  | .one .bool=>match jj cs with
   | some ss=>if ss.length = len ∧ T.size e = 1 then (bif dE n len then K (.c (.bool (ss.getD n.toNat false))) else none) else none
   | none=>none
  | _=>none
 | .one .str,.c (.str s),.c (.int _ n)=>bif dE n s.size then K (.c (.int .u8 ((s.data.getD n.toNat 0).toNat))) else none
 | _,_,_=>none
def ke : List CT → List Cl → List Cl → Option Bool
 | [],[],[]=>some true
 | .int k :: ts,.int k1 a :: xs,.int k2 b :: ys=>if k1 = k ∧ k2 = k then (ke ts xs ys).map (decide (a = b) && ·) else none
 | .bool :: ts,.bool a :: xs,.bool b :: ys=>(ke ts xs ys).map ((a == b) && ·)
 | .str :: ts,.str a :: xs,.str b :: ys=>(ke ts xs ys).map (decide (a = b) && ·)
 | _,_,_=>none
def ru (k : IntKind) (x y : Int) : Int:=k.wrap ((BitVec.ofInt k.bits x &&& BitVec.ofInt k.bits y).toNat : Nat)
def vf (k : IntKind) (x y : Int) : Int:=k.wrap ((BitVec.ofInt k.bits x ^^^ BitVec.ofInt k.bits y).toNat : Nat)
def uT (k : IntKind) (x y : Int) : Int:=x.fdiv (2 ^ (min y.toNat k.bits))
def qn (b : BinOp) (k : IntKind) (x y : Int) (K : SV → Option R) : Option R :=
 match b with
 | .and=>K (.c (.int k (ru k x y))) | .xor=>K (.c (.int k (vf k x y)))
 | .add=>K (.c (.int k (k.wrap (x + y)))) | .sub=>K (.c (.int k (k.wrap (x - y)))) | .mul=>K (.c (.int k (k.wrap (x * y))))
 | .quo=>bif decide (y = 0) then none else K (.c (.int k (k.wrap (x.tdiv y))))
 | .rem=>bif decide (y = 0) then none else K (.c (.int k (x.tmod y)))
 | .eql=>K (.c (.bool (decide (x = y)))) | .neq=>K (.c (.bool (!decide (x = y))))
 | .lss=>K (.c (.bool (decide (x < y)))) | .leq=>K (.c (.bool (decide (x ≤ y)))) | .gtr=>K (.c (.bool (decide (x > y)))) | .geq=>K (.c (.bool (decide (x ≥ y))))
 | _=>none
def pa (T : ax) (bh : TypeId → Bool) (b : BinOp) (t : TypeId) (x y : SV) (K : SV → Option R) : Option R :=
 match x,y with
 | .c (.int k a),.c (.int k' c)=>if b = .shr then (bif decide (c < 0) then none else K (.c (.int k (uT k a c)))) else if k = k' then qn b k a c K else none
 | .c (.bool a),.c (.bool c)=>(match (T.row t).d,b with
  | .one .bool,.eql=>K (.c (.bool (a == c))) | .one .bool,.neq=>K (.c (.bool (!(a == c)))) | _,_=>none)
 | .c (.str a),.c (.str c)=>(match b with
  | .add=>bif decide (a.size + c.size ≤ 9223372036854775807) then K (.c (.str (a ++ c))) else none
  | .eql=>K (.c (.bool (decide (a = c)))) | .neq=>K (.c (.bool (!decide (a = c)))) | _=>none)
 | .ag xs,.ag ys=>if bh t then (match ke (T.ct t) xs ys with
  | some r=>(match b with | .eql=>K (.c (.bool r)) | .neq=>K (.c (.bool (!r))) | _=>none)
  | none=>none) else none
 | _,_=>none
def vL : SV → Option aH
 | .c .no=>none
 | .c x=>some (.c x) | .bx r o=>some (.bx r o) | .pr e us o=>some (.pr e us o) | _=>none
def kc (ρ : Operand → SV) : List Operand → Option (List aH)
 | []=>some []
 | x :: xs=>match vL (ρ x),kc ρ xs with | some c,some cs=>some (c :: cs) | _,_=>none
def aH.sv : aH → SV | .c x=>.c x | .bx r o=>.bx r o | .pr e us o=>.pr e us o
def lS (rt : List aa) (x : SV) (K : SV → Option R) : Option R :=
 match x with
 | .c (.rd _ xs)=>K (.c (.int .i64 xs.length)) | .c .nil=>K (.c (.int .i64 0))
 | .c (.al r p _)=>(match rt[r]? with | some (.row _ _ xs)=>K (.c (.int .i64 (bc xs p).length)) | _=>none) | _=>none
def mz (x : SV) (lo hi : Option SV) (K : SV → Option R) : Option R :=
 match x with
 | .c (.rd e xs)=>(match lo.getD (.c (.int .i64 0)),hi.getD (.c (.int .i64 xs.length)) with
  | .c (.int _ l),.c (.int _ h)=>bif decide (0 ≤ l ∧ l ≤ h ∧ h ≤ (xs.length : Int)) then K (.c (.rd e ((xs.drop l.toNat).take (h - l).toNat))) else none
  | _,_=>none)
 | .c (.str s)=>(match lo.getD (.c (.int .i64 0)),hi.getD (.c (.int .i64 s.size)) with
  | .c (.int _ l),.c (.int _ h)=>bif decide (0 ≤ l ∧ l ≤ h ∧ h ≤ (s.size : Int)) then K (.c (.str (s.extract l.toNat h.toNat))) else none
  | _,_=>none)
 | _=>none
def oh (zH : Bool) (x y : SV) (K : SV → Option R) : Option R :=
 match x,y with
 | .c (.int k a),.c (.int k' b)=>if k = k' then K (.c (.int k (if zH then max a b else min a b))) else none
 | _,_=>none
def qK (T : ax) (bh : TypeId → Bool) (rt : List aa) (ρ : Operand → SV) (op : Op) (K : SV → Option R) : Option R :=
 match op with
 | .move x | .assign x=>K (ρ x)
 | .pick c a b=>match ρ c with | .c (.bool z)=>bif z then K (ρ a) else K (ρ b) | _=>none
 | .load t a=>iN T rt t (ρ a) K
 | .fieldAddr t x f=>pE T t (ρ x) f K
 | .field t x f=>pF T t (ρ x) f K
 | .indexAddr t x i=>kz T rt t (ρ x) (ρ i) K
 | .index t x i=>qm T t (ρ x) (ρ i) K
 | .binOp b t x y _=>pa T bh b t (ρ x) (ρ y) K
 | .unOp .not _ x=>match ρ x with | .c (.bool b)=>K (.c (.bool (!b))) | _=>none
 | .unOp .neg _ x=>match ρ x with | .c (.int k n)=>K (.c (.int k (k.wrap (0 - n)))) | _=>none
 | .convert s d x=>match (T.row s).d,(T.row d).d,ρ x with
  | .one _,.one (.int k),.c (.int _ n)=>K (.c (.int k (k.wrap n)))
  | _,_,_=>none
 | .extract x i=>match ρ x with
  | .bf vs=>match vs[i]? with
   | some (true,cs)=>K (.ag cs)
   | some (false,[c])=>K (.c c)
   | _=>none
  | _=>none
 | .makeFunc (.func g) first az=>match first.toList,kc ρ az.toList with
  | [],some cs=>K (.fn g cs)
  | _,_=>none
 | .nilCheck x=>match ρ x with | .bx r o=>K (.bx r o) | .pr e us o=>K (.pr e us o) | .po r p e i o=>K (.po r p e i o) | _=>none
 | .slice t x lo hi none=>match (T.row t).d,ρ x with
  | .one (.aj e),.c (.rd e' xs)=>if e = e' ∧ (T.row e).d.known = true then mz (.c (.rd e' xs)) (lo.map ρ) (hi.map ρ) K else none
  | .one .str,.c (.str s)=>mz (.c (.str s)) (lo.map ρ) (hi.map ρ) K
  | _,_=>none
 | .call c=>match c.callee,c.args.toList,c.argTypes.toList with
  | .builtin .len,[x],[t]=>(match (T.row t).d with
   | .one (.aj _)=>lS rt (ρ x) K
   | .one .str=>(match ρ x with | .c (.str s)=>K (.c (.int .i64 s.size)) | _=>none)
   | _=>none)
  | .builtin .min,[x,y],_=>oh false (ρ x) (ρ y) K
  | .builtin .max,[x,y],_=>oh true (ρ x) (ρ y) K
  | _,_,_=>none
 | _=>none
end
def Cl.ah (r : Nat) (keep : Bool) : Cl → Cl
 | .al r' p e=>if r' = r then (if keep && p.isEmpty then .al r' p e else .no) else .al r' p e
 | x=>x
def aH.bW (f : Cl → Cl) : aH → aH | .c x=>.c (f x) | x=>x
def SV.ah (r : Nat) (keep : Bool) : SV → SV
 | .c x=>.c (x.ah r keep) | .ag xs=>.ag (xs.map (Cl.ah r keep))
 | .po r' p e i o=>if r' = r then (if keep && p.isEmpty then .po r' p e i o else .no) else .po r' p e i o
 | .fn g az=>.fn g (az.map (aH.bW (Cl.ah r keep)))
 | .bf vs=>.bf (vs.map fun x=>(x.1,x.2.map (Cl.ah r keep)))
 | x=>x
def aa.ah (r : Nat) (keep : Bool) : aa → aa
 | .box t cs=>.box t (cs.map (Cl.ah r keep)) | x=>x
def St.ah (st : St) (r : Nat) (keep : Bool) : St:=⟨st.sl.map (SV.ah r keep),st.rt.map (aa.ah r keep),st.np⟩
def St.consume (st : St) : List Nat → St
 | []=>st
 | r :: rs=>((st.ah r false).aG r .gone).consume rs
def Cl.bR (r : Nat) (xs : List (List U)) : Cl → Cl
 | .al r' p e=>if r' = r then .rd e (bc xs p) else .al r' p e
 | x=>x
def SV.bR (r : Nat) (xs : List (List U)) : SV → SV
 | .c x=>.c (x.bR r xs) | .ag cs=>.ag (cs.map (Cl.bR r xs))
 | .po r' p e i o=>if r' = r then .pr e ((bc xs p).getD i []) o else .po r' p e i o
 | .fn g az=>.fn g (az.map (aH.bW (Cl.bR r xs)))
 | .bf vs=>.bf (vs.map fun x=>(x.1,x.2.map (Cl.bR r xs)))
 | x=>x
def aa.bR (r : Nat) (xs : List (List U)) : aa → aa
 | .box t cs=>.box t (cs.map (Cl.bR r xs)) | x=>x
def St.freeze (st : St) (r : Nat) : St :=
 match st.rt[r]? with
 | some (.row _ _ xs)=>(⟨st.sl.map (SV.bR r xs),st.rt.map (aa.bR r xs),st.np⟩ : St).aG r .gone
 | _=>st
def St.gK (st : St) : List Nat → St
 | []=>st
 | r :: rs=>(st.freeze r).gK rs
def Cl.af : Cl → List Nat | .al r _ _=>[r] | _=>[]
def aH.af : aH → List Nat | .c x=>x.af | .bx r _=>[r] | .pr ..=>[]
def SV.af : SV → List Nat
 | .c x=>x.af | .ag xs=>xs.flatMap Cl.af | .bx r _=>[r] | .pr ..=>[] | .po r ..=>[r] | .fn _ az=>az.flatMap aH.af | .bf vs=>vs.flatMap fun x=>x.2.flatMap Cl.af | .ud=>[]
def aa.af : aa → List Nat | .box _ cs=>cs.flatMap Cl.af | _=>[]
def dedup : List Nat → List Nat → List Nat
 | acc,[]=>acc
 | acc,x :: xs=>if acc.elem x then dedup acc xs else dedup (acc ++ [x]) xs
def posOf (r : Nat) : List Nat → Nat → Option Nat
 | [],_=>none
 | x :: xs,i=>if x = r then some i else posOf r xs (i + 1)
def Cl.bE (ord : List Nat) : Cl → Cl
 | .al r p e=>match posOf r ord 0 with | some k=>.al k p e | none=>.no
 | x=>x
def aH.bE (ord : List Nat) : aH → aH
 | .c x=>.c (x.bE ord) | .bx r o=>(match posOf r ord 0 with | some k=>.bx k o | none=>.c .no) | x=>x
def SV.bE (ord : List Nat) : SV → SV
 | .c x=>.c (x.bE ord) | .ag xs=>.ag (xs.map (Cl.bE ord))
 | .bx r o=>(match posOf r ord 0 with | some k=>.bx k o | none=>.no)
 | .po r p e i o=>(match posOf r ord 0 with | some k=>.po k p e i o | none=>.no)
 | .fn g az=>.fn g (az.map (aH.bE ord)) | .bf vs=>.bf (vs.map fun x=>(x.1,x.2.map (Cl.bE ord)))
 | x=>x
def aa.bE (ord : List Nat) : aa → aa
 | .box t cs=>.box t (cs.map (Cl.bE ord)) | x=>x
structure kQ where
 live : List Nat
 bR : List Nat
 xX : List (Nat × Nat × TypeId)
 join : Bool
def gT (live : List Nat) : List SV → Nat → List SV
 | [],_=>[]
 | x :: xs,i=>(if live.elem i then x else .no) :: gT live xs (i + 1)
def St.qI (st : St) : St :=
 let l1:=dedup (List.range st.np) (st.sl.flatMap SV.af)
 let ord:=dedup l1 (l1.flatMap fun r=>match st.rt[r]? with | some x=>x.af | none=>[])
 ⟨st.sl.map (SV.bE ord),ord.map fun r=>match st.rt[r]? with | some x=>x.bE ord | none=>.gone,st.np⟩
def gL (st : St) : List Nat → St
 | []=>st
 | i :: is=>match st.sl.getD i .no with
  | .c (.al r [] _)=>gL (if st.np ≤ r then st.freeze r else st) is
  | _=>gL st is
def fw (st : St) : List (Nat × Nat × TypeId) → St
 | []=>st
 | (t,o,e) :: xs=>match st.sl.getD t .no with
  | .bx r 0=>(match st.rt[r]? with
   | some (.box ty cs)=>(match cs[o]? with
    | some .nil=>fw ((st.add (.row e true [])).aG r (.box ty (cs.set o (.al st.rt.length [] e)))) xs
    | _=>fw st xs)
   | _=>fw st xs)
  | _=>fw st xs
def St.clean (st : St) : Option kQ → St
 | none=>st
 | some h=>let st:=fw (gL st h.bR) h.xX; (⟨gT h.live st.sl 0,st.rt,st.np⟩ : St).qI
def ig : SV → Option (List Cl) | .c .no=>none | .c x=>some [x] | .ag xs=>some xs | _=>none
def aQ (rt : List aa) (np : Nat) (deep : Bool) : List CT → List Cl → Option (List U × List Nat)
 | [],[]=>some ([],[])
 | .aj e :: ts,.nil :: xs=>(aQ rt np deep ts xs).map fun y=>(.lst [] :: y.1,y.2)
 | .aj e :: ts,.rd e' ys :: xs=>if deep = false ∧ e = e' then (aQ rt np deep ts xs).map fun y=>(.lst ys :: y.1,y.2) else none
 | .aj e :: ts,.al r [] e' :: xs=>if deep = true ∧ e = e' ∧ np ≤ r then (match rt[r]? with
   | some (.row _ true ys)=>(aQ rt np deep ts xs).map fun y=>(.lst ys :: y.1,r :: y.2)
   | _=>none) else none
 | .int k :: ts,.int k' n :: xs=>if k = k' then (aQ rt np deep ts xs).map fun y=>(.int n :: y.1,y.2) else none
 | .bool :: ts,.bool b :: xs=>(aQ rt np deep ts xs).map fun y=>(.bool b :: y.1,y.2)
 | .str :: ts,.str b :: xs=>(aQ rt np deep ts xs).map fun y=>(.str b :: y.1,y.2)
 | _,_=>none
def dz (rt : List aa) (np : Nat) (deep : Bool) (ab : List CT) : List (List Cl) → Option (List (List U) × List Nat)
 | []=>some ([],[])
 | x :: xs=>match aQ rt np deep ab x,dz rt np deep ab xs with
  | some a,some b=>some (a.1 :: b.1,a.2 ++ b.2)
  | _,_=>none
def jy (xs : List Cl) : Bool:=xs.any fun | .rd ..=>true | _=>false
def cK : List Nat → Bool | []=>true | x :: xs=>!xs.elem x && cK xs
def chunk (size : Nat) (cs : List Cl) (len : Nat) : List (List Cl):=(List.range len).map fun i=>(cs.drop (i * size)).take size
def zeroCells (ab : List CT) (n : Nat) : List Cl:=(List.range n).map fun i=>ez (ab.getD (i % ab.length) .bool)
def eE (place : Nat → Option (Nat × Nat)) (ρ : Operand → SV) : List Cl → List (Nat × Operand) → Option (List Cl)
 | cs,[]=>some cs
 | cs,(i,x) :: ps=>match place i,ig (ρ x) with
  | some (o,n),some a=>if a.length = n ∧ o + n ≤ cs.length then eE place ρ (gB cs o a) ps else none
  | _,_=>none
section
variable {R : Type}
def dL (T : ax) (ρ : Operand → SV) (t : TypeId) (parts : List (Nat × Operand)) (K : SV → Option R) : Option R :=
 match (T.row t).d with
 | .st fs=>if fs.all (fun f=>(T.row f.1).d.known) then (match eE (fun i=>(fs[i]?).map fun f=>(f.2,T.size f.1)) ρ ((T.ct t).map ez) parts with | some cs=>K (.ag cs) | none=>none) else none
 | .arr n e=>if (T.row e).d.known then (match eE (fun i=>some (i * T.size e,T.size e)) ρ ((T.ct t).map ez) parts with | some cs=>K (.ag cs) | none=>none) else none
 | _=>none
def ml (T : ax) (st : St) (t : TypeId) (cs : List Cl) (d : Option Tmp) (K : St → Option R) : Option R :=
 if T.size t ≠ 0 ∧ cs.length = T.size t then (match dz st.rt st.np (!jy cs) (T.ct t) [cs] with
  | some (xs,rs)=>if cK rs then K (((st.consume rs).add (.row t (!jy cs) xs)).put d (.po st.rt.length [] t 0 0)) else none
  | none=>none) else none
def hJ (T : ax) (ar : Bool) (st : St) (t : TypeId) (d : Option Tmp) (K : St → Option R) : Option R :=
 if (T.row t).d.known then (if ar then ml T st t ((T.ct t).map ez) d K else K ((st.add (.box t ((T.ct t).map ez))).put d (.bx st.rt.length 0))) else none
def jk (T : ax) (ar : Bool) (st : St) (t : TypeId) (x : SV) (d : Option Tmp) (K : St → Option R) : Option R :=
 match ig x with
 | some cs=>if ar then ml T st t cs d K else K ((st.add (.box t cs)).put d (.bx st.rt.length 0))
 | none=>none
def fN (T : ax) (st : St) (e : TypeId) (deep : Bool) (els : List (List Cl)) (d : Option Tmp) (K : St → Option R) : Option R :=
 match dz st.rt st.np deep (T.ct e) els with
 | some (xs,rs)=>if cK rs then K (((st.consume rs).add (.row e deep xs)).put d (.c (.al st.rt.length [] e))) else none
 | none=>none
def jU (rt : List aa) : Cl → Cl
 | .al r p e=>(match rt[r]? with | some (.row _ _ xs)=>.rd e (bc xs p) | _=>.no)
 | x=>x
def xH (rt : List aa) (r : Nat) : Bool:=match rt[r]? with | some (.row ..)=>true | _=>false
def fO (T : ax) (st : St) (e : TypeId) (els : List (List Cl)) (d : Option Tmp) (K : St → Option R) : Option R :=
 let deep:=!els.any jy
 let qs:=dedup [] (els.flatMap fun x=>x.flatMap Cl.af)
 if deep || qs.isEmpty then fN T st e deep els d K
 else if cK qs && qs.all (fun r=>decide (st.np ≤ r) && xH st.rt r) then fN T (st.consume qs) e false (els.map fun x=>x.map (jU st.rt)) d K else none
def eF (T : ax) (st : St) (t : TypeId) (len : Nat) (parts : List (Nat × Operand)) (d : Option Tmp) (K : St → Option R) : Option R :=
 match T.elem t with
 | some e=>if (T.row e).d.known ∧ len * T.size e ≤ 16777216 ∧ T.size e ≠ 0 then (match eE (fun i=>some (i * T.size e,T.size e)) (ev st) (zeroCells (T.ct e) (len * T.size e)) parts with
  | some cs=>fO T st e (chunk (T.size e) cs len) d K
  | none=>none) else none
 | none=>none
def room (n bytes : Nat) : Bool:=decide (n * bytes ≤ 140737488355328 ∧ n ≤ 9223372036854775807)
def jN (T : ax) (st : St) (t : TypeId) (l c : Operand) (d : Option Tmp) (K : St → Option R) : Option R :=
 match T.elem t,ev st l,ev st c with
 | some e,.c (.int .i64 n),.c (.int .i64 m) =>
  if (T.row e).d.known ∧ T.size e ≠ 0 then
   (match l,c with
   | .tmp a,.tmp b=>if a = b then (bif decide (0 ≤ m) && room m.toNat (T.row e).bytes then K ((st.add (.row e true (List.replicate m.toNat ((T.ct e).map mE)))).put d (.c (.al st.rt.length [] e))) else none) else none
   | .const _,.tmp _=>if n = 0 then (bif decide (0 ≤ m) && room m.toNat (T.row e).bytes then K ((st.add (.row e true [])).put d (.c (.al st.rt.length [] e))) else none) else none
   | .const _,.const _=>if n = m then (bif decide (0 ≤ m) && room m.toNat (T.row e).bytes then K ((st.add (.row e true (List.replicate m.toNat ((T.ct e).map mE)))).put d (.c (.al st.rt.length [] e))) else none) else none
   | _,_=>none)
  else none
 | _,_,_=>none
def rF (T : ax) (t' t : TypeId) (cO cs : List Cl) : Option (List Bool × Bool) :=
 match hY T t' t cO,cs with
 | some bs,[.bool v]=>some (bs,v)
 | _,_=>none
def iY (v : Bool) (o : Nat) : List Bool → Nat → List Cl
 | [],_=>[]
 | b :: bs,k=>.bool (bif decide (k = o) then v else b) :: iY v o bs (k + 1)
def dV (T : ax) (st : St) (t : TypeId) (a x : SV) (d : Option Tmp) (K : St → Option R) : Option R :=
 match ig x with
 | some cs=>if cs.length = T.size t ∧ (T.row t).d.known ∧ T.size t ≠ 0 then
  (match a with
  | .bx r o=>match st.rt[r]? with
   | some (.box t' cO)=>match rF T t' t cO cs with
    | some (bs,v)=>bif decide (o < bs.length) then K ((st.aG r (.box t' (iY v o bs 0))).put d .no) else none
    | none=>if o + cs.length ≤ cO.length then K ((st.aG r (.box t' (gB cO o cs))).put d .no) else none
   | _=>none
  | .po r p e i o=>match st.rt[r]? with
   | some (.row e0 deep xs) =>
    (match aQ st.rt st.np deep (((T.ct e).drop o).take cs.length) cs with
    | some (us,rs)=>if cK (r :: rs) ∧ (deep = true ∨ p = []) then K ((((st.consume rs).ah r true).aG r (.row e0 deep (cD xs p (bY (bc xs p) i o us)))).put d .no) else none
    | none=>none)
   | _=>none
  | _=>none) else none
 | none=>none
def mA (rt : List aa) : SV → Option (TypeId × List (List U))
 | .c (.rd e ys)=>some (e,ys)
 | .c (.al r p e)=>(match rt[r]? with | some (.row _ _ xs)=>some (e,bc xs p) | _=>none)
 | _=>none
def mQ (st : St) (e : TypeId) : SV → Option (St × Nat)
 | .c .nil=>some (st.add (.row e true []),st.rt.length)
 | .c (.al r [] e')=>if e = e' then some (st,r) else none
 | _=>none
def dW (T : ax) (st : St) (t t2 : TypeId) (s x : SV) (d : Option Tmp) (K : St → Option R) : Option R :=
 match T.elem t with
 | some e=>if (T.row e).d.known ∧ T.size e ≠ 0 ∧ t2 = t then
  (match mQ st e s with
  | some (st,r)=>match st.rt[r]? with
   | some (.row e0 deep xs) =>
    if e0 = e ∧ st.np ≤ r then
    (if fj (T.ct e) then
     (match (match x with
      | .c .nil=>some (e,[])
      | x=>mA st.rt x) with
     | some (e',ys)=>if e' = e then
      (bif room (xs.length + ys.length) (T.row e).bytes then K (((st.ah r false).aG r (.row e deep (xs ++ ys))).put d (.c (.al r [] e))) else none) else none
     | none=>none)
    else match deep,x with
     | true,.c (.al r2 [] e2)=>match st.rt[r2]? with
      | some (.row eU true ys)=>if eU = e ∧ e2 = e ∧ r2 ≠ r ∧ st.np ≤ r2 then
       (bif room (xs.length + ys.length) (T.row e).bytes then K ((((st.consume [r2]).ah r false).aG r (.row e true (xs ++ ys))).put d (.c (.al r [] e))) else none) else none
      | _=>none
     | false,.c (.rd e2 ys)=>if e2 = e then
       (bif room (xs.length + ys.length) (T.row e).bytes then K (((st.ah r false).aG r (.row e false (xs ++ ys))).put d (.c (.al r [] e))) else none) else none
     | false,.c (.al r2 [] e2)=>match st.rt[r2]? with
      | some (.row eU false ys)=>if eU = e ∧ e2 = e ∧ r2 ≠ r then
       (bif room (xs.length + ys.length) (T.row e).bytes then K (((st.ah r false).aG r (.row e false (xs ++ ys))).put d (.c (.al r [] e))) else none) else none
      | _=>none
     | _,_=>none)
    else none
   | _=>none
  | none=>none) else none
 | none=>none
def jq (T : ax) (st : St) (t : TypeId) (x : SV) (lo hi : Option SV) (d : Option Tmp) (K : St → Option R) : Option R :=
 match (T.row t).d,x with
 | .one (.aj e),.c (.al r [] e')=>(match st.rt[r]? with
  | some (.row e0 dp xs)=>if e = e' ∧ e0 = e ∧ st.np ≤ r ∧ fj (T.ct e) = true ∧ (T.row e).d.known = true then
    (match lo.getD (.c (.int .i64 0)),hi.getD (.c (.int .i64 xs.length)) with
    | .c (.int _ l),.c (.int _ h)=>bif decide (0 ≤ l ∧ l ≤ h ∧ h ≤ (xs.length : Int)) then K (((st.ah r false).aG r (.row e dp ((xs.drop l.toNat).take (h - l).toNat))).put d (.c (.al r [] e))) else none
    | _,_=>none) else none
  | _=>none)
 | _,_=>none
inductive Prim where
 | sort | compact | grow (e : TypeId)
 | insert (e : TypeId) | clone (e : TypeId) | dropLt (e : TypeId) (c : FuncId) (j : Nat)
def cW (xs : List (List U)) : List Int:=xs.map fun x=>(x.getD 0 U0).toInt
def gv (l : List Int) : List (List U):=l.map fun n=>[U.int n]
def qT (l : List Int) : List Int:=l.mergeSort fun x y=>decide (x ≤ y)
def gJ : List Int → List Int
 | []=>[]
 | x :: l=>match gJ l with | []=>[x] | y :: k=>if x = y then y :: k else x :: y :: k
def uU (xs : List (List U)) : List (List U):=gv (qT (cW xs))
def vW (xs : List (List U)) : List (List U):=gv (gJ (cW xs))
def iS (T : ax) (st : St) (p : Prim) (args : List SV) (d : Option Tmp) (K : St → Option R) : Option R :=
 match p,args with
 | .sort,[.c (.al r [] e)]=>(match st.rt[r]? with
  | some (.row e0 true xs)=>if e0 = e ∧ st.np ≤ r ∧ T.ct e = [.int .i64] then
    (bif room xs.length 8 then K (((st.ah r true).aG r (.row e true (uU xs))).put d (.bf [])) else none) else none
  | _=>none)
 | .compact,[.c (.al r [] e)]=>(match st.rt[r]? with
  | some (.row e0 true xs)=>if e0 = e ∧ st.np ≤ r ∧ T.ct e = [.int .i64] then
    (bif room xs.length 8 then K (((st.ah r false).aG r (.row e true (vW xs))).put d (.c (.al r [] e))) else none) else none
  | _=>none)
 | .grow e,[.c .nil,.c (.int .i64 n)]=>if T.ct e = [.int .i64] then
   (bif decide (0 ≤ n) && room n.toNat 8 then K ((st.add (.row e true [])).put d (.c (.al st.rt.length [] e))) else none) else none
 | .insert e,[.c (.al r [] e1),.c (.int .i64 i),.c (.al r2 [] e2)]=>(match st.rt[r]?,st.rt[r2]? with
  | some (.row e0 true xs),some (.row e3 true ys)=>if e0 = e ∧ e1 = e ∧ e2 = e ∧ e3 = e ∧ r2 ≠ r ∧ st.np ≤ r ∧ fj (T.ct e) = true ∧ 0 < ys.length then
    (bif decide (0 ≤ i ∧ i ≤ (xs.length : Int)) && room (xs.length + ys.length) (T.row e).bytes then K (((st.ah r false).aG r (.row e true (xs.take i.toNat ++ ys ++ xs.drop i.toNat))).put d (.c (.al r [] e))) else none) else none
  | _,_=>none)
 | .clone e,[.c (.al r [] e1)]=>(match st.rt[r]? with
  | some (.row e0 true xs)=>if e0 = e ∧ e1 = e ∧ fj (T.ct e) = true then
    (bif room xs.length (T.row e).bytes then K ((st.add (.row e true xs)).put d (.c (.al st.rt.length [] e))) else none) else none
  | _=>none)
 | .dropLt e c j,[.c (.al r [] e1),.fn c' [.c (.int .i64 n)]]=>(match st.rt[r]? with
  | some (.row e0 true xs)=>if e0 = e ∧ e1 = e ∧ c' = c ∧ st.np ≤ r ∧ fj (T.ct e) = true ∧ (T.ct e)[j]? = some (.int .i64) then
    (bif room xs.length (T.row e).bytes then K (((st.ah r false).aG r (.row e true (xs.filter fun x=>!decide ((x.getD j U0).toInt < n)))).put d (.c (.al r [] e))) else none) else none
  | _=>none)
 | _,_=>none
def kS (T : ax) (rt : List aa) : aH → Option aH
 | .c x=>some (.c (kB rt x))
 | .bx r o=>match rt[r]? with
  | some (.box t cs)=>if px (T.ct t) cs then some (.pr t (cs.map (gI rt)) o) else none
  | _=>none
 | .pr e us o=>some (.pr e us o)
def pg (T : ax) (rt : List aa) : List aH → Option (List aH)
 | []=>some []
 | x :: xs=>match kS T rt x,pg T rt xs with | some a,some b=>some (a :: b) | _,_=>none
def mN (T : ax) (rt : List aa) : SV → Option SV
 | .c .no=>none
 | .c x=>some (.c (kB rt x)) | .ag xs=>some (.ag (xs.map (kB rt)))
 | .bx r o=>(kS T rt (.bx r o)).map aH.sv
 | .pr e us o=>some (.pr e us o)
 | .po r p e i o=>(match rt[r]? with | some (.row _ _ xs)=>some (.pr e ((bc xs p).getD i []) o) | _=>none)
 | .fn g az=>(pg T rt az).map (.fn g)
 | _=>none
def oi : CT → Cl → Cl
 | .aj e,.nil=>.rd e []
 | _,x=>x
def qy : List CT → List Cl → List Cl
 | t :: ts,x :: xs=>oi t x :: qy ts xs
 | _,xs=>xs
def sf (T : ax) (ty : Option TypeId) (x : SV) : SV :=
 match ty with
 | none=>x
 | some t=>match x with
  | .c y=>(match T.ct t with | [ct]=>.c (oi ct y) | _=>.c y)
  | .ag ys=>.ag (qy (T.ct t) ys)
  | x=>x
def mO (rt : List aa) (ct : CT) (x : Cl) (n : Nat) : Option (Cl × List (aa × Option (Nat × Path))) :=
 match ct,x with
 | .aj e,.al r p e'=>(match rt[r]? with
  | some (.row _ true xs)=>if e = e' then some (.al n [] e,[(.row e true (bc xs p),some (r,p))]) else none
  | _=>none)
 | .aj e,.nil=>some (.al n [] e,[(.row e true [],none)])
 | .aj _,_=>none
 | ct,x=>if gd ct x then some (x,[]) else none
def gH (rt : List aa) : List CT → List Cl → Nat → Option (List Cl × List (aa × Option (Nat × Path)))
 | [],[],_=>some ([],[])
 | t :: ts,x :: xs,n=>match mO rt t x n with
  | some (y,l)=>(gH rt ts xs (n + l.length)).map fun z=>(y :: z.1,l ++ z.2)
  | none=>none
 | _,_,_=>none
def gy (T : ax) (rt : List aa) : List PM → List TypeId → List SV → Nat → Option (List SV × List (aa × Option (Nat × Path)) × List Nat)
 | _,_,[],_=>some ([],[],[])
 | pm,ty,x :: xs,n =>
  match pm.headD .k with
  | .k=>match mN T rt x with
   | some y=>(gy T rt pm.tail ty.tail xs n).map fun z=>(sf T ty.head? y :: z.1,z.2.1,x.af ++ (x.af.flatMap fun r=>match rt[r]? with | some c=>c.af | none=>[]) ++ z.2.2)
   | none=>none
  | .m=>match x with
   | .c c=>match gH rt (T.ct (ty.headD 0)) [c] n with
    | some ([y],l)=>(gy T rt pm.tail ty.tail xs (n + l.length)).map fun z=>(.c y :: z.1,l ++ z.2.1,z.2.2)
    | _=>none
   | .ag cs=>match gH rt (T.ct (ty.headD 0)) cs n with
    | some (ys,l)=>(gy T rt pm.tail ty.tail xs (n + l.length)).map fun z=>(.ag ys :: z.1,l ++ z.2.1,z.2.2)
    | _=>none
   | .po r [] e 0 0=>match rt[r]? with
    | some (.row e0 d ys)=>if e = e0 then (gy T rt pm.tail ty.tail xs (n + 1)).map fun z=>(.po n [] e 0 0 :: z.1,(.row e d ys,some (r,[])) :: z.2.1,z.2.2) else none
    | _=>none
   | _=>none
def bz (st : St) : List (Option (Nat × Path)) → List (List (List U)) → Nat → St
 | [],_,_=>st
 | none :: ls,ms,i=>bz st ls ms (i + 1)
 | some (r,p) :: ls,ms,i =>
  match st.rt[r]? with
  | some (.row e deep xs)=>bz ((st.ah r true).aG r (.row e deep (cD xs p (ms.getD i [])))) ls ms (i + 1)
  | _=>st
def aI (md : RM) : List CT → List U → Nat → Nat → List Cl × List aa
 | [],_,_,_=>([],[])
 | .aj e :: ts,us,i,n=>match md with
  | .ro=>let z:=aI md ts us (i + 1) n; (.rd e (us.getD i U0).bB :: z.1,z.2)
  | md=>let z:=aI md ts us (i + 1) (n + 1); (.al n [] e :: z.1,.row e (decide (md = .own)) (us.getD i U0).bB :: z.2)
 | t :: ts,us,i,n=>let z:=aI md ts us (i + 1) n; (Cl.dS t (us.getD i U0) :: z.1,z.2)
def ej (T : ax) (md : RM) (t : TypeId) (us : List U) (n : Nat) : List Cl × List aa:=match md with | .ptr e=>([.al n [] e],[.row e false (us.getD 0 U0).bB]) | md=>aI md (T.ct t) us 0 n
def results1 (T : ax) : List RM → List TypeId → List (List U) → Nat → Nat → List (Bool × List Cl) × List aa
 | _,[],_,_,_=>([],[])
 | rm,t :: ts,us,i,n =>
  let a:=ej T (rm.headD .own) t (us.getD i []) n
  let z:=results1 T rm.tail ts us (i + 1) (n + a.2.length)
  ((T.agg t,a.1) :: z.1,a.2 ++ z.2)
def dx : List (Bool × List Cl) → SV
 | [(true,cs)]=>.ag cs
 | [(false,[c])]=>.c c
 | [(false,_)]=>.no
 | vs=>.bf vs
def jV {R : Type} (T : ax) (st : St) (t : TypeId) (a : SV) (d : Option Tmp) (K : St → Option R) : Option R :=
 match a with
 | .po r [] e 0 0=>match st.rt[r]? with
  | some (.row e0 true xs)=>if e = t ∧ e0 = t ∧ st.np ≤ r ∧ (T.row t).d.known = true then
    K ((⟨((st.ah r false).aG r .gone).sl,((st.ah r false).aG r .gone).rt ++ (aI .own (T.ct t) (xs.getD 0 []) 0 st.rt.length).2,st.np⟩ : St).put d (pack (T.agg t) (aI .own (T.ct t) (xs.getD 0 []) 0 st.rt.length).1)) else none
  | _=>none
 | _=>none
def ef (rs : List RM) : Bool:=match rs with | [.ptr _]=>true | _=>false
def iW (rs : List RM) (z : List (Bool × List Cl)) : SV:=if ef rs then (match z with | [(_,[.al n [] e])]=>.po n [] e 0 0 | _=>.no) else dx z
def uS (l : aa × Option (Nat × Path)) : Bool:=match l.1 with | .row _ false _=>true | _=>false
inductive Ext where
 | normal | exit (id : Nat) | ret
def xY (rt : List aa) (rs : List Nat) : Bool:=rs.all fun r=>match rt[r]? with | some (.row ..)=>true | _=>false
structure Env where
 T : ax
 bh : TypeId → Bool
 sig : FuncId → jg
 fns : FuncId → Option (List TypeId × List TypeId)
 den : FuncId → List SV → List aa → Option aJ
 iter : Code → (St → St) → (St → (Ext → St → Option aJ) → Option aJ) → St → (Ext → St → Option aJ) → Option aJ
 hint : Nat → Option kQ
 fy : FuncId → Option Prim
 ka : Tmp → Bool
def cA (E : Env) (st : St) (g : FuncId) (args : List SV) (az : List aH) (d : Option Tmp) (K : St → Option R) : Option R :=
 match E.fns g with
 | some (eO,af)=>if eO.length = args.length ∧ (ef (E.sig g).rs || af.all (fun t=>(E.T.row t).d.known)) then
  (match gy E.T st.rt (E.sig g).ps eO (args ++ az.map aH.sv) 0 with
  | some (aN,cJ,kr) =>
   let mr:=cJ.filterMap fun l=>l.2.map (·.1)
   let ro:=(E.sig g).rs.any fun m=>!decide (m = .own)
   if cK mr ∧ (mr.all fun r=>!kr.elem r) ∧ (cJ.any uS = false ∨ kr = []) ∧ (ro = false ∨ (xY st.rt kr = true ∧ kr.all (fun r=>decide (st.np ≤ r)) = true)) then
    cq mX aN fun aN=>cq pD (cJ.map (·.1)) fun ms=>(E.den g aN ms).bind fun ret =>
     cM (bz (if ro then st.gK (dedup [] kr) else st) (cJ.map (·.2)) ret.ms 0) fun st =>
     K ((⟨st.sl,st.rt ++ (results1 E.T (E.sig g).rs af ret.res 0 st.rt.length).2,st.np⟩ : St).put d (iW (E.sig g).rs (results1 E.T (E.sig g).rs af ret.res 0 st.rt.length).1))
   else none
  | none=>none) else none
 | none=>none
def dX (E : Env) (st : St) (g : FuncId) (args : List SV) (az : List aH) (K : SV → Option R) : Option R :=
 match E.fns g with
 | some (eO,af)=>if eO.length = args.length ∧ af.all (fun t=>(E.T.row t).d.known) then
  (match gy E.T st.rt (E.sig g).ps eO (args ++ az.map aH.sv) 0 with
  | some (aN,[],kr)=>if ((E.sig g).rs.any fun m=>ef [m]) || (((E.sig g).rs.any fun m=>!decide (m = .own)) && !kr.isEmpty) then none else
    cq mX aN fun aN=>(E.den g aN []).bind fun ret=>K (dx (results1 E.T (af.map fun _=>RM.ro) af ret.res 0 0).1)
  | _=>none) else none
 | none=>none
def rowAt (E : Env) (o : Oper) : Bool:=match o.dst with | some d=>E.ka d | none=>false
def lY (E : Env) (o : Oper) (st : St) (K : St → Option R) : Option R :=
 match o.op with
 | .alloc t=>hJ E.T (rowAt E o) st t o.dst K
 | .box t x=>jk E.T (rowAt E o) st t (ev st x) o.dst K
 | .load t x=>if rowAt E o then jV E.T st t (ev st x) o.dst K else qK E.T E.bh st.rt (ev st) o.op fun v=>K (st.put o.dst v)
 | .build t parts=>dL E.T (ev st) t parts.toList fun v=>K (st.put o.dst v)
 | .buildSlice t len parts=>eF E.T st t len parts.toList o.dst K
 | .makeSlice t l c=>jN E.T st t l c o.dst K
 | .store t a x=>dV E.T st t (ev st a) (ev st x) o.dst K
 | .call c=>match c.callee,c.args.toList,c.argTypes.toList with
  | .value f,args,_=>(match ev st f with
   | .fn g az=>(match E.fy g with
    | some p=>if az.isEmpty then iS E.T st p (args.map (ev st)) o.dst K else none
    | none=>cA E st g (args.map (ev st)) az o.dst K)
   | _=>none)
  | .builtin .append,[s,x],[t,t2]=>dW E.T st t t2 (ev st s) (ev st x) o.dst K
  | _,_,_=>qK E.T E.bh st.rt (ev st) o.op fun v=>K (st.put o.dst v)
 | .assign x=>(match ev st x,E.T.elem o.type with
  | .c .nil,some e=>K ((st.add (.row e true [])).put o.dst (.c (.al st.rt.length [] e)))
  | v,_=>K (st.put o.dst v))
 | .slice t x lo hi none=>(match ev st x with
  | .c (.al ..)=>jq E.T st t (ev st x) (lo.map (ev st)) (hi.map (ev st)) o.dst K
  | _=>qK E.T E.bh st.rt (ev st) o.op fun v=>K (st.put o.dst v))
 | _=>qK E.T E.bh st.rt (ev st) o.op fun v=>K (st.put o.dst v)
def eh (E : Env) (o : Oper) (st : St) (K : SV → Option R) : Option R :=
 match o.op with
 | .build t parts=>dL E.T (ev st) t parts.toList K
 | .call c=>match c.callee,c.args.toList,c.argTypes.toList with
  | .value f,args,_=>(match ev st f with
   | .fn g az=>dX E st g (args.map (ev st)) az K
   | _=>none)
  | _,_,_=>qK E.T E.bh st.rt (ev st) o.op K
 | _=>qK E.T E.bh st.rt (ev st) o.op K
def jd (ops : List Oper) (o : Oper) (st : St) (yes no : St → Option R) : Option R :=
 match o.guard with
 | none=>yes st
 | some (j,want)=>match (ops[j]?).bind (·.dst) with
  | none=>none
  | some t=>match st.sl.getD t .no with
   | .c (.bool b) =>
    bif b then (if want then yes { st with sl:=st.sl.set t (.c (.bool true)) } else no { st with sl:=st.sl.set t (.c (.bool true)) })
    else (if want then no { st with sl:=st.sl.set t (.c (.bool false)) } else yes { st with sl:=st.sl.set t (.c (.bool false)) })
   | .ud=>no st
   | _=>none
def iM (st : St) : List Oper → St
 | []=>st
 | o :: os=>iM (match o.guard with | some _=>st.put o.dst .no | none=>st) os
def Cv (o : Oper) : Bool:=match o.op,o.guard with | .pick ..,none=>true | _,_=>false
structure fV where
 d : Tmp
 r : Nat
 i : Nat
 o : Nat
 e : TypeId
 zs : List (List U)
def uz (T : ax) (st : St) (o : Oper) : Option (fV × Nat) :=
 match o.guard,o.dst,o.op with
 | none,some d,.call c=>(match c.callee,c.args.toList,c.argTypes.toList with
  | .builtin .append,[s,x],[t,t2]=>(match ev st s with
   | .c (.al r [(i,k)] e)=>(match T.elem t,st.rt[r]?,mA st.rt (ev st x) with
    | some e',some (.row e0 true xs),some (e2,ys)=>if e' = e ∧ e2 = e ∧ t2 = t ∧ (T.row e).d.known = true ∧ T.size e ≠ 0 ∧ fj (T.ct e) = true ∧ d < st.sl.length then some (⟨d,r,i,k,e,bc xs [(i,k)] ++ ys⟩,(bc xs [(i,k)]).length + ys.length) else none
    | _,_,_=>none)
   | _=>none)
  | _,_,_=>none)
 | _,_,_=>none
def kI (T : ax) (st : St) (t : TypeId) (a : SV) (x : Operand) (pd : fV) (d : Option Tmp) (K : St → Option R) : Option R :=
 match pd with
 | ⟨pd,pr,pi,po,pe,zs⟩=>match a,x with
  | .po r [] e0 i k,.tmp d'=>(match st.rt[r]? with
   | some (.row e1 true xs)=>if d' = pd ∧ r = pr ∧ k = po ∧ e0 = e1 ∧ T.ct t = [.aj pe] ∧ (T.row t).d.known = true then
     (bif decide (i = pi) then K (((st.ah r true).aG r (.row e1 true (bY xs i k [.lst zs]))).put d .no) else none) else none
   | _=>none)
  | _,_=>none
def dU (E : Env) (ops : List Oper) : List Oper → Option fV → St → (St → Option R) → Option R
 | [],none,st,K=>K st
 | [],some _,st,K=>none
 | o :: os,none,st,K=>match uz E.T st o with
  | some (pd,n)=>bif room n (E.T.row pd.e).bytes then cM ((st.ah pd.r true).put o.dst .no) fun ae=>dU E ops os (some pd) ae K else none
  | none=>jd ops o st (fun st=>lY E o st fun ae=>cM (if Cv o then iM ae ops else ae) fun ae=>dU E ops os none ae K) (fun st=>cM (st.put o.dst .ud) fun ae=>dU E ops os none ae K)
 | o :: os,some pd,st,K=>match o.guard,o.op with
  | none,.store t a x=>kI E.T st t (ev st a) x pd o.dst fun ae=>cM ae fun ae=>dU E ops os none ae K
  | none,_=>if o.dst = some pd.d then none else qK E.T E.bh st.rt (ev st) o.op fun v=>cM (st.put o.dst v) fun ae=>dU E ops os (some pd) ae K
  | some _,_=>none
def qP (E : Env) (ops : List Oper) (os : List Oper) (st : St) (K : St → Option R) : Option R:=dU E ops os none st K
def iX (E : Env) (ops : List Oper) : List Oper → St → (St → Option R) → Option R
 | [],st,K=>K st
 | o :: os,st,K=>jd ops o st (fun st=>eh E o st fun v=>cM (st.put o.dst v) fun ae=>iX E ops os ae K) (fun st=>cM (st.put o.dst .ud) fun ae=>iX E ops os ae K)
def waits (o : Oper) (i : Nat) : Bool:=o.after.toList.any fun e=>e.on == i && Region.binds .any e
def looks (ops : List Oper) (o : Oper) : List Tmp :=
 (o.op.operands.toList.filterMap fun | .tmp t=>some t | _=>none) ++ (match o.guard with | some (g,_)=>((ops[g]?).bind (·.dst)).toList | none=>[])
def qB (ops : List Oper) (i : Nat) (x y : Oper) : Bool :=
 waits y i || ((match x.dst with | some d=>!(looks ops y).elem d && !decide (y.dst = some d) | none=>true) && (match y.dst with | some d=>!(looks ops x).elem d | none=>true))
def la (ops : List Oper) : Bool :=
 ops.zipIdx.all fun y=>(y.1.after.toList.all fun e=>!Region.binds .any e || decide (e.on < y.2)) && (ops.zipIdx.all fun x=>!decide (x.2 < y.2) || qB ops x.2 x.1 y.1) &&
  (match y.1.op with | .select ..=>false | _=>true)
end
section
variable {R : Type}
def xG (ops : List Oper) (t : Tmp) : Bool:=ops.any fun o=>decide (o.dst = some t) && (match o.op with | .buildSlice ..=>true | .call c=>(match c.callee with | .value _=>true | .builtin .append=>true | _=>false) | _=>false)
def holdsNew (ops : List Oper) (t : Tmp) : Bool:=xG ops t || ops.any fun o=>decide (o.dst = some t) && (match o.op with | .build _ parts=>parts.toList.any fun x=>(match x.2 with | .tmp t'=>xG ops t' | _=>false) | _=>false)
def eT (o : Oper) : List Nat:=(o.after.toList.filter (Region.binds .any)).map (·.on)
def El (o : Oper) : Bool:=match o.op with
 | .store ..=>true
 | .call c=>(match c.callee with | .value _=>true | .builtin .append=>true | _=>false)
 | _=>false
def tied (ops : List Oper) (o : Oper) : Bool:=match ops.zipIdx.find? fun x=>decide (x.1.dst = o.dst) with
 | some (_,i)=>(match (ops.drop (i + 1)).find? El with
  | some x=>(eT x).any fun a=>Nat.beq a i || (match ops[a]? with | some y=>(eT y).elem i | none=>false)
  | none=>true)
 | none=>true
def dF (ops : List Oper) (o : Oper) : Bool:=match o.op with
 | .buildSlice _ _ parts=>(parts.toList.any fun x=>(match x.2 with | .tmp t=>holdsNew ops t | _=>false)) && tied ops o
 | .store ..=>true
 | .call c=>(match c.callee with | .value _=>true | .builtin .append=>true | _=>false)
 | _=>false
def kA (o : Oper) : Bool:=match o.op with | .alloc _ | .buildSlice ..=>true | _=>false
def qC : List Oper → List (List Nat) → List (List Nat)
 | [],aC=>aC
 | o :: os,aC=>cq (fun x K=>cQ x K) (dedup [] ((eT o).flatMap fun a=>a :: aC.getD a [])) fun l=>qC os (aC ++ [l])
def uP (n : Nat) (aC : List (List Nat)) : List Nat → List Nat → List Nat
 | [],done=>done ++ (List.range n).filter fun j=>!done.elem j
 | h :: hs,done=>cq (fun x K=>cQ x K) (done ++ ((List.range n).filter fun j=>(aC.getD h []).elem j && !done.elem j) ++ [h]) fun l=>uP n aC hs l
def wT (ops : List Oper) : List Nat:=(ops.zipIdx.filter fun x=>dF ops x.1).map (·.2)
def fh (ops : List Oper) (aC : List (List Nat)) : List Nat → List Nat → Bool
 | [],_=>true
 | i :: L,done=>(aC.getD i []).all done.elem && !done.elem i && (match ops[i]? with | some o=>!dF ops o || done.all (aC.getD i []).elem | none=>false) && fh ops aC L (done ++ [i])
def vz (ops : List Oper) (x y : Oper) : Bool :=
 (match x.dst with | some d=>!(looks ops y).elem d && !decide (y.dst = some d) | none=>true) && (match y.dst with | some d=>!(looks ops x).elem d | none=>true)
def Cw (o : Oper) : Bool:=match o.op with | .select ..=>true | _=>false
def qx (ops : List Oper) (aC : List (List Nat)) (sched : List Nat) : Bool :=
 (ops.zipIdx.all fun y=>y.1.guard.isNone && !Cw y.1 && ((eT y.1).all fun a=>decide (a < y.2)) && ((aC.getD y.2 []).all fun j=>(eT y.1).any fun a=>a == j || (aC.getD a []).elem j) &&
  (ops.zipIdx.all fun x=>x.2 == y.2 || (aC.getD x.2 []).elem y.2 || (aC.getD y.2 []).elem x.2 || vz ops x.1 y.1) && (ops.zipIdx.all fun x=>x.2 == y.2 || x.1.dst.isNone || !decide (x.1.dst = y.1.dst))) &&
 ((List.range ops.length).all sched.elem) && fh ops aC sched []
def Cl.fK : Cl → Bool | .no=>true | _=>false
def SV.whole : SV → Bool
 | .c x=>!x.fK | .ag xs=>xs.all fun x=>!x.fK | .fn _ az=>az.all fun | .c x=>!x.fK | _=>true
 | .bf vs=>vs.all fun x=>x.2.all fun x=>!x.fK | _=>true
def oM (st : St) (o : Oper) : Bool:=o.op.operands.toList.all fun x=>(ev st x).whole
def SV.tidy : SV → Bool | .bf vs=>vs.all fun x=>x.1 || x.2.length == 1 | _=>true
def SV.clear (T : List Nat) (x : SV) : Bool:=x.af.all fun r=>!T.elem r
def eN (T : List Nat) : List aa → Nat → List aa
 | [],_=>[]
 | x :: xs,i=>(if T.elem i then .gone else x) :: eN T xs (i + 1)
def kE (pre : List Nat) (ts : List (Nat × List Nat)) : List Nat:=ts.flatMap fun x=>if pre.elem x.1 then [] else x.2
def news (n m : Nat) : List Nat:=(List.range (m - n)).map (n + ·)
def eo (E : Env) (o : Oper) (st : St) : List Nat :=
 match o.op with
 | .store _ a x=>(ev st a).af ++ (ev st x).af
 | .buildSlice t len parts=>(match E.T.elem t with
  | some e=>(match eE (fun i=>some (i * E.T.size e,E.T.size e)) (ev st) (zeroCells (E.T.ct e) (len * E.T.size e)) parts.toList with
   | some cs=>(chunk (E.T.size e) cs len).flatMap fun x=>x.flatMap Cl.af
   | none=>[])
  | none=>[])
 | .call c=>(match c.callee with
  | .value f=>(match ev st f with
   | .fn g az=>(match E.fns g with
    | some (eO,_)=>(match gy E.T st.rt (E.sig g).ps eO (c.args.toList.map (ev st) ++ az.map aH.sv) 0 with
     | some (_,cJ,_)=>cJ.filterMap fun l=>l.2.map (·.1)
     | none=>[])
    | none=>[])
   | _=>[])
  | _=>c.args.toList.flatMap fun x=>(ev st x).af)
 | _=>[]
def dG (E : Env) (o : Oper) (st : St) (K : St → Option R) : Option R :=
 match o.op with
 | .store t a x=>dV E.T st t (ev st a) (ev st x) o.dst K
 | .buildSlice t len parts=>eF E.T st t len parts.toList o.dst K
 | .call c=>match c.callee,c.args.toList,c.argTypes.toList with
  | .value f,args,_=>(match ev st f with
   | .fn g az=>if ((E.sig g).rs.any fun m=>!decide (m = .own)) = true then none else cA E st g (args.map (ev st)) az o.dst K
   | _=>none)
  | .builtin .append,[s,x],[t,t2]=>dW E.T st t t2 (ev st s) (ev st x) o.dst K
  | _,_,_=>none
 | _=>none
def eW (T : ax) (ρ : Operand → SV) (op : Op) (k : Nat) (K : aa → SV → Option R) : Option R :=
 match op with
 | .alloc t=>if (T.row t).d.known then K (.box t ((T.ct t).map ez)) (.bx k 0) else none
 | .buildSlice t len parts=>(match T.elem t with
  | some e=>if (T.row e).d.known ∧ len * T.size e ≤ 16777216 ∧ T.size e ≠ 0 then (match eE (fun i=>some (i * T.size e,T.size e)) ρ (zeroCells (T.ct e) (len * T.size e)) parts.toList with
   | some cs=>(match dz [] 0 (!(chunk (T.size e) cs len).any jy) (T.ct e) (chunk (T.size e) cs len) with
    | some (xs,_)=>K (.row e (!(chunk (T.size e) cs len).any jy) xs) (.c (.al k [] e))
    | none=>none)
   | none=>none) else none
  | none=>none)
 | _=>none
def gV (E : Env) (o : Oper) (st : St) (K : SV → Option R) : Option R :=
 match o.op with
 | .build t parts=>dL E.T (ev st) t parts.toList K
 | _=>qK E.T E.bh st.rt (ev st) o.op K
structure Fl where
 i : Nat
 d : Option Tmp
 v : SV
 x : Option (Nat × aa)
def Fl.ap (e : Fl) (st : St) : St:=(match e.x with | some (k,r)=>st.aG k r | none=>st).put e.d e.v
def wE (rt : List aa) (k : Nat) : Bool:=match rt[k]? with | some .gone=>true | _=>false
def mK (ks : List Nat) (st : St) : Bool:=ks.all (wE st.rt) && (st.sl.all fun x=>x.clear ks && x.tidy) && st.rt.all fun x=>x.af.all fun r=>!ks.elem r
def cC (ops : List Oper) (i : Nat) : Bool:=match ops[i]? with | some o=>kA o && !dF ops o | none=>false
def jx (ops : List Oper) : List Nat:=(List.range ops.length).filter (cC ops)
def runM (E : Env) (ops : List Oper) (aC : List (List Nat)) (pl : Nat → Nat) : List Nat → List (Nat × List Nat) → St → (St → Option R) → Option R
 | [],_,st,K=>K st
 | i :: L,ts,st,K =>
  if mK (((i :: L).filter (cC ops)).map pl) st then (match ops[i]? with
  | none=>none
  | some o =>
   if dF ops o then dG E o st fun aD=>cM aD fun aD=>cq (fun x K=>cQ x K) (eo E o st ++ news st.rt.length aD.rt.length) fun T=>runM E ops aC pl L (ts ++ [(i,T)]) aD K
   else cq (fun x K=>cQ x K) (kE (aC.getD i []) ts) fun T =>
    if kA o then eW E.T (ev st) o.op (pl i) fun x v =>
     if oM st o && v.clear T && decide (x.af = []) then cM (Fl.ap ⟨i,o.dst,v,some (pl i,x)⟩ st) fun aD=>runM E ops aC pl L (ts ++ [(i,[pl i])]) aD K else none
    else gV E o ⟨st.sl,eN T st.rt 0,st.np⟩ fun v =>
     if oM st o && v.whole && v.tidy && v.clear T && ((ts.all fun x=>(aC.getD i []).elem x.1 || cC ops x.1) || v.clear ((jx ops).map pl)) then cM (Fl.ap ⟨i,o.dst,v,none⟩ st) fun aD=>runM E ops aC pl L ts aD K else none) else none
def placeOf (base : Nat) (F : List Nat) (i : Nat) : Nat:=base + (posOf i F 0).getD 0
def pV (st : St) (n : Nat) : St:=⟨st.sl,st.rt ++ List.replicate n .gone,st.np⟩
def mn (E : Env) (ops : List Oper) (st : St) (K : St → Option R) : Option R :=
 cq (fun x K=>cq (fun x K=>cQ x K) x K) (qC ops []) fun aC=>cq (fun x K=>cQ x K) (uP ops.length aC (wT ops) []) fun sched=>cq (fun x K=>cQ x K) (jx ops) fun F =>
  if qx ops aC sched then cM (pV st F.length) fun aD=>runM E ops aC (placeOf st.rt.length F) sched [] aD K else none
def Cu (sig : FuncId → jg) (ops : List Oper) : Bool:=ops.any fun o=>match o.op with
 | .alloc _ | .buildSlice .. | .store .. | .makeSlice .. | .box ..=>true
 | .call c=>(match c.callee with | .builtin .append=>true | .value (.func g)=>(sig g).ps.elem .m | _=>false)
 | _=>false
def CM (ops : List Oper) : Bool :=
 (ops.any fun o=>match o.op with | .call c=>(match c.callee with | .value (.func _)=>true | _=>false) | _=>false) && qx ops (qC ops []) (uP ops.length (qC ops []) (wT ops) [])
end
def iO (rec : St → Option aJ) (K : Ext → St → Option aJ) : Ext → St → Option aJ:=fun x ae=>match x with
 | .normal=>rec ae
 | x=>K x ae
def aJ.u (r : aJ) (j i : Nat) : U:=(r.res.getD j []).getD i U0
def aJ.m (r : aJ) (j : Nat) : List (List U):=r.ms.getD j []
def rounds (cl : St → St) (F : St → (Ext → St → Option aJ) → Option aJ) : Nat → St → (Ext → St → Option aJ) → Option aJ
 | 0,_,_=>none
 | n + 1,st,K=>F st (iO (fun ae=>cM (cl ae) fun ae=>rounds cl F n ae K) K)
def lb : Code → Option Nat
 | .region id _ _=>some id
 | .seq a b=>match lb a with | some i=>some i | none=>lb b
 | .block _ b | .loop b=>lb b
 | .cond _ a b=>match lb a with | some i=>some i | none=>lb b
 | _=>none
def dA (E : Env) (body : Code) : Option kQ:=match lb body with | some id=>E.hint id | none=>none
def fL (k : Nat) : Code → (St → St) → (St → (Ext → St → Option aJ) → Option aJ) → St → (Ext → St → Option aJ) → Option aJ:=fun b cl F=>match b with | .scope _=>F | _=>rounds cl F k
def qu (E : Env) (b : Code) : Option kQ:=match dA E b with | some h=>if h.join then some h else none | none=>none
def oH (E : Env) (b : Code) (F : St → (Ext → St → Option aJ) → Option aJ) (K : Ext → St → Option aJ) (st : St) : Option aJ:=match qu E b with
 | some h=>cM (st.clean (some h)) fun st=>E.iter (.scope b) (fun st=>st) F st K
 | none=>F st K
def bV (E : Env) : Code → St → (Ext → St → Option aJ) → Option aJ
 | .skip,st,K=>K .normal st
 | .region id ops draw,st,K =>
  if draw then (if (Cu E.sig ops.toList || CM ops.toList) = true then mn E ops.toList st fun ae=>K .normal ae else if la ops.toList then iX E ops.toList ops.toList st fun ae=>K .normal (iM ae ops.toList) else none)
  else qP E ops.toList ops.toList st fun ae=>K .normal ae
 | .seq a b,st,K=>bV E a st fun x ae=>match x with | .normal=>oH E b (bV E b) K ae | x=>K x ae
 | .cond c a b,st,K=>match ev st c with | .c (.bool z)=>bif z then bV E a st K else bV E b st K | _=>none
 | .block id body,st,K=>bV E body st fun x ae=>match x with | .exit i=>if i = id then K .normal ae else K (.exit i) ae | x=>K x ae
 | .loop body,st,K=>cM (st.clean (dA E body)) fun st=>E.iter body (fun st=>st.clean (dA E body)) (bV E body) st K
 | .exit id,st,K=>K (.exit id) st
 | .ret,st,K=>K .ret st
 | _,_,_=>none
def qJ (T : ax) (st : St) (t : TypeId) : ResultVar → Option (List Cl)
 | .tmp x=>match st.sl.getD x .no,T.agg t with
  | .c .no,_=>none
  | .c c,false=>some [c] | .ag cs,true=>some cs | _,_=>none
 | .cell x t'=>match st.sl.getD x .no with
  | .bx r 0=>match st.rt[r]? with
   | some (.box _ cs)=>if t' = t ∧ (T.row t).d.known ∧ cs.length = T.size t then some cs else none
   | _=>none
  | _=>none
def fv (rt : List aa) (md : RM) (np : Nat) : List CT → List Cl → Option (List U × List (Option Nat))
 | [],[]=>some ([],[])
 | .aj e :: ts,x :: xs=>match x with
  | .nil=>(fv rt md np ts xs).map fun y=>(.lst [] :: y.1,if md = .ro then y.2 else none :: y.2)
  | .rd e' ys=>if e = e' ∧ md = .ro then (fv rt md np ts xs).map fun y=>(.lst ys :: y.1,y.2) else none
  | .al r p e'=>(match rt[r]? with
   | some (.row e0 deep ys)=>if e = e' ∧ np ≤ r then
     (if md = .ro then (fv rt md np ts xs).map fun y=>(.lst (bc ys p) :: y.1,y.2)
     else if p = [] ∧ e0 = e ∧ deep = decide (md = .own) then (fv rt md np ts xs).map fun y=>(.lst ys :: y.1,some r :: y.2) else none)
     else none
   | _=>none)
  | _=>none
 | t :: ts,x :: xs=>if gd t x && !t.bU then (fv rt md np ts xs).map fun y=>(gI rt x :: y.1,y.2) else none
 | _,_=>none
def kH (T : ax) (st : St) (np : Nat) : List RM → List TypeId → List ResultVar → Option (List (List U) × List (Option Nat))
 | _,[],[]=>some ([],[])
 | rm,t :: ts,r :: rs=>if ef [rm.headD .own] then none else match qJ T st t r with
  | some cs=>match fv st.rt (rm.headD .own) np (T.ct t) cs,kH T st np rm.tail ts rs with
   | some a,some b=>some (a.1 :: b.1,a.2 ++ b.2)
   | _,_=>none
  | none=>none
 | _,_,_=>none
def ou (rt : List aa) : List (TypeId × Bool) → Nat → Option (List (List (List U)))
 | [],_=>some []
 | (e,d) :: ps,i=>match rt[i]?,ou rt ps (i + 1) with
  | some (.row e' d' xs),some b=>if e = e' ∧ d' = d then some (xs :: b) else none
  | _,_=>none
def cV : List aa → List (TypeId × Bool)
 | []=>[]
 | .row e d _ :: ps=>(e,d) :: cV ps
 | _ :: ps=>(0,true) :: cV ps
def qL (T : ax) (sg : jg) (af : List TypeId) (jT : List ResultVar) (ps : List (TypeId × Bool)) (st : St) : Option aJ :=
 if ef sg.rs then (match sg.rs,jT,af with
  | [.ptr e],[.tmp x],[_]=>(match st.sl.getD x .no with
   | .po r [] e' 0 0=>(match st.rt[r]?,ou st.rt ps 0 with
    | some (.row e0 false xs),some ms=>if e = e' ∧ e0 = e ∧ ps.length ≤ r then some ⟨[[.lst xs]],ms⟩ else none
    | _,_=>none)
   | _=>none)
  | _,_,_=>none) else
 match kH T st ps.length sg.rs af jT,ou st.rt ps 0 with
 | some (res,rs),some ms=>if cK (rs.filterMap id) ∧ (sg.rs.elem .ro = false ∨ rs.isEmpty = true) then some ⟨res,ms⟩ else none
 | _,_=>none
structure bM where
 T : ax
 bh : TypeId → Bool
 sig : FuncId → jg
 hint : FuncId → Nat → Option kQ
 fy : FuncId → Option Prim
 ka : FuncId → Tmp → Bool
def mZ (P : Program) (g : FuncId) : Option (List TypeId × List TypeId):=(P.funcs[g]?).map fun f=>(f.params.toList,f.resultTypes.toList)
def bM.env (C : bM) (P : Program) (den : FuncId → List SV → List aa → Option aJ) (iter : Code → (St → St) → (St → (Ext → St → Option aJ) → Option aJ) → St → (Ext → St → Option aJ) → Option aJ) (g : FuncId) : Env:=⟨C.T,C.bh,C.sig,mZ P,den,iter,C.hint g,C.fy,C.ka g⟩
def bM.out (C : bM) (g : FuncId) (af : List TypeId) (jT : List ResultVar) (ps : List (TypeId × Bool)) : Ext → St → Option aJ:=fun x st=>match x with
 | .exit _=>none
 | _=>qL C.T (C.sig g) af jT ps st
def bM.body (C : bM) (P : Program) (den : FuncId → List SV → List aa → Option aJ) (iter : Code → (St → St) → (St → (Ext → St → Option aJ) → Option aJ) → St → (Ext → St → Option aJ) → Option aJ) (g : FuncId) (aN : List SV) (af : List aa) : Option aJ :=
 match P.funcs[g]? with
 | some fn=>match fn.body with
  | some c=>bV (C.env P den iter g) c ⟨aN ++ List.replicate (fn.ntmps - aN.length) .no,af,af.length⟩ (C.out g fn.resultTypes.toList fn.results.toList (cV af))
  | none=>none
 | none=>none
def bM.den (C : bM) (P : Program) : Nat → FuncId → List SV → List aa → Option aJ
 | 0,_,_,_=>none
 | k + 1,g,aN,af=>C.body P (C.den P k) (fL k) g aN af
abbrev Den:=FuncId → List SV → List aa → Option aJ
def ik (P : Program) (g : FuncId) : Code:=match P.funcs[g]? with | some fn=>fn.body.getD .skip | none=>.skip
def bM.ma (C : bM) (P : Program) (g : FuncId) (ps : List (TypeId × Bool)) : Ext → St → Option aJ:=match P.funcs[g]? with | some fn=>C.out g fn.resultTypes.toList fn.results.toList ps | none=>fun _ _=>none
def cat : Code → List Nat → Code
 | c,[]=>c
 | .seq a b,i :: p=>if i = 0 then cat a p else cat b p
 | .cond _ a b,i :: p=>if i = 0 then cat a p else cat b p
 | .block _ b,_ :: p=>cat b p
 | .loop b,_ :: p=>cat b p
 | c,_=>c
structure Gh where
 own : Nat → Option Nat
 v : Nat → Value
 b : Nat → Nat
structure Ctx where
 T : ax
 S : Nat → Prop
 nw : Nat → Prop
 np : Nat
 pv : Nat → Value
 po : Nat → Option Nat
def aq (X : Ctx) (w : World) (g : Gh) (b : Nat) : Prop:=g.own b = none ∧ b < w.heap.size ∧ (X.S b ∨ X.nw b)
inductive At (T : bl) (w : World) : CT → U → Value → Path → CT → U → Value → Prop
 | nil (ct : CT) (u : U) (v : Value) : At T w ct u v [] ct u v
 | cons (e : TypeId) (xs : List (List U)) (g q n c i o : Nat) (x : List U) (u1 : U) (cF : CT) (v1 : Value) (p : Path) (br : CT) (u' : U) (v' : Value) (hx : xs[i]? = some x) (hu : x[o]? = some u1) (ai : (T e)[o]? = some cF)
   (hc : w.cell? ⟨g,q + (i * (T e).length + o),none⟩ = some v1) (h : At T w cF u1 v1 p br u' v') : At T w (.aj e) (.lst xs) (.slice (some ⟨g,q,none⟩) n c) ((i,o) :: p) br u' v'
theorem At.trans {T : bl} {w : World} {ct cF jo : CT} {u u1 u2 : U} {v v1 v2 : Value} {p q : Path} (h : At T w ct u v p cF u1 v1) (k : At T w cF u1 v1 q jo u2 v2) : At T w ct u v (p ++ q) jo u2 v2:=by
 induction h with
 | nil=>exact k
 | cons e xs g q n c i o x u1 cF v1 p br u' v' hx hu ai hc h ih=>exact .cons e xs g q n c i o x u1 cF v1 _ _ _ _ hx hu ai hc (ih k)
theorem cr {α : Type} {l : List α} {i : Nat} {x d : α} (h : l[i]? = some x) : l.getD i d = x:=by
 rw [qQe,h]; rfl
theorem At.bX {T : bl} {w : World} {ct br : CT} {u u' : U} {v v' : Value} (h : At T w ct u v [] br u' v') : br = ct ∧ u' = u ∧ v' = v:=by
 cases h
 exact ⟨rfl,rfl,rfl⟩
theorem At.bc {T : bl} {w : World} {ct br : CT} {u u' : U} {v v' : Value} {p : Path} (h : At T w ct u v p br u' v') : ∀ {xs : List (List U)},u = .lst xs → bc xs p = u'.bB:=by
 induction h with
 | nil ct u v=>intro xs h; subst h; rfl
 | cons e xs g q n c i o x u1 cF v1 p br u' v' hx hu ai hc h ih =>
  intro ys hy
  obtain rfl:=U.lst.inj hy
  unfold Eng.bc
  rw [cr hx,cr hu]
  cases h with
  | nil=>cases u1 <;> rfl
  | cons=>exact ih rfl
theorem ak.step {T : bl} {w : World} {F : Nat → Prop} {e : TypeId} {xs : List (List U)} {g q n c i o : Nat} {x : List U} {u1 : U} {cF : CT} {v1 : Value} (h : ak T w F (.aj e) (.lst xs) (.slice (some ⟨g,q,none⟩) n c)) (hx : xs[i]? = some x) (hu : x[o]? = some u1) (ai : (T e)[o]? = some cF)
  (hc : w.cell? ⟨g,q + (i * (T e).length + o),none⟩ = some v1) : ∃ F',(∀ b,F' b → F b) ∧ ak T w F' cF u1 v1:=by
 cases h with
 | row F e xs v cs V bp ho hg hV hs h =>
  have av : o < x.length:=(qYa.1 hu).1
  have h1:=gW ho (hV i o x hx av)
  obtain rfl:=qQc (h1.symm.trans hc)
  exact ⟨_,fun b hb=>hb.1,h i o x u1 cF hx hu ai⟩
theorem ak.at {T : bl} {w : World} {ct br : CT} {u u' : U} {v v' : Value} {p : Path} (h : At T w ct u v p br u' v') : ∀ {F : Nat → Prop},ak T w F ct u v → ∃ F',(∀ b,F' b → F b) ∧ ak T w F' br u' v':=by
 induction h with
 | nil ct u v=>exact fun h=>⟨_,fun _ hb=>hb,h⟩
 | cons e xs g q n c i o x u1 cF v1 p br u' v' hx hu ai hc h ih =>
  intro F hF
  obtain ⟨F1,h1,h2⟩:=hF.step hx hu ai hc
  obtain ⟨F2,h3,h4⟩:=ih h2
  exact ⟨F2,fun b hb=>h1 b (h3 b hb),h4⟩
theorem At.frame {T : bl} {w w' : World} {ct br : CT} {u u' : U} {v v' : Value} {p : Path} (h : At T w ct u v p br u' v') : ∀ {F : Nat → Prop},ak T w F ct u v → (∀ b,F b → w'.heap[b]? = w.heap[b]?) → At T w' ct u v p br u' v':=by
 induction h with
 | nil ct u v=>exact fun _ _=>.nil _ _ _
 | cons e xs g q n c i o x u1 cF v1 p br u' v' hx hu ai hc h ih =>
  intro F hF hw
  obtain ⟨F1,h1,h2⟩:=hF.step hx hu ai hc
  have hg : F g:=by
   cases hF with
   | row F e xs v cs V bp ho hg hV hs h=>exact (hg g (jP ho (qZ8 (qQt _) (qYa.1 hx).1))).1
  exact .cons e xs g q n c i o x u1 cF v1 p _ _ _ hx hu ai ((rK (hw g hg) _).trans hc) (ih h2 fun b hb=>hw b (h1 b hb))
def aF (X : Ctx) (w : World) (rt : List aa) (g : Gh) : Cl → Value → Prop
 | .int k n,v=>v = .int k n
 | .bool b,v=>v = .bool b
 | .str s,v=>v = .string s
 | .rd e xs,v=>aE X.T.ct w (aq X w g) (.aj e) (.lst xs) v
 | .nil,v=>v = .slice none 0 0
 | .al r p e,v=>∃ e0 d xs,rt[r]? = some (.row e0 d xs) ∧ (p = [] ∨ d = true) ∧ At X.T.ct w (.aj e0) (.lst xs) (g.v r) p (.aj e) (.lst (bc xs p)) v
 | .no,v=>v.oneCell' = true
def aw (X : Ctx) (w : World) (rt : List aa) (g : Gh) : List Cl → List Value → Prop
 | [],[]=>True
 | x :: xs,v :: vs=>aF X w rt g x v ∧ aw X w rt g xs vs
 | _,_=>False
def cX (X : Ctx) (w : World) (g : Gh) (e : TypeId) (us : List U) (o : Nat) (v : Value) : Prop :=
 ∃ b off,v = .pointer (some ⟨b,off + o,none⟩) ∧ aq X w g b ∧ us.length = (X.T.ct e).length ∧
  ∀ j u ct,us[j]? = some u → (X.T.ct e)[j]? = some ct → ∃ x,w.cell? ⟨b,off + j,none⟩ = some x ∧ aE X.T.ct w (aq X w g) ct u x
def eQ (rt : List aa) (g : Gh) (r o : Nat) (v : Value) : Prop:=v = .pointer (some ⟨g.b r,o,none⟩) ∧ ∃ t cs,rt[r]? = some (.box t cs)
def je (X : Ctx) (w : World) (rt : List aa) (g : Gh) : aH → Value → Prop
 | .c x,v=>aF X w rt g x v
 | .bx r o,v=>eQ rt g r o v
 | .pr e us o,v=>cX X w g e us o v
def bJ (X : Ctx) (w : World) (rt : List aa) (g : Gh) : List aH → List Value → Prop
 | [],[]=>True
 | x :: xs,v :: vs=>je X w rt g x v ∧ bJ X w rt g xs vs
 | _,_=>False
def bm (X : Ctx) (w : World) (rt : List aa) (g : Gh) : List (Bool × List Cl) → List Value → Prop
 | [],[]=>True
 | (true,xs) :: ys,v :: vs=>(∃ cs,v = .agg cs ∧ aw X w rt g xs cs.toList) ∧ bm X w rt g ys vs
 | (false,[x]) :: ys,v :: vs=>aF X w rt g x v ∧ bm X w rt g ys vs
 | (false,_) :: ys,v :: vs=>bm X w rt g ys vs
 | _,_=>False
def ay (X : Ctx) (w : World) (rt : List aa) (g : Gh) : SV → Value → Prop
 | .c .no,_=>True
 | .c x,v=>aF X w rt g x v
 | .ag xs,v=>∃ cs,v = .agg cs ∧ aw X w rt g xs cs.toList
 | .bx r o,v=>eQ rt g r o v
 | .pr e us o,v=>cX X w g e us o v
 | .po r p e i o,v=>∃ e0 d xs b q n c,rt[r]? = some (.row e0 d xs) ∧ (p = [] ∨ d = true) ∧ At X.T.ct w (.aj e0) (.lst xs) (g.v r) p (.aj e) (.lst (bc xs p)) (.slice (some ⟨b,q,none⟩) n c) ∧ i < (bc xs p).length ∧ v = .pointer (some ⟨b,q + (i * X.T.size e + o),none⟩)
 | .fn f az,v=>∃ vs,v = .func (.func f) #[] vs ∧ bJ X w rt g az vs.toList
 | .bf xs,v=>∃ vs,v = .tuple vs ∧ bm X w rt g xs vs.toList
 | .ud,v=>v = undef
def cm (X : Ctx) (w : World) (rt : List aa) (g : Gh) (r : Nat) : aa → Prop
 | .box t cs=>∃ vs : Array Value,w.heap[g.b r]? = some (.cells vs t (0,0)) ∧ g.own (g.b r) = some r ∧ aw X w rt g cs vs.toList
 | .row e true xs=>ak X.T.ct w (fun b=>g.own b = some r) (.aj e) (.lst xs) (g.v r)
 | .row e false xs=>aZ X.T.ct w (fun b=>g.own b = some r) (aq X w g) e xs (g.v r)
 | .gone=>True
structure Fr (own0 : Nat → Option Nat) (w0 w : World) (g : Gh) : Prop where
 os : w.os = w0.os
 tape : w.tape = w0.tape
 output : w.output = w0.output
 size : w0.heap.size ≤ w.heap.size
 block : ∀ b,b < w0.heap.size → own0 b = none → g.own b = none ∧ w.heap[b]? = w0.heap[b]?
structure Mem (X : Ctx) (st : St) (w : World) (g : Gh) : Prop where
 rt : ∀ r x,st.rt[r]? = some x → cm X w st.rt g r x
 lt : ∀ b,g.own b ≠ none → b < w.heap.size
 ob : ∀ b r,g.own b = some r → r < st.rt.length
 n0 : ∀ b,w.heap.size ≤ b → X.nw b
 np : st.np = X.np
 nl : X.np ≤ st.rt.length
 pm : ∀ b r,g.own b = some r → X.nw b ∨ (r < X.np ∧ X.po b = some r)
 pv : ∀ r,r < X.np → g.v r = X.pv r
theorem Mem.om {X : Ctx} {st : St} {w : World} {g : Gh} (h : Mem X st w g) {n : Nat} (hs : w.heap.size ≤ n) : ∀ b,n ≤ b → X.nw b:=fun b hb=>h.n0 b (qZd hs hb)
structure Rel (X : Ctx) (own0 : Nat → Option Nat) (w0 : World) (st : St) (a : Act) (w : World) (g : Gh) : Prop where
 mem : Mem X st w g
 sz : st.sl.length ≤ a.tmps.size
 sl : ∀ i sv,st.sl[i]? = some sv → ay X w st.rt g sv (a.tmps.getD i undef)
 df : a.defers = []
 fr : Fr own0 w0 w g
theorem aw.length {X : Ctx} {w : World} {rt : List aa} {g : Gh} : ∀ {xs : List Cl} {vs : List Value},aw X w rt g xs vs → xs.length = vs.length
 | [],[],_=>rfl
 | _ :: _,_ :: _,h=>by simp [aw.length h.2]
 | [],_ :: _,h=>h.elim
 | _ :: _,[],h=>h.elim
theorem aw.get {X : Ctx} {w : World} {rt : List aa} {g : Gh} : ∀ {xs : List Cl} {vs : List Value},aw X w rt g xs vs → ∀ {i : Nat} {x : Cl},xs[i]? = some x → ∃ v,vs[i]? = some v ∧ aF X w rt g x v
 | [],[],_,i,x,hx=>by simp at hx
 | y :: ys,v :: vs,h,0,x,hx=>by simp at hx; subst hx; exact ⟨v,by simp,h.1⟩
 | y :: ys,v :: vs,h,i + 1,x,hx=>by
  obtain ⟨u,h1,h2⟩:=aw.get h.2 (i:=i) (x:=x) (by simpa using hx)
  exact ⟨u,by simpa using h1,h2⟩
 | [],_ :: _,h,_,_,_=>h.elim
 | _ :: _,[],h,_,_,_=>h.elim
theorem aw.drop {X : Ctx} {w : World} {rt : List aa} {g : Gh} : ∀ {xs : List Cl} {vs : List Value},aw X w rt g xs vs → ∀ n,aw X w rt g (xs.drop n) (vs.drop n)
 | xs,vs,h,0=>h
 | [],[],_,n + 1=>trivial
 | y :: ys,v :: vs,h,n + 1=>aw.drop h.2 n
 | [],_ :: _,h,_ + 1=>h.elim
 | _ :: _,[],h,_ + 1=>h.elim
theorem aw.take {X : Ctx} {w : World} {rt : List aa} {g : Gh} : ∀ {xs : List Cl} {vs : List Value},aw X w rt g xs vs → ∀ n,aw X w rt g (xs.take n) (vs.take n)
 | xs,vs,h,0=>by simp [aw]
 | [],[],_,n + 1=>trivial
 | y :: ys,v :: vs,h,n + 1=>⟨h.1,aw.take h.2 n⟩
 | [],_ :: _,h,_ + 1=>h.elim
 | _ :: _,[],h,_ + 1=>h.elim
theorem aw.set {X : Ctx} {w : World} {rt : List aa} {g : Gh} : ∀ {xs : List Cl} {vs : List Value},aw X w rt g xs vs → ∀ {i x v},aF X w rt g x v → aw X w rt g (xs.set i x) (vs.set i v)
 | [],[],_,i,x,v,_=>trivial
 | y :: ys,u :: us,h,0,x,v,hx=>⟨hx,h.2⟩
 | y :: ys,u :: us,h,i + 1,x,v,hx=>⟨h.1,aw.set h.2 hx⟩
 | [],_ :: _,h,_,_,_,_=>h.elim
 | _ :: _,[],h,_,_,_,_=>h.elim
theorem aw.append {X : Ctx} {w : World} {rt : List aa} {g : Gh} : ∀ {xs ys : List Cl} {vs us : List Value},aw X w rt g xs vs → aw X w rt g ys us → aw X w rt g (xs ++ ys) (vs ++ us)
 | [],_,[],_,_,k=>k
 | y :: ys,_,u :: us,_,h,k=>⟨h.1,aw.append h.2 k⟩
 | [],_,_ :: _,_,h,_=>h.elim
 | _ :: _,_,[],_,h,_=>h.elim
theorem aw.oo {X : Ctx} {w : World} {rt : List aa} {g : Gh} : ∀ {xs : List Cl} {vs : List Value},xs.length = vs.length → (∀ (i : Nat) (x : Cl) (v : Value),xs[i]? = some x → vs[i]? = some v → aF X w rt g x v) → aw X w rt g xs vs
 | [],[],_,_=>trivial
 | x :: xs,v :: vs,hl,h=>⟨h 0 x v rfl rfl,aw.oo (by simpa using hl) fun i x v hx hv=>h (i + 1) x v (by simpa using hx) (by simpa using hv)⟩
 | [],_ :: _,hl,_=>by simp at hl
 | _ :: _,[],hl,_=>by simp at hl
theorem aE.one {T : bl} {w : World} {aq : Nat → Prop} {ct : CT} {u : U} {v : Value} (h : aE T w aq ct u v) : v.oneCell' = true:=by cases h <;> rfl
theorem ak.one {T : bl} {w : World} {F : Nat → Prop} {ct : CT} {u : U} {v : Value} (h : ak T w F ct u v) : v.oneCell' = true:=by
 cases h with
 | row _ _ _ _ _ _ _ ho=>obtain ⟨A,c,rfl,_⟩:=fQ ho; rfl
 | _=>rfl
theorem At.one {T : bl} {w : World} {e e0 : TypeId} {u u' : U} {v v' : Value} {p : Path} (h : At T w (.aj e0) u v p (.aj e) u' v') (h0 : v.oneCell' = true) {F : Nat → Prop} (hF : p = [] ∨ ak T w F (.aj e0) u v) : v'.oneCell' = true:=by
 rcases hF with rfl | hF
 ·obtain ⟨-,-,rfl⟩:=h.bX; exact h0
 ·obtain ⟨F',_,h2⟩:=ak.at h hF
  exact h2.one
theorem cm.row_one {X : Ctx} {w : World} {rt : List aa} {g : Gh} {r : Nat} {e : TypeId} {d : Bool} {xs : List (List U)} (h : cm X w rt g r (.row e d xs)) : (g.v r).oneCell' = true:=by
 cases d with
 | true=>exact ak.one h
 | false=>obtain ⟨cs,V,ho,_⟩:=aZ.ex h; obtain ⟨A,c,hv,_⟩:=fQ ho; rw [hv]; rfl
theorem aF.one {X : Ctx} {st : St} {w : World} {g : Gh} (hm : Mem X st w g) {x : Cl} {v : Value} (h : aF X w st.rt g x v) : v.oneCell' = true:=by
 cases x with
 | al r p e =>
  obtain ⟨e0,d,xs,h1,h2,h3⟩:=h
  have hr:=hm.rt r _ h1
  rcases h2 with rfl | rfl
  ·obtain ⟨-,-,rfl⟩:=h3.bX; exact hr.row_one
  ·exact h3.one (F:=fun b=>g.own b = some r) hr.row_one (.inr hr)
 | rd e xs=>exact aE.one h
 | no=>exact h
 | _=>subst h; rfl
theorem aF.fY {X : Ctx} {st : St} {w : World} {g : Gh} (hm : Mem X st w g) {r : Nat} {p : Path} {e : TypeId} {v : Value} (h : aF X w st.rt g (.al r p e) v) : ∃ e0 d xs,st.rt[r]? = some (.row e0 d xs) ∧
  ∀ ok : Nat → Prop,(∀ b,g.own b = some r → ok b) → (∀ b,aq X w g b → ok b) → aE X.T.ct w ok (.aj e) (.lst (bc xs p)) v:=by
 obtain ⟨e0,d,xs,h1,h2,h3⟩:=h
 refine ⟨e0,d,xs,h1,fun ok ho hk=>?_⟩
 have hr:=hm.rt r _ h1
 cases d with
 | true =>
  obtain ⟨F',h4,h5⟩:=ak.at h3 hr
  exact h5.gC fun b hb=>ho b (h4 b hb)
 | false =>
  obtain rfl : p = []:=by simpa using h2
  obtain ⟨h4,h5,rfl⟩:=h3.bX
  obtain rfl:=CT.aj.inj h4
  exact aZ.gC hr ho hk
structure bN (X : Ctx) (R B : Nat → Prop) (w : World) (g : Gh) (rt : List aa) (w' : World) (g' : Gh) (rt' : List aa) : Prop where
 rd : ∀ b,aq X w g b → aq X w' g' b ∧ w'.heap[b]? = w.heap[b]?
 ow : ∀ b r,¬ R r → g.own b = some r → g'.own b = some r ∧ w'.heap[b]? = w.heap[b]?
 vv : ∀ r,r < rt.length → ¬ R r → g'.v r = g.v r
 row : ∀ (r : Nat) e d xs,¬ R r → rt[r]? = some (.row e d xs) → rt'[r]? = some (.row e d xs)
 box : ∀ (r : Nat) t cs,rt[r]? = some (.box t cs) → g'.b r = g.b r ∧ ∃ cs',rt'[r]? = some (.box t cs')
 base : ∀ r,B r → g'.v r = g.v r ∧ ∀ e d xs,rt[r]? = some (.row e d xs) → ∃ d' cd,rt'[r]? = some (.row e d' cd) ∧ cd.length = xs.length
def dt (rt : List aa) (r : Nat) : Prop:=∃ e d xs,rt[r]? = some (.row e d xs)
def Cl.aV (R B : Nat → Prop) (rt : List aa) : Cl → Prop
 | .al r p _=>dt rt r → ¬ R r ∨ (B r ∧ p = []) | _=>True
def aH.aV (R B : Nat → Prop) (rt : List aa) : aH → Prop | .c x=>x.aV R B rt | _=>True
def SV.aV (R B : Nat → Prop) (rt : List aa) : SV → Prop
 | .c x=>x.aV R B rt | .ag xs=>∀ x ∈ xs,Cl.aV R B rt x | .po r p ..=>dt rt r → ¬ R r ∨ (B r ∧ p = []) | .fn _ az=>∀ x ∈ az,aH.aV R B rt x | .bf vs=>∀ x ∈ vs,∀ y ∈ x.2,Cl.aV R B rt y | _=>True
def aa.aV (R B : Nat → Prop) (rt : List aa) : aa → Prop | .box _ cs=>∀ x ∈ cs,Cl.aV R B rt x | _=>True
section
variable {X : Ctx} {R B : Nat → Prop} {st : St} {w w' : World} {g g' : Gh} {rt' : List aa}
theorem aA {α : Type} {l : List α} {i : Nat} {x : α} (h : l[i]? = some x) : i < l.length:=(qYa.1 h).1
theorem aF.keep (hm : Mem X st w g) (hK : bN X R B w g st.rt w' g' rt') {x : Cl} {v : Value} (ha : x.aV R B st.rt) (h : aF X w st.rt g x v) : aF X w' rt' g' x v:=by
 cases x with
 | rd e xs=>exact aE.imp h hK.rd
 | al r p e =>
  obtain ⟨e0,d,xs,h1,h2,h3⟩:=h
  rcases ha ⟨_,_,_,h1⟩ with ha | ⟨hb,rfl⟩
  ·have hv:=hK.vv r (aA h1) ha
   refine ⟨e0,d,xs,hK.row r _ _ _ ha h1,h2,?_⟩
   rw [hv]
   rcases h2 with rfl | rfl
   ·obtain ⟨h4,h5,h6⟩:=h3.bX
    rw [h4,h5,h6]; exact .nil _ _ _
   ·exact h3.frame (F:=fun b=>g.own b = some r) (hm.rt r _ h1) fun b hb=>(hK.ow b r ha hb).2
  ·obtain ⟨hv,hr⟩:=hK.base r hb
   obtain ⟨d',cd,h7,-⟩:=hr _ _ _ h1
   obtain ⟨h4,h5,h6⟩:=h3.bX
   refine ⟨e0,d',cd,h7,.inl rfl,?_⟩
   rw [hv,h4,h6]; exact .nil _ _ _
 | _=>exact h
theorem cX.keep (hK : bN X R B w g st.rt w' g' rt') {e : TypeId} {us : List U} {o : Nat} {v : Value} (h : cX X w g e us o v) : cX X w' g' e us o v:=by
 obtain ⟨b,off,h1,h2,h3,h4⟩:=h
 refine ⟨b,off,h1,(hK.rd b h2).1,h3,fun j u ct hu ai=>?_⟩
 obtain ⟨x,h5,h6⟩:=h4 j u ct hu ai
 exact ⟨x,(rK (hK.rd b h2).2 _).trans h5,h6.imp hK.rd⟩
theorem eQ.keep (hK : bN X R B w g st.rt w' g' rt') {r o : Nat} {v : Value} (h : eQ st.rt g r o v) : eQ rt' g' r o v:=by
 obtain ⟨h1,t,cs,h2⟩:=h
 obtain ⟨h3,cs',h4⟩:=hK.box r t cs h2
 exact ⟨by rw [h3]; exact h1,t,cs',h4⟩
theorem aw.keep (hm : Mem X st w g) (hK : bN X R B w g st.rt w' g' rt') : ∀ {xs : List Cl} {vs : List Value},(∀ x ∈ xs,Cl.aV R B st.rt x) → aw X w st.rt g xs vs → aw X w' rt' g' xs vs
 | [],[],_,_=>trivial
 | x :: xs,v :: vs,ha,h=>⟨aF.keep hm hK (ha x (by simp)) h.1,aw.keep hm hK (fun y hy=>ha y (by simp [hy])) h.2⟩
 | [],_ :: _,_,h=>h.elim
 | _ :: _,[],_,h=>h.elim
theorem je.keep (hm : Mem X st w g) (hK : bN X R B w g st.rt w' g' rt') {x : aH} {v : Value} (ha : x.aV R B st.rt) (h : je X w st.rt g x v) : je X w' rt' g' x v:=by
 cases x with
 | c x=>exact aF.keep hm hK ha h
 | bx r o=>exact eQ.keep hK h
 | pr e us o=>exact cX.keep hK h
theorem bJ.keep (hm : Mem X st w g) (hK : bN X R B w g st.rt w' g' rt') : ∀ {xs : List aH} {vs : List Value},(∀ x ∈ xs,aH.aV R B st.rt x) → bJ X w st.rt g xs vs → bJ X w' rt' g' xs vs
 | [],[],_,_=>trivial
 | x :: xs,v :: vs,ha,h=>⟨je.keep hm hK (ha x (by simp)) h.1,bJ.keep hm hK (fun y hy=>ha y (by simp [hy])) h.2⟩
 | [],_ :: _,_,h=>h.elim
 | _ :: _,[],_,h=>h.elim
theorem bm.keep (hm : Mem X st w g) (hK : bN X R B w g st.rt w' g' rt') : ∀ {xs : List (Bool × List Cl)} {vs : List Value},(∀ x ∈ xs,∀ y ∈ x.2,Cl.aV R B st.rt y) → bm X w st.rt g xs vs → bm X w' rt' g' xs vs
 | [],[],_,_=>trivial
 | (true,xs) :: ys,v :: vs,ha,h=>by
  obtain ⟨⟨cs,h1,h2⟩,h3⟩:=h
  exact ⟨⟨cs,h1,aw.keep hm hK (ha (true,xs) (by simp)) h2⟩,bm.keep hm hK (fun y hy=>ha y (by simp [hy])) h3⟩
 | (false,[x]) :: ys,v :: vs,ha,h=>⟨aF.keep hm hK (ha (false,[x]) (by simp) x (by simp)) h.1,bm.keep hm hK (fun y hy=>ha y (by simp [hy])) h.2⟩
 | (false,[]) :: ys,v :: vs,ha,h=>bm.keep (xs:=ys) hm hK (fun y hy=>ha y (by simp [hy])) h
 | (false,x :: y :: zs) :: ys,v :: vs,ha,h=>bm.keep (xs:=ys) hm hK (fun y hy=>ha y (by simp [hy])) h
 | [],_ :: _,_,h=>h.elim
 | (true,_) :: _,[],_,h=>h.elim
 | (false,[]) :: _,[],_,h=>h.elim
 | (false,[_]) :: _,[],_,h=>h.elim
 | (false,_ :: _ :: _) :: _,[],_,h=>h.elim
theorem ay.keep (hm : Mem X st w g) (hK : bN X R B w g st.rt w' g' rt') {x : SV} {v : Value} (ha : x.aV R B st.rt) (h : ay X w st.rt g x v) : ay X w' rt' g' x v:=by
 cases x with
 | c x =>
  have ha : x.aV R B st.rt:=ha
  cases x <;> first | exact trivial | exact aF.keep hm hK ha h
 | ag xs=>obtain ⟨cs,h1,h2⟩:=h; exact ⟨cs,h1,aw.keep hm hK ha h2⟩
 | bx r o=>exact eQ.keep hK h
 | pr e us o=>exact cX.keep hK h
 | po r p e i o =>
  obtain ⟨e0,d,xs,b,q,n,c,h1,h2,h3,h4,h5⟩:=h
  rcases ha ⟨_,_,_,h1⟩ with ha | ⟨hb,rfl⟩
  ·have hv:=hK.vv r (aA h1) ha
   refine ⟨e0,d,xs,b,q,n,c,hK.row r _ _ _ ha h1,h2,?_,h4,h5⟩
   rw [hv]
   rcases h2 with rfl | rfl
   ·obtain ⟨h6,h7,h8⟩:=h3.bX
    rw [h6,h7,h8]; exact .nil _ _ _
   ·exact h3.frame (F:=fun b=>g.own b = some r) (hm.rt r _ h1) fun b hb=>(hK.ow b r ha hb).2
  ·obtain ⟨hv,hr⟩:=hK.base r hb
   obtain ⟨d',cd,h7,h8⟩:=hr _ _ _ h1
   obtain ⟨h9,dM,lf⟩:=h3.bX
   refine ⟨e0,d',cd,b,q,n,c,h7,.inl rfl,?_,by show i < cd.length; rw [h8]; exact h4,h5⟩
   rw [hv,h9,lf]; exact .nil _ _ _
 | fn f az=>obtain ⟨vs,h1,h2⟩:=h; exact ⟨vs,h1,bJ.keep hm hK ha h2⟩
 | bf xs=>obtain ⟨vs,h1,h2⟩:=h; exact ⟨vs,h1,bm.keep hm hK ha h2⟩
 | ud=>exact h
theorem cm.keep (hm : Mem X st w g) (hK : bN X R B w g st.rt w' g' rt') {r : Nat} {x : aa} (hx : st.rt[r]? = some x) (hr : ¬ R r) (ha : x.aV R B st.rt) : cm X w' rt' g' r x:=by
 have h:=hm.rt r x hx
 cases x with
 | box t cs =>
  obtain ⟨vs,h1,h2,h3⟩:=h
  have hb:=(hK.box r t cs hx).1
  exact ⟨vs,by rw [hb,(hK.ow _ r hr h2).2]; exact h1,by rw [hb]; exact (hK.ow _ r hr h2).1,aw.keep hm hK ha h3⟩
 | row e d xs =>
  have hv:=hK.vv r (aA hx) hr
  cases d with
  | true =>
   show ak _ _ _ _ _ (g'.v r)
   rw [hv]
   exact ak.imp h fun b hb=>hK.ow b r hr hb
  | false =>
   show aZ _ _ _ _ _ _ (g'.v r)
   rw [hv]
   exact aZ.imp h (fun b hb=>hK.ow b r hr hb) hK.rd
 | gone=>trivial
end
section
variable {X : Ctx} {st : St} {w w' : World} {g g' : Gh} {rt0 : List aa}
def Cl.free (Q : Nat → Prop) : Cl → Prop | .al r _ _=>¬ Q r | _=>True
def aH.free (Q : Nat → Prop) : aH → Prop | .c x=>x.free Q | _=>True
def SV.free (Q : Nat → Prop) : SV → Prop
 | .c x=>x.free Q | .ag xs=>∀ x ∈ xs,Cl.free Q x | .po r ..=>¬ Q r | .fn _ az=>∀ x ∈ az,aH.free Q x | .bf vs=>∀ x ∈ vs,∀ y ∈ x.2,Cl.free Q y | _=>True
def aa.free (Q : Nat → Prop) : aa → Prop | .box _ cs=>∀ x ∈ cs,Cl.free Q x | _=>True
def St.free (Q : Nat → Prop) (st : St) : Prop:=(∀ x ∈ st.sl,SV.free Q x) ∧ ∀ x ∈ st.rt,aa.free Q x
theorem Cl.iU {Q : Nat → Prop} {r : Nat} {keep : Bool} {x : Cl} (h : x.free Q) : (x.ah r keep).free Q:=by
 cases x <;> try exact h
 simp only [Cl.ah]
 split
 ·split
  ·exact h
  ·trivial
 ·exact h
theorem Cl.iT {Q : Nat → Prop} {r : Nat} {keep : Bool} {x : Cl} (h : x.free Q) : (x.ah r keep).aV (fun s=>s = r ∨ Q s) (fun s=>s = r ∧ keep = true) rt0:=by
 cases x <;> try trivial
 rename_i r' p e
 simp only [Cl.ah]
 split
 ·rename_i hr
  split
  ·rename_i hk
   simp only [qQi,qXz] at hk
   exact fun _=>.inr ⟨⟨hr,hk.1⟩,hk.2⟩
  ·trivial
 ·rename_i hr
  exact fun _=>.inl fun hh=>hh.elim hr h
theorem SV.iT {Q : Nat → Prop} {r : Nat} {keep : Bool} {x : SV} (h : x.free Q) : (x.ah r keep).aV (fun s=>s = r ∨ Q s) (fun s=>s = r ∧ keep = true) rt0:=by
 cases x with
 | c x=>exact Cl.iT h
 | ag xs=>intro y hy; obtain ⟨x,hx,rfl⟩:=qQo.1 hy; exact Cl.iT (h x hx)
 | po r' p e i o =>
  simp only [SV.ah]
  split
  ·rename_i hr
   split
   ·rename_i hk
    simp only [qQi,qXz] at hk
    exact fun _=>.inr ⟨⟨hr,hk.1⟩,hk.2⟩
   ·trivial
  ·rename_i hr; exact fun _=>.inl fun hh=>hh.elim hr h
 | fn f az =>
  intro y hy
  obtain ⟨x,hx,rfl⟩:=qQo.1 hy
  cases x with
  | c x=>exact Cl.iT (h _ hx)
  | _=>trivial
 | bf vs =>
  intro y hy z hz
  obtain ⟨x,hx,rfl⟩:=qQo.1 hy
  obtain ⟨u,hu,rfl⟩:=qQo.1 hz
  exact Cl.iT (h x hx u hu)
 | _=>trivial
theorem aa.iT {Q : Nat → Prop} {r : Nat} {keep : Bool} {x : aa} (h : x.free Q) : (x.ah r keep).aV (fun s=>s = r ∨ Q s) (fun s=>s = r ∧ keep = true) rt0:=by
 cases x with
 | box t cs=>intro y hy; obtain ⟨x,hx,rfl⟩:=qQo.1 hy; exact Cl.iT (h x hx)
 | _=>trivial
theorem Cl.iV {r : Nat} {x : Cl} : (x.ah r false).free (fun s=>s = r):=by
 cases x <;> try trivial
 simp only [Cl.ah]
 split
 ·simp [Cl.free]
 ·rename_i hr; exact hr
theorem SV.iU {Q : Nat → Prop} {r : Nat} {keep : Bool} {x : SV} (h : x.free Q) : (x.ah r keep).free Q:=by
 cases x with
 | c x=>exact Cl.iU h
 | ag xs=>intro y hy; obtain ⟨x,hx,rfl⟩:=qQo.1 hy; exact Cl.iU (h x hx)
 | po r' p e i o =>
  simp only [SV.ah]
  split
  ·split
   ·exact h
   ·trivial
  ·exact h
 | fn f az =>
  intro y hy
  obtain ⟨x,hx,rfl⟩:=qQo.1 hy
  cases x with
  | c x=>exact Cl.iU (h _ hx)
  | _=>trivial
 | bf vs =>
  intro y hy z hz
  obtain ⟨x,hx,rfl⟩:=qQo.1 hy
  obtain ⟨u,hu,rfl⟩:=qQo.1 hz
  exact Cl.iU (h x hx u hu)
 | _=>exact h
theorem SV.iV {r : Nat} {x : SV} : (x.ah r false).free (fun s=>s = r):=by
 cases x with
 | c x=>exact Cl.iV
 | ag xs=>intro y hy; obtain ⟨x,hx,rfl⟩:=qQo.1 hy; exact Cl.iV
 | po r' p e i o =>
  simp only [SV.ah,Bool.false_and,qZv,qZe]
  split
  ·trivial
  ·rename_i hr; exact hr
 | fn f az =>
  intro y hy
  obtain ⟨x,hx,rfl⟩:=qQo.1 hy
  cases x with
  | c x=>exact Cl.iV
  | _=>trivial
 | bf vs =>
  intro y hy z hz
  obtain ⟨x,hx,rfl⟩:=qQo.1 hy
  obtain ⟨u,hu,rfl⟩:=qQo.1 hz
  exact Cl.iV
 | _=>trivial
theorem St.iU {Q : Nat → Prop} {r : Nat} {keep : Bool} {st : St} (h : st.free Q) : (st.ah r keep).free Q:=by
 refine ⟨fun x hx=>?_,fun x hx=>?_⟩
 ·obtain ⟨y,hy,rfl⟩:=qQo.1 hx; exact SV.iU (h.1 y hy)
 ·obtain ⟨y,hy,rfl⟩:=qQo.1 hx
  cases y with
  | box t cs=>intro z hz; obtain ⟨u,hu,rfl⟩:=qQo.1 hz; exact Cl.iU (h.2 _ hy u hu)
  | _=>trivial
theorem St.iV {r : Nat} {st : St} : (st.ah r false).free (fun s=>s = r):=by
 refine ⟨fun x hx=>?_,fun x hx=>?_⟩
 ·obtain ⟨y,hy,rfl⟩:=qQo.1 hx; exact SV.iV
 ·obtain ⟨y,hy,rfl⟩:=qQo.1 hx
  cases y with
  | box t cs=>intro z hz; obtain ⟨u,hu,rfl⟩:=qQo.1 hz; exact Cl.iV
  | _=>trivial
theorem Cl.gg {Q Q' : Nat → Prop} {x : Cl} (h : x.free Q) (h' : x.free Q') : x.free (fun s=>Q s ∨ Q' s):=by
 cases x <;> try trivial
 exact fun hh=>hh.elim h h'
theorem SV.gg {Q Q' : Nat → Prop} {x : SV} (h : x.free Q) (h' : x.free Q') : x.free (fun s=>Q s ∨ Q' s):=by
 cases x with
 | c x=>exact Cl.gg h h'
 | ag xs=>exact fun y hy=>Cl.gg (h y hy) (h' y hy)
 | po r' p e i o=>exact fun hh=>hh.elim h h'
 | fn f az =>
  intro y hy
  cases y with
  | c x=>exact Cl.gg (h _ hy) (h' _ hy)
  | _=>trivial
 | bf vs=>exact fun y hy z hz=>Cl.gg (h y hy z hz) (h' y hy z hz)
 | _=>trivial
theorem St.gg {Q Q' : Nat → Prop} {st : St} (h : st.free Q) (h' : st.free Q') : st.free (fun s=>Q s ∨ Q' s):=by
 refine ⟨fun x hx=>SV.gg (h.1 x hx) (h'.1 x hx),fun x hx=>?_⟩
 cases x with
 | box t cs=>exact fun y hy=>Cl.gg (h.2 _ hx y hy) (h'.2 _ hx y hy)
 | _=>trivial
theorem SV.eV (x : SV) : x.free (fun _=>False):=by
 cases x with
 | c x=>cases x <;> simp [SV.free,Cl.free]
 | ag xs=>intro y _; cases y <;> simp [Cl.free]
 | po=>exact id
 | fn f az=>intro y _; rcases y with y | _ | _ <;> try trivial
            cases y <;> simp [aH.free,Cl.free]
 | bf vs=>intro y _ z _; cases z <;> simp [Cl.free]
 | _=>trivial
theorem St.eV (st : St) : st.free (fun _=>False):=by
 refine ⟨fun x _=>SV.eV x,fun x _=>?_⟩
 cases x with
 | box t cs=>intro y _; cases y <;> simp [Cl.free]
 | _=>trivial
theorem aF.ah (hm : Mem X st w g) {r : Nat} {keep : Bool} {x : Cl} {v : Value} (h : aF X w st.rt g x v) : aF X w st.rt g (x.ah r keep) v:=by
 cases x <;> try exact h
 rename_i r' p e
 simp only [Cl.ah]
 split
 ·split
  ·exact h
  ·exact h.one hm
 ·exact h
theorem aw.bW (f : Cl → Cl) (hf : ∀ x v,aF X w st.rt g x v → aF X w st.rt g (f x) v) : ∀ {xs : List Cl} {vs : List Value},aw X w st.rt g xs vs → aw X w st.rt g (xs.map f) vs
 | [],[],_=>trivial
 | x :: xs,v :: vs,h=>⟨hf _ _ h.1,aw.bW f hf h.2⟩
 | [],_ :: _,h=>h.elim
 | _ :: _,[],h=>h.elim
theorem bJ.bW (f : Cl → Cl) (hf : ∀ x v,aF X w st.rt g x v → aF X w st.rt g (f x) v) : ∀ {xs : List aH} {vs : List Value},bJ X w st.rt g xs vs → bJ X w st.rt g (xs.map (aH.bW f)) vs
 | [],[],_=>trivial
 | .c x :: xs,v :: vs,h=>⟨hf _ _ h.1,bJ.bW f hf h.2⟩
 | .bx r o :: xs,v :: vs,h=>⟨h.1,bJ.bW f hf h.2⟩
 | .pr e us o :: xs,v :: vs,h=>⟨h.1,bJ.bW f hf h.2⟩
 | [],_ :: _,h=>h.elim
 | .c _ :: _,[],h=>h.elim
 | .bx .. :: _,[],h=>h.elim
 | .pr .. :: _,[],h=>h.elim
theorem bm.bW (f : Cl → Cl) (hf : ∀ x v,aF X w st.rt g x v → aF X w st.rt g (f x) v) : ∀ {xs : List (Bool × List Cl)} {vs : List Value},bm X w st.rt g xs vs → bm X w st.rt g (xs.map fun x=>(x.1,x.2.map f)) vs
 | [],[],_=>trivial
 | (true,xs) :: ys,v :: vs,h=>by
  obtain ⟨⟨cs,h1,h2⟩,h3⟩:=h
  exact ⟨⟨cs,h1,aw.bW f hf h2⟩,bm.bW f hf h3⟩
 | (false,[x]) :: ys,v :: vs,h=>⟨hf _ _ h.1,bm.bW f hf h.2⟩
 | (false,[]) :: ys,v :: vs,h=>bm.bW (xs:=ys) f hf h
 | (false,x :: y :: zs) :: ys,v :: vs,h=>bm.bW (xs:=ys) f hf h
 | [],_ :: _,h=>h.elim
 | (true,_) :: _,[],h=>h.elim
 | (false,[]) :: _,[],h=>h.elim
 | (false,[_]) :: _,[],h=>h.elim
 | (false,_ :: _ :: _) :: _,[],h=>h.elim
theorem ay.ah (hm : Mem X st w g) {r : Nat} {keep : Bool} {x : SV} {v : Value} (h : ay X w st.rt g x v) : ay X w st.rt g (x.ah r keep) v:=by
 have hc:=fun x v=>aF.ah (X:=X) (st:=st) (w:=w) (g:=g) hm (r:=r) (keep:=keep) (x:=x) (v:=v)
 cases x with
 | c x =>
  cases x with
  | no=>trivial
  | al r' p e =>
   have h1:=hc (.al r' p e) v h
   simp only [SV.ah]
   generalize (Cl.ah r keep (.al r' p e)) = y at h1
   cases y <;> first | trivial | exact h1
  | _=>exact h
 | ag xs=>obtain ⟨cs,h1,h2⟩:=h; exact ⟨cs,h1,aw.bW _ hc h2⟩
 | po r' p e i o =>
  simp only [SV.ah]
  split
  ·split
   ·exact h
   ·trivial
  ·exact h
 | fn f az=>obtain ⟨vs,h1,h2⟩:=h; exact ⟨vs,h1,bJ.bW _ hc h2⟩
 | bf xs=>obtain ⟨vs,h1,h2⟩:=h; exact ⟨vs,h1,bm.bW _ hc h2⟩
 | _=>exact h
theorem Mem.ah (hm : Mem X st w g) (r : Nat) (keep : Bool) : Mem X (st.ah r keep) w g:=by
 have bw : ∀ (i : Nat),(st.ah r keep).rt[i]? = (st.rt[i]?).map (aa.ah r keep):=fun i=>qQj
 have aB : ∀ (i : Nat) e d xs,st.rt[i]? = some (.row e d xs) → (st.ah r keep).rt[i]? = some (.row e d xs):=fun i e d xs h=>by rw [bw,h]; rfl
 have hK : bN X (fun _=>False) (fun _=>False) w g st.rt w g (st.ah r keep).rt:=by
  refine ⟨fun b hb=>⟨hb,rfl⟩,fun b r _ hb=>⟨hb,rfl⟩,fun _ _ _=>rfl,fun i e d xs _ h=>aB i e d xs h,fun i t cs h=>⟨rfl,_,by rw [bw,h]; rfl⟩,fun _ h=>h.elim⟩
 have AZ : ∀ x : aa,x.aV (fun _=>False) (fun _=>False) st.rt:=fun x=>by
  cases x with
  | box t cs=>intro y _; cases y <;> simp [Cl.aV]
  | _=>trivial
 refine ⟨fun i x hx=>?_,hm.lt,fun b s hb=>by show s < (st.rt.map _).length; rw [qQk]; exact hm.ob b s hb,hm.n0,hm.np,by show X.np ≤ (st.rt.map _).length; rw [qQk]; exact hm.nl,hm.pm,hm.pv⟩
 rw [bw] at hx
 obtain ⟨y,hy,rfl⟩:=qQf.1 hx
 have h:=cm.keep hm hK hy (fun h=>h) (AZ y)
 cases y with
 | box t cs =>
  obtain ⟨vs,h1,h2,h3⟩:=hm.rt i _ hy
  exact ⟨vs,h1,h2,aw.keep hm hK (fun y _=>by cases y <;> simp [Cl.aV]) (aw.bW _ (fun x v=>aF.ah hm) h3)⟩
 | row e d xs=>cases d <;> exact h
 | gone=>trivial
theorem ay.yu (hm : Mem X st w g) {r : Nat} {keep : Bool} {x : SV} {v : Value} (h : ay X w st.rt g x v) : ay X w (st.ah r keep).rt g (x.ah r keep) v:=by
 have bw : ∀ (i : Nat),(st.ah r keep).rt[i]? = (st.rt[i]?).map (aa.ah r keep):=fun i=>qQj
 have hK : bN X (fun _=>False) (fun _=>False) w g st.rt w g (st.ah r keep).rt:=by
  refine ⟨fun b hb=>⟨hb,rfl⟩,fun b r _ hb=>⟨hb,rfl⟩,fun _ _ _=>rfl,fun i e d xs _ h=>by rw [bw,h]; rfl,fun i t cs h=>⟨rfl,_,by rw [bw,h]; rfl⟩,fun _ h=>h.elim⟩
 refine ay.keep hm hK ?_ (ay.ah hm h)
 generalize x.ah r keep = y
 cases y with
 | c x=>cases x <;> simp [SV.aV,Cl.aV]
 | ag xs=>intro y _; cases y <;> simp [Cl.aV]
 | po=>exact fun _=>.inl id
 | fn f az=>intro y _; rcases y with y | _ | _ <;> try trivial
            cases y <;> simp [aH.aV,Cl.aV]
 | bf vs=>intro y _ z _; cases z <;> simp [Cl.aV]
 | _=>trivial
end
section
variable {X : Ctx} {own0 : Nat → Option Nat} {w0 : World} {st : St} {a : Act} {w w' : World} {g g' : Gh}
theorem cz (st : St) (r : Nat) (keep : Bool) (i : Nat) : (st.ah r keep).rt[i]? = (st.rt[i]?).map (aa.ah r keep):=qQj
theorem bu (st : St) (r : Nat) (x : aa) (i : Nat) : (st.aG r x).rt[i]? = if r = i then (if r < st.rt.length then some x else none) else st.rt[i]?:=by
 show (st.rt.set r x)[i]? = _
 rw [qQ9]
theorem Mem.change (hm : Mem X st w g) (r : Nat) (keep : Bool) {Q : Nat → Prop} (hf : st.free Q) (hq : ∀ s x,Q s → s ≠ r → st.rt[s]? = some x → x = .gone) (x' : aa)
  (hK : bN X (fun s=>s = r ∨ Q s) (fun s=>s = r ∧ keep = true) w g (st.ah r keep).rt w' g' ((st.ah r keep).aG r x').rt)
  (hx : cm X w' ((st.ah r keep).aG r x').rt g' r x') (lt : ∀ b,g'.own b ≠ none → b < w'.heap.size) (ob : ∀ b s,g'.own b = some s → s < st.rt.length) (n0 : w.heap.size ≤ w'.heap.size)
  (pm : ∀ b s,g'.own b = some s → X.nw b ∨ (s < X.np ∧ X.po b = some s)) (pv : ∀ s,s < X.np → g'.v s = X.pv s) : Mem X ((st.ah r keep).aG r x') w' g':=by
 have hl : ((st.ah r keep).aG r x').rt.length = st.rt.length:=by
  show ((st.rt.map _).set r x').length = _
  rw [qQl,qQk]
 refine ⟨fun i y hy=>?_,lt,fun b s h=>by rw [hl]; exact ob b s h,hm.om n0,hm.np,by rw [hl]; exact hm.nl,pm,pv⟩
 have nW:=hy
 rw [bu] at hy
 split at hy
 ·rename_i qc
  subst qc
  split at hy
  ·obtain rfl:=qQc hy; exact hx
  ·cases hy
 ·rename_i qc
  by_cases kt : Q i
  ·rw [cz] at hy
   obtain ⟨z,hz,rfl⟩:=qQf.1 hy
   obtain rfl:=hq i z kt (fun h=>qc h.symm) hz
   trivial
  ·refine cm.keep (hm.ah r keep) hK hy (fun h=>h.elim (fun h=>qc h.symm) kt) ?_
   rw [cz] at hy
   obtain ⟨z,hz,rfl⟩:=qQf.1 hy
   exact aa.iT (hf.2 z (qQz hz))
theorem Rel.change (h : Rel X own0 w0 st a w g) (r : Nat) (keep : Bool) {Q : Nat → Prop} (hf : st.free Q) (hq : ∀ s x,Q s → s ≠ r → st.rt[s]? = some x → x = .gone) (x' : aa)
  (hK : bN X (fun s=>s = r ∨ Q s) (fun s=>s = r ∧ keep = true) w g (st.ah r keep).rt w' g' ((st.ah r keep).aG r x').rt)
  (hx : cm X w' ((st.ah r keep).aG r x').rt g' r x') (lt : ∀ b,g'.own b ≠ none → b < w'.heap.size) (ob : ∀ b s,g'.own b = some s → s < st.rt.length) (n0 : w.heap.size ≤ w'.heap.size)
  (pm : ∀ b s,g'.own b = some s → X.nw b ∨ (s < X.np ∧ X.po b = some s)) (pv : ∀ s,s < X.np → g'.v s = X.pv s) (fr : Fr own0 w0 w' g') : Rel X own0 w0 ((st.ah r keep).aG r x') a w' g':=by
 refine ⟨h.mem.change r keep hf hq x' hK hx lt ob n0 pm pv,?_,fun i sv bI=>?_,h.df,fr⟩
 ·show (st.sl.map _).length ≤ _
  rw [qQk]; exact h.sz
 ·have bI : (st.sl.map (SV.ah r keep))[i]? = some sv:=bI
  rw [qQj] at bI
  obtain ⟨y,hy,rfl⟩:=qQf.1 bI
  exact ay.keep (h.mem.ah r keep) hK (SV.iT (hf.1 y (qQz hy))) (ay.yu h.mem (h.sl i y hy))
theorem Rel.put (h : Rel X own0 w0 st a w g) (d : Option Tmp) {sv : SV} {v : Value} (hs : ay X w st.rt g sv v) : Rel X own0 w0 (st.put d sv) (a.put d v) w g:=by
 cases d with
 | none=>exact h
 | some d =>
  refine ⟨⟨h.mem.rt,h.mem.lt,h.mem.ob,h.mem.n0,h.mem.np,h.mem.nl,h.mem.pm,h.mem.pv⟩,?_,fun i x hx=>?_,h.df,h.fr⟩
  ·show (st.sl.set d sv).length ≤ (a.tmps.setIfInBounds d v).size
   rw [qQl,qJb]; exact h.sz
  ·have hx : (st.sl.set d sv)[i]? = some x:=hx
   show ay X w st.rt g x ((a.tmps.setIfInBounds d v).getD i undef)
   rw [qQ9] at hx
   by_cases hdi : d = i
   ·subst hdi
    simp only [if_true] at hx
    split at hx
    ·rename_i av
     obtain rfl:=qQc hx
     have : d < a.tmps.size:=qQ2 av h.sz
     simp [qZr,this,hs]
    ·cases hx
   ·rw [if_neg hdi] at hx
    rw [qZr,qY5 hdi,← qZr]
    exact h.sl i x hx
theorem yv (st : St) (d : Option Tmp) (sv : SV) : (st.put d sv).rt = st.rt:=by cases d <;> rfl
theorem bN.same (X : Ctx) (R B : Nat → Prop) (w : World) (g : Gh) (rt rt' : List aa) (row : ∀ (r : Nat) e d xs,¬ R r → rt[r]? = some (.row e d xs) → rt'[r]? = some (.row e d xs))
  (box : ∀ (r : Nat) t cs,rt[r]? = some (.box t cs) → ∃ cs',rt'[r]? = some (.box t cs')) (base : ∀ r,B r → ∀ e d xs,rt[r]? = some (.row e d xs) → ∃ d' cd,rt'[r]? = some (.row e d' cd) ∧ cd.length = xs.length) : bN X R B w g rt w g rt' :=
 ⟨fun b hb=>⟨hb,rfl⟩,fun b r _ hb=>⟨hb,rfl⟩,fun _ _ _=>rfl,row,fun r t cs h=>⟨rfl,box r t cs h⟩,fun r hr=>⟨rfl,base r hr⟩⟩
theorem Rel.wb (h : Rel X own0 w0 st a w g) (r : Nat) (hr : dt st.rt r) : Rel X own0 w0 ((st.ah r false).aG r .gone) a w g:=by
 obtain ⟨e0,d0,qY,hr⟩:=hr
 refine h.change r false (Q:=fun _=>False) (St.eV st) (fun _ _ h=>h.elim) .gone ?_ trivial h.mem.lt h.mem.ob (qQb _) h.mem.pm h.mem.pv h.fr
 refine bN.same _ _ _ _ _ _ _ (fun s e d xs hs h=>?_) (fun s t cs hb=>?_) (fun s hb=>by simp at hb)
 ·rw [bu,if_neg (fun he=>hs (.inl he.symm))]; exact h
 ·rw [bu]
  by_cases he : r = s
  ·subst he; rw [cz,hr] at hb; cases hb
  ·rw [if_neg he]; exact ⟨cs,hb⟩
theorem pw {Q : Nat → Prop} : ∀ (rs : List Nat) {st : St},st.free Q → (st.consume rs).free (fun s=>s ∈ rs ∨ Q s)
 | [],st,h=>by
  refine ⟨fun x hx=>?_,fun x hx=>?_⟩
  ·have:=SV.gg (SV.eV x) (h.1 x hx)
   simpa using this
  ·have:=St.gg (St.eV st) h
   simpa using this.2 x hx
 | r :: rs,st,h=>by
  have h1 : (st.ah r false).free (fun s=>s = r ∨ Q s):=St.gg St.iV (St.iU h)
  have h2 : ((st.ah r false).aG r .gone).free (fun s=>s = r ∨ Q s):=by
   refine ⟨h1.1,fun x hx=>?_⟩
   rcases qXt hx with hx | rfl
   ·exact h1.2 x hx
   ·trivial
  have h3:=pw rs h2
  have e : (fun s=>s ∈ r :: rs ∨ Q s) = (fun s=>s ∈ rs ∨ s = r ∨ Q s):=by
   funext s
   simp only [qQn,qXd]
   constructor
   ·rintro ((h | h) | h)
    ·exact .inr (.inl h)
    ·exact .inl h
    ·exact .inr (.inr h)
   ·rintro (h | h | h)
    ·exact .inl (.inr h)
    ·exact .inl (.inl h)
    ·exact .inr h
  rw [e]; exact h3
theorem rQ {s : Nat} {e : TypeId} {d : Bool} {xs : List (List U)} : ∀ (rs : List Nat) {st : St},s ∉ rs → ((st.consume rs).rt[s]? = some (.row e d xs) ↔ st.rt[s]? = some (.row e d xs))
 | [],st,_=>Iff.rfl
 | r :: rs,st,h=>by
  simp only [qQn,not_or] at h
  refine (rQ rs (st:=(st.ah r false).aG r .gone) h.2).trans ?_
  rw [bu,if_neg (fun he=>h.1 he.symm),cz]
  cases hx : st.rt[s]? with
  | none=>simp
  | some x=>cases x <;> simp [aa.ah]
theorem mW {s : Nat} : ∀ (rs : List Nat) {st : St},(∀ r ∈ rs,dt st.rt r) → cK rs = true → s ∈ rs → (st.consume rs).rt[s]? = some .gone
 | r :: rs,st,hr,hn,hs=>by
  simp only [cK,qQi,qZ5,qZ6,qYj] at hn
  by_cases he : s = r
  ·subst he
   have key : ∀ (qs : List Nat) (st : St),s ∉ qs → st.rt[s]? = some .gone → (st.consume qs).rt[s]? = some .gone:=by
    intro qs
    induction qs with
    | nil=>exact fun st _ h=>h
    | cons q qs ih =>
     intro st hq h
     simp only [qQn,not_or] at hq
     refine ih _ hq.2 ?_
     rw [bu,if_neg (fun he=>hq.1 he.symm),cz,h]; rfl
   refine key rs _ hn.1 ?_
   rw [bu,if_pos rfl]
   obtain ⟨e,d,xs,h'⟩:=hr s (by simp)
   have:=aA h'
   rw [if_pos (by show s < (st.rt.map _).length; rw [qQk]; exact this)]
  ·refine mW rs (st:=(st.ah r false).aG r .gone) (fun q hq=>?_) hn.2 (by simpa [he] using hs)
   obtain ⟨e,d,xs,h'⟩:=hr q (by simp [hq])
   refine ⟨e,d,xs,?_⟩
   rw [bu,if_neg (fun (he : r = q)=>hn.1 (he.symm ▸ hq)),cz,h']; rfl
theorem il : ∀ (rs : List Nat) (st : St),(st.consume rs).rt.length = st.rt.length
 | [],st=>rfl
 | r :: rs,st=>(il rs _).trans (by show ((st.rt.map _).set r _).length = _; rw [qQl,qQk])
theorem Rel.consume (rs : List Nat) : ∀ {st : St},Rel X own0 w0 st a w g → (∀ r ∈ rs,dt st.rt r) → cK rs = true → Rel X own0 w0 (st.consume rs) a w g:=by
 induction rs with
 | nil=>exact fun h _ _=>h
 | cons r rs ih =>
  intro st h hr hn
  simp only [cK,qQi,qZ5,qZ6,qYj] at hn
  refine ih (h.wb r (hr r (by simp))) (fun q hq=>?_) hn.2
  obtain ⟨e,d,xs,h'⟩:=hr q (by simp [hq])
  refine ⟨e,d,xs,?_⟩
  rw [bu,if_neg (fun (he : r = q)=>hn.1 (he.symm ▸ hq)),cz,h']; rfl
theorem jX (st : St) (x : aa) (i : Nat) : i < st.rt.length → (st.add x).rt[i]? = st.rt[i]?:=fun h=>qQu h
theorem bN.add (st : St) (x : aa) (hr : ∀ b,aq X w g b → aq X w' g' b ∧ w'.heap[b]? = w.heap[b]?) (ow : ∀ b r,g.own b = some r → g'.own b = some r ∧ w'.heap[b]? = w.heap[b]?)
  (vv : ∀ r,r < st.rt.length → g'.v r = g.v r ∧ g'.b r = g.b r) : bN X (fun _=>False) (fun _=>False) w g st.rt w' g' (st.add x).rt :=
 ⟨hr,fun b r _ h=>ow b r h,fun r h _=>(vv r h).1,fun r e d xs _ h=>by rw [jX st x r (aA h)]; exact h,fun r t cs h=>⟨(vv r (aA h)).2,cs,by rw [jX st x r (aA h)]; exact h⟩,fun _ h=>h.elim⟩
theorem Cl.eD {rt0 : List aa} (x : Cl) : x.aV (fun _=>False) (fun _=>False) rt0:=by cases x <;> simp [Cl.aV]
theorem SV.eD {rt0 : List aa} (y : SV) : y.aV (fun _=>False) (fun _=>False) rt0:=by
 cases y with
 | c x=>exact Cl.eD x
 | ag xs=>exact fun y _=>Cl.eD y
 | po=>exact fun _=>.inl id
 | fn f az=>intro y _; rcases y with y | _ | _ <;> first | exact Cl.eD y | trivial
 | bf vs=>exact fun y _ z _=>Cl.eD z
 | _=>trivial
theorem aa.eD {rt0 : List aa} (y : aa) : y.aV (fun _=>False) (fun _=>False) rt0:=by
 cases y with
 | box t cs=>exact fun y _=>Cl.eD y
 | _=>trivial
theorem Rel.add (h : Rel X own0 w0 st a w g) (x : aa) (hr : ∀ b,aq X w g b → aq X w' g' b ∧ w'.heap[b]? = w.heap[b]?) (ow : ∀ b r,g.own b = some r → g'.own b = some r ∧ w'.heap[b]? = w.heap[b]?)
  (vv : ∀ r,r < st.rt.length → g'.v r = g.v r ∧ g'.b r = g.b r) (hx : cm X w' (st.add x).rt g' st.rt.length x) (lt : ∀ b,g'.own b ≠ none → b < w'.heap.size)
  (ob : ∀ b s,g'.own b = some s → s < st.rt.length + 1) (n0 : w.heap.size ≤ w'.heap.size) (pm : ∀ b s,g'.own b = some s → X.nw b ∨ (s < X.np ∧ X.po b = some s)) (fr : Fr own0 w0 w' g') : Rel X own0 w0 (st.add x) a w' g':=by
 have hK:=bN.add (X:=X) st x hr ow vv
 have hl : (st.add x).rt.length = st.rt.length + 1:=by show (st.rt ++ [x]).length = _; simp
 refine ⟨⟨fun i y hy=>?_,lt,fun b s hb=>by rw [hl]; exact ob b s hb,h.mem.om n0,h.mem.np,by rw [hl]; exact Nat.le_succ_of_le h.mem.nl,pm,fun s hs=>?_⟩,h.sz,fun i sv bI=>ay.keep h.mem hK (SV.eD sv) (h.sl i sv bI),h.df,fr⟩
 ·by_cases hi : i < st.rt.length
  ·rw [jX st x i hi] at hy
   exact cm.keep h.mem hK hy (fun h=>h) (aa.eD y)
  ·have av:=aA hy
   rw [hl] at av
   obtain rfl : i = st.rt.length:=by omega
   have : (st.rt ++ [x])[st.rt.length]? = some x:=by simp
   obtain rfl:=qQc (this.symm.trans hy)
   exact hx
 ·rw [(vv s (qQ2 hs h.mem.nl)).1]; exact h.mem.pv s hs
end
def zeroV : CT → Value | .int k=>.int k 0 | .bool=>.bool false | .str=>.string ByteArray.empty | .aj _=>.slice none 0 0
def fW.zero (r : fW) : Value:=match r.d with
 | .one c=>zeroV c
 | _=>.agg (r.ab.map zeroV).toArray
def cp : TD → TypeDesc → Prop
 | .one (.int k),.int k'=>k = k' | .one .bool,.bool=>True | .one .str,.string=>True | .one (.aj e),.slice e'=>e = e'
 | .st fs,.struct fields=>fields.toList.map (fun f=>(f.type,f.offset)) = fs
 | .arr n e,.array n' e'=>n = n' ∧ e = e'
 | _,_=>False
structure aX (P : Program) (T : ax) : Prop where
 ok : ∀ t,(T.row t).d.known = true → ∃ i desc,P.info? t = some i ∧ P.underlying t = some desc ∧ i.size = T.size t ∧ i.bytes = (T.row t).bytes ∧ i.zero = some (T.row t).zero ∧ cp (T.row t).d desc
 one : ∀ t c,(T.row t).d = .one c → T.ct t = [c]
section
variable {R : Type}
theorem kb {α β : Type} (c : Bool) (a b : Option α) (f : α → Option β) : (bif c then a else b).bind f = bif c then a.bind f else b.bind f:=by cases c <;> rfl
theorem CD (T : ax) (rt : List aa) (t : TypeId) (a : SV) (K : SV → Option R) : iN T rt t a K = (iN T rt t a some).bind K:=by
 unfold iN
 repeat' split
 all_goals first | rfl | contradiction | simp only [kb,qYq,qYi]
theorem zz (a : SV) (o : Nat) (K : SV → Option R) : oV a o K = (oV a o some).bind K:=by cases a <;> rfl
theorem kK (T : ax) (bh : TypeId → Bool) (rt : List aa) (ρ : Operand → SV) (op : Op) (K : SV → Option R) : qK T bh rt ρ op K = (qK T bh rt ρ op some).bind K:=by
 cases op <;> simp only [qK]
 case load=>exact CD ..
 case fieldAddr =>
  unfold pE
  repeat' split
  all_goals first | rfl | exact zz ..
 case binOp =>
  unfold pa qn
  repeat' split
  all_goals first | rfl | simp only [kb,qYq,qYi]
 all_goals
  try unfold pF
  try unfold kz
  try simp only [ju]
  try unfold qm
  try unfold lS
  try unfold mz
  try unfold oh
  repeat' split
  all_goals first | rfl | contradiction | simp only [kb,qYq,qYi]
end
section
variable {P : Program} {X : Ctx} {own0 : Nat → Option Nat} {w0 : World} {st : St} {a : Act} {w : World} {g : Gh}
theorem vX {rt : List aa} (v : Value) (h : jn v ≠ .no) : aF X w rt g (jn v) v:=by
 unfold jn
 split <;> first | rfl | (exact absurd (by unfold jn; split <;> first | rfl | simp_all) h)
theorem vY {rt : List aa} : ∀ (vs : List Value) {xs : List Cl},pq vs = some xs → aw X w rt g xs vs
 | [],xs,h=>by cases h; trivial
 | v :: vs,xs,h=>by
  unfold pq at h
  split at h
  ·cases h
  ·rename_i aW
   obtain ⟨ys,h1,rfl⟩:=qQf.1 h
   exact ⟨vX v aW,vY vs h1⟩
theorem ba (h : Rel X own0 w0 st a w g) (x : Operand) : ay X w st.rt g (ev st x) (a.eval x):=by
 cases x with
 | tmp t =>
  show ay X w st.rt g (st.sl.getD t .no) (a.tmps.getD t undef)
  rw [qQe]
  cases hx : st.sl[t]? with
  | none=>trivial
  | some sv=>exact h.sl t sv hx
 | const v =>
  show ay X w st.rt g (rP v) v
  unfold rP
  split
  ·rename_i cs
   split
   ·rename_i xs jK; exact ⟨cs,rfl,vY _ jK⟩
   ·trivial
  ·by_cases hn : jn v = .no
   ·rw [hn]; trivial
   ·have h1:=vX (X:=X) (w:=w) (g:=g) (rt:=st.rt) v hn
    generalize jn v = x at *
    cases x <;> first | exact h1 | trivial
 | global g=>trivial
 | func f=>exact ⟨#[],rfl,trivial⟩
theorem ay.cl {rt : List aa} {x : Cl} {v : Value} (h : ay X w rt g (.c x) v) (hx : x ≠ .no) : aF X w rt g x v:=by
 cases x <;> first | exact h | exact absurd rfl hx
theorem ay.cj {rt : List aa} {x : Cl} {v : Value} (h : aF X w rt g x v) : ay X w rt g (.c x) v:=by
 cases x <;> first | exact h | trivial
theorem yL (hT : aX P X.T) {t : TypeId} (ht : (X.T.row t).d.known = true) : (isAgg t).run P w = .ok (X.T.agg t) w:=by
 obtain ⟨i,desc,h1,h2,h3,h4,h5,h6⟩:=hT.ok t ht
 unfold ax.agg TD.isAgg
 unfold cp at h6
 simp only [isAgg,Sem.run_bind,run_underlying h2,Result.andThen_ok]
 split at h6 <;> first | (cases h6; done) | (simp_all; done) | (simp_all [Sem.run_pure])
theorem run_sizeOf (hT : aX P X.T) {t : TypeId} (ht : (X.T.row t).d.known = true) : (sizeOf t).run P w = .ok (X.T.size t) w:=by
 obtain ⟨i,desc,h1,h2,h3,h4,h5,h6⟩:=hT.ok t ht
 simp [sizeOf,typeInfo,h1,h3]
def dm (agg : Bool) (cs : List Value) : Value:=if agg then .agg cs.toArray else cs.headD undef
theorem my (hT : aX P X.T) {t : TypeId} (ht : (X.T.row t).d.known = true) (ha : X.T.agg t = false) : X.T.size t = 1:=by
 unfold ax.agg at ha
 cases hd : (X.T.row t).d with
 | one c=>have:=hT.one t c hd; unfold ax.size; rw [show (X.T.row t).ab = [c] from this]; rfl
 | st=>rw [hd] at ha; cases ha
 | arr=>rw [hd] at ha; cases ha
 | other=>rw [hd] at ht; cases ht
theorem oA (hT : aX P X.T) {t : TypeId} (ht : (X.T.row t).d.known = true) {b o : Nat} {cs : List Value} (hl : cs.length = X.T.size t) (hc : ∀ (j : Nat) v,cs[j]? = some v → w.cell? ⟨b,o + j,none⟩ = some v) :
  (Instr.loadAt t (.pointer (some ⟨b,o,none⟩))).run P w = .ok (dm (X.T.agg t) cs) w:=by
 simp only [Instr.loadAt,Instr.sureAddr,loadVar,Sem.run_bind,Sem.run_pure,Result.andThen_ok,yL hT ht]
 cases ha : X.T.agg t with
 | true =>
  have hr:=run_loadCells_list (P:=P) (w:=w) ⟨b,o,none⟩ cs (fun j v h=>by rw [Addr.add_lit]; exact hc j v h)
  simp only [if_true,Sem.run_bind,run_sizeOf hT ht,Result.andThen_ok,← hl,hr,Sem.run_pure,dm]
 | false =>
  have h1:=my hT ht ha
  rw [h1] at hl
  match cs,hl with
  | [v],_ =>
   have:=hc 0 v rfl
   simp [load,Sem.run,dm,this] at *
theorem ay.pack (hT : aX P X.T) {t : TypeId} (ht : (X.T.row t).d.known = true) {xs : List Cl} {cs : List Value} {rt : List aa} (hl : xs.length = X.T.size t) (h : aw X w rt g xs cs) : ay X w rt g (pack (X.T.agg t) xs) (dm (X.T.agg t) cs):=by
 cases ha : X.T.agg t with
 | true=>exact ⟨cs.toArray,rfl,by simpa using h⟩
 | false =>
  rw [my hT ht ha] at hl
  match xs,cs,h,hl with
  | [x],[v],h,_=>exact ay.cj h.1
theorem aF.dS {rt : List aa} {ct : CT} {u : U} {v : Value} (h : aE X.T.ct w (aq X w g) ct u v) : aF X w rt g (Cl.dS ct u) v:=by
 cases ct with
 | int k=>exact h.nY.2
 | bool=>exact h.pf.2
 | str=>exact h.qU.2
 | aj e=>have:=h.qR; rw [this] at h; exact h
theorem vR {ab : List CT} {us : List U} {o n i : Nat} {x : Cl} (h : (ib ab us o n)[i]? = some x) : i < n ∧ ∃ ct,ab[o + i]? = some ct ∧ x = Cl.dS ct (us.getD (o + i) U0):=by
 unfold ib at h
 rw [qQj,qY4] at h
 obtain ⟨y,hy,rfl⟩:=qQf.1 h
 obtain ⟨ct,ai,rfl⟩:=qQf.1 hy
 rw [qZk] at ai
 split at ai
 ·rename_i av
  rw [qZb] at ai
  exact ⟨av,ct,ai,rfl⟩
 ·cases ai
theorem rM {ab : List CT} {us : List U} {o n : Nat} : (ib ab us o n).length = ((ab.drop o).take n).length:=by simp [ib]
def jl (w : World) (b o n : Nat) : List Value:=(List.range n).map fun i=>(w.cell? ⟨b,o + i,none⟩).getD undef
theorem ph {b o n i : Nat} {v : Value} (h : (jl w b o n)[i]? = some v) : i < n ∧ v = (w.cell? ⟨b,o + i,none⟩).getD undef:=by
 unfold jl at h
 rw [qQj] at h
 obtain ⟨y,hy,rfl⟩:=qQf.1 h
 obtain ⟨h1,h2⟩:=qYa.1 hy
 simp at h1 h2
 subst h2
 exact ⟨h1,rfl⟩
theorem pj {b o n : Nat} : (jl w b o n).length = n:=by simp [jl]
theorem cX.cells {e : TypeId} {us : List U} {o : Nat} {v : Value} {rt : List aa} (h : cX X w g e us o v) {n : Nat} (hn : (((X.T.ct e).drop o).take n).length = n) :
  ∃ b off,v = .pointer (some ⟨b,off,none⟩) ∧ aw X w rt g (ib (X.T.ct e) us o n) (jl w b off n) ∧ ∀ j u,(jl w b off n)[j]? = some u → w.cell? ⟨b,off + j,none⟩ = some u:=by
 obtain ⟨b,off,rfl,hb,hl,hc⟩:=h
 have key : ∀ j,j < n → ∃ ct x,(X.T.ct e)[o + j]? = some ct ∧ w.cell? ⟨b,off + o + j,none⟩ = some x ∧ aE X.T.ct w (aq X w g) ct (us.getD (o + j) U0) x:=by
  intro j hj
  rw [qZc,qZl] at hn
  have h1 : o + j < (X.T.ct e).length:=by omega
  have hu : us[o + j]? = some (us.getD (o + j) U0):=by
   rw [qQe,qQg (by omega)]; rfl
  have ai:=qQg h1
  obtain ⟨x,h2,h3⟩:=hc (o + j) _ _ hu ai
  exact ⟨_,x,ai,by rw [qQ4]; exact h2,h3⟩
 refine ⟨b,off + o,rfl,?_,?_⟩
 ·refine aw.oo (by rw [rM,pj]; exact hn) fun i x v hx hv=>?_
  obtain ⟨hi,ct,ai,rfl⟩:=vR hx
  obtain ⟨-,rfl⟩:=ph hv
  obtain ⟨br,y,h1,h2,h3⟩:=key i hi
  obtain rfl:=qQc (ai.symm.trans h1)
  rw [h2]; exact aF.dS h3
 ·intro j u hu
  obtain ⟨hj,rfl⟩:=ph hu
  obtain ⟨_,y,_,h2,_⟩:=key j hj
  rw [h2]; rfl
theorem zU {dp : Bool} {r : Nat} {p : Path} {i0 : Nat} {ab : List CT} {us : List U} {o n i : Nat} {x : Cl} (h : (kT dp r p i0 ab us o n)[i]? = some x) : i < n ∧ ∃ ct,ab[o + i]? = some ct ∧
  x = (match ct with | .aj e=>if dp then .al r (p ++ [(i0,o + i)]) e else .rd e (us.getD (o + i) U0).bB | ct=>Cl.dS ct (us.getD (o + i) U0)):=by
 unfold kT at h
 rw [qQj,qY4] at h
 obtain ⟨y,hy,rfl⟩:=qQf.1 h
 obtain ⟨ct,ai,rfl⟩:=qQf.1 hy
 rw [qZk] at ai
 split at ai
 ·rename_i av
  rw [qZb] at ai
  exact ⟨av,ct,ai,by cases ct <;> rfl⟩
 ·cases ai
theorem vQ {dp : Bool} {r : Nat} {p : Path} {i0 : Nat} {ab : List CT} {us : List U} {o n : Nat} : (kT dp r p i0 ab us o n).length = ((ab.drop o).take n).length:=by simp [kT]
theorem Du (hm : Mem X st w g) {r : Nat} {p : Path} {e : TypeId} {i o : Nat} {v : Value} {e0 : TypeId} {d : Bool} {xs : List (List U)} (hr : st.rt[r]? = some (.row e0 d xs)) (h : ay X w st.rt g (.po r p e i o) v) {n : Nat}
  (hn : (((X.T.ct e).drop o).take n).length = n) :
  ∃ b off,v = .pointer (some ⟨b,off,none⟩) ∧ aw X w st.rt g (kT d r p i (X.T.ct e) ((bc xs p).getD i []) o n) (jl w b off n) ∧ ∀ j u,(jl w b off n)[j]? = some u → w.cell? ⟨b,off + j,none⟩ = some u:=by
 obtain ⟨im,d',cd,b,q,n',c,h1,h2,h3,h4,rfl⟩:=h
 obtain ⟨rfl,rfl,rfl⟩ : e0 = im ∧ d = d' ∧ xs = cd:=by rw [hr] at h1; cases h1; exact ⟨rfl,rfl,rfl⟩
 have hx : (bc xs p)[i]? = some ((bc xs p).getD i []):=by
  rw [qQe,qQg h4]; rfl
 have bt:=hm.rt r _ hr
 rw [qZc,qZl] at hn
 
 have key : ∀ j,j < n → ∃ ct x,(X.T.ct e)[o + j]? = some ct ∧ w.cell? ⟨b,q + (i * X.T.size e + (o + j)),none⟩ = some x ∧
   aF X w st.rt g (match ct with | .aj e=>if d then .al r (p ++ [(i,o + j)]) e else .rd e (((bc xs p).getD i []).getD (o + j) U0).bB | ct=>Cl.dS ct (((bc xs p).getD i []).getD (o + j) U0)) x:=by
  intro j hj
  have h5 : o + j < (X.T.ct e).length:=by omega
  have ai:=qQg h5
  cases d with
  | true =>
   obtain ⟨F',hF,h6⟩:=ak.at h3 bt
   have EL:=h6
   cases h6 with
   | row _ _ _ _ cs V bp ho hg hV hs hh =>
    have aR:=hs i _ hx
    have hu : ((bc xs p).getD i [])[o + j]? = some (((bc xs p).getD i []).getD (o + j) U0):=by
     conv=>rhs; rw [qQe]
     rw [qQg (by omega)]; rfl
    have db:=gW ho (hV i (o + j) _ hx (by omega))
    have eL:=hh i (o + j) _ _ _ hx hu ai
    refine ⟨_,V i (o + j),ai,db,?_⟩
    generalize (X.T.ct e)[o + j] = ct at *
    cases ct with
    | aj e1 =>
     have hl:=eL.qR
     have hA : At X.T.ct w (.aj e0) (.lst xs) (g.v r) (p ++ [(i,o + j)]) (.aj e1) (((bc xs p).getD i []).getD (o + j) U0) (V i (o + j)) :=
      h3.trans (.cons e _ b q n' c i (o + j) _ _ _ _ _ _ _ _ hx hu ai db (.nil _ _ _))
     refine ⟨e0,true,xs,hr,.inr rfl,?_⟩
     have lp:=hA.bc rfl
     rw [hl] at hA
     rw [lp]; exact hA
    | int k=>exact eL.nY.2
    | bool=>exact eL.pf.2
    | str=>exact eL.qU.2
  | false =>
   obtain rfl : p = []:=by simpa using h2
   obtain ⟨h7,-,h8⟩:=h3.bX
   obtain rfl:=CT.aj.inj h7
   obtain ⟨cs,V,ho,hg,hV,hs,hh⟩:=aZ.ex bt
   rw [← h8] at ho
   have aR:=hs i _ hx
   have hu : ((bc xs []).getD i [])[o + j]? = some (((bc xs []).getD i []).getD (o + j) U0):=by
    conv=>rhs; rw [qQe]
    rw [qQg (by omega)]; rfl
   have db:=gW ho (hV i (o + j) _ hx (by omega))
   have eL:=hh i (o + j) _ _ _ hx hu ai
   refine ⟨_,V i (o + j),ai,db,?_⟩
   have h9 : aF X w st.rt g (Cl.dS (X.T.ct e)[o + j] (((bc xs []).getD i []).getD (o + j) U0)) (V i (o + j)):=aF.dS eL
   generalize (X.T.ct e)[o + j] = ct at *
   cases ct <;> exact h9
 refine ⟨b,q + (i * X.T.size e + o),rfl,?_,?_⟩
 ·refine aw.oo (by rw [vQ,pj,qZc,qZl]; exact hn) fun k x v hx hv=>?_
  obtain ⟨hk,ct,ai,rfl⟩:=zU hx
  obtain ⟨-,rfl⟩:=ph hv
  obtain ⟨br,y,h5,h6,h7⟩:=key k hk
  obtain rfl:=qQc (ai.symm.trans h5)
  rw [qQ4,qQ4,h6]; exact h7
 ·intro j u hu
  obtain ⟨hj,rfl⟩:=ph hu
  obtain ⟨_,y,_,h6,_⟩:=key j hj
  rw [qQ4,qQ4,h6]; rfl
theorem mS : ∀ {cs : List Cl} {bs : List Bool},jj cs = some bs → cs = bs.map .bool
 | [],bs,h=>by cases h; rfl
 | .bool b :: cs,bs,h=>by
  unfold jj at h
  obtain ⟨ts,h1,rfl⟩:=qQf.1 h
  rw [mS h1]; rfl
 | .int .. :: _,_,h=>by cases h
 | .str .. :: _,_,h=>by cases h
 | .rd .. :: _,_,h=>by cases h
 | .nil :: _,_,h=>by cases h
 | .al .. :: _,_,h=>by cases h
 | .no :: _,_,h=>by cases h
theorem qq {k : IntKind} : ∀ {cs : List Cl} {ns : List Int},jL k cs = some ns → cs = ns.map (.int k)
 | [],ns,h=>by cases h; rfl
 | .int k' n :: cs,ns,h=>by
  unfold jL at h
  split at h
  ·rename_i hk
   subst hk
   obtain ⟨ts,h1,rfl⟩:=qQf.1 h
   rw [qq h1]; rfl
  ·cases h
 | .bool .. :: _,_,h=>by cases h
 | .str .. :: _,_,h=>by cases h
 | .rd .. :: _,_,h=>by cases h
 | .nil :: _,_,h=>by cases h
 | .al .. :: _,_,h=>by cases h
 | .no :: _,_,h=>by cases h
theorem xD {T : ax} {t' t : TypeId} {cs : List Cl} {k : IntKind} {ns : List Int} {o : Nat} (h : iL T t' t cs = some (k,ns)) (ho : o < ns.length) :
  ((cs.drop o).take (T.size t)).length = T.size t ∧ pack (T.agg t) ((cs.drop o).take (T.size t)) = .c (.int k (ns.getD o 0)):=by
 unfold iL at h
 split at h
 ·rename_i k' h1 h2 h3
  obtain ⟨xZ,h4,h5⟩:=qQf.1 h
  cases h5
  obtain rfl:=qq h4
  have hs : T.size t = 1:=by show (T.ct t).length = 1; rw [h2]; rfl
  have e : ((ns.map (Cl.int k)).drop o).take (T.size t) = [.int k (ns.getD o 0)]:=by
   rw [hs,qYh (by simpa using ho)]
   simp [qQe,qQg ho]
  rw [e,hs,h3]
  exact ⟨rfl,rfl⟩
 ·cases h
theorem vD {T : ax} {t' t : TypeId} {cs : List Cl} {bs : List Bool} {o : Nat} (h : hY T t' t cs = some bs) (ho : o < bs.length) :
  ((cs.drop o).take (T.size t)).length = T.size t ∧ pack (T.agg t) ((cs.drop o).take (T.size t)) = .c (.bool (bs.getD o false)):=by
 unfold hY at h
 split at h
 ·rename_i h1 h2 h3
  obtain rfl:=mS h
  have hs : T.size t = 1:=by show (T.ct t).length = 1; rw [h2]; rfl
  have e : ((bs.map Cl.bool).drop o).take (T.size t) = [.bool (bs.getD o false)]:=by
   rw [hs,qYh (by simpa using ho)]
   simp [qQe,qQg ho]
  rw [e,hs,h3]
  exact ⟨rfl,rfl⟩
 ·cases h
theorem CG (hT : aX P X.T) (h : Mem X st w g) {t : TypeId} {sa sv : SV} {v : Value} (ha : ay X w st.rt g sa v) (hq : iN X.T st.rt t sa some = some sv) : ∃ u,(Instr.loadAt t v).run P w = .ok u w ∧ ay X w st.rt g sv u:=by
 unfold iN at hq
 split at hq
 ·rename_i ht
  split at hq
  ·rename_i r o
   split at hq
   ·rename_i t' cs hr
    have hq : (if ((cs.drop o).take (X.T.size t)).length = X.T.size t then some (pack (X.T.agg t) ((cs.drop o).take (X.T.size t))) else none) = some sv:=by
     split at hq
     ·rename_i bs hb
      cases hz : decide (o < bs.length) with
      | false=>rw [hz] at hq; cases hq
      | true =>
       rw [hz] at hq
       obtain ⟨q1,q2⟩:=vD hb (qZu hz)
       rw [if_pos q1,q2]; exact hq
     ·split at hq
      ·rename_i k ns hb
       cases hz : decide (o < ns.length) with
       | false=>rw [hz] at hq; cases hq
       | true =>
        rw [hz] at hq
        obtain ⟨q1,q2⟩:=xD hb (qZu hz)
        rw [if_pos q1,q2]; exact hq
      ·exact hq
    split at hq
    ·rename_i hl
     obtain rfl:=qQc hq
     obtain ⟨vs,h1,h2,h3⟩:=h.rt r _ hr
     obtain ⟨rfl,-⟩:=ha
     have h4:=(h3.drop o).take (X.T.size t)
     refine ⟨_,oA hT ht (cs:=(vs.toList.drop o).take (X.T.size t)) (by rw [← h4.length]; exact hl) (fun j v hv=>?_),ay.pack hT ht hl h4⟩
     rw [qZk] at hv
     split at hv
     ·rw [qZb] at hv
      rw [nv h1]; simpa using hv
     ·cases hv
    ·cases hq
   ·cases hq
  ·rename_i e us o
   split at hq
   ·rename_i hl
    obtain rfl:=qQc hq
    obtain ⟨b,off,rfl,h2,h3⟩:=cX.cells (rt:=st.rt) ha hl
    exact ⟨_,oA hT ht pj h3,ay.pack hT ht (by rw [rM]; exact hl) h2⟩
   ·cases hq
  ·rename_i r p e i o
   split at hq
   ·rename_i e0 dp xs hr
    split at hq
    ·rename_i hl
     obtain rfl:=qQc hq
     obtain ⟨b,off,rfl,h2,h3⟩:=Du h hr ha hl
     exact ⟨_,oA hT ht pj h3,ay.pack hT ht (by rw [vQ]; exact hl) h2⟩
    ·cases hq
   ·cases hq
  ·cases hq
 ·cases hq
end
def bQ : List CT → List Value → List Value → Option Bool
 | [],[],[]=>some true
 | .int k :: ts,.int k1 a :: xs,.int k2 b :: ys=>if k1 = k ∧ k2 = k then (bQ ts xs ys).map (decide (a = b) && ·) else none
 | .bool :: ts,.bool a :: xs,.bool b :: ys=>(bQ ts xs ys).map ((a == b) && ·)
 | .str :: ts,.string a :: xs,.string b :: ys=>(bQ ts xs ys).map (decide (a = b) && ·)
 | _,_,_=>none
def kP (P : Program) (T : ax) (bh : TypeId → Bool) : Prop:=∀ t,bh t = true → ∀ (b : BinOp) (x y : Operand) (vs us : Array Value) (r : Bool),bQ (T.ct t) vs.toList us.toList = some r → ∀ w,
 (b = .eql → (do eqGuard b t x y (.agg vs) (.agg us); binOp b t (.agg vs) (.agg us) : Sem Value).run P w = .ok (.bool r) w) ∧
 (b = .neq → (do eqGuard b t x y (.agg vs) (.agg us); binOp b t (.agg vs) (.agg us) : Sem Value).run P w = .ok (.bool (!r)) w)
section
variable {P : Program} {X : Ctx} {own0 : Nat → Option Nat} {w0 : World} {st : St} {a : Act} {w : World} {g : Gh} {bh : TypeId → Bool}
theorem iK {n : Int} {len : Nat} (h : dE n len = true) : 0 ≤ n ∧ n < (len : Int) ∧ n.toNat < len:=by
 simp only [dE,qQw] at h
 exact ⟨h.1,h.2,by omega⟩
theorem kN (hT : aX P X.T) {t : TypeId} {d : TD} (hd : (X.T.row t).d = d) (hk : d.known = true) : ∃ desc,P.underlying t = some desc ∧ cp d desc:=by
 obtain ⟨i,desc,h1,h2,h3,h4,h5,h6⟩:=hT.ok t (by rw [hd]; exact hk)
 exact ⟨desc,h2,by rw [← hd]; exact h6⟩
theorem eu (hT : aX P X.T) {t e : TypeId} (hd : (X.T.row t).d = .one (.aj e)) : P.underlying t = some (.slice e):=by
 obtain ⟨desc,h1,h2⟩:=kN hT hd rfl
 cases desc <;> first | exact h2.elim | (simp only [cp] at h2; subst h2; exact h1)
theorem uZ (hT : aX P X.T) {t : TypeId} (hd : (X.T.row t).d = .one .str) : P.underlying t = some .string:=by
 obtain ⟨desc,h1,h2⟩:=kN hT hd rfl
 cases desc <;> first | exact h2.elim | exact h1
theorem zc (hT : aX P X.T) {t : TypeId} (hd : (X.T.row t).d = .one .bool) : P.underlying t = some .bool:=by
 obtain ⟨desc,h1,h2⟩:=kN hT hd rfl
 cases desc <;> first | exact h2.elim | exact h1
theorem Eo (hT : aX P X.T) {t : TypeId} {k : IntKind} (hd : (X.T.row t).d = .one (.int k)) : P.underlying t = some (.int k):=by
 obtain ⟨desc,h1,h2⟩:=kN hT hd rfl
 cases desc <;> first | exact h2.elim | (simp only [cp] at h2; subst h2; exact h1)
theorem oJ (hT : aX P X.T) {t e : TypeId} {n : Nat} (hd : (X.T.row t).d = .arr n e) : P.underlying t = some (.array n e):=by
 obtain ⟨desc,h1,h2⟩:=kN hT hd rfl
 cases desc <;> first | exact h2.elim | (simp only [cp] at h2; obtain ⟨rfl,rfl⟩:=h2; exact h1)
theorem zd (hT : aX P X.T) {t : TypeId} {fs : List (TypeId × Nat)} (hd : (X.T.row t).d = .st fs) : ∃ fields,P.underlying t = some (.struct fields) ∧ ∀ (i : Nat) x,fs[i]? = some x → ∃ f : Field,fields[i]? = some f ∧ f.type = x.1 ∧ f.offset = x.2:=by
 obtain ⟨desc,h1,h2⟩:=kN hT hd rfl
 cases desc <;> try exact h2.elim
 rename_i fields
 refine ⟨fields,h1,fun i x hx=>?_⟩
 simp only [cp] at h2
 rw [← h2,qQj] at hx
 obtain ⟨f,hf,rfl⟩:=qQf.1 hx
 exact ⟨f,by simpa using hf,rfl,rfl⟩
theorem Ar (hT : aX P X.T) {t : TypeId} {sa sv : SV} {v : Value} {f : Nat} (ha : ay X w st.rt g sa v) (hq : pE X.T t sa f some = some sv) : ∃ u,(Instr.fieldAt t v f).run P w = .ok u w ∧ ay X w st.rt g sv u:=by
 unfold pE at hq
 split at hq
 ·rename_i fs hd
  obtain ⟨fields,h1,h2⟩:=zd hT hd
  split at hq
  ·rename_i ft o hf
   split at hq
   ·cases hq
   ·rename_i hn
    simp only [not_or,Bool.not_eq_false] at hn
    obtain ⟨fl,h3,h4,h5⟩:=h2 f _ hf
    have aR : (sizeOf fl.type).run P w = .ok (X.T.size ft) w:=by rw [h4]; exact run_sizeOf hT hn.2
    have key : ∀ (b j : Nat),(Instr.fieldAt t (.pointer (some ⟨b,j,none⟩)) f).run P w = .ok (.pointer (some ⟨b,j + o,none⟩)) w:=by
     intro b j
     have aW : ¬ X.T.size ft = 0:=hn.1
     simp [Instr.fieldAt,run_underlying h1,h3,Instr.sureAddr,fieldPlace,aR,aW,Addr.add_lit,h5]
    unfold oV at hq
    split at hq
    ·obtain rfl:=qQc hq
     obtain ⟨rfl,h6⟩:=ha
     exact ⟨_,key _ _,rfl,h6⟩
    ·obtain rfl:=qQc hq
     obtain ⟨b,off,rfl,h6⟩:=ha
     exact ⟨_,key _ _,b,off,by rw [qQ4],h6⟩
    ·obtain rfl:=qQc hq
     obtain ⟨e0,d,xs,b,q,n,c,h6,h7,h8,h9,rfl⟩:=ha
     exact ⟨_,key _ _,e0,d,xs,b,q,n,c,h6,h7,h8,h9,by rw [qQ4,qQ4]⟩
    ·cases hq
  ·cases hq
 ·cases hq
theorem extract_toList (cs : Array Value) (o n : Nat) : (cs.extract o (o + n)).toList = (cs.toList.drop o).take n:=by
 rw [Array.toList_extract,List.extract_eq_take_drop,qX4]
theorem mq (hT : aX P X.T) {t : TypeId} (ht : (X.T.row t).d.known = true) {cs : Array Value} {o : Nat} (hl : ((cs.toList.drop o).take (X.T.size t)).length = X.T.size t) : (part t cs o).run P w = .ok (dm (X.T.agg t) ((cs.toList.drop o).take (X.T.size t))) w:=by
 simp only [part,Sem.run_bind,yL hT ht,Result.andThen_ok]
 cases ha : X.T.agg t with
 | true =>
  simp only [if_true,Sem.run_bind,run_sizeOf hT ht,Result.andThen_ok,Sem.run_pure,dm]
  congr 2
  apply qZ2.1
  rw [extract_toList]
 | false =>
  have h1:=my hT ht ha
  rw [h1] at hl ⊢
  have av : o < cs.size:=by
   simp only [qZc,qZl,qZ3] at hl; omega
  have h2 : cs[o]? = some cs[o]:=qY6 av
  have h3 : (cs.toList.drop o).take 1 = [cs[o]]:=by
   rw [qYh (by simpa using av)]; simp
  simp [h2,h3,dm]
theorem As (hT : aX P X.T) {t : TypeId} {sa sv : SV} {v : Value} {f : Nat} (ha : ay X w st.rt g sa v) (hq : pF X.T t sa f some = some sv) : ∃ u,(Instr.field t v f).run P w = .ok u w ∧ ay X w st.rt g sv u:=by
 unfold pF at hq
 split at hq
 ·rename_i fs cs hd
  obtain ⟨fields,h1,h2⟩:=zd hT hd
  split at hq
  ·rename_i ft o hf
   split at hq
   ·rename_i hk
    simp only [qQi,qQw] at hk
    obtain rfl:=qQc hq
    obtain ⟨fl,h3,h4,h5⟩:=h2 f _ hf
    obtain ⟨vs,rfl,h6⟩:=ha
    have h7:=(h6.drop o).take (X.T.size ft)
    have h8:=mq (w:=w) hT hk.1 (cs:=vs) (o:=o) (by rw [← h7.length]; exact hk.2)
    refine ⟨_,?_,ay.pack hT hk.1 hk.2 h7⟩
    simp [Instr.field,run_underlying h1,h3,asAgg,h4,h5,h8]
   ·cases hq
  ·cases hq
 ·cases hq
theorem run_indexAt_slice (hT : aX P X.T) {t e : TypeId} (hd : (X.T.row t).d = .one (.aj e)) (he : (X.T.row e).d.known = true) {b o n c : Nat} {k : IntKind} {i : Int} (hi : dE i n = true) :
  (Instr.indexAt t (.slice (some ⟨b,o,none⟩) n c) (.int k i)).run P w = .ok (.pointer (some ⟨b,o + i.toNat * X.T.size e,none⟩)) w:=by
 obtain ⟨h0,h1,h2⟩:=iK hi
 simp [Instr.indexAt,asIntOf,run_underlying (eu hT hd),h0,h1,run_sizeOf hT he,Addr.add_lit]
theorem DX (hT : aX P X.T) {t e : TypeId} {len : Nat} (hd : (X.T.row t).d = .arr len e) (he : (X.T.row e).d.known = true) {b o : Nat} {k : IntKind} {i : Int} (hi : dE i len = true) :
  (Instr.indexAt t (.pointer (some ⟨b,o,none⟩)) (.int k i)).run P w = .ok (.pointer (some ⟨b,o + i.toNat * X.T.size e,none⟩)) w:=by
 obtain ⟨h0,h1,h2⟩:=iK hi
 simp [Instr.indexAt,asIntOf,run_underlying (oJ hT hd),Instr.sureAddr,h0,h1,run_sizeOf hT he,Addr.add_lit]
theorem fk {α : Type} {l : List α} {i : Nat} {d : α} (h : i < l.length) : l[i]? = some (l.getD i d):=by
 rw [qQe,qQg h]; rfl
theorem aE.elem {e : TypeId} {xs : List (List U)} {v : Value} (h : aE X.T.ct w (aq X w g) (.aj e) (.lst xs) v) {i : Nat} (hi : i < xs.length) :
  ∃ b o c,v = .slice (some ⟨b,o,none⟩) xs.length c ∧ cX X w g e (xs.getD i []) 0 (.pointer (some ⟨b,o + i * X.T.size e,none⟩)):=by
 cases h with
 | aj e xs A c V hl hm hA hs h =>
  obtain ⟨b,o,rfl,hb,hc⟩:=hA (by omega)
  have hx:=fk (d:=[]) hi
  refine ⟨b,o,c,rfl,b,o + i * X.T.size e,rfl,hb,hs i _ hx,fun j u ct hu ai=>⟨V i j,?_,h i j _ u ct hx hu ai⟩⟩
  have:=hc i j _ hx (aA hu)
  rw [qQ4]; exact this
theorem Cn (hT : aX P X.T) (hm : Mem X st w g) {t : TypeId} {sx si sv : SV} {v vi : Value} (hx : ay X w st.rt g sx v) (hi : ay X w st.rt g si vi) (hq : kz X.T st.rt t sx si some = some sv) :
  ∃ u,(Instr.indexAt t v vi).run P w = .ok u w ∧ ay X w st.rt g sv u:=by
 unfold kz at hq
 split at hq
 ·rename_i e k n hd
  obtain rfl : vi = .int k n:=hi
  split at hq
  ·rename_i e' xs
   split at hq
   ·rename_i hh
    obtain ⟨rfl,he⟩:=hh
    cases hr : dE n xs.length with
    | false=>rw [hr] at hq; cases hq
    | true =>
     rw [hr] at hq
     obtain rfl:=qQc hq
     obtain ⟨b,o,c,rfl,h2⟩:=aE.elem hx (iK hr).2.2
     exact ⟨_,run_indexAt_slice hT hd he hr,h2⟩
   ·cases hq
  ·rename_i r p e'
   split at hq
   ·rename_i im rT xs aB
    split at hq
    ·rename_i hh
     obtain ⟨rfl,he⟩:=hh
     cases hr : dE n (bc xs p).length with
     | false=>rw [hr] at hq; cases hq
     | true =>
      rw [hr] at hq
      obtain rfl:=qQc hq
      obtain ⟨e0,d,cd,h1,h2,h3⟩:=hx
      obtain ⟨rfl,rfl,rfl⟩ : im = e0 ∧ rT = d ∧ xs = cd:=by rw [aB] at h1; cases h1; exact ⟨rfl,rfl,rfl⟩
      
      have hv : ∃ b q n' c,v = .slice (some ⟨b,q,none⟩) n' c ∧ n' = (bc xs p).length:=by
       have av:=(iK hr).2.2
       have bt:=hm.rt r _ aB
       rcases h2 with rfl | rfl
       ·obtain ⟨h4,-,h6⟩:=h3.bX
        rw [h6]
        cases rT with
        | true =>
         have bt : ak _ _ _ _ _ _:=bt
         generalize g.v r = vv at bt
         cases bt with
         | row _ _ _ _ cs V bp ho=>obtain ⟨b,q,c,hv⟩:=mf ho (by show 0 < xs.length; exact qZ8 (qQt _) av); exact ⟨b,q,_,c,hv,rfl⟩
        | false =>
         obtain ⟨cs,V,ho,_⟩:=aZ.ex bt
         obtain ⟨b,q,c,hv⟩:=mf ho (by show 0 < xs.length; exact qZ8 (qQt _) av); exact ⟨b,q,_,c,hv,rfl⟩
       ·obtain ⟨F',_,h5⟩:=ak.at h3 bt
        generalize bc xs p = ys at *
        cases h5 with
        | row _ _ _ _ cs V bp ho=>obtain ⟨b,q,c,hv⟩:=mf ho (qZ8 (qQt _) av); exact ⟨b,q,_,c,hv,rfl⟩
      obtain ⟨b,q,n',c,rfl,rfl⟩:=hv
      exact ⟨_,by rw [run_indexAt_slice hT hd he hr],im,rT,xs,b,q,_,c,aB,h2,h3,(iK hr).2.2,by rw [qQ5]⟩
    ·cases hq
   ·cases hq
  ·cases hq
 ·rename_i len e k n hd
  obtain rfl : vi = .int k n:=hi
  split at hq
  ·rename_i r o
   split at hq
   ·rename_i he
    cases hr : dE n len with
    | false=>rw [hr] at hq; cases hq
    | true =>
     rw [hr] at hq
     rw [qQh,ju] at hq
     have hq : some (SV.bx r (o + n.toNat * X.T.size e)) = some sv:=by
      split at hq
      ·rename_i h1
       rw [h1,qQy,qXm]; exact hq
      ·exact hq
     obtain rfl:=qQc hq
     obtain ⟨rfl,h2⟩:=hx
     exact ⟨_,DX hT hd he hr,rfl,h2⟩
   ·cases hq
  ·cases hq
 ·cases hq
theorem yY : ∀ {cs : List Cl} {ss : List ByteArray} {vs : List Value} {rt : List aa},qV cs = some ss → aw X w rt g cs vs → vs = ss.map .string
 | [],ss,[],rt,h,_=>by cases h; rfl
 | .str s :: cs,ss,v :: vs,rt,h,hc=>by
  unfold qV at h
  obtain ⟨ts,h1,rfl⟩:=qQf.1 h
  obtain rfl : v = .string s:=hc.1
  rw [yY h1 hc.2]; rfl
 | [],_,_ :: _,_,_,hc=>hc.elim
 | .str _ :: _,_,[],_,_,hc=>hc.elim
 | .int .. :: _,_,_,_,h,_=>by cases h
 | .bool .. :: _,_,_,_,h,_=>by cases h
 | .rd .. :: _,_,_,_,h,_=>by cases h
 | .nil :: _,_,_,_,h,_=>by cases h
 | .al .. :: _,_,_,_,h,_=>by cases h
 | .no :: _,_,_,_,h,_=>by cases h
theorem xF {k : IntKind} : ∀ {cs : List Cl} {ss : List Int} {vs : List Value} {rt : List aa},jL k cs = some ss → aw X w rt g cs vs → vs = ss.map (.int k)
 | [],ss,[],rt,h,_=>by cases h; rfl
 | .int k' s :: cs,ss,v :: vs,rt,h,hc=>by
  unfold jL at h
  split at h
  ·rename_i hk; subst hk
   obtain ⟨ts,h1,rfl⟩:=qQf.1 h
   obtain rfl : v = .int k s:=hc.1
   rw [xF h1 hc.2]; rfl
  ·cases h
 | [],_,_ :: _,_,_,hc=>hc.elim
 | .int .. :: _,_,[],_,_,hc=>hc.elim
 | .str .. :: _,_,_,_,h,_=>by cases h
 | .bool .. :: _,_,_,_,h,_=>by cases h
 | .rd .. :: _,_,_,_,h,_=>by cases h
 | .nil :: _,_,_,_,h,_=>by cases h
 | .al .. :: _,_,_,_,h,_=>by cases h
 | .no :: _,_,_,_,h,_=>by cases h
theorem vE : ∀ {cs : List Cl} {ss : List Bool} {vs : List Value} {rt : List aa},jj cs = some ss → aw X w rt g cs vs → vs = ss.map .bool
 | [],ss,[],rt,h,_=>by cases h; rfl
 | .bool s :: cs,ss,v :: vs,rt,h,hc=>by
  unfold jj at h
  obtain ⟨ts,h1,rfl⟩:=qQf.1 h
  obtain rfl : v = .bool s:=hc.1
  rw [vE h1 hc.2]; rfl
 | [],_,_ :: _,_,_,hc=>hc.elim
 | .bool _ :: _,_,[],_,_,hc=>hc.elim
 | .int .. :: _,_,_,_,h,_=>by cases h
 | .str .. :: _,_,_,_,h,_=>by cases h
 | .rd .. :: _,_,_,_,h,_=>by cases h
 | .nil :: _,_,_,_,h,_=>by cases h
 | .al .. :: _,_,_,_,h,_=>by cases h
 | .no :: _,_,_,_,h,_=>by cases h
theorem Co (hT : aX P X.T) {t : TypeId} {sx si sv : SV} {v vi : Value} (hx : ay X w st.rt g sx v) (hi : ay X w st.rt g si vi) (hq : qm X.T t sx si some = some sv) :
  ∃ u,(Instr.index t v vi).run P w = .ok u w ∧ ay X w st.rt g sv u:=by
 unfold qm at hq
 split at hq
 ·rename_i len e cs k n hd
  obtain rfl : vi = .int k n:=hi
  obtain ⟨vs,rfl,hc⟩:=hx
  split at hq
  ·rename_i jA
   split at hq
   ·rename_i ss nP
    split at hq
    ·rename_i hl
     cases hr : dE n len with
     | false=>rw [hr] at hq; cases hq
     | true =>
      rw [hr] at hq
      obtain rfl:=qQc hq
      obtain ⟨h0,h1,h2⟩:=iK hr
      have hv:=yY nP hc
      have jC : (X.T.row e).d.known = true:=by rw [jA]; rfl
      have nh : X.T.agg e = false:=by unfold ax.agg; rw [jA]; rfl
      have hp:=mq (w:=w) hT jC (cs:=vs) (o:=n.toNat * X.T.size e) (by rw [hv,hl.2]; simp; omega)
      rw [nh] at hp
      refine ⟨_,?_,rfl⟩
      have bD : ((vs.toList.drop (n.toNat * X.T.size e)).take (X.T.size e)).headD undef = .string (ss.getD n.toNat ByteArray.empty):=by
       rw [hv,hl.2,qXm,qYh (by simp; omega)]
       simp [qQe,qQg (show n.toNat < ss.length by omega)]
      simp only [dm,qZv,qZe,bD] at hp
      simp [Instr.index,asIntOf,run_underlying (oJ hT hd),h0,h1,run_sizeOf hT jC,hp]
    ·cases hq
   ·cases hq
  ·rename_i k' jA
   split at hq
   ·rename_i ss nP
    split at hq
    ·rename_i hl
     cases hr : dE n len with
     | false=>rw [hr] at hq; cases hq
     | true =>
      rw [hr] at hq
      obtain rfl:=qQc hq
      obtain ⟨h0,h1,h2⟩:=iK hr
      have hv:=xF nP hc
      have jC : (X.T.row e).d.known = true:=by rw [jA]; rfl
      have nh : X.T.agg e = false:=by unfold ax.agg; rw [jA]; rfl
      have hp:=mq (w:=w) hT jC (cs:=vs) (o:=n.toNat * X.T.size e) (by rw [hv,hl.2]; simp; omega)
      rw [nh] at hp
      refine ⟨_,?_,rfl⟩
      have bD : ((vs.toList.drop (n.toNat * X.T.size e)).take (X.T.size e)).headD undef = .int k' (ss.getD n.toNat 0):=by
       rw [hv,hl.2,qXm,qYh (by simp; omega)]
       simp [qQe,qQg (show n.toNat < ss.length by omega)]
      simp only [dm,qZv,qZe,bD] at hp
      simp [Instr.index,asIntOf,run_underlying (oJ hT hd),h0,h1,run_sizeOf hT jC,hp]
    ·cases hq
   ·cases hq
  ·rename_i jA
   split at hq
   ·rename_i ss nP
    split at hq
    ·rename_i hl
     cases hr : dE n len with
     | false=>rw [hr] at hq; cases hq
     | true =>
      rw [hr] at hq
      obtain rfl:=qQc hq
      obtain ⟨h0,h1,h2⟩:=iK hr
      have hv:=vE nP hc
      have jC : (X.T.row e).d.known = true:=by rw [jA]; rfl
      have nh : X.T.agg e = false:=by unfold ax.agg; rw [jA]; rfl
      have hp:=mq (w:=w) hT jC (cs:=vs) (o:=n.toNat * X.T.size e) (by rw [hv,hl.2]; simp; omega)
      rw [nh] at hp
      refine ⟨_,?_,rfl⟩
      have bD : ((vs.toList.drop (n.toNat * X.T.size e)).take (X.T.size e)).headD undef = .bool (ss.getD n.toNat false):=by
       rw [hv,hl.2,qXm,qYh (by simp; omega)]
       simp [qQe,qQg (show n.toNat < ss.length by omega)]
      simp only [dm,qZv,qZe,bD] at hp
      simp [Instr.index,asIntOf,run_underlying (oJ hT hd),h0,h1,run_sizeOf hT jC,hp]
    ·cases hq
   ·cases hq
  ·cases hq
 ·rename_i s k n hd
  obtain rfl : vi = .int k n:=hi
  obtain rfl : v = .string s:=hx
  cases hr : dE n s.size with
  | false=>rw [hr] at hq; cases hq
  | true =>
   rw [hr] at hq
   obtain rfl:=qQc hq
   obtain ⟨h0,h1,h2⟩:=iK hr
   refine ⟨.int .u8 (s.data.getD n.toNat 0).toNat,?_,rfl⟩
   have hg : s[n.toNat]? = some (s.data.getD n.toNat 0):=by
    have h3 : n.toNat < s.size:=h2
    have h4 : s[n.toNat]? = some s[n.toNat]:=getElem?_pos s n.toNat h3
    rw [h4]
    congr 1
    have h5 : n.toNat < s.data.size:=h3
    show _ = (if h : n.toNat < s.data.size then s.data[n.toNat] else 0)
    rw [dif_pos h5]; rfl
   simp [Instr.index,asIntOf,run_underlying (uZ hT hd),h0,hg]
 ·cases hq
theorem Ak {rt : List aa} : ∀ {ab : List CT} {xs ys : List Cl} {vs us : List Value} {r : Bool},aw X w rt g xs vs → aw X w rt g ys us → ke ab xs ys = some r → bQ ab vs us = some r:=by
 intro ab
 induction ab with
 | nil =>
  intro xs ys vs us r hx hy h
  unfold ke at h
  split at h <;> first | contradiction | skip
  cases vs with
  | cons=>exact hx.elim
  | nil=>cases us with
   | cons=>exact hy.elim
   | nil=>exact h
 | cons t ts ih =>
  intro xs ys vs us r hx hy h
  unfold ke at h
  split at h <;> first | contradiction | skip
  ·rename_i e
   cases vs with
   | nil=>exact hx.elim
   | cons v vs=>cases us with
    | nil=>exact hy.elim
    | cons u us =>
     obtain rfl : v = .int _ _:=hx.1
     obtain rfl : u = .int _ _:=hy.1
     split at h
     ·rename_i hk
      obtain ⟨s,h1,rfl⟩:=qQf.1 h
      cases e
      unfold bQ
      rw [if_pos hk,ih hx.2 hy.2 h1]; rfl
     ·cases h
  ·rename_i e
   cases vs with
   | nil=>exact hx.elim
   | cons v vs=>cases us with
    | nil=>exact hy.elim
    | cons u us =>
     obtain rfl : v = .bool _:=hx.1
     obtain rfl : u = .bool _:=hy.1
     obtain ⟨s,h1,rfl⟩:=qQf.1 h
     cases e
     unfold bQ
     rw [ih hx.2 hy.2 h1]; rfl
  ·rename_i e
   cases vs with
   | nil=>exact hx.elim
   | cons v vs=>cases us with
    | nil=>exact hy.elim
    | cons u us =>
     obtain rfl : v = .string _:=hx.1
     obtain rfl : u = .string _:=hy.1
     obtain ⟨s,h1,rfl⟩:=qQf.1 h
     cases e
     unfold bQ
     rw [ih hx.2 hy.2 h1]; rfl
theorem uX (x y : ByteArray) : (x.toList == y.toList) = decide (x = y):=by
 rw [qXi]
 simp only [beq_iff_eq,qQw,ByteArray.toList_eq]
 constructor
 ·intro h
  have h1 : x.data = y.data:=qZ2.1 h
  cases x; cases y
  exact qQq ByteArray.mk h1
 ·rintro rfl; rfl
theorem Cp {b : BinOp} {t : TypeId} {x y : Operand} {k : IntKind} {m n : Int} {sv : SV} {rt : List aa} (hq : qn b k m n some = some sv) :
  ∃ u,(do eqGuard b t x y (.int k m) (.int k n); binOp b t (.int k m) (.int k n) : Sem Value).run P w = .ok u w ∧ ay X w rt g sv u:=by
 cases b <;> simp only [qn] at hq <;> try (cases hq; done)
 case add=>obtain rfl:=qQc hq; exact ⟨.int k (k.wrap (m + n)),by simp [eqGuard,binOp,Op.intArith],rfl⟩
 case sub=>obtain rfl:=qQc hq; exact ⟨.int k (k.wrap (m - n)),by simp [eqGuard,binOp,Op.intArith],rfl⟩
 case mul=>obtain rfl:=qQc hq; exact ⟨.int k (k.wrap (m * n)),by simp [eqGuard,binOp,Op.intArith],rfl⟩
 case quo =>
  by_cases hz : n = 0
  ·simp [hz] at hq
  ·simp only [hz,decide_false,qQ3] at hq
   obtain rfl:=qQc hq
   exact ⟨.int k (k.wrap (m.tdiv n)),by simp [eqGuard,binOp,Op.intDiv,hz],rfl⟩
 case rem =>
  by_cases hz : n = 0
  ·simp [hz] at hq
  ·simp only [hz,decide_false,qQ3] at hq
   obtain rfl:=qQc hq
   exact ⟨.int k (m.tmod n),by simp [eqGuard,binOp,Op.intDiv,hz],rfl⟩
 case and=>obtain rfl:=qQc hq; exact ⟨.int k (ru k m n),by simp [eqGuard,binOp,Op.intBits,ru],rfl⟩
 case xor=>obtain rfl:=qQc hq; exact ⟨.int k (vf k m n),by simp [eqGuard,binOp,Op.intBits,vf],rfl⟩
 case eql=>obtain rfl:=qQc hq; exact ⟨.bool (decide (m = n)),by simp [eqGuard,binOp,Op.intCmp]; rfl,rfl⟩
 case neq=>obtain rfl:=qQc hq; exact ⟨.bool (!decide (m = n)),by simp [eqGuard,binOp,Op.intCmp,bne]; rfl,rfl⟩
 case lss=>obtain rfl:=qQc hq; exact ⟨.bool (decide (m < n)),by simp [eqGuard,binOp,Op.intCmp],rfl⟩
 case leq=>obtain rfl:=qQc hq; exact ⟨.bool (decide (m ≤ n)),by simp [eqGuard,binOp,Op.intCmp],rfl⟩
 case gtr=>obtain rfl:=qQc hq; exact ⟨.bool (decide (m > n)),by simp [eqGuard,binOp,Op.intCmp],rfl⟩
 case geq=>obtain rfl:=qQc hq; exact ⟨.bool (decide (m ≥ n)),by simp [eqGuard,binOp,Op.intCmp],rfl⟩
theorem zI (hT : aX P X.T) (hE : kP P X.T bh) {b : BinOp} {t : TypeId} {x y : Operand} {sx sy sv : SV} {vx vy : Value} (hx : ay X w st.rt g sx vx) (hy : ay X w st.rt g sy vy) (hq : pa X.T bh b t sx sy some = some sv) :
  ∃ u,(do eqGuard b t x y vx vy; binOp b t vx vy : Sem Value).run P w = .ok u w ∧ ay X w st.rt g sv u:=by
 unfold pa at hq
 split at hq
 ·rename_i k m k' n
  obtain rfl : vx = .int k m:=hx
  obtain rfl : vy = .int k' n:=hy
  split at hq
  ·rename_i hb; subst hb
   by_cases hn : n < 0
   ·simp [hn] at hq
   ·simp only [hn,decide_false,qQ3] at hq
    obtain rfl:=qQc hq
    exact ⟨.int k (uT k m n),by simp [eqGuard,binOp,Op.shift,uT,hn],rfl⟩
  ·split at hq
   ·rename_i hk; subst hk
    exact Cp hq
   ·cases hq
 ·rename_i m n
  obtain rfl : vx = .bool m:=hx
  obtain rfl : vy = .bool n:=hy
  split at hq
  ·rename_i hd
   obtain rfl:=qQc hq
   exact ⟨.bool (m == n),by simp [eqGuard,binOp,run_equal_bool w t m n (zc hT hd)],rfl⟩
  ·rename_i hd
   obtain rfl:=qQc hq
   exact ⟨.bool (!(m == n)),by simp [eqGuard,binOp,run_equal_bool w t m n (zc hT hd)],rfl⟩
  ·cases hq
 ·rename_i m n
  obtain rfl : vx = .string m:=hx
  obtain rfl : vy = .string n:=hy
  split at hq
  ·cases hz : decide (m.size + n.size ≤ 9223372036854775807) with
   | false=>rw [hz] at hq; cases hq
   | true =>
    rw [hz] at hq
    obtain rfl:=qQc hq
    exact ⟨.string (m ++ n),by simp [eqGuard,binOp,run_string_add_sum w m n (qZu hz)],rfl⟩
  ·obtain rfl:=qQc hq
   exact ⟨.bool (decide (m = n)),by simp [eqGuard,binOp,Op.stringOp,uX],rfl⟩
  ·obtain rfl:=qQc hq
   exact ⟨.bool (!decide (m = n)),by simp [eqGuard,binOp,Op.stringOp,uX],rfl⟩
  ·cases hq
 ·rename_i xs ys
  obtain ⟨vs,rfl,h1⟩:=hx
  obtain ⟨us,rfl,h2⟩:=hy
  split at hq
  ·rename_i he
   split at hq
   ·rename_i r hr
    have h3:=hE t he b x y vs us r (Ak h1 h2 hr) w
    split at hq
    ·obtain rfl:=qQc hq
     exact ⟨_,h3.1 rfl,rfl⟩
    ·obtain rfl:=qQc hq
     exact ⟨_,h3.2 rfl,rfl⟩
    ·cases hq
   ·cases hq
  ·cases hq
 ·cases hq
theorem vO (h : Rel X own0 w0 st a w g) : ∀ {xs : List Operand} {cs : List aH},kc (ev st) xs = some cs → bJ X w st.rt g cs (xs.map a.eval)
 | [],cs,hq=>by cases hq; trivial
 | x :: xs,cs,hq=>by
  unfold kc at hq
  split at hq
  ·rename_i c cs' h1 h2
   obtain rfl:=qQc hq
   refine ⟨?_,vO h h2⟩
   have hx:=ba h x
   generalize ev st x = sv at *
   unfold vL at h1
   split at h1 <;> try (cases h1; done)
   ·rename_i aW; obtain rfl:=qQc h1; exact hx.cl aW
   ·obtain rfl:=qQc h1; exact hx
   ·obtain rfl:=qQc h1; exact hx
  ·cases hq
theorem run_sliceBound {k : IntKind} {i : Int} {y : Nat} {code : BoundsCode} (h0 : 0 ≤ i) (h1 : i ≤ y) : (Instr.sliceBound (.int k i) y code).run P w = .ok i.toNat w:=by
 simp [Instr.sliceBound,asIntOf,h0,h1]
theorem aE.sub {e : TypeId} {xs : List (List U)} {A : Option Addr} {n c : Nat} (h : aE X.T.ct w (aq X w g) (.aj e) (.lst xs) (.slice A n c)) {l m : Nat} (hl : l ≤ m) (hm : m ≤ xs.length) :
  aE X.T.ct w (aq X w g) (.aj e) (.lst ((xs.drop l).take (m - l))) (.slice (if c = l then A else A.map (·.add (l * X.T.size e))) (m - l) (c - l)):=by
 have hlen : ((xs.drop l).take (m - l)).length = m - l:=by rw [qZc,qZl]; omega
 have bD : ∀ (i : Nat) x,((xs.drop l).take (m - l))[i]? = some x → xs[l + i]? = some x:=by
  intro i x hx
  rw [qZk] at hx
  split at hx
  ·rwa [qZb] at hx
  ·cases hx
 cases h with
 | aj e xs A c V hc xe hA hs h =>
  have:=aE.aj (T:=X.T.ct) (w:=w) (aq:=aq X w g) e ((xs.drop l).take (m - l)) (if c = l then A else A.map (·.add (l * X.T.size e))) (c - l) (fun i j=>V (l + i) j) (by rw [hlen]; omega) (by rw [hlen]; omega) (fun h0=>?_) (fun i x hx=>hs _ x (bD i x hx)) (fun i j x u ct hx hu ai=>h (l + i) j x u ct (bD i x hx) hu ai)
  ·rw [hlen] at this; exact this
  ·rw [hlen] at h0
   obtain ⟨b,o,rfl,hb,db⟩:=hA (by omega)
   refine ⟨b,o + l * X.T.size e,by rw [if_neg (by omega)]; simp [Addr.add_lit],hb,fun i j x hx hj=>?_⟩
   have e1 : (l + i) * (X.T.ct e).length = l * X.T.size e + i * (X.T.ct e).length:=qYf ..
   rw [← db (l + i) j x (bD i x hx) hj,qQ4,e1,qQ4]
theorem yT (hT : aX P X.T) (h : Rel X own0 w0 st a w g) {t : TypeId} {sv : SV} {sx : SV} {v : Value} {lo hi : Option Operand} (hx : ay X w st.rt g sx v)
  (hd : (∃ e xs,sx = .c (.rd e xs) ∧ (X.T.row t).d = .one (.aj e) ∧ (X.T.row e).d.known = true) ∨ (∃ s,sx = .c (.str s) ∧ (X.T.row t).d = .one .str))
  (hq : mz sx (lo.map (ev st)) (hi.map (ev st)) some = some sv) : ∃ u,(Instr.sliceAt t v (lo.map a.eval) (hi.map a.eval) none).run P w = .ok u w ∧ ay X w st.rt g sv u:=by
 rcases hd with ⟨e,xs,rfl,hd,he⟩ | ⟨s,rfl,hd⟩
 ·obtain ⟨A,c,rfl,hc,hm⟩:=aE.ja hx
  unfold mz at hq
  simp only at hq
  split at hq
  ·rename_i k1 l k2 m ff fc
   cases hz : decide (0 ≤ l ∧ l ≤ m ∧ m ≤ (xs.length : Int)) with
   | false=>rw [hz] at hq; cases hq
   | true =>
    rw [hz] at hq
    obtain rfl:=qQc hq
    have hz:=qZu hz
    have hb : (Instr.sliceBounds true xs.length c (lo.map a.eval) (hi.map a.eval) none).run P w = .ok (l.toNat,m.toNat,c) w:=by
     have h1 : ∀ x,hi = some x → a.eval x = .int k2 m:=by
      rintro x rfl
      have:=ba h x
      simp only [qQ7,qY7] at fc
      rw [fc] at this; exact this
     have h2 : ∀ x,lo = some x → a.eval x = .int k1 l:=by
      rintro x rfl
      have:=ba h x
      simp only [qQ7,qY7] at ff
      rw [ff] at this; exact this
     have h3 : hi = none → m.toNat = xs.length:=by
      rintro rfl
      simp only [qY8,qY9] at fc
      injection fc with hh; injection hh with _ hh; omega
     have h4 : lo = none → l.toNat = 0:=by
      rintro rfl
      simp only [qY8,qY9] at ff
      injection ff with hh; injection hh with _ hh; omega
     have gM : 0 ≤ m:=by omega
     have jF : m ≤ (c : Int):=by omega
     have jD : l ≤ (m.toNat : Int):=by omega
     cases hi with
     | none =>
      have h3:=h3 rfl
      cases lo with
      | none=>simp [Instr.sliceBounds,h3,h4 rfl]
      | some x=>simp [Instr.sliceBounds,h2 x rfl,run_sliceBound hz.1 (h3 ▸ jD),h3]
     | some y =>
      cases lo with
      | none=>simp [Instr.sliceBounds,h1 y rfl,run_sliceBound gM jF,h4 rfl]
      | some x=>simp [Instr.sliceBounds,h1 y rfl,run_sliceBound gM jF,h2 x rfl,run_sliceBound hz.1 jD]
    have hr:=aE.sub hx (l:=l.toNat) (m:=m.toNat) (by omega) (by omega)
    refine ⟨_,?_,by have e1 : (m - l).toNat = m.toNat - l.toNat:=by omega
                    rw [e1]; exact hr⟩
    simp [Instr.sliceAt,Instr.slice,run_underlying (eu hT hd),hb,run_sizeOf hT he]
  ·cases hq
 ·obtain rfl : v = .string s:=hx
  unfold mz at hq
  simp only at hq
  split at hq
  ·rename_i k1 l k2 m ff fc
   cases hz : decide (0 ≤ l ∧ l ≤ m ∧ m ≤ (s.size : Int)) with
   | false=>rw [hz] at hq; cases hq
   | true =>
    rw [hz] at hq
    obtain rfl:=qQc hq
    have hz:=qZu hz
    have hb : ∃ q,(Instr.sliceBounds false s.size s.size (lo.map a.eval) (hi.map a.eval) none).run P w = .ok (l.toNat,m.toNat,q) w:=by
     have h1 : ∀ x,hi = some x → a.eval x = .int k2 m:=by
      rintro x rfl
      have:=ba h x
      simp only [qQ7,qY7] at fc
      rw [fc] at this; exact this
     have h2 : ∀ x,lo = some x → a.eval x = .int k1 l:=by
      rintro x rfl
      have:=ba h x
      simp only [qQ7,qY7] at ff
      rw [ff] at this; exact this
     have h3 : hi = none → m.toNat = s.size:=by
      rintro rfl
      simp only [qY8,qY9] at fc
      injection fc with hh; injection hh with _ hh; omega
     have h4 : lo = none → l.toNat = 0:=by
      rintro rfl
      simp only [qY8,qY9] at ff
      injection ff with hh; injection hh with _ hh; omega
     have gM : 0 ≤ m:=by omega
     have jF : m ≤ (s.size : Int):=by omega
     have jD : l ≤ (m.toNat : Int):=by omega
     cases hi with
     | none =>
      have h3:=h3 rfl
      cases lo with
      | none=>exact ⟨_,by simp [Instr.sliceBounds,h3,h4 rfl]; rfl⟩
      | some x=>exact ⟨_,by simp [Instr.sliceBounds,h2 x rfl,run_sliceBound hz.1 (h3 ▸ jD),h3]; rfl⟩
     | some y =>
      cases lo with
      | none=>exact ⟨_,by simp [Instr.sliceBounds,h1 y rfl,run_sliceBound gM jF,h4 rfl]; rfl⟩
      | some x=>exact ⟨_,by simp [Instr.sliceBounds,h1 y rfl,run_sliceBound gM jF,h2 x rfl,run_sliceBound hz.1 jD]; rfl⟩
    obtain ⟨q,hb⟩:=hb
    refine ⟨_,?_,rfl⟩
    simp [Instr.sliceAt,Instr.slice,run_underlying (uZ hT hd),hb]
  ·cases hq
theorem qG (hT : aX P X.T) (hE : kP P X.T bh) (h : Rel X own0 w0 st a w g) (o : Oper) {sv : SV} (hq : qK X.T bh st.rt (ev st) o.op some = some sv) :
  ∃ v,(execOp a.eval o).run P w = .ok (.value v) w ∧ ay X w st.rt g sv v:=by
 obtain ⟨dst,op,type,pos,after,guard⟩:=o
 have key : ∀ {s : Sem Value} {u : Value},s.run P w = .ok u w → (do pure (Next.value (← s)) : Sem Next).run P w = .ok (.value u) w:=fun hs=>by simp [hs]
 cases op <;> simp only [qK] at hq <;> try (cases hq; done)
 case move x=>obtain rfl:=qQc hq; exact ⟨_,by simp [execOp],ba h x⟩
 case assign x=>obtain rfl:=qQc hq; exact ⟨_,by simp [execOp],ba h x⟩
 case pick c x y =>
  have hc:=ba h c
  split at hq
  ·rename_i z hz
   rw [hz] at hc
   have hc : a.eval c = .bool z:=hc
   cases z with
   | true=>obtain rfl:=qQc hq; exact ⟨_,by simp [execOp,hc,asBool],ba h x⟩
   | false=>obtain rfl:=qQc hq; exact ⟨_,by simp [execOp,hc,asBool],ba h y⟩
  ·cases hq
 case load t x=>obtain ⟨u,h1,h2⟩:=CG hT h.mem (ba h x) hq; exact ⟨u,key h1,h2⟩
 case fieldAddr t x f=>obtain ⟨u,h1,h2⟩:=Ar hT (ba h x) hq; exact ⟨u,key h1,h2⟩
 case field t x f=>obtain ⟨u,h1,h2⟩:=As hT (ba h x) hq; exact ⟨u,key h1,h2⟩
 case indexAddr t x i=>obtain ⟨u,h1,h2⟩:=Cn hT h.mem (ba h x) (ba h i) hq; exact ⟨u,key h1,h2⟩
 case index t x i=>obtain ⟨u,h1,h2⟩:=Co hT (ba h x) (ba h i) hq; exact ⟨u,key h1,h2⟩
 case binOp b t x y t2=>obtain ⟨u,h1,h2⟩:=zI (x:=x) (y:=y) hT hE (ba h x) (ba h y) hq; exact ⟨u,key h1,h2⟩
 case unOp u t x =>
  cases u <;> simp only at hq <;> try (cases hq; done)
  all_goals
   have hx:=ba h x
   split at hq
   ·rename_i hz
    rw [hz] at hx
    obtain rfl:=qQc hq
    have hx : a.eval x = _:=hx
    exact ⟨_,by simp [execOp,Op.unary,hx,Op.intArith],rfl⟩
   ·cases hq
 case convert s d x =>
  have hx:=ba h x
  split at hq
  ·rename_i c k k' n hs hd hz
   rw [hz] at hx
   obtain rfl:=qQc hq
   have hx : a.eval x = .int k' n:=hx
   obtain ⟨desc,h1,h2⟩:=kN hT hs rfl
   exact ⟨.int k (k.wrap n),by simp [execOp,convert,run_underlying h1,run_underlying (Eo hT hd),hx,Conv.intToInt],rfl⟩
  ·cases hq
 case extract x i =>
  have hx:=ba h x
  split at hq
  ·rename_i vs hz
   rw [hz] at hx
   obtain ⟨us,h1,h2⟩:=hx
   have bf : ∀ (vs : List (Bool × List Cl)) (us : List Value) (i : Nat) (y : Bool × List Cl),bm X w st.rt g vs us → vs[i]? = some y → ∃ u,us[i]? = some u ∧ (y.1 = true → ∃ cs,u = .agg cs ∧ aw X w st.rt g y.2 cs.toList) ∧ (∀ c,y = (false,[c]) → aF X w st.rt g c u):=by
    intro vs
    induction vs with
    | nil=>intro us i y _ hy; simp at hy
    | cons z zs ih =>
     intro us i y ht hy
     obtain ⟨zb,zl⟩:=z
     cases us with
     | nil=>cases zb <;> simp [bm] at ht
     | cons u us =>
      have BY : bm X w st.rt g zs us:=by
       cases zb with
       | true=>exact ht.2
       | false =>
        cases zl with
        | nil=>exact ht
        | cons c zl=>cases zl with
         | nil=>exact ht.2
         | cons=>exact ht
      cases i with
      | zero =>
       simp at hy; subst hy
       refine ⟨u,rfl,fun hb=>?_,fun c hc=>?_⟩
       ·simp only at hb; subst hb; exact ht.1
       ·injection hc with hb hc; subst hb; subst hc; exact ht.1
      | succ i =>
       obtain ⟨u',h3,h4⟩:=ih us i y BY (by simpa using hy)
       exact ⟨u',by simpa using h3,h4⟩
   split at hq
   ·rename_i cs hc
    obtain rfl:=qQc hq
    obtain ⟨u,h3,h4,-⟩:=bf _ _ _ _ h2 hc
    exact ⟨u,by simp [execOp,Instr.extract,h1,(by simpa using h3 : us[i]? = some u)],h4 rfl⟩
   ·rename_i c hc
    obtain rfl:=qQc hq
    obtain ⟨u,h3,-,h4⟩:=bf _ _ _ _ h2 hc
    exact ⟨u,by simp [execOp,Instr.extract,h1,(by simpa using h3 : us[i]? = some u)],ay.cj (h4 c rfl)⟩
   ·cases hq
  ·cases hq
 case makeFunc f first az =>
  cases f <;> simp only at hq <;> try (cases hq; done)
  rename_i f
  split at hq
  ·rename_i cs hf hc
   obtain rfl:=qQc hq
   have Bp : first = #[]:=by cases first; simpa using hf
   subst Bp
   exact ⟨.func (.func f) #[] (az.map a.eval),by simp [execOp,Instr.makeFunc],_,rfl,by simpa using vO h hc⟩
  ·cases hq
 case nilCheck x =>
  have hx:=ba h x
  split at hq
  ·rename_i r j hz; rw [hz] at hx; obtain rfl:=qQc hq
   exact ⟨a.eval x,by rw [hx.1]; simp [execOp,hx.1],hx⟩
  ·rename_i e us j hz; rw [hz] at hx; obtain rfl:=qQc hq
   exact ⟨a.eval x,by obtain ⟨b,off,h1,_⟩:=hx; simp [execOp,h1],hx⟩
  ·rename_i r p e i j hz; rw [hz] at hx; obtain rfl:=qQc hq
   exact ⟨a.eval x,by obtain ⟨e0,d,xs,b,q,n,c,_,_,_,_,h1⟩:=hx; simp [execOp,h1],hx⟩
  ·cases hq
 case slice t x lo hi mx =>
  cases mx <;> simp only at hq <;> try (cases hq; done)
  have hx:=ba h x
  split at hq
  ·rename_i e e' xs hd hz
   split at hq
   ·rename_i he
    obtain ⟨rfl,he⟩:=he
    rw [hz] at hx
    obtain ⟨u,h1,h2⟩:=yT hT h hx (.inl ⟨e,xs,rfl,hd,he⟩) hq
    exact ⟨u,key h1,h2⟩
   ·cases hq
  ·rename_i s hd hz
   rw [hz] at hx
   obtain ⟨u,h1,h2⟩:=yT hT h hx (.inr ⟨s,rfl,hd⟩) hq
   exact ⟨u,key h1,h2⟩
  ·cases hq
 case call c =>
  obtain ⟨callee,args,argTypes⟩:=c
  simp only at hq
  split at hq
  ·rename_i x t cu gR
   obtain rfl : args = #[x]:=by cases args; simpa using cu
   obtain rfl : argTypes = #[t]:=by cases argTypes; simpa using gR
   have hx:=ba h x
   have mm : ∀ {n : Int},(Builtin.len_ #[t] type #[a.eval x]).run P w = .ok (.int .i64 n) w → (execOp a.eval ⟨dst,.call ⟨.builtin .len,#[x],#[t]⟩,type,pos,after,guard⟩).run P w = .ok (.value (.int .i64 n)) w:=fun hr=>by
    simp [execOp,resolve,invoke,builtin,hr]
   split at hq
   ·rename_i e hd
    unfold lS at hq
    split at hq
    ·rename_i e' xs hz
     rw [hz] at hx
     obtain rfl:=qQc hq
     obtain ⟨A,c,h1,-⟩:=aE.ja hx
     exact ⟨_,mm (by simp [Builtin.len_,run_underlying (eu hT hd),h1,goInt]),rfl⟩
    ·rename_i hz
     rw [hz] at hx
     obtain rfl:=qQc hq
     have h1 : a.eval x = .slice none 0 0:=hx
     exact ⟨_,mm (by simp [Builtin.len_,run_underlying (eu hT hd),h1,goInt]),rfl⟩
    ·rename_i r p e' hz
     rw [hz] at hx
     split at hq
     ·rename_i e0 d xs hr
      obtain rfl:=qQc hq
      obtain ⟨im,d',cd,h1,h2⟩:=aF.fY h.mem hx
      obtain ⟨rfl,rfl,rfl⟩ : e0 = im ∧ d = d' ∧ xs = cd:=by rw [hr] at h1; cases h1; exact ⟨rfl,rfl,rfl⟩
      obtain ⟨A,c,h3,-⟩:=aE.ja (h2 (fun _=>True) (fun _ _=>trivial) (fun _ _=>trivial))
      exact ⟨_,mm (by simp [Builtin.len_,run_underlying (eu hT hd),h3,goInt]),rfl⟩
     ·cases hq
    ·cases hq
   ·rename_i hd
    split at hq
    ·rename_i s hz
     rw [hz] at hx
     obtain rfl:=qQc hq
     have h1 : a.eval x = .string s:=hx
     exact ⟨_,mm (by simp [Builtin.len_,run_underlying (uZ hT hd),h1,goInt]),rfl⟩
    ·cases hq
   ·cases hq
  ·rename_i x y cu
   obtain rfl : args = #[x,y]:=by cases args; simpa using cu
   have hx:=ba h x
   have hy:=ba h y
   unfold oh at hq
   split at hq
   ·rename_i k m k' n tX tY
    rw [tX] at hx; rw [tY] at hy
    have hx : a.eval x = .int k m:=hx
    have hy : a.eval y = .int k' n:=hy
    split at hq
    ·obtain rfl:=qQc hq
     refine ⟨.int k (min m n),?_,rfl⟩
     have : (if n < m then n else m) = min m n:=by omega
     simp [execOp,resolve,invoke,builtin,hx,hy,Builtin.min_,Builtin.min2,this]
    ·cases hq
   ·cases hq
  ·rename_i x y cu
   obtain rfl : args = #[x,y]:=by cases args; simpa using cu
   have hx:=ba h x
   have hy:=ba h y
   unfold oh at hq
   split at hq
   ·rename_i k m k' n tX tY
    rw [tX] at hx; rw [tY] at hy
    have hx : a.eval x = .int k m:=hx
    have hy : a.eval y = .int k' n:=hy
    split at hq
    ·obtain rfl:=qQc hq
     refine ⟨.int k (max m n),?_,rfl⟩
     have : (if m < n then n else m) = max m n:=by omega
     simp [execOp,resolve,invoke,builtin,hx,hy,Builtin.max_,Builtin.max2,this]
    ·cases hq
   ·cases hq
  ·cases hq
end
end Go.Proofs.YtaghmjcfaplkiaaGreat.Eng
/- half -/
