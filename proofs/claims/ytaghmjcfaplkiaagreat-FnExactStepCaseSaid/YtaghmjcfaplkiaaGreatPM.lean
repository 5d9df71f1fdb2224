/- How many elements data have; marks on data; loops over them. Of no program. -/
import Derived.Test.YtaghmjcfaplkiaaGreatPL
namespace Go.Proofs.YtaghmjcfaplkiaaGreat.Eng
open Go.RowKit
set_option linter.unusedVariables false

theorem FB {α : Type} {l : List α} {i : Nat} {z : α} (h : i < l.length) : l.getD i z ∈ l := by
 rw [List.getD_eq_getElem?_getD, List.getElem?_eq_getElem h]; exact List.getElem_mem h
mutual
/-- How many elements. -/
def FV : U → Nat
 | .lst xs => Fx xs
 | _ => 0
def FP : List U → Nat
 | [] => 0
 | u :: us => FV u + FP us
def Fx : List (List U) → Nat
 | [] => 0
 | x :: xs => 1 + FP x + Fx xs
end
mutual
/-- How many marks. -/
def nU : U → Nat
 | .lst xs => Fv xs
 | _ => 1
def nR : List U → Nat
 | [] => 0
 | u :: us => nU u + nR us
def Fv : List (List U) → Nat
 | [] => 0
 | x :: xs => nR x + Fv xs
end
mutual
/-- Data, marked from k on; 'tx': how texts are marked. -/
def PA (tx : Int → ByteArray) : U → Int → U
 | .int _, k => .int k
 | .bool _, k => .bool (decide (k.tmod 3 = 0))
 | .str _, k => .str (tx k)
 | .lst xs, k => .lst (FC tx xs k)
def Hc (tx : Int → ByteArray) : List U → Int → List U
 | [], _ => []
 | u :: us, k => PA tx u k :: Hc tx us (k + (nU u : Int))
def FC (tx : Int → ByteArray) : List (List U) → Int → List (List U)
 | [], _ => []
 | x :: xs, k => Hc tx x k :: FC tx xs (k + (nR x : Int))
end
theorem XL (tx : Int → ByteArray) : ∀ (x : List U) (k : Int), (Hc tx x k).length = x.length
 | [], k => by simp [Hc]
 | u :: us, k => by simp [Hc, XL tx us]
theorem Ht (tx : Int → ByteArray) : ∀ (xs : List (List U)) (k : Int), (FC tx xs k).length = xs.length
 | [], k => by simp [FC]
 | x :: xs, k => by simp [FC, Ht tx xs]
theorem FF : ∀ (xs : List (List U)), xs.length ≤ Fx xs
 | [] => by simp [Fx]
 | x :: xs => by have := FF xs; simp only [Fx, List.length_cons]; omega
theorem Vn : ∀ (xs : List (List U)) (i : Nat), i < xs.length → Fx (xs.drop i) = 1 + FP (xs.getD i []) + Fx (xs.drop (i + 1))
 | [], i, h => by simp at h
 | x :: xs, 0, h => by simp [Fx]
 | x :: xs, i + 1, h => by
  have := Vn xs i (by simpa using h)
  simpa using this
theorem FX : ∀ {xs : List (List U)} {x : List U}, x ∈ xs → FP x < Fx xs
 | y :: ys, x, h => by
  simp only [Fx]
  rcases List.mem_cons.1 h with rfl | h
  ·omega
  ·have := FX h; omega
theorem XN : ∀ (xs : List (List U)) (i : Nat), i < xs.length → Fv (xs.drop i) = nR (xs.getD i []) + Fv (xs.drop (i + 1))
 | [], i, h => by simp at h
 | x :: xs, 0, h => by simp [Fv]
 | x :: xs, i + 1, h => by
  have := XN xs i (by simpa using h)
  simpa using this
theorem Hu : ∀ {xs : List (List U)} {x : List U}, x ∈ xs → nR x ≤ Fv xs
 | y :: ys, x, h => by
  simp only [Fv]
  rcases List.mem_cons.1 h with rfl | h
  ·omega
  ·have := Hu h; omega
/-- What a law's measure of its arguments leaves. -/
def FY (n : Nat) (left : Int) : Int := if (n : Int) ≤ left then left - (n : Int) else -1
theorem XM (tx : Int → ByteArray) : ∀ (xs : List (List U)) (k : Int) (i : Nat), i < xs.length → ∃ k', k ≤ k' ∧ k' + (Fv (xs.drop i) : Int) = k + (Fv xs : Int) ∧ (FC tx xs k).drop i = FC tx (xs.drop i) k'
 | [], k, i, h => by simp at h
 | x :: xs, k, 0, h => ⟨k, Int.le_refl _, by simp, by simp⟩
 | x :: xs, k, i + 1, h => by
  obtain ⟨k', h1, h2, h3⟩ := XM tx xs (k + (nR x : Int)) i (by simpa using h)
  refine ⟨k', by omega, ?_, by simpa [FC] using h3⟩
  simp only [List.drop_succ_cons, Fv]
  omega
/-- A loop that marks. -/
theorem HH (tx : Int → ByteArray) {l0 : Int → Int → List (List U) → Option aJ} {xs : List (List U)} (Hb : ∀ k s, s.length = xs.length → l0 k (xs.length : Int) s = some ⟨[[.int k]], [s]⟩)
  (iH : ∀ i, i < xs.length → ∀ (k : Int) (s : List (List U)), s.length = xs.length → s.getD i [] = xs.getD i [] → 0 ≤ k → k + (nR (xs.getD i []) : Int) ≤ 4611686018427387904 → l0 k (i : Int) s = l0 (k + (nR (xs.getD i []) : Int)) ((i + 1 : Nat) : Int) (s.set i (Hc tx (xs.getD i []) k))) :
  ∀ {k : Int}, 0 ≤ k → k + (Fv xs : Int) ≤ 4611686018427387904 → l0 k 0 xs = some ⟨[[.int (k + (Fv xs : Int))]], [FC tx xs k]⟩ := by
 have key : ∀ (ys : List (List U)) (pre : List (List U)) (k : Int) (i : Nat), i + ys.length = xs.length → pre.length = i → ys = xs.drop i → 0 ≤ k → k + (Fv ys : Int) ≤ 4611686018427387904 → l0 k (i : Int) (pre ++ ys) = some ⟨[[.int (k + (Fv ys : Int))]], [pre ++ FC tx ys k]⟩ := by
  intro ys
  induction ys with
  | nil =>
   intro pre k i h1 h2 h3 h4 h5
   have hi : i = xs.length := by simpa using h1
   subst hi
   rw [Hb k (pre ++ []) (by simp [h2])]
   simp [Fv, FC]
  | cons y ys ih =>
   intro pre k i h1 h2 h3 h4 h5
   simp only [List.length_cons] at h1
   simp only [Fv] at h5 ⊢
   have hi : i < xs.length := by omega
   have hy : xs.getD i [] = y := by
    rw [List.getD_eq_getElem?_getD]
    have : xs[i]? = (xs.drop i)[0]? := by rw [List.getElem?_drop]; rfl
    rw [this, ← h3]; rfl
   have hs := iH i hi k (pre ++ y :: ys) (by simp; omega) (by rw [hy, List.getD_eq_getElem?_getD, List.getElem?_append_right (by omega), h2, Nat.sub_self]; rfl) h4 (by rw [hy]; omega)
   rw [hy] at hs
   have e1 : (pre ++ y :: ys).set i (Hc tx y k) = (pre ++ [Hc tx y k]) ++ ys := by
    rw [List.set_append_right _ _ (by omega), h2, Nat.sub_self, List.append_assoc]; rfl
   rw [e1] at hs
   have q := ih (pre ++ [Hc tx y k]) (k + (nR y : Int)) (i + 1) (by omega) (by simp [h2]) (by rw [← List.tail_drop, ← h3]; rfl) (by omega) (by omega)
   rw [hs, q, FC]
   simp [Int.add_assoc]
 intro k h1 h2
 have := key xs [] k 0 (by simp) rfl rfl h1 h2
 simpa using this
/-- A loop that reads marks back. -/
theorem HD (tx : Int → ByteArray) {l0 : Int → Int → Option aJ} {xs : List (List U)} {m : Int} (hm : 0 ≤ m) (hb : m + (Fv xs : Int) ≤ 4611686018427387904) (Hb : ∀ k, l0 k (xs.length : Int) = some ⟨[[.int k]], []⟩)
  (iH : ∀ i, i < xs.length → ∀ (k : Int), (FC tx xs m).getD i [] = Hc tx (xs.getD i []) k → 0 ≤ k → k + (nR (xs.getD i []) : Int) ≤ 4611686018427387904 → l0 k (i : Int) = l0 (k + (nR (xs.getD i []) : Int)) ((i + 1 : Nat) : Int)) : l0 m 0 = some ⟨[[.int (m + (Fv xs : Int))]], []⟩ := by
 have key : ∀ (ys : List (List U)) (k : Int) (i : Nat), i + ys.length = xs.length → ys = xs.drop i → (FC tx xs m).drop i = FC tx ys k → k + (Fv ys : Int) = m + (Fv xs : Int) → 0 ≤ k → l0 k (i : Int) = some ⟨[[.int (m + (Fv xs : Int))]], []⟩ := by
  intro ys
  induction ys with
  | nil =>
   intro k i h1 h2 h3 h4 h5
   have hi : i = xs.length := by simpa using h1
   subst hi
   rw [Hb k, ← h4]
   simp [Fv]
  | cons y ys ih =>
   intro k i h1 h2 h3 h4 h5
   simp only [List.length_cons] at h1
   simp only [Fv] at h4
   have hi : i < xs.length := by omega
   have hy : xs.getD i [] = y := by
    rw [List.getD_eq_getElem?_getD]
    have : xs[i]? = (xs.drop i)[0]? := by rw [List.getElem?_drop]; rfl
    rw [this, ← h2]; rfl
   have hz : (FC tx xs m).getD i [] = Hc tx y k := by
    rw [List.getD_eq_getElem?_getD]
    have : (FC tx xs m)[i]? = ((FC tx xs m).drop i)[0]? := by rw [List.getElem?_drop]; rfl
    rw [this, h3, FC]; rfl
   rw [iH i hi k (by rw [hy]; exact hz) h5 (by rw [hy]; omega), hy]
   refine ih (k + (nR y : Int)) (i + 1) (by omega) (by rw [← List.tail_drop, ← h2]; rfl) ?_ (by omega) (by omega)
   rw [← List.tail_drop, h3, FC]; rfl
 exact key xs m 0 (by simp) rfl rfl rfl hm
/-- A loop that measures. -/
theorem Mt {l0 : Int → Int → Option aJ} {xs : List (List U)} {c : List U → Nat} (Hb : ∀ l, l0 l (xs.length : Int) = some ⟨[[.int l]], []⟩)
  (iH : ∀ i, i < xs.length → ∀ l : Int, 0 ≤ l → l ≤ 1048576 → l0 l (i : Int) = if (c (xs.getD i []) : Int) ≤ l then l0 (l - (c (xs.getD i []) : Int)) ((i + 1 : Nat) : Int) else some ⟨[[.int (-1)]], []⟩) :
  ∀ {l : Int}, 0 ≤ l → l ≤ 1048576 → l0 l 0 = some ⟨[[.int (FY ((xs.map c).sum) l)]], []⟩ := by
 have key : ∀ i, i ≤ xs.length → ∀ l : Int, 0 ≤ l → l ≤ 1048576 → l0 l (i : Int) = some ⟨[[.int (FY (((xs.drop i).map c).sum) l)]], []⟩ := by
  refine down xs.length ?_ ?_
  ·intro l h0 h1
   rw [Hb l, List.drop_length]
   simp [FY, h0]
  ·intro i hi h l h0 h1
   have e : xs.drop i = xs.getD i [] :: xs.drop (i + 1) := by
    rw [List.drop_eq_getElem_cons hi, List.getD_eq_getElem?_getD, List.getElem?_eq_getElem hi]; rfl
   rw [iH i hi l h0 h1, e, List.map_cons, List.sum_cons]
   by_cases hc : (c (xs.getD i []) : Int) ≤ l
   ·rw [if_pos hc, h _ (by omega) (by omega)]
    unfold FY
    by_cases h2 : (((xs.drop (i + 1)).map c).sum : Int) ≤ l - (c (xs.getD i []) : Int)
    ·have e2 : l - (c (xs.getD i []) : Int) - (((xs.drop (i + 1)).map c).sum : Int) = l - ((c (xs.getD i []) + ((xs.drop (i + 1)).map c).sum : Nat) : Int) := by omega
     rw [if_pos h2, if_pos (by omega), e2]
    ·rw [if_neg h2, if_neg (by omega)]
   ·rw [if_neg hc]
    unfold FY
    rw [if_neg (by omega)]
 intro l h0 h1
 have := key 0 (Nat.zero_le _) l h0 h1
 simpa using this
theorem Hk : ∀ xs : List (List U), Fx xs = xs.length + (xs.map FP).sum
 | [] => by simp [Fx]
 | x :: xs => by rw [Fx, Hk xs, List.map_cons, List.sum_cons, List.length_cons]; omega
end Go.Proofs.YtaghmjcfaplkiaaGreat.Eng
namespace Go.Proofs.YtaghmjcfaplkiaaGreat.Eng
open Go.RowKit
/-- One measure after the other. -/
theorem GI {o : Option aJ} {a b : Nat} {l : Int} (h0 : 0 ≤ l) (h1 : l ≤ 1048576) (ho : o = some ⟨[[.int (FY a l)]], []⟩) {G : Int → Option aJ} (hG : ∀ l', 0 ≤ l' → l' ≤ 1048576 → G l' = some ⟨[[.int (FY b l')]], []⟩) :
  (o.bind fun r => bif decide ((r.u 0 0).toInt < 0) then some ⟨[[.int (-1)]], []⟩ else G ((r.u 0 0).toInt)) = some ⟨[[.int (FY (a + b) l)]], []⟩ := by
 rw [ho]
 show (bif decide (FY a l < 0) then some ⟨[[.int (-1)]], []⟩ else G (FY a l)) = _
 unfold FY
 by_cases h : (a : Int) ≤ l
 ·rw [if_pos h, decide_eq_false (by omega), cond_false, hG _ (by omega) (by omega)]
  unfold FY
  by_cases h2 : (b : Int) ≤ l - (a : Int)
  ·have e2 : l - (a : Int) - (b : Int) = l - ((a + b : Nat) : Int) := by omega
   rw [if_pos h2, if_pos (by omega), e2]
  ·rw [if_neg h2, if_neg (by omega)]
 ·rw [if_neg h, if_neg (by omega)]; rfl
theorem He {l : Int} (h0 : 0 ≤ l) : (some ⟨[[.int l]], []⟩ : Option aJ) = some ⟨[[.int (FY 0 l)]], []⟩ := by
 unfold FY
 rw [if_pos (by omega)]; simp
/-- A step of a loop that measures. -/
theorem Mu {o : Option aJ} {a : Nat} {l : Int} (_h0 : 0 ≤ l) (ho : o = some ⟨[[.int (FY a l)]], []⟩) {G : Int → Option aJ} :
  (o.bind fun r => bif decide ((r.u 0 0).toInt < 0) then some ⟨[[.int (-1)]], []⟩ else G ((r.u 0 0).toInt)) = if (a : Int) ≤ l then G (l - (a : Int)) else some ⟨[[.int (-1)]], []⟩ := by
 rw [ho]
 show (bif decide (FY a l < 0) then some ⟨[[.int (-1)]], []⟩ else G (FY a l)) = _
 unfold FY
 by_cases h : (a : Int) ≤ l
 ·rw [if_pos h, if_pos h, decide_eq_false (by omega), cond_false]
 ·rw [if_neg h, if_neg h]; rfl
theorem Hy {l0 : Int → Option aJ} {n m : Nat} {l : Int} (hn : n ≤ 9223372036854775807) (h0 : 0 ≤ l) (h1 : l ≤ 1048576) (h : (n : Int) ≤ l → l0 (l - (n : Int)) = some ⟨[[.int (FY m (l - (n : Int)))]], []⟩) :
  (bif decide (IntKind.i64.wrap (l - (n : Int)) < 0) then some ⟨[[.int (-1)]], []⟩ else l0 (IntKind.i64.wrap (l - (n : Int)))) = some ⟨[[.int (FY (n + m) l)]], []⟩ := by
 rw [Gf (by omega) (by omega)]
 by_cases hl : (n : Int) ≤ l
 ·rw [decide_eq_false (by omega), cond_false, h hl]
  unfold FY
  by_cases h2 : (m : Int) ≤ l - (n : Int)
  ·have e2 : l - (n : Int) - (m : Int) = l - ((n + m : Nat) : Int) := by omega
   rw [if_pos h2, if_pos (by omega), e2]
  ·rw [if_neg h2, if_neg (by omega)]
 ·rw [decide_eq_true (by omega), cond_true]
  unfold FY
  rw [if_neg (by omega)]
theorem Lj {xs : List (List U)} (h : ∀ x ∈ xs, FP x = 0) : (xs.map FP).sum = 0 := by
 induction xs with
 | nil => rfl
 | cons x xs ih => rw [List.map_cons, List.sum_cons, h x (by simp), ih fun y hy => h y (by simp [hy])]
/-! ### Types of one shape -/
def CT.bE (Hd : List (TypeId × TypeId)) : CT → CT
 | .aj e => .aj ((Hd.lookup e).getD e)
 | c => c
def Rg (T : ax) (Hd : List (TypeId × TypeId)) : Bool := Hd.all fun p => decide ((T.ct p.1).map (CT.bE Hd) = T.ct p.2)
theorem Tw {Hd : List (TypeId × TypeId)} {e e' : TypeId} (h : Hd.lookup e = some e') : (e, e') ∈ Hd := by
 induction Hd with
 | nil => cases h
 | cons p Hd ih =>
  obtain ⟨a, b⟩ := p
  rw [List.lookup_cons] at h
  split at h
  ·rename_i he
   obtain rfl : e = a := by simpa using he
   cases h; simp
  ·exact List.mem_cons_of_mem _ (ih h)
theorem WT.FZ {T : ax} {Hd : List (TypeId × TypeId)} (hp : Rg T Hd = true) {ct : CT} {u : U} (h : WT T.ct ct u) : WT T.ct (ct.bE Hd) u := by
 induction h with
 | int k n h => exact .int k n h
 | bool b => exact .bool b
 | str s h => exact .str s h
 | aj e xs hm hs h ih =>
  cases hl : Hd.lookup e with
  | none =>
   show WT T.ct (.aj ((Hd.lookup e).getD e)) _
   rw [hl]
   exact .aj e xs hm hs h
  | some e' =>
   show WT T.ct (.aj ((Hd.lookup e).getD e)) _
   rw [hl]
   have h1 := List.all_eq_true.1 hp _ (Tw hl)
   have h1 : (T.ct e).map (CT.bE Hd) = T.ct e' := by simpa using h1
   refine .aj e' xs hm (fun i x hx => ?_) fun i j x u ct hx hu ai => ?_
   ·show x.length = (T.ct e').length
    rw [← h1, List.length_map]; exact hs i x hx
   ·have ai : (T.ct e')[j]? = some ct := ai
    rw [← h1, List.getElem?_map] at ai
    obtain ⟨c, hc, rfl⟩ := Option.map_eq_some_iff.1 ai
    exact ih i j x u c hx hu hc
theorem zx.FZ {T : ax} {Hd : List (TypeId × TypeId)} (hp : Rg T Hd = true) {ab : List CT} {us : List U} (h : zx T.ct ab us) : zx T.ct (ab.map (CT.bE Hd)) us := by
 refine ⟨by rw [List.length_map]; exact h.1, fun j ct u ai hu => ?_⟩
 rw [List.getElem?_map] at ai
 obtain ⟨c, hc, rfl⟩ := Option.map_eq_some_iff.1 ai
 exact (h.2 j c u hc hu).FZ hp
theorem WR.FZ {T : ax} {Hd : List (TypeId × TypeId)} (hp : Rg T Hd = true) {e e' : TypeId} (he : Hd.lookup e = some e') {xs : List (List U)} (h : WR T.ct e xs) : WR T.ct e' xs := by
 refine ⟨h.1, fun x hx => ?_⟩
 have h1 := List.all_eq_true.1 hp _ (Tw he)
 have h1 : (T.ct e).map (CT.bE Hd) = T.ct e' := by simpa using h1
 have := (h.2 x hx).FZ hp
 rw [h1] at this
 exact this
end Go.Proofs.YtaghmjcfaplkiaaGreat.Eng
namespace Go.Proofs.YtaghmjcfaplkiaaGreat.Eng
open Go.RowKit
theorem Gu (tx : Int → ByteArray) (k : Int) : Hc tx [] k = [] := by simp [Hc]
theorem Gs (tx : Int → ByteArray) (n : Int) (us : List U) (k : Int) : Hc tx (.int n :: us) k = .int k :: Hc tx us (k + 1) := by simp [Hc, PA, nU]
theorem Gr (tx : Int → ByteArray) (b : Bool) (us : List U) (k : Int) : Hc tx (.bool b :: us) k = .bool (decide (k.tmod 3 = 0)) :: Hc tx us (k + 1) := by simp [Hc, PA, nU]
theorem aab (tx : Int → ByteArray) (b : ByteArray) (us : List U) (k : Int) : Hc tx (.str b :: us) k = .str (tx k) :: Hc tx us (k + 1) := by simp [Hc, PA, nU]
theorem Gt (tx : Int → ByteArray) (xs : List (List U)) (us : List U) (k : Int) : Hc tx (.lst xs :: us) k = .lst (FC tx xs k) :: Hc tx us (k + (Fv xs : Int)) := by simp [Hc, PA, nU]
theorem HL (xs ys : List (List U)) : cD xs [] ys = ys := rfl
theorem HB {xs : List (List U)} {i : Nat} {r : List U} (h : i < xs.length) : (xs.set i r).getD i [] = r := by
 rw [List.getD_eq_getElem?_getD, List.getElem?_set_self h]; rfl
theorem GY {n : Int} (h : 0 ≤ n) : decide (n < 0) = false := decide_eq_false (by omega)
theorem HM {xs : List (List U)} {i : Nat} {r r' : List U} : (xs.set i r).set i r' = xs.set i r' := List.set_set ..
def FA : Int → ByteArray := fun _ => ByteArray.empty
end Go.Proofs.YtaghmjcfaplkiaaGreat.Eng
namespace Go.Proofs.YtaghmjcfaplkiaaGreat.Eng
open Go.RowKit
theorem TA : ∀ {x : List U}, (∀ u ∈ x, nU u ≤ 64 * FV u + 1) → nR x ≤ 64 * FP x + x.length
 | [], _ => by simp [nR]
 | u :: us, h => by
  have h1 := h u (by simp)
  have h2 := TA (x := us) fun v hv => h v (by simp [hv])
  simp only [nR, FP, List.length_cons]; omega
theorem Sj : ∀ {xs : List (List U)}, (∀ x ∈ xs, x.length ≤ 64 ∧ ∀ u ∈ x, nU u ≤ 64 * FV u + 1) → Fv xs ≤ 64 * Fx xs
 | [], _ => by simp [Fv]
 | x :: xs, h => by
  have h1 := TA (h x (by simp)).2
  have h0 := (h x (by simp)).1
  have h2 := Sj (xs := xs) fun y hy => h y (by simp [hy])
  simp only [Fv, Fx]; omega
theorem WT.GB {T : bl} (hB : ∀ e, (T e).length ≤ 64) {ct : CT} {u : U} (h : WT T ct u) : nU u ≤ 64 * FV u + 1 := by
 induction h with
 | int => simp [nU]
 | bool => simp [nU]
 | str => simp [nU]
 | aj e xs hm hs h ih =>
  have : Fv xs ≤ 64 * Fx xs := Sj fun x hx => by
   obtain ⟨i, hi⟩ := List.getElem?_of_mem hx
   refine ⟨by rw [hs i x hi]; exact hB e, fun u hu => ?_⟩
   obtain ⟨j, hj⟩ := List.getElem?_of_mem hu
   have av : j < (T e).length := by rw [← hs i x hi]; exact aA hj
   exact ih i j x u _ hi hj (List.getElem?_eq_getElem av)
  simp only [nU, FV]; omega
theorem WR.GB {T : bl} (hB : ∀ e, (T e).length ≤ 64) {e : TypeId} {xs : List (List U)} (h : WR T e xs) : Fv xs ≤ 64 * Fx xs := Sj fun x hx => by
 have hw := h.2 x hx
 refine ⟨by rw [hw.1]; exact hB e, fun u hu => ?_⟩
 obtain ⟨j, hj⟩ := List.getElem?_of_mem hu
 have av : j < (T e).length := by rw [← hw.1]; exact aA hj
 exact (hw.2 j _ u (List.getElem?_eq_getElem av) hj).GB hB
theorem ZS {T : ax} (h : (T.all fun r => decide (r.ab.length ≤ 64)) = true) (e : TypeId) : (T.ct e).length ≤ 64 := by
 unfold ax.ct ax.row
 rw [List.getD_eq_getElem?_getD]
 cases hx : T[e]? with
 | none => simp
 | some r => simpa using List.all_eq_true.1 h r (List.mem_of_getElem? hx)
end Go.Proofs.YtaghmjcfaplkiaaGreat.Eng
/- half -/
