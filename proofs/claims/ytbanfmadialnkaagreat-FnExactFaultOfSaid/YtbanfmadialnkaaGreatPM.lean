/- How many elements data have; marks on data; loops over them. Of no program. -/
import Derived.Test.YtbanfmadialnkaaGreatPL
namespace Go.Proofs.YtbanfmadialnkaaGreat.Eng
open Go.RowKit
set_option linter.unusedVariables false

theorem aZ {α : Type} {l : List α} {i : Nat} {z : α} (h : i < l.length) : l.getD i z ∈ l := by
 rw [List.getD_eq_getElem?_getD, List.getElem?_eq_getElem h]; exact List.getElem_mem h
mutual
/-- How many elements. -/
def bw : U → Nat
 | .af xs => ai xs
 | _ => 0
def bh : List U → Nat
 | [] => 0
 | u :: us => bw u + bh us
def ai : List (List U) → Nat
 | [] => 0
 | x :: xs => 1 + bh x + ai xs
end
mutual
/-- How many marks. -/
def nU : U → Nat
 | .af xs => dH xs
 | _ => 1
def nR : List U → Nat
 | [] => 0
 | u :: us => nU u + nR us
def dH : List (List U) → Nat
 | [] => 0
 | x :: xs => nR x + dH xs
end
mutual
/-- Data, marked from k on; 'tx': how texts are marked. -/
def Ag (tx : Int → ByteArray) : U → Int → U
 | .int _, k => .int k
 | .bool _, k => .bool (decide (k.tmod 3 = 0))
 | .str _, k => .str (tx k)
 | .af xs, k => .af (fo tx xs k)
def ey (tx : Int → ByteArray) : List U → Int → List U
 | [], _ => []
 | u :: us, k => Ag tx u k :: ey tx us (k + (nU u : Int))
def fo (tx : Int → ByteArray) : List (List U) → Int → List (List U)
 | [], _ => []
 | x :: xs, k => ey tx x k :: fo tx xs (k + (nR x : Int))
end
theorem SC (tx : Int → ByteArray) : ∀ (x : List U) (k : Int), (ey tx x k).length = x.length
 | [], k => by simp [ey]
 | u :: us, k => by simp [ey, SC tx us]
theorem SD (tx : Int → ByteArray) : ∀ (xs : List (List U)) (k : Int), (fo tx xs k).length = xs.length
 | [], k => by simp [fo]
 | x :: xs, k => by simp [fo, SD tx xs]
theorem bl : ∀ (xs : List (List U)), xs.length ≤ ai xs
 | [] => by simp [ai]
 | x :: xs => by have := bl xs; simp only [ai, List.length_cons]; omega
theorem SE : ∀ (xs : List (List U)) (i : Nat), i < xs.length → ai (xs.drop i) = 1 + bh (xs.getD i []) + ai (xs.drop (i + 1))
 | [], i, h => by simp at h
 | x :: xs, 0, h => by simp [ai]
 | x :: xs, i + 1, h => by
  have := SE xs i (by simpa using h)
  simpa using this
theorem ca : ∀ {xs : List (List U)} {x : List U}, x ∈ xs → bh x < ai xs
 | y :: ys, x, h => by
  simp only [ai]
  rcases List.mem_cons.1 h with rfl | h
  ·omega
  ·have := ca h; omega
theorem SF : ∀ (xs : List (List U)) (i : Nat), i < xs.length → dH (xs.drop i) = nR (xs.getD i []) + dH (xs.drop (i + 1))
 | [], i, h => by simp at h
 | x :: xs, 0, h => by simp [dH]
 | x :: xs, i + 1, h => by
  have := SF xs i (by simpa using h)
  simpa using this
theorem SG : ∀ {xs : List (List U)} {x : List U}, x ∈ xs → nR x ≤ dH xs
 | y :: ys, x, h => by
  simp only [dH]
  rcases List.mem_cons.1 h with rfl | h
  ·omega
  ·have := SG h; omega
/-- What a law's measure of its arguments leaves. -/
def bO (n : Nat) (left : Int) : Int := if (n : Int) ≤ left then left - (n : Int) else -1
theorem SH (tx : Int → ByteArray) : ∀ (xs : List (List U)) (k : Int) (i : Nat), i < xs.length → ∃ k', k ≤ k' ∧ k' + (dH (xs.drop i) : Int) = k + (dH xs : Int) ∧ (fo tx xs k).drop i = fo tx (xs.drop i) k'
 | [], k, i, h => by simp at h
 | x :: xs, k, 0, h => ⟨k, Int.le_refl _, by simp, by simp⟩
 | x :: xs, k, i + 1, h => by
  obtain ⟨k', h1, h2, h3⟩ := SH tx xs (k + (nR x : Int)) i (by simpa using h)
  refine ⟨k', by omega, ?_, by simpa [fo] using h3⟩
  simp only [List.drop_succ_cons, dH]
  omega
/-- A loop that marks. -/
theorem XC (tx : Int → ByteArray) {l0 : Int → Int → List (List U) → Option aa} {xs : List (List U)} (cT : ∀ k s, s.length = xs.length → l0 k (xs.length : Int) s = some ⟨[[.int k]], [s]⟩)
  (ck : ∀ i, i < xs.length → ∀ (k : Int) (s : List (List U)), s.length = xs.length → s.getD i [] = xs.getD i [] → 0 ≤ k → k + (nR (xs.getD i []) : Int) ≤ 4611686018427387904 → l0 k (i : Int) s = l0 (k + (nR (xs.getD i []) : Int)) ((i + 1 : Nat) : Int) (s.set i (ey tx (xs.getD i []) k))) :
  ∀ {k : Int}, 0 ≤ k → k + (dH xs : Int) ≤ 4611686018427387904 → l0 k 0 xs = some ⟨[[.int (k + (dH xs : Int))]], [fo tx xs k]⟩ := by
 have key : ∀ (ys : List (List U)) (pre : List (List U)) (k : Int) (i : Nat), i + ys.length = xs.length → pre.length = i → ys = xs.drop i → 0 ≤ k → k + (dH ys : Int) ≤ 4611686018427387904 → l0 k (i : Int) (pre ++ ys) = some ⟨[[.int (k + (dH ys : Int))]], [pre ++ fo tx ys k]⟩ := by
  intro ys
  induction ys with
  | nil =>
   intro pre k i h1 h2 h3 h4 h5
   have hi : i = xs.length := by simpa using h1
   subst hi
   rw [cT k (pre ++ []) (by simp [h2])]
   simp [dH, fo]
  | cons y ys ih =>
   intro pre k i h1 h2 h3 h4 h5
   simp only [List.length_cons] at h1
   simp only [dH] at h5 ⊢
   have hi : i < xs.length := by omega
   have hy : xs.getD i [] = y := by
    rw [List.getD_eq_getElem?_getD]
    have : xs[i]? = (xs.drop i)[0]? := by rw [List.getElem?_drop]; rfl
    rw [this, ← h3]; rfl
   have hs := ck i hi k (pre ++ y :: ys) (by simp; omega) (by rw [hy, List.getD_eq_getElem?_getD, List.getElem?_append_right (by omega), h2, Nat.sub_self]; rfl) h4 (by rw [hy]; omega)
   rw [hy] at hs
   have e1 : (pre ++ y :: ys).set i (ey tx y k) = (pre ++ [ey tx y k]) ++ ys := by
    rw [List.set_append_right _ _ (by omega), h2, Nat.sub_self, List.append_assoc]; rfl
   rw [e1] at hs
   have q := ih (pre ++ [ey tx y k]) (k + (nR y : Int)) (i + 1) (by omega) (by simp [h2]) (by rw [← List.tail_drop, ← h3]; rfl) (by omega) (by omega)
   rw [hs, q, fo]
   simp [Int.add_assoc]
 intro k h1 h2
 have := key xs [] k 0 (by simp) rfl rfl h1 h2
 simpa using this
/-- A loop that reads marks back. -/
theorem XD (tx : Int → ByteArray) {l0 : Int → Int → Option aa} {xs : List (List U)} {m : Int} (hm : 0 ≤ m) (hb : m + (dH xs : Int) ≤ 4611686018427387904) (cT : ∀ k, l0 k (xs.length : Int) = some ⟨[[.int k]], []⟩)
  (ck : ∀ i, i < xs.length → ∀ (k : Int), (fo tx xs m).getD i [] = ey tx (xs.getD i []) k → 0 ≤ k → k + (nR (xs.getD i []) : Int) ≤ 4611686018427387904 → l0 k (i : Int) = l0 (k + (nR (xs.getD i []) : Int)) ((i + 1 : Nat) : Int)) : l0 m 0 = some ⟨[[.int (m + (dH xs : Int))]], []⟩ := by
 have key : ∀ (ys : List (List U)) (k : Int) (i : Nat), i + ys.length = xs.length → ys = xs.drop i → (fo tx xs m).drop i = fo tx ys k → k + (dH ys : Int) = m + (dH xs : Int) → 0 ≤ k → l0 k (i : Int) = some ⟨[[.int (m + (dH xs : Int))]], []⟩ := by
  intro ys
  induction ys with
  | nil =>
   intro k i h1 h2 h3 h4 h5
   have hi : i = xs.length := by simpa using h1
   subst hi
   rw [cT k, ← h4]
   simp [dH]
  | cons y ys ih =>
   intro k i h1 h2 h3 h4 h5
   simp only [List.length_cons] at h1
   simp only [dH] at h4
   have hi : i < xs.length := by omega
   have hy : xs.getD i [] = y := by
    rw [List.getD_eq_getElem?_getD]
    have : xs[i]? = (xs.drop i)[0]? := by rw [List.getElem?_drop]; rfl
    rw [this, ← h2]; rfl
   have hz : (fo tx xs m).getD i [] = ey tx y k := by
    rw [List.getD_eq_getElem?_getD]
    have : (fo tx xs m)[i]? = ((fo tx xs m).drop i)[0]? := by rw [List.getElem?_drop]; rfl
    rw [this, h3, fo]; rfl
   rw [ck i hi k (by rw [hy]; exact hz) h5 (by rw [hy]; omega), hy]
   refine ih (k + (nR y : Int)) (i + 1) (by omega) (by rw [← List.tail_drop, ← h2]; rfl) ?_ (by omega) (by omega)
   rw [← List.tail_drop, h3, fo]; rfl
 exact key xs m 0 (by simp) rfl rfl rfl hm
/-- A loop that measures. -/
theorem qV {l0 : Int → Int → Option aa} {xs : List (List U)} {c : List U → Nat} (cT : ∀ l, l0 l (xs.length : Int) = some ⟨[[.int l]], []⟩)
  (ck : ∀ i, i < xs.length → ∀ l : Int, 0 ≤ l → l ≤ 1048576 → l0 l (i : Int) = if (c (xs.getD i []) : Int) ≤ l then l0 (l - (c (xs.getD i []) : Int)) ((i + 1 : Nat) : Int) else some ⟨[[.int (-1)]], []⟩) :
  ∀ {l : Int}, 0 ≤ l → l ≤ 1048576 → l0 l 0 = some ⟨[[.int (bO ((xs.map c).sum) l)]], []⟩ := by
 have key : ∀ i, i ≤ xs.length → ∀ l : Int, 0 ≤ l → l ≤ 1048576 → l0 l (i : Int) = some ⟨[[.int (bO (((xs.drop i).map c).sum) l)]], []⟩ := by
  refine down xs.length ?_ ?_
  ·intro l h0 h1
   rw [cT l, List.drop_length]
   simp [bO, h0]
  ·intro i hi h l h0 h1
   have e : xs.drop i = xs.getD i [] :: xs.drop (i + 1) := by
    rw [List.drop_eq_getElem_cons hi, List.getD_eq_getElem?_getD, List.getElem?_eq_getElem hi]; rfl
   rw [ck i hi l h0 h1, e, List.map_cons, List.sum_cons]
   by_cases hc : (c (xs.getD i []) : Int) ≤ l
   ·rw [if_pos hc, h _ (by omega) (by omega)]
    unfold bO
    by_cases h2 : (((xs.drop (i + 1)).map c).sum : Int) ≤ l - (c (xs.getD i []) : Int)
    ·have e2 : l - (c (xs.getD i []) : Int) - (((xs.drop (i + 1)).map c).sum : Int) = l - ((c (xs.getD i []) + ((xs.drop (i + 1)).map c).sum : Nat) : Int) := by omega
     rw [if_pos h2, if_pos (by omega), e2]
    ·rw [if_neg h2, if_neg (by omega)]
   ·rw [if_neg hc]
    unfold bO
    rw [if_neg (by omega)]
 intro l h0 h1
 have := key 0 (Nat.zero_le _) l h0 h1
 simpa using this
theorem fp : ∀ xs : List (List U), ai xs = xs.length + (xs.map bh).sum
 | [] => by simp [ai]
 | x :: xs => by rw [ai, fp xs, List.map_cons, List.sum_cons, List.length_cons]; omega
end Go.Proofs.YtbanfmadialnkaaGreat.Eng
namespace Go.Proofs.YtbanfmadialnkaaGreat.Eng
open Go.RowKit
/-- One measure after the other. -/
theorem dw {o : Option aa} {a b : Nat} {l : Int} (h0 : 0 ≤ l) (h1 : l ≤ 1048576) (ho : o = some ⟨[[.int (bO a l)]], []⟩) {G : Int → Option aa} (hG : ∀ l', 0 ≤ l' → l' ≤ 1048576 → G l' = some ⟨[[.int (bO b l')]], []⟩) :
  (o.bind fun r => bif decide ((r.u 0 0).toInt < 0) then some ⟨[[.int (-1)]], []⟩ else G ((r.u 0 0).toInt)) = some ⟨[[.int (bO (a + b) l)]], []⟩ := by
 rw [ho]
 show (bif decide (bO a l < 0) then some ⟨[[.int (-1)]], []⟩ else G (bO a l)) = _
 unfold bO
 by_cases h : (a : Int) ≤ l
 ·rw [if_pos h, decide_eq_false (by omega), cond_false, hG _ (by omega) (by omega)]
  unfold bO
  by_cases h2 : (b : Int) ≤ l - (a : Int)
  ·have e2 : l - (a : Int) - (b : Int) = l - ((a + b : Nat) : Int) := by omega
   rw [if_pos h2, if_pos (by omega), e2]
  ·rw [if_neg h2, if_neg (by omega)]
 ·rw [if_neg h, if_neg (by omega)]; rfl
theorem ez {l : Int} (h0 : 0 ≤ l) : (some ⟨[[.int l]], []⟩ : Option aa) = some ⟨[[.int (bO 0 l)]], []⟩ := by
 unfold bO
 rw [if_pos (by omega)]; simp
/-- A step of a loop that measures. -/
theorem qW {o : Option aa} {a : Nat} {l : Int} (_h0 : 0 ≤ l) (ho : o = some ⟨[[.int (bO a l)]], []⟩) {G : Int → Option aa} :
  (o.bind fun r => bif decide ((r.u 0 0).toInt < 0) then some ⟨[[.int (-1)]], []⟩ else G ((r.u 0 0).toInt)) = if (a : Int) ≤ l then G (l - (a : Int)) else some ⟨[[.int (-1)]], []⟩ := by
 rw [ho]
 show (bif decide (bO a l < 0) then some ⟨[[.int (-1)]], []⟩ else G (bO a l)) = _
 unfold bO
 by_cases h : (a : Int) ≤ l
 ·rw [if_pos h, if_pos h, decide_eq_false (by omega), cond_false]
 ·rw [if_neg h, if_neg h]; rfl
theorem fq {l0 : Int → Option aa} {n m : Nat} {l : Int} (hn : n ≤ 9223372036854775807) (h0 : 0 ≤ l) (h1 : l ≤ 1048576) (h : (n : Int) ≤ l → l0 (l - (n : Int)) = some ⟨[[.int (bO m (l - (n : Int)))]], []⟩) :
  (bif decide (IntKind.i64.wrap (l - (n : Int)) < 0) then some ⟨[[.int (-1)]], []⟩ else l0 (IntKind.i64.wrap (l - (n : Int)))) = some ⟨[[.int (bO (n + m) l)]], []⟩ := by
 rw [sX (by omega) (by omega)]
 by_cases hl : (n : Int) ≤ l
 ·rw [decide_eq_false (by omega), cond_false, h hl]
  unfold bO
  by_cases h2 : (m : Int) ≤ l - (n : Int)
  ·have e2 : l - (n : Int) - (m : Int) = l - ((n + m : Nat) : Int) := by omega
   rw [if_pos h2, if_pos (by omega), e2]
  ·rw [if_neg h2, if_neg (by omega)]
 ·rw [decide_eq_true (by omega), cond_true]
  unfold bO
  rw [if_neg (by omega)]
theorem mQ {xs : List (List U)} (h : ∀ x ∈ xs, bh x = 0) : (xs.map bh).sum = 0 := by
 induction xs with
 | nil => rfl
 | cons x xs ih => rw [List.map_cons, List.sum_cons, h x (by simp), ih fun y hy => h y (by simp [hy])]
/-! ### Types of one shape -/
def CT.cv (eA : List (TypeId × TypeId)) : CT → CT
 | .ak e => .ak ((eA.lookup e).getD e)
 | c => c
def CW (T : aS) (eA : List (TypeId × TypeId)) : Bool := eA.all fun p => decide ((T.ct p.1).map (CT.cv eA) = T.ct p.2)
theorem KR {eA : List (TypeId × TypeId)} {e e' : TypeId} (h : eA.lookup e = some e') : (e, e') ∈ eA := by
 induction eA with
 | nil => cases h
 | cons p eA ih =>
  obtain ⟨a, b⟩ := p
  rw [List.lookup_cons] at h
  split at h
  ·rename_i he
   obtain rfl : e = a := by simpa using he
   cases h; simp
  ·exact List.mem_cons_of_mem _ (ih h)
theorem WT.dy {T : aS} {eA : List (TypeId × TypeId)} (hp : CW T eA = true) {ct : CT} {u : U} (h : WT T.ct ct u) : WT T.ct (ct.cv eA) u := by
 induction h with
 | int k n h => exact .int k n h
 | bool b => exact .bool b
 | str s h => exact .str s h
 | ak e xs hm hs h ih =>
  cases hl : eA.lookup e with
  | none =>
   show WT T.ct (.ak ((eA.lookup e).getD e)) _
   rw [hl]
   exact .ak e xs hm hs h
  | some e' =>
   show WT T.ct (.ak ((eA.lookup e).getD e)) _
   rw [hl]
   have h1 := List.all_eq_true.1 hp _ (KR hl)
   have h1 : (T.ct e).map (CT.cv eA) = T.ct e' := by simpa using h1
   refine .ak e' xs hm (fun i x hx => ?_) fun i j x u ct hx hu aA => ?_
   ·show x.length = (T.ct e').length
    rw [← h1, List.length_map]; exact hs i x hx
   ·have aA : (T.ct e')[j]? = some ct := aA
    rw [← h1, List.getElem?_map] at aA
    obtain ⟨c, hc, rfl⟩ := Option.map_eq_some_iff.1 aA
    exact ih i j x u c hx hu hc
theorem bG.dy {T : aS} {eA : List (TypeId × TypeId)} (hp : CW T eA = true) {aE : List CT} {us : List U} (h : bG T.ct aE us) : bG T.ct (aE.map (CT.cv eA)) us := by
 refine ⟨by rw [List.length_map]; exact h.1, fun j ct u aA hu => ?_⟩
 rw [List.getElem?_map] at aA
 obtain ⟨c, hc, rfl⟩ := Option.map_eq_some_iff.1 aA
 exact (h.2 j c u hc hu).dy hp
theorem WR.dy {T : aS} {eA : List (TypeId × TypeId)} (hp : CW T eA = true) {e e' : TypeId} (he : eA.lookup e = some e') {xs : List (List U)} (h : WR T.ct e xs) : WR T.ct e' xs := by
 refine ⟨h.1, fun x hx => ?_⟩
 have h1 := List.all_eq_true.1 hp _ (KR he)
 have h1 : (T.ct e).map (CT.cv eA) = T.ct e' := by simpa using h1
 have := (h.2 x hx).dy hp
 rw [h1] at this
 exact this
end Go.Proofs.YtbanfmadialnkaaGreat.Eng
namespace Go.Proofs.YtbanfmadialnkaaGreat.Eng
open Go.RowKit
theorem XE (tx : Int → ByteArray) (k : Int) : ey tx [] k = [] := by simp [ey]
theorem XF (tx : Int → ByteArray) (n : Int) (us : List U) (k : Int) : ey tx (.int n :: us) k = .int k :: ey tx us (k + 1) := by simp [ey, Ag, nU]
theorem XG (tx : Int → ByteArray) (b : Bool) (us : List U) (k : Int) : ey tx (.bool b :: us) k = .bool (decide (k.tmod 3 = 0)) :: ey tx us (k + 1) := by simp [ey, Ag, nU]
theorem XH (tx : Int → ByteArray) (b : ByteArray) (us : List U) (k : Int) : ey tx (.str b :: us) k = .str (tx k) :: ey tx us (k + 1) := by simp [ey, Ag, nU]
theorem XI (tx : Int → ByteArray) (xs : List (List U)) (us : List U) (k : Int) : ey tx (.af xs :: us) k = .af (fo tx xs k) :: ey tx us (k + (dH xs : Int)) := by simp [ey, Ag, nU]
theorem XJ (xs ys : List (List U)) : eh xs [] ys = ys := rfl
theorem XK {xs : List (List U)} {i : Nat} {r : List U} (h : i < xs.length) : (xs.set i r).getD i [] = r := by
 rw [List.getD_eq_getElem?_getD, List.getElem?_set_self h]; rfl
theorem MV {n : Int} (h : 0 ≤ n) : decide (n < 0) = false := decide_eq_false (by omega)
theorem XL {xs : List (List U)} {i : Nat} {r r' : List U} : (xs.set i r).set i r' = xs.set i r' := List.set_set ..
def XM : Int → ByteArray := fun _ => ByteArray.empty
end Go.Proofs.YtbanfmadialnkaaGreat.Eng
namespace Go.Proofs.YtbanfmadialnkaaGreat.Eng
open Go.RowKit
theorem KS : ∀ {x : List U}, (∀ u ∈ x, nU u ≤ 64 * bw u + 1) → nR x ≤ 64 * bh x + x.length
 | [], _ => by simp [nR]
 | u :: us, h => by
  have h1 := h u (by simp)
  have h2 := KS (x := us) fun v hv => h v (by simp [hv])
  simp only [nR, bh, List.length_cons]; omega
theorem GH : ∀ {xs : List (List U)}, (∀ x ∈ xs, x.length ≤ 64 ∧ ∀ u ∈ x, nU u ≤ 64 * bw u + 1) → dH xs ≤ 64 * ai xs
 | [], _ => by simp [dH]
 | x :: xs, h => by
  have h1 := KS (h x (by simp)).2
  have h0 := (h x (by simp)).1
  have h2 := GH (xs := xs) fun y hy => h y (by simp [hy])
  simp only [dH, ai]; omega
theorem WT.KT {T : bK} (hB : ∀ e, (T e).length ≤ 64) {ct : CT} {u : U} (h : WT T ct u) : nU u ≤ 64 * bw u + 1 := by
 induction h with
 | int => simp [nU]
 | bool => simp [nU]
 | str => simp [nU]
 | ak e xs hm hs h ih =>
  have : dH xs ≤ 64 * ai xs := GH fun x hx => by
   obtain ⟨i, hi⟩ := List.getElem?_of_mem hx
   refine ⟨by rw [hs i x hi]; exact hB e, fun u hu => ?_⟩
   obtain ⟨j, hj⟩ := List.getElem?_of_mem hu
   have aU : j < (T e).length := by rw [← hs i x hi]; exact bk hj
   exact ih i j x u _ hi hj (List.getElem?_eq_getElem aU)
  simp only [nU, bw]; omega
theorem WR.KT {T : bK} (hB : ∀ e, (T e).length ≤ 64) {e : TypeId} {xs : List (List U)} (h : WR T e xs) : dH xs ≤ 64 * ai xs := GH fun x hx => by
 have hw := h.2 x hx
 refine ⟨by rw [hw.1]; exact hB e, fun u hu => ?_⟩
 obtain ⟨j, hj⟩ := List.getElem?_of_mem hu
 have aU : j < (T e).length := by rw [← hw.1]; exact bk hj
 exact (hw.2 j _ u (List.getElem?_eq_getElem aU) hj).KT hB
theorem XN {T : aS} (h : (T.all fun r => decide (r.aE.length ≤ 64)) = true) (e : TypeId) : (T.ct e).length ≤ 64 := by
 unfold aS.ct aS.row
 rw [List.getD_eq_getElem?_getD]
 cases hx : T[e]? with
 | none => simp
 | some r => simpa using List.all_eq_true.1 h r (List.mem_of_getElem? hx)
end Go.Proofs.YtbanfmadialnkaaGreat.Eng
/- half -/
