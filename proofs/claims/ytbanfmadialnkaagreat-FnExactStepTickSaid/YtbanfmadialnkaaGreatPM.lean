/- How many elements data have; marks on data; loops over them. Of no program. -/
import Derived.Test.YtbanfmadialnkaaGreatPL
namespace Go.Proofs.YtbanfmadialnkaaGreat.Eng
open Go.RowKit
set_option linter.unusedVariables false

theorem Dg {α : Type} {l : List α} {i : Nat} {z : α} (h : i < l.length) : l.getD i z ∈ l := by
 rw [List.getD_eq_getElem?_getD, List.getElem?_eq_getElem h]; exact List.getElem_mem h
mutual
/-- How many elements. -/
def Dt : U → Nat
 | .lst xs => Db xs
 | _ => 0
def Dn : List U → Nat
 | [] => 0
 | u :: us => Dt u + Dn us
def Db : List (List U) → Nat
 | [] => 0
 | x :: xs => 1 + Dn x + Db xs
end
mutual
/-- How many marks. -/
def nU : U → Nat
 | .lst xs => CY xs
 | _ => 1
def nR : List U → Nat
 | [] => 0
 | u :: us => nU u + nR us
def CY : List (List U) → Nat
 | [] => 0
 | x :: xs => nR x + CY xs
end
mutual
/-- Data, marked from k on; 'tx': how texts are marked. -/
def Pu (tx : Int → ByteArray) : U → Int → U
 | .int _, k => .int k
 | .bool _, k => .bool (decide (k.tmod 3 = 0))
 | .str _, k => .str (tx k)
 | .lst xs, k => .lst (De tx xs k)
def EG (tx : Int → ByteArray) : List U → Int → List U
 | [], _ => []
 | u :: us, k => Pu tx u k :: EG tx us (k + (nU u : Int))
def De (tx : Int → ByteArray) : List (List U) → Int → List (List U)
 | [], _ => []
 | x :: xs, k => EG tx x k :: De tx xs (k + (nR x : Int))
end
theorem ZB (tx : Int → ByteArray) : ∀ (x : List U) (k : Int), (EG tx x k).length = x.length
 | [], k => by simp [EG]
 | u :: us, k => by simp [EG, ZB tx us]
theorem Fc (tx : Int → ByteArray) : ∀ (xs : List (List U)) (k : Int), (De tx xs k).length = xs.length
 | [], k => by simp [De]
 | x :: xs, k => by simp [De, Fc tx xs]
theorem Dk : ∀ (xs : List (List U)), xs.length ≤ Db xs
 | [] => by simp [Db]
 | x :: xs => by have := Dk xs; simp only [Db, List.length_cons]; omega
theorem WE : ∀ (xs : List (List U)) (i : Nat), i < xs.length → Db (xs.drop i) = 1 + Dn (xs.getD i []) + Db (xs.drop (i + 1))
 | [], i, h => by simp at h
 | x :: xs, 0, h => by simp [Db]
 | x :: xs, i + 1, h => by
  have := WE xs i (by simpa using h)
  simpa using this
theorem DH : ∀ {xs : List (List U)} {x : List U}, x ∈ xs → Dn x < Db xs
 | y :: ys, x, h => by
  simp only [Db]
  rcases List.mem_cons.1 h with rfl | h
  ·omega
  ·have := DH h; omega
theorem ZE : ∀ (xs : List (List U)) (i : Nat), i < xs.length → CY (xs.drop i) = nR (xs.getD i []) + CY (xs.drop (i + 1))
 | [], i, h => by simp at h
 | x :: xs, 0, h => by simp [CY]
 | x :: xs, i + 1, h => by
  have := ZE xs i (by simpa using h)
  simpa using this
theorem Fe : ∀ {xs : List (List U)} {x : List U}, x ∈ xs → nR x ≤ CY xs
 | y :: ys, x, h => by
  simp only [CY]
  rcases List.mem_cons.1 h with rfl | h
  ·omega
  ·have := Fe h; omega
/-- What a law's measure of its arguments leaves. -/
def DD (n : Nat) (left : Int) : Int := if (n : Int) ≤ left then left - (n : Int) else -1
theorem ZC (tx : Int → ByteArray) : ∀ (xs : List (List U)) (k : Int) (i : Nat), i < xs.length → ∃ k', k ≤ k' ∧ k' + (CY (xs.drop i) : Int) = k + (CY xs : Int) ∧ (De tx xs k).drop i = De tx (xs.drop i) k'
 | [], k, i, h => by simp at h
 | x :: xs, k, 0, h => ⟨k, Int.le_refl _, by simp, by simp⟩
 | x :: xs, k, i + 1, h => by
  obtain ⟨k', h1, h2, h3⟩ := ZC tx xs (k + (nR x : Int)) i (by simpa using h)
  refine ⟨k', by omega, ?_, by simpa [De] using h3⟩
  simp only [List.drop_succ_cons, CY]
  omega
/-- A loop that marks. -/
theorem Fw (tx : Int → ByteArray) {l0 : Int → Int → List (List U) → Option aI} {xs : List (List U)} (Ep : ∀ k s, s.length = xs.length → l0 k (xs.length : Int) s = some ⟨[[.int k]], [s]⟩)
  (gU : ∀ i, i < xs.length → ∀ (k : Int) (s : List (List U)), s.length = xs.length → s.getD i [] = xs.getD i [] → 0 ≤ k → k + (nR (xs.getD i []) : Int) ≤ 4611686018427387904 → l0 k (i : Int) s = l0 (k + (nR (xs.getD i []) : Int)) ((i + 1 : Nat) : Int) (s.set i (EG tx (xs.getD i []) k))) :
  ∀ {k : Int}, 0 ≤ k → k + (CY xs : Int) ≤ 4611686018427387904 → l0 k 0 xs = some ⟨[[.int (k + (CY xs : Int))]], [De tx xs k]⟩ := by
 have key : ∀ (ys : List (List U)) (pre : List (List U)) (k : Int) (i : Nat), i + ys.length = xs.length → pre.length = i → ys = xs.drop i → 0 ≤ k → k + (CY ys : Int) ≤ 4611686018427387904 → l0 k (i : Int) (pre ++ ys) = some ⟨[[.int (k + (CY ys : Int))]], [pre ++ De tx ys k]⟩ := by
  intro ys
  induction ys with
  | nil =>
   intro pre k i h1 h2 h3 h4 h5
   have hi : i = xs.length := by simpa using h1
   subst hi
   rw [Ep k (pre ++ []) (by simp [h2])]
   simp [CY, De]
  | cons y ys ih =>
   intro pre k i h1 h2 h3 h4 h5
   simp only [List.length_cons] at h1
   simp only [CY] at h5 ⊢
   have hi : i < xs.length := by omega
   have hy : xs.getD i [] = y := by
    rw [List.getD_eq_getElem?_getD]
    have : xs[i]? = (xs.drop i)[0]? := by rw [List.getElem?_drop]; rfl
    rw [this, ← h3]; rfl
   have hs := gU i hi k (pre ++ y :: ys) (by simp; omega) (by rw [hy, List.getD_eq_getElem?_getD, List.getElem?_append_right (by omega), h2, Nat.sub_self]; rfl) h4 (by rw [hy]; omega)
   rw [hy] at hs
   have e1 : (pre ++ y :: ys).set i (EG tx y k) = (pre ++ [EG tx y k]) ++ ys := by
    rw [List.set_append_right _ _ (by omega), h2, Nat.sub_self, List.append_assoc]; rfl
   rw [e1] at hs
   have q := ih (pre ++ [EG tx y k]) (k + (nR y : Int)) (i + 1) (by omega) (by simp [h2]) (by rw [← List.tail_drop, ← h3]; rfl) (by omega) (by omega)
   rw [hs, q, De]
   simp [Int.add_assoc]
 intro k h1 h2
 have := key xs [] k 0 (by simp) rfl rfl h1 h2
 simpa using this
/-- A loop that reads marks back. -/
theorem Fs (tx : Int → ByteArray) {l0 : Int → Int → Option aI} {xs : List (List U)} {m : Int} (hm : 0 ≤ m) (hb : m + (CY xs : Int) ≤ 4611686018427387904) (Ep : ∀ k, l0 k (xs.length : Int) = some ⟨[[.int k]], []⟩)
  (gU : ∀ i, i < xs.length → ∀ (k : Int), (De tx xs m).getD i [] = EG tx (xs.getD i []) k → 0 ≤ k → k + (nR (xs.getD i []) : Int) ≤ 4611686018427387904 → l0 k (i : Int) = l0 (k + (nR (xs.getD i []) : Int)) ((i + 1 : Nat) : Int)) : l0 m 0 = some ⟨[[.int (m + (CY xs : Int))]], []⟩ := by
 have key : ∀ (ys : List (List U)) (k : Int) (i : Nat), i + ys.length = xs.length → ys = xs.drop i → (De tx xs m).drop i = De tx ys k → k + (CY ys : Int) = m + (CY xs : Int) → 0 ≤ k → l0 k (i : Int) = some ⟨[[.int (m + (CY xs : Int))]], []⟩ := by
  intro ys
  induction ys with
  | nil =>
   intro k i h1 h2 h3 h4 h5
   have hi : i = xs.length := by simpa using h1
   subst hi
   rw [Ep k, ← h4]
   simp [CY]
  | cons y ys ih =>
   intro k i h1 h2 h3 h4 h5
   simp only [List.length_cons] at h1
   simp only [CY] at h4
   have hi : i < xs.length := by omega
   have hy : xs.getD i [] = y := by
    rw [List.getD_eq_getElem?_getD]
    have : xs[i]? = (xs.drop i)[0]? := by rw [List.getElem?_drop]; rfl
    rw [this, ← h2]; rfl
   have hz : (De tx xs m).getD i [] = EG tx y k := by
    rw [List.getD_eq_getElem?_getD]
    have : (De tx xs m)[i]? = ((De tx xs m).drop i)[0]? := by rw [List.getElem?_drop]; rfl
    rw [this, h3, De]; rfl
   rw [gU i hi k (by rw [hy]; exact hz) h5 (by rw [hy]; omega), hy]
   refine ih (k + (nR y : Int)) (i + 1) (by omega) (by rw [← List.tail_drop, ← h2]; rfl) ?_ (by omega) (by omega)
   rw [← List.tail_drop, h3, De]; rfl
 exact key xs m 0 (by simp) rfl rfl rfl hm
/-- A loop that measures. -/
theorem Lq {l0 : Int → Int → Option aI} {xs : List (List U)} {c : List U → Nat} (Ep : ∀ l, l0 l (xs.length : Int) = some ⟨[[.int l]], []⟩)
  (gU : ∀ i, i < xs.length → ∀ l : Int, 0 ≤ l → l ≤ 1048576 → l0 l (i : Int) = if (c (xs.getD i []) : Int) ≤ l then l0 (l - (c (xs.getD i []) : Int)) ((i + 1 : Nat) : Int) else some ⟨[[.int (-1)]], []⟩) :
  ∀ {l : Int}, 0 ≤ l → l ≤ 1048576 → l0 l 0 = some ⟨[[.int (DD ((xs.map c).sum) l)]], []⟩ := by
 have key : ∀ i, i ≤ xs.length → ∀ l : Int, 0 ≤ l → l ≤ 1048576 → l0 l (i : Int) = some ⟨[[.int (DD (((xs.drop i).map c).sum) l)]], []⟩ := by
  refine down xs.length ?_ ?_
  ·intro l h0 h1
   rw [Ep l, List.drop_length]
   simp [DD, h0]
  ·intro i hi h l h0 h1
   have e : xs.drop i = xs.getD i [] :: xs.drop (i + 1) := by
    rw [List.drop_eq_getElem_cons hi, List.getD_eq_getElem?_getD, List.getElem?_eq_getElem hi]; rfl
   rw [gU i hi l h0 h1, e, List.map_cons, List.sum_cons]
   by_cases hc : (c (xs.getD i []) : Int) ≤ l
   ·rw [if_pos hc, h _ (by omega) (by omega)]
    unfold DD
    by_cases h2 : (((xs.drop (i + 1)).map c).sum : Int) ≤ l - (c (xs.getD i []) : Int)
    ·have e2 : l - (c (xs.getD i []) : Int) - (((xs.drop (i + 1)).map c).sum : Int) = l - ((c (xs.getD i []) + ((xs.drop (i + 1)).map c).sum : Nat) : Int) := by omega
     rw [if_pos h2, if_pos (by omega), e2]
    ·rw [if_neg h2, if_neg (by omega)]
   ·rw [if_neg hc]
    unfold DD
    rw [if_neg (by omega)]
 intro l h0 h1
 have := key 0 (Nat.zero_le _) l h0 h1
 simpa using this
theorem ER : ∀ xs : List (List U), Db xs = xs.length + (xs.map Dn).sum
 | [] => by simp [Db]
 | x :: xs => by rw [Db, ER xs, List.map_cons, List.sum_cons, List.length_cons]; omega
end Go.Proofs.YtbanfmadialnkaaGreat.Eng
namespace Go.Proofs.YtbanfmadialnkaaGreat.Eng
open Go.RowKit
/-- One measure after the other. -/
theorem Es {o : Option aI} {a b : Nat} {l : Int} (h0 : 0 ≤ l) (h1 : l ≤ 1048576) (ho : o = some ⟨[[.int (DD a l)]], []⟩) {G : Int → Option aI} (hG : ∀ l', 0 ≤ l' → l' ≤ 1048576 → G l' = some ⟨[[.int (DD b l')]], []⟩) :
  (o.bind fun r => bif decide ((r.u 0 0).toInt < 0) then some ⟨[[.int (-1)]], []⟩ else G ((r.u 0 0).toInt)) = some ⟨[[.int (DD (a + b) l)]], []⟩ := by
 rw [ho]
 show (bif decide (DD a l < 0) then some ⟨[[.int (-1)]], []⟩ else G (DD a l)) = _
 unfold DD
 by_cases h : (a : Int) ≤ l
 ·rw [if_pos h, decide_eq_false (by omega), cond_false, hG _ (by omega) (by omega)]
  unfold DD
  by_cases h2 : (b : Int) ≤ l - (a : Int)
  ·have e2 : l - (a : Int) - (b : Int) = l - ((a + b : Nat) : Int) := by omega
   rw [if_pos h2, if_pos (by omega), e2]
  ·rw [if_neg h2, if_neg (by omega)]
 ·rw [if_neg h, if_neg (by omega)]; rfl
theorem EI {l : Int} (h0 : 0 ≤ l) : (some ⟨[[.int l]], []⟩ : Option aI) = some ⟨[[.int (DD 0 l)]], []⟩ := by
 unfold DD
 rw [if_pos (by omega)]; simp
/-- A step of a loop that measures. -/
theorem Lr {o : Option aI} {a : Nat} {l : Int} (_h0 : 0 ≤ l) (ho : o = some ⟨[[.int (DD a l)]], []⟩) {G : Int → Option aI} :
  (o.bind fun r => bif decide ((r.u 0 0).toInt < 0) then some ⟨[[.int (-1)]], []⟩ else G ((r.u 0 0).toInt)) = if (a : Int) ≤ l then G (l - (a : Int)) else some ⟨[[.int (-1)]], []⟩ := by
 rw [ho]
 show (bif decide (DD a l < 0) then some ⟨[[.int (-1)]], []⟩ else G (DD a l)) = _
 unfold DD
 by_cases h : (a : Int) ≤ l
 ·rw [if_pos h, if_pos h, decide_eq_false (by omega), cond_false]
 ·rw [if_neg h, if_neg h]; rfl
theorem Fh {l0 : Int → Option aI} {n m : Nat} {l : Int} (hn : n ≤ 9223372036854775807) (h0 : 0 ≤ l) (h1 : l ≤ 1048576) (h : (n : Int) ≤ l → l0 (l - (n : Int)) = some ⟨[[.int (DD m (l - (n : Int)))]], []⟩) :
  (bif decide (IntKind.i64.wrap (l - (n : Int)) < 0) then some ⟨[[.int (-1)]], []⟩ else l0 (IntKind.i64.wrap (l - (n : Int)))) = some ⟨[[.int (DD (n + m) l)]], []⟩ := by
 rw [DM (by omega) (by omega)]
 by_cases hl : (n : Int) ≤ l
 ·rw [decide_eq_false (by omega), cond_false, h hl]
  unfold DD
  by_cases h2 : (m : Int) ≤ l - (n : Int)
  ·have e2 : l - (n : Int) - (m : Int) = l - ((n + m : Nat) : Int) := by omega
   rw [if_pos h2, if_pos (by omega), e2]
  ·rw [if_neg h2, if_neg (by omega)]
 ·rw [decide_eq_true (by omega), cond_true]
  unfold DD
  rw [if_neg (by omega)]
theorem JC {xs : List (List U)} (h : ∀ x ∈ xs, Dn x = 0) : (xs.map Dn).sum = 0 := by
 induction xs with
 | nil => rfl
 | cons x xs ih => rw [List.map_cons, List.sum_cons, h x (by simp), ih fun y hy => h y (by simp [hy])]
/-! ### Types of one shape -/
def CT.bA (EH : List (TypeId × TypeId)) : CT → CT
 | .aq e => .aq ((EH.lookup e).getD e)
 | c => c
def Rq (T : aw) (EH : List (TypeId × TypeId)) : Bool := EH.all fun p => decide ((T.ct p.1).map (CT.bA EH) = T.ct p.2)
theorem Uu {EH : List (TypeId × TypeId)} {e e' : TypeId} (h : EH.lookup e = some e') : (e, e') ∈ EH := by
 induction EH with
 | nil => cases h
 | cons p EH ih =>
  obtain ⟨a, b⟩ := p
  rw [List.lookup_cons] at h
  split at h
  ·rename_i he
   obtain rfl : e = a := by simpa using he
   cases h; simp
  ·exact List.mem_cons_of_mem _ (ih h)
theorem WT.DF {T : aw} {EH : List (TypeId × TypeId)} (hp : Rq T EH = true) {ct : CT} {u : U} (h : WT T.ct ct u) : WT T.ct (ct.bA EH) u := by
 induction h with
 | int k n h => exact .int k n h
 | bool b => exact .bool b
 | str s h => exact .str s h
 | aq e xs hm hs h ih =>
  cases hl : EH.lookup e with
  | none =>
   show WT T.ct (.aq ((EH.lookup e).getD e)) _
   rw [hl]
   exact .aq e xs hm hs h
  | some e' =>
   show WT T.ct (.aq ((EH.lookup e).getD e)) _
   rw [hl]
   have h1 := List.all_eq_true.1 hp _ (Uu hl)
   have h1 : (T.ct e).map (CT.bA EH) = T.ct e' := by simpa using h1
   refine .aq e' xs hm (fun i x hx => ?_) fun i j x u ct hx hu ah => ?_
   ·show x.length = (T.ct e').length
    rw [← h1, List.length_map]; exact hs i x hx
   ·have ah : (T.ct e')[j]? = some ct := ah
    rw [← h1, List.getElem?_map] at ah
    obtain ⟨c, hc, rfl⟩ := Option.map_eq_some_iff.1 ah
    exact ih i j x u c hx hu hc
theorem xz.DF {T : aw} {EH : List (TypeId × TypeId)} (hp : Rq T EH = true) {ai : List CT} {us : List U} (h : xz T.ct ai us) : xz T.ct (ai.map (CT.bA EH)) us := by
 refine ⟨by rw [List.length_map]; exact h.1, fun j ct u ah hu => ?_⟩
 rw [List.getElem?_map] at ah
 obtain ⟨c, hc, rfl⟩ := Option.map_eq_some_iff.1 ah
 exact (h.2 j c u hc hu).DF hp
theorem WR.DF {T : aw} {EH : List (TypeId × TypeId)} (hp : Rq T EH = true) {e e' : TypeId} (he : EH.lookup e = some e') {xs : List (List U)} (h : WR T.ct e xs) : WR T.ct e' xs := by
 refine ⟨h.1, fun x hx => ?_⟩
 have h1 := List.all_eq_true.1 hp _ (Uu he)
 have h1 : (T.ct e).map (CT.bA EH) = T.ct e' := by simpa using h1
 have := (h.2 x hx).DF hp
 rw [h1] at this
 exact this
end Go.Proofs.YtbanfmadialnkaaGreat.Eng
namespace Go.Proofs.YtbanfmadialnkaaGreat.Eng
open Go.RowKit
theorem DT (tx : Int → ByteArray) (k : Int) : EG tx [] k = [] := by simp [EG]
theorem DR (tx : Int → ByteArray) (n : Int) (us : List U) (k : Int) : EG tx (.int n :: us) k = .int k :: EG tx us (k + 1) := by simp [EG, Pu, nU]
theorem DQ (tx : Int → ByteArray) (b : Bool) (us : List U) (k : Int) : EG tx (.bool b :: us) k = .bool (decide (k.tmod 3 = 0)) :: EG tx us (k + 1) := by simp [EG, Pu, nU]
theorem aco (tx : Int → ByteArray) (b : ByteArray) (us : List U) (k : Int) : EG tx (.str b :: us) k = .str (tx k) :: EG tx us (k + 1) := by simp [EG, Pu, nU]
theorem DS (tx : Int → ByteArray) (xs : List (List U)) (us : List U) (k : Int) : EG tx (.lst xs :: us) k = .lst (De tx xs k) :: EG tx us (k + (CY xs : Int)) := by simp [EG, Pu, nU]
theorem Fy (xs ys : List (List U)) : cq xs [] ys = ys := rfl
theorem Fm {xs : List (List U)} {i : Nat} {r : List U} (h : i < xs.length) : (xs.set i r).getD i [] = r := by
 rw [List.getD_eq_getElem?_getD, List.getElem?_set_self h]; rfl
theorem Eo {n : Int} (h : 0 ≤ n) : decide (n < 0) = false := decide_eq_false (by omega)
theorem Fz {xs : List (List U)} {i : Nat} {r r' : List U} : (xs.set i r).set i r' = xs.set i r' := List.set_set ..
def Dd : Int → ByteArray := fun _ => ByteArray.empty
end Go.Proofs.YtbanfmadialnkaaGreat.Eng
namespace Go.Proofs.YtbanfmadialnkaaGreat.Eng
open Go.RowKit
theorem Uz : ∀ {x : List U}, (∀ u ∈ x, nU u ≤ 64 * Dt u + 1) → nR x ≤ 64 * Dn x + x.length
 | [], _ => by simp [nR]
 | u :: us, h => by
  have h1 := h u (by simp)
  have h2 := Uz (x := us) fun v hv => h v (by simp [hv])
  simp only [nR, Dn, List.length_cons]; omega
theorem SK : ∀ {xs : List (List U)}, (∀ x ∈ xs, x.length ≤ 64 ∧ ∀ u ∈ x, nU u ≤ 64 * Dt u + 1) → CY xs ≤ 64 * Db xs
 | [], _ => by simp [CY]
 | x :: xs, h => by
  have h1 := Uz (h x (by simp)).2
  have h0 := (h x (by simp)).1
  have h2 := SK (xs := xs) fun y hy => h y (by simp [hy])
  simp only [CY, Db]; omega
theorem WT.Ek {T : bg} (hB : ∀ e, (T e).length ≤ 64) {ct : CT} {u : U} (h : WT T ct u) : nU u ≤ 64 * Dt u + 1 := by
 induction h with
 | int => simp [nU]
 | bool => simp [nU]
 | str => simp [nU]
 | aq e xs hm hs h ih =>
  have : CY xs ≤ 64 * Db xs := SK fun x hx => by
   obtain ⟨i, hi⟩ := List.getElem?_of_mem hx
   refine ⟨by rw [hs i x hi]; exact hB e, fun u hu => ?_⟩
   obtain ⟨j, hj⟩ := List.getElem?_of_mem hu
   have ay : j < (T e).length := by rw [← hs i x hi]; exact aA hj
   exact ih i j x u _ hi hj (List.getElem?_eq_getElem ay)
  simp only [nU, Dt]; omega
theorem WR.Ek {T : bg} (hB : ∀ e, (T e).length ≤ 64) {e : TypeId} {xs : List (List U)} (h : WR T e xs) : CY xs ≤ 64 * Db xs := SK fun x hx => by
 have hw := h.2 x hx
 refine ⟨by rw [hw.1]; exact hB e, fun u hu => ?_⟩
 obtain ⟨j, hj⟩ := List.getElem?_of_mem hu
 have ay : j < (T e).length := by rw [← hw.1]; exact aA hj
 exact (hw.2 j _ u (List.getElem?_eq_getElem ay) hj).Ek hB
theorem acg {T : aw} (h : (T.all fun r => decide (r.ai.length ≤ 64)) = true) (e : TypeId) : (T.ct e).length ≤ 64 := by
 unfold aw.ct aw.row
 rw [List.getD_eq_getElem?_getD]
 cases hx : T[e]? with
 | none => simp
 | some r => simpa using List.all_eq_true.1 h r (List.mem_of_getElem? hx)
end Go.Proofs.YtbanfmadialnkaaGreat.Eng
/- half -/
