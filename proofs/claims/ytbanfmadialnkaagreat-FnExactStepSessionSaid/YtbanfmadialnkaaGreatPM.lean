/- How many elements data have; marks on data; loops over them. Of no program. -/
import Derived.Test.YtbanfmadialnkaaGreatPL
namespace Go.Proofs.YtbanfmadialnkaaGreat.Eng
open Go.RowKit
set_option linter.unusedVariables false

theorem De {α : Type} {l : List α} {i : Nat} {z : α} (h : i < l.length) : l.getD i z ∈ l := by
 rw [List.getD_eq_getElem?_getD, List.getElem?_eq_getElem h]; exact List.getElem_mem h
mutual
/-- How many elements. -/
def Ds : U → Nat
 | .lst xs => Db xs
 | _ => 0
def Dp : List U → Nat
 | [] => 0
 | u :: us => Ds u + Dp us
def Db : List (List U) → Nat
 | [] => 0
 | x :: xs => 1 + Dp x + Db xs
end
mutual
/-- How many marks. -/
def nU : U → Nat
 | .lst xs => CY xs
 | _ => 1
def nR : List U → Nat
 | [] => 0
 | u :: us => nU u + nR us
def CY : List (List U) → Nat
 | [] => 0
 | x :: xs => nR x + CY xs
end
mutual
/-- Data, marked from k on; 'tx': how texts are marked. -/
def PJ (tx : Int → ByteArray) : U → Int → U
 | .int _, k => .int k
 | .bool _, k => .bool (decide (k.tmod 3 = 0))
 | .str _, k => .str (tx k)
 | .lst xs, k => .lst (Dg tx xs k)
def EJ (tx : Int → ByteArray) : List U → Int → List U
 | [], _ => []
 | u :: us, k => PJ tx u k :: EJ tx us (k + (nU u : Int))
def Dg (tx : Int → ByteArray) : List (List U) → Int → List (List U)
 | [], _ => []
 | x :: xs, k => EJ tx x k :: Dg tx xs (k + (nR x : Int))
end
theorem ZX (tx : Int → ByteArray) : ∀ (x : List U) (k : Int), (EJ tx x k).length = x.length
 | [], k => by simp [EJ]
 | u :: us, k => by simp [EJ, ZX tx us]
theorem Fe (tx : Int → ByteArray) : ∀ (xs : List (List U)) (k : Int), (Dg tx xs k).length = xs.length
 | [], k => by simp [Dg]
 | x :: xs, k => by simp [Dg, Fe tx xs]
theorem Dk : ∀ (xs : List (List U)), xs.length ≤ Db xs
 | [] => by simp [Db]
 | x :: xs => by have := Dk xs; simp only [Db, List.length_cons]; omega
theorem WU : ∀ (xs : List (List U)) (i : Nat), i < xs.length → Db (xs.drop i) = 1 + Dp (xs.getD i []) + Db (xs.drop (i + 1))
 | [], i, h => by simp at h
 | x :: xs, 0, h => by simp [Db]
 | x :: xs, i + 1, h => by
  have := WU xs i (by simpa using h)
  simpa using this
theorem DH : ∀ {xs : List (List U)} {x : List U}, x ∈ xs → Dp x < Db xs
 | y :: ys, x, h => by
  simp only [Db]
  rcases List.mem_cons.1 h with rfl | h
  ·omega
  ·have := DH h; omega
theorem aaa : ∀ (xs : List (List U)) (i : Nat), i < xs.length → CY (xs.drop i) = nR (xs.getD i []) + CY (xs.drop (i + 1))
 | [], i, h => by simp at h
 | x :: xs, 0, h => by simp [CY]
 | x :: xs, i + 1, h => by
  have := aaa xs i (by simpa using h)
  simpa using this
theorem Fg : ∀ {xs : List (List U)} {x : List U}, x ∈ xs → nR x ≤ CY xs
 | y :: ys, x, h => by
  simp only [CY]
  rcases List.mem_cons.1 h with rfl | h
  ·omega
  ·have := Fg h; omega
/-- What a law's measure of its arguments leaves. -/
def DG (n : Nat) (left : Int) : Int := if (n : Int) ≤ left then left - (n : Int) else -1
theorem ZY (tx : Int → ByteArray) : ∀ (xs : List (List U)) (k : Int) (i : Nat), i < xs.length → ∃ k', k ≤ k' ∧ k' + (CY (xs.drop i) : Int) = k + (CY xs : Int) ∧ (Dg tx xs k).drop i = Dg tx (xs.drop i) k'
 | [], k, i, h => by simp at h
 | x :: xs, k, 0, h => ⟨k, Int.le_refl _, by simp, by simp⟩
 | x :: xs, k, i + 1, h => by
  obtain ⟨k', h1, h2, h3⟩ := ZY tx xs (k + (nR x : Int)) i (by simpa using h)
  refine ⟨k', by omega, ?_, by simpa [Dg] using h3⟩
  simp only [List.drop_succ_cons, CY]
  omega
/-- A loop that marks. -/
theorem FA (tx : Int → ByteArray) {l0 : Int → Int → List (List U) → Option aI} {xs : List (List U)} (Es : ∀ k s, s.length = xs.length → l0 k (xs.length : Int) s = some ⟨[[.int k]], [s]⟩)
  (gU : ∀ i, i < xs.length → ∀ (k : Int) (s : List (List U)), s.length = xs.length → s.getD i [] = xs.getD i [] → 0 ≤ k → k + (nR (xs.getD i []) : Int) ≤ 4611686018427387904 → l0 k (i : Int) s = l0 (k + (nR (xs.getD i []) : Int)) ((i + 1 : Nat) : Int) (s.set i (EJ tx (xs.getD i []) k))) :
  ∀ {k : Int}, 0 ≤ k → k + (CY xs : Int) ≤ 4611686018427387904 → l0 k 0 xs = some ⟨[[.int (k + (CY xs : Int))]], [Dg tx xs k]⟩ := by
 have key : ∀ (ys : List (List U)) (pre : List (List U)) (k : Int) (i : Nat), i + ys.length = xs.length → pre.length = i → ys = xs.drop i → 0 ≤ k → k + (CY ys : Int) ≤ 4611686018427387904 → l0 k (i : Int) (pre ++ ys) = some ⟨[[.int (k + (CY ys : Int))]], [pre ++ Dg tx ys k]⟩ := by
  intro ys
  induction ys with
  | nil =>
   intro pre k i h1 h2 h3 h4 h5
   have hi : i = xs.length := by simpa using h1
   subst hi
   rw [Es k (pre ++ []) (by simp [h2])]
   simp [CY, Dg]
  | cons y ys ih =>
   intro pre k i h1 h2 h3 h4 h5
   simp only [List.length_cons] at h1
   simp only [CY] at h5 ⊢
   have hi : i < xs.length := by omega
   have hy : xs.getD i [] = y := by
    rw [List.getD_eq_getElem?_getD]
    have : xs[i]? = (xs.drop i)[0]? := by rw [List.getElem?_drop]; rfl
    rw [this, ← h3]; rfl
   have hs := gU i hi k (pre ++ y :: ys) (by simp; omega) (by rw [hy, List.getD_eq_getElem?_getD, List.getElem?_append_right (by omega), h2, Nat.sub_self]; rfl) h4 (by rw [hy]; omega)
   rw [hy] at hs
   have e1 : (pre ++ y :: ys).set i (EJ tx y k) = (pre ++ [EJ tx y k]) ++ ys := by
    rw [List.set_append_right _ _ (by omega), h2, Nat.sub_self, List.append_assoc]; rfl
   rw [e1] at hs
   have q := ih (pre ++ [EJ tx y k]) (k + (nR y : Int)) (i + 1) (by omega) (by simp [h2]) (by rw [← List.tail_drop, ← h3]; rfl) (by omega) (by omega)
   rw [hs, q, Dg]
   simp [Int.add_assoc]
 intro k h1 h2
 have := key xs [] k 0 (by simp) rfl rfl h1 h2
 simpa using this
/-- A loop that reads marks back. -/
theorem Fw (tx : Int → ByteArray) {l0 : Int → Int → Option aI} {xs : List (List U)} {m : Int} (hm : 0 ≤ m) (hb : m + (CY xs : Int) ≤ 4611686018427387904) (Es : ∀ k, l0 k (xs.length : Int) = some ⟨[[.int k]], []⟩)
  (gU : ∀ i, i < xs.length → ∀ (k : Int), (Dg tx xs m).getD i [] = EJ tx (xs.getD i []) k → 0 ≤ k → k + (nR (xs.getD i []) : Int) ≤ 4611686018427387904 → l0 k (i : Int) = l0 (k + (nR (xs.getD i []) : Int)) ((i + 1 : Nat) : Int)) : l0 m 0 = some ⟨[[.int (m + (CY xs : Int))]], []⟩ := by
 have key : ∀ (ys : List (List U)) (k : Int) (i : Nat), i + ys.length = xs.length → ys = xs.drop i → (Dg tx xs m).drop i = Dg tx ys k → k + (CY ys : Int) = m + (CY xs : Int) → 0 ≤ k → l0 k (i : Int) = some ⟨[[.int (m + (CY xs : Int))]], []⟩ := by
  intro ys
  induction ys with
  | nil =>
   intro k i h1 h2 h3 h4 h5
   have hi : i = xs.length := by simpa using h1
   subst hi
   rw [Es k, ← h4]
   simp [CY]
  | cons y ys ih =>
   intro k i h1 h2 h3 h4 h5
   simp only [List.length_cons] at h1
   simp only [CY] at h4
   have hi : i < xs.length := by omega
   have hy : xs.getD i [] = y := by
    rw [List.getD_eq_getElem?_getD]
    have : xs[i]? = (xs.drop i)[0]? := by rw [List.getElem?_drop]; rfl
    rw [this, ← h2]; rfl
   have hz : (Dg tx xs m).getD i [] = EJ tx y k := by
    rw [List.getD_eq_getElem?_getD]
    have : (Dg tx xs m)[i]? = ((Dg tx xs m).drop i)[0]? := by rw [List.getElem?_drop]; rfl
    rw [this, h3, Dg]; rfl
   rw [gU i hi k (by rw [hy]; exact hz) h5 (by rw [hy]; omega), hy]
   refine ih (k + (nR y : Int)) (i + 1) (by omega) (by rw [← List.tail_drop, ← h2]; rfl) ?_ (by omega) (by omega)
   rw [← List.tail_drop, h3, Dg]; rfl
 exact key xs m 0 (by simp) rfl rfl rfl hm
/-- A loop that measures. -/
theorem LF {l0 : Int → Int → Option aI} {xs : List (List U)} {c : List U → Nat} (Es : ∀ l, l0 l (xs.length : Int) = some ⟨[[.int l]], []⟩)
  (gU : ∀ i, i < xs.length → ∀ l : Int, 0 ≤ l → l ≤ 1048576 → l0 l (i : Int) = if (c (xs.getD i []) : Int) ≤ l then l0 (l - (c (xs.getD i []) : Int)) ((i + 1 : Nat) : Int) else some ⟨[[.int (-1)]], []⟩) :
  ∀ {l : Int}, 0 ≤ l → l ≤ 1048576 → l0 l 0 = some ⟨[[.int (DG ((xs.map c).sum) l)]], []⟩ := by
 have key : ∀ i, i ≤ xs.length → ∀ l : Int, 0 ≤ l → l ≤ 1048576 → l0 l (i : Int) = some ⟨[[.int (DG (((xs.drop i).map c).sum) l)]], []⟩ := by
  refine down xs.length ?_ ?_
  ·intro l h0 h1
   rw [Es l, List.drop_length]
   simp [DG, h0]
  ·intro i hi h l h0 h1
   have e : xs.drop i = xs.getD i [] :: xs.drop (i + 1) := by
    rw [List.drop_eq_getElem_cons hi, List.getD_eq_getElem?_getD, List.getElem?_eq_getElem hi]; rfl
   rw [gU i hi l h0 h1, e, List.map_cons, List.sum_cons]
   by_cases hc : (c (xs.getD i []) : Int) ≤ l
   ·rw [if_pos hc, h _ (by omega) (by omega)]
    unfold DG
    by_cases h2 : (((xs.drop (i + 1)).map c).sum : Int) ≤ l - (c (xs.getD i []) : Int)
    ·have e2 : l - (c (xs.getD i []) : Int) - (((xs.drop (i + 1)).map c).sum : Int) = l - ((c (xs.getD i []) + ((xs.drop (i + 1)).map c).sum : Nat) : Int) := by omega
     rw [if_pos h2, if_pos (by omega), e2]
    ·rw [if_neg h2, if_neg (by omega)]
   ·rw [if_neg hc]
    unfold DG
    rw [if_neg (by omega)]
 intro l h0 h1
 have := key 0 (Nat.zero_le _) l h0 h1
 simpa using this
theorem ES : ∀ xs : List (List U), Db xs = xs.length + (xs.map Dp).sum
 | [] => by simp [Db]
 | x :: xs => by rw [Db, ES xs, List.map_cons, List.sum_cons, List.length_cons]; omega
end Go.Proofs.YtbanfmadialnkaaGreat.Eng
namespace Go.Proofs.YtbanfmadialnkaaGreat.Eng
open Go.RowKit
/-- One measure after the other. -/
theorem Eu {o : Option aI} {a b : Nat} {l : Int} (h0 : 0 ≤ l) (h1 : l ≤ 1048576) (ho : o = some ⟨[[.int (DG a l)]], []⟩) {G : Int → Option aI} (hG : ∀ l', 0 ≤ l' → l' ≤ 1048576 → G l' = some ⟨[[.int (DG b l')]], []⟩) :
  (o.bind fun r => bif decide ((r.u 0 0).toInt < 0) then some ⟨[[.int (-1)]], []⟩ else G ((r.u 0 0).toInt)) = some ⟨[[.int (DG (a + b) l)]], []⟩ := by
 rw [ho]
 show (bif decide (DG a l < 0) then some ⟨[[.int (-1)]], []⟩ else G (DG a l)) = _
 unfold DG
 by_cases h : (a : Int) ≤ l
 ·rw [if_pos h, decide_eq_false (by omega), cond_false, hG _ (by omega) (by omega)]
  unfold DG
  by_cases h2 : (b : Int) ≤ l - (a : Int)
  ·have e2 : l - (a : Int) - (b : Int) = l - ((a + b : Nat) : Int) := by omega
   rw [if_pos h2, if_pos (by omega), e2]
  ·rw [if_neg h2, if_neg (by omega)]
 ·rw [if_neg h, if_neg (by omega)]; rfl
theorem EL {l : Int} (h0 : 0 ≤ l) : (some ⟨[[.int l]], []⟩ : Option aI) = some ⟨[[.int (DG 0 l)]], []⟩ := by
 unfold DG
 rw [if_pos (by omega)]; simp
/-- A step of a loop that measures. -/
theorem LG {o : Option aI} {a : Nat} {l : Int} (_h0 : 0 ≤ l) (ho : o = some ⟨[[.int (DG a l)]], []⟩) {G : Int → Option aI} :
  (o.bind fun r => bif decide ((r.u 0 0).toInt < 0) then some ⟨[[.int (-1)]], []⟩ else G ((r.u 0 0).toInt)) = if (a : Int) ≤ l then G (l - (a : Int)) else some ⟨[[.int (-1)]], []⟩ := by
 rw [ho]
 show (bif decide (DG a l < 0) then some ⟨[[.int (-1)]], []⟩ else G (DG a l)) = _
 unfold DG
 by_cases h : (a : Int) ≤ l
 ·rw [if_pos h, if_pos h, decide_eq_false (by omega), cond_false]
 ·rw [if_neg h, if_neg h]; rfl
theorem Fk {l0 : Int → Option aI} {n m : Nat} {l : Int} (hn : n ≤ 9223372036854775807) (h0 : 0 ≤ l) (h1 : l ≤ 1048576) (h : (n : Int) ≤ l → l0 (l - (n : Int)) = some ⟨[[.int (DG m (l - (n : Int)))]], []⟩) :
  (bif decide (IntKind.i64.wrap (l - (n : Int)) < 0) then some ⟨[[.int (-1)]], []⟩ else l0 (IntKind.i64.wrap (l - (n : Int)))) = some ⟨[[.int (DG (n + m) l)]], []⟩ := by
 rw [DT (by omega) (by omega)]
 by_cases hl : (n : Int) ≤ l
 ·rw [decide_eq_false (by omega), cond_false, h hl]
  unfold DG
  by_cases h2 : (m : Int) ≤ l - (n : Int)
  ·have e2 : l - (n : Int) - (m : Int) = l - ((n + m : Nat) : Int) := by omega
   rw [if_pos h2, if_pos (by omega), e2]
  ·rw [if_neg h2, if_neg (by omega)]
 ·rw [decide_eq_true (by omega), cond_true]
  unfold DG
  rw [if_neg (by omega)]
theorem JH {xs : List (List U)} (h : ∀ x ∈ xs, Dp x = 0) : (xs.map Dp).sum = 0 := by
 induction xs with
 | nil => rfl
 | cons x xs ih => rw [List.map_cons, List.sum_cons, h x (by simp), ih fun y hy => h y (by simp [hy])]
/-! ### Types of one shape -/
def CT.bA (EK : List (TypeId × TypeId)) : CT → CT
 | .aq e => .aq ((EK.lookup e).getD e)
 | c => c
def RL (T : aw) (EK : List (TypeId × TypeId)) : Bool := EK.all fun p => decide ((T.ct p.1).map (CT.bA EK) = T.ct p.2)
theorem UE {EK : List (TypeId × TypeId)} {e e' : TypeId} (h : EK.lookup e = some e') : (e, e') ∈ EK := by
 induction EK with
 | nil => cases h
 | cons p EK ih =>
  obtain ⟨a, b⟩ := p
  rw [List.lookup_cons] at h
  split at h
  ·rename_i he
   obtain rfl : e = a := by simpa using he
   cases h; simp
  ·exact List.mem_cons_of_mem _ (ih h)
theorem WT.DI {T : aw} {EK : List (TypeId × TypeId)} (hp : RL T EK = true) {ct : CT} {u : U} (h : WT T.ct ct u) : WT T.ct (ct.bA EK) u := by
 induction h with
 | int k n h => exact .int k n h
 | bool b => exact .bool b
 | str s h => exact .str s h
 | aq e xs hm hs h ih =>
  cases hl : EK.lookup e with
  | none =>
   show WT T.ct (.aq ((EK.lookup e).getD e)) _
   rw [hl]
   exact .aq e xs hm hs h
  | some e' =>
   show WT T.ct (.aq ((EK.lookup e).getD e)) _
   rw [hl]
   have h1 := List.all_eq_true.1 hp _ (UE hl)
   have h1 : (T.ct e).map (CT.bA EK) = T.ct e' := by simpa using h1
   refine .aq e' xs hm (fun i x hx => ?_) fun i j x u ct hx hu ah => ?_
   ·show x.length = (T.ct e').length
    rw [← h1, List.length_map]; exact hs i x hx
   ·have ah : (T.ct e')[j]? = some ct := ah
    rw [← h1, List.getElem?_map] at ah
    obtain ⟨c, hc, rfl⟩ := Option.map_eq_some_iff.1 ah
    exact ih i j x u c hx hu hc
theorem xz.DI {T : aw} {EK : List (TypeId × TypeId)} (hp : RL T EK = true) {ai : List CT} {us : List U} (h : xz T.ct ai us) : xz T.ct (ai.map (CT.bA EK)) us := by
 refine ⟨by rw [List.length_map]; exact h.1, fun j ct u ah hu => ?_⟩
 rw [List.getElem?_map] at ah
 obtain ⟨c, hc, rfl⟩ := Option.map_eq_some_iff.1 ah
 exact (h.2 j c u hc hu).DI hp
theorem WR.DI {T : aw} {EK : List (TypeId × TypeId)} (hp : RL T EK = true) {e e' : TypeId} (he : EK.lookup e = some e') {xs : List (List U)} (h : WR T.ct e xs) : WR T.ct e' xs := by
 refine ⟨h.1, fun x hx => ?_⟩
 have h1 := List.all_eq_true.1 hp _ (UE he)
 have h1 : (T.ct e).map (CT.bA EK) = T.ct e' := by simpa using h1
 have := (h.2 x hx).DI hp
 rw [h1] at this
 exact this
end Go.Proofs.YtbanfmadialnkaaGreat.Eng
namespace Go.Proofs.YtbanfmadialnkaaGreat.Eng
open Go.RowKit
theorem Ea (tx : Int → ByteArray) (k : Int) : EJ tx [] k = [] := by simp [EJ]
theorem DY (tx : Int → ByteArray) (n : Int) (us : List U) (k : Int) : EJ tx (.int n :: us) k = .int k :: EJ tx us (k + 1) := by simp [EJ, PJ, nU]
theorem DX (tx : Int → ByteArray) (b : Bool) (us : List U) (k : Int) : EJ tx (.bool b :: us) k = .bool (decide (k.tmod 3 = 0)) :: EJ tx us (k + 1) := by simp [EJ, PJ, nU]
theorem acy (tx : Int → ByteArray) (b : ByteArray) (us : List U) (k : Int) : EJ tx (.str b :: us) k = .str (tx k) :: EJ tx us (k + 1) := by simp [EJ, PJ, nU]
theorem DZ (tx : Int → ByteArray) (xs : List (List U)) (us : List U) (k : Int) : EJ tx (.lst xs :: us) k = .lst (Dg tx xs k) :: EJ tx us (k + (CY xs : Int)) := by simp [EJ, PJ, nU]
theorem FP (xs ys : List (List U)) : cq xs [] ys = ys := rfl
theorem Fu {xs : List (List U)} {i : Nat} {r : List U} (h : i < xs.length) : (xs.set i r).getD i [] = r := by
 rw [List.getD_eq_getElem?_getD, List.getElem?_set_self h]; rfl
theorem ED {n : Int} (h : 0 ≤ n) : decide (n < 0) = false := decide_eq_false (by omega)
theorem FQ {xs : List (List U)} {i : Nat} {r r' : List U} : (xs.set i r).set i r' = xs.set i r' := List.set_set ..
def Dd : Int → ByteArray := fun _ => ByteArray.empty
end Go.Proofs.YtbanfmadialnkaaGreat.Eng
namespace Go.Proofs.YtbanfmadialnkaaGreat.Eng
open Go.RowKit
theorem UJ : ∀ {x : List U}, (∀ u ∈ x, nU u ≤ 64 * Ds u + 1) → nR x ≤ 64 * Dp x + x.length
 | [], _ => by simp [nR]
 | u :: us, h => by
  have h1 := h u (by simp)
  have h2 := UJ (x := us) fun v hv => h v (by simp [hv])
  simp only [nR, Dp, List.length_cons]; omega
theorem SZ : ∀ {xs : List (List U)}, (∀ x ∈ xs, x.length ≤ 64 ∧ ∀ u ∈ x, nU u ≤ 64 * Ds u + 1) → CY xs ≤ 64 * Db xs
 | [], _ => by simp [CY]
 | x :: xs, h => by
  have h1 := UJ (h x (by simp)).2
  have h0 := (h x (by simp)).1
  have h2 := SZ (xs := xs) fun y hy => h y (by simp [hy])
  simp only [CY, Db]; omega
theorem WT.Em {T : bg} (hB : ∀ e, (T e).length ≤ 64) {ct : CT} {u : U} (h : WT T ct u) : nU u ≤ 64 * Ds u + 1 := by
 induction h with
 | int => simp [nU]
 | bool => simp [nU]
 | str => simp [nU]
 | aq e xs hm hs h ih =>
  have : CY xs ≤ 64 * Db xs := SZ fun x hx => by
   obtain ⟨i, hi⟩ := List.getElem?_of_mem hx
   refine ⟨by rw [hs i x hi]; exact hB e, fun u hu => ?_⟩
   obtain ⟨j, hj⟩ := List.getElem?_of_mem hu
   have ay : j < (T e).length := by rw [← hs i x hi]; exact aA hj
   exact ih i j x u _ hi hj (List.getElem?_eq_getElem ay)
  simp only [nU, Ds]; omega
theorem WR.Em {T : bg} (hB : ∀ e, (T e).length ≤ 64) {e : TypeId} {xs : List (List U)} (h : WR T e xs) : CY xs ≤ 64 * Db xs := SZ fun x hx => by
 have hw := h.2 x hx
 refine ⟨by rw [hw.1]; exact hB e, fun u hu => ?_⟩
 obtain ⟨j, hj⟩ := List.getElem?_of_mem hu
 have ay : j < (T e).length := by rw [← hw.1]; exact aA hj
 exact (hw.2 j _ u (List.getElem?_eq_getElem ay) hj).Em hB
theorem acr {T : aw} (h : (T.all fun r => decide (r.ai.length ≤ 64)) = true) (e : TypeId) : (T.ct e).length ≤ 64 := by
 unfold aw.ct aw.row
 rw [List.getD_eq_getElem?_getD]
 cases hx : T[e]? with
 | none => simp
 | some r => simpa using List.all_eq_true.1 h r (List.mem_of_getElem? hx)
end Go.Proofs.YtbanfmadialnkaaGreat.Eng
/- half -/
