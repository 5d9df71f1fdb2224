/- How many elements data have; marks on data; loops over them. Of no program. -/
import Derived.Test.YtbanfmadialnkaaGreatPL
namespace Go.Proofs.YtbanfmadialnkaaGreat.Eng
open Go.RowKit
set_option linter.unusedVariables false

theorem Du {α : Type} {l : List α} {i : Nat} {z : α} (h : i < l.length) : l.getD i z ∈ l := by
 rw [List.getD_eq_getElem?_getD, List.getElem?_eq_getElem h]; exact List.getElem_mem h
mutual
/-- How many elements. -/
def DD : U → Nat
 | .CY xs => Da xs
 | _ => 0
def Dz : List U → Nat
 | [] => 0
 | u :: us => DD u + Dz us
def Da : List (List U) → Nat
 | [] => 0
 | x :: xs => 1 + Dz x + Da xs
end
mutual
/-- How many marks. -/
def nU : U → Nat
 | .CY xs => Eo xs
 | _ => 1
def nR : List U → Nat
 | [] => 0
 | u :: us => nU u + nR us
def Eo : List (List U) → Nat
 | [] => 0
 | x :: xs => nR x + Eo xs
end
mutual
/-- Data, marked from k on; 'tx': how texts are marked. -/
def Oh (tx : Int → ByteArray) : U → Int → U
 | .int _, k => .int k
 | .bool _, k => .bool (decide (k.tmod 3 = 0))
 | .str _, k => .str (tx k)
 | .CY xs, k => .CY (Fa tx xs k)
def EB (tx : Int → ByteArray) : List U → Int → List U
 | [], _ => []
 | u :: us, k => Oh tx u k :: EB tx us (k + (nU u : Int))
def Fa (tx : Int → ByteArray) : List (List U) → Int → List (List U)
 | [], _ => []
 | x :: xs, k => EB tx x k :: Fa tx xs (k + (nR x : Int))
end
theorem YV (tx : Int → ByteArray) : ∀ (x : List U) (k : Int), (EB tx x k).length = x.length
 | [], k => by simp [EB]
 | u :: us, k => by simp [EB, YV tx us]
theorem YX (tx : Int → ByteArray) : ∀ (xs : List (List U)) (k : Int), (Fa tx xs k).length = xs.length
 | [], k => by simp [Fa]
 | x :: xs, k => by simp [Fa, YX tx xs]
theorem DA : ∀ (xs : List (List U)), xs.length ≤ Da xs
 | [] => by simp [Da]
 | x :: xs => by have := DA xs; simp only [Da, List.length_cons]; omega
theorem VJ : ∀ (xs : List (List U)) (i : Nat), i < xs.length → Da (xs.drop i) = 1 + Dz (xs.getD i []) + Da (xs.drop (i + 1))
 | [], i, h => by simp at h
 | x :: xs, 0, h => by simp [Da]
 | x :: xs, i + 1, h => by
  have := VJ xs i (by simpa using h)
  simpa using this
theorem DJ : ∀ {xs : List (List U)} {x : List U}, x ∈ xs → Dz x < Da xs
 | y :: ys, x, h => by
  simp only [Da]
  rcases List.mem_cons.1 h with rfl | h
  ·omega
  ·have := DJ h; omega
theorem Za : ∀ (xs : List (List U)) (i : Nat), i < xs.length → Eo (xs.drop i) = nR (xs.getD i []) + Eo (xs.drop (i + 1))
 | [], i, h => by simp at h
 | x :: xs, 0, h => by simp [Eo]
 | x :: xs, i + 1, h => by
  have := Za xs i (by simpa using h)
  simpa using this
theorem YZ : ∀ {xs : List (List U)} {x : List U}, x ∈ xs → nR x ≤ Eo xs
 | y :: ys, x, h => by
  simp only [Eo]
  rcases List.mem_cons.1 h with rfl | h
  ·omega
  ·have := YZ h; omega
/-- What a law's measure of its arguments leaves. -/
def DH (n : Nat) (left : Int) : Int := if (n : Int) ≤ left then left - (n : Int) else -1
theorem YW (tx : Int → ByteArray) : ∀ (xs : List (List U)) (k : Int) (i : Nat), i < xs.length → ∃ k', k ≤ k' ∧ k' + (Eo (xs.drop i) : Int) = k + (Eo xs : Int) ∧ (Fa tx xs k).drop i = Fa tx (xs.drop i) k'
 | [], k, i, h => by simp at h
 | x :: xs, k, 0, h => ⟨k, Int.le_refl _, by simp, by simp⟩
 | x :: xs, k, i + 1, h => by
  obtain ⟨k', h1, h2, h3⟩ := YW tx xs (k + (nR x : Int)) i (by simpa using h)
  refine ⟨k', by omega, ?_, by simpa [Fa] using h3⟩
  simp only [List.drop_succ_cons, Eo]
  omega
/-- A loop that marks. -/
theorem acn (tx : Int → ByteArray) {l0 : Int → Int → List (List U) → Option aI} {xs : List (List U)} (DV : ∀ k s, s.length = xs.length → l0 k (xs.length : Int) s = some ⟨[[.int k]], [s]⟩)
  (gU : ∀ i, i < xs.length → ∀ (k : Int) (s : List (List U)), s.length = xs.length → s.getD i [] = xs.getD i [] → 0 ≤ k → k + (nR (xs.getD i []) : Int) ≤ 4611686018427387904 → l0 k (i : Int) s = l0 (k + (nR (xs.getD i []) : Int)) ((i + 1 : Nat) : Int) (s.set i (EB tx (xs.getD i []) k))) :
  ∀ {k : Int}, 0 ≤ k → k + (Eo xs : Int) ≤ 4611686018427387904 → l0 k 0 xs = some ⟨[[.int (k + (Eo xs : Int))]], [Fa tx xs k]⟩ := by
 have key : ∀ (ys : List (List U)) (pre : List (List U)) (k : Int) (i : Nat), i + ys.length = xs.length → pre.length = i → ys = xs.drop i → 0 ≤ k → k + (Eo ys : Int) ≤ 4611686018427387904 → l0 k (i : Int) (pre ++ ys) = some ⟨[[.int (k + (Eo ys : Int))]], [pre ++ Fa tx ys k]⟩ := by
  intro ys
  induction ys with
  | nil =>
   intro pre k i h1 h2 h3 h4 h5
   have hi : i = xs.length := by simpa using h1
   subst hi
   rw [DV k (pre ++ []) (by simp [h2])]
   simp [Eo, Fa]
  | cons y ys ih =>
   intro pre k i h1 h2 h3 h4 h5
   simp only [List.length_cons] at h1
   simp only [Eo] at h5 ⊢
   have hi : i < xs.length := by omega
   have hy : xs.getD i [] = y := by
    rw [List.getD_eq_getElem?_getD]
    have : xs[i]? = (xs.drop i)[0]? := by rw [List.getElem?_drop]; rfl
    rw [this, ← h3]; rfl
   have hs := gU i hi k (pre ++ y :: ys) (by simp; omega) (by rw [hy, List.getD_eq_getElem?_getD, List.getElem?_append_right (by omega), h2, Nat.sub_self]; rfl) h4 (by rw [hy]; omega)
   rw [hy] at hs
   have e1 : (pre ++ y :: ys).set i (EB tx y k) = (pre ++ [EB tx y k]) ++ ys := by
    rw [List.set_append_right _ _ (by omega), h2, Nat.sub_self, List.append_assoc]; rfl
   rw [e1] at hs
   have q := ih (pre ++ [EB tx y k]) (k + (nR y : Int)) (i + 1) (by omega) (by simp [h2]) (by rw [← List.tail_drop, ← h3]; rfl) (by omega) (by omega)
   rw [hs, q, Fa]
   simp [Int.add_assoc]
 intro k h1 h2
 have := key xs [] k 0 (by simp) rfl rfl h1 h2
 simpa using this
/-- A loop that reads marks back. -/
theorem ack (tx : Int → ByteArray) {l0 : Int → Int → Option aI} {xs : List (List U)} {m : Int} (hm : 0 ≤ m) (hb : m + (Eo xs : Int) ≤ 4611686018427387904) (DV : ∀ k, l0 k (xs.length : Int) = some ⟨[[.int k]], []⟩)
  (gU : ∀ i, i < xs.length → ∀ (k : Int), (Fa tx xs m).getD i [] = EB tx (xs.getD i []) k → 0 ≤ k → k + (nR (xs.getD i []) : Int) ≤ 4611686018427387904 → l0 k (i : Int) = l0 (k + (nR (xs.getD i []) : Int)) ((i + 1 : Nat) : Int)) : l0 m 0 = some ⟨[[.int (m + (Eo xs : Int))]], []⟩ := by
 have key : ∀ (ys : List (List U)) (k : Int) (i : Nat), i + ys.length = xs.length → ys = xs.drop i → (Fa tx xs m).drop i = Fa tx ys k → k + (Eo ys : Int) = m + (Eo xs : Int) → 0 ≤ k → l0 k (i : Int) = some ⟨[[.int (m + (Eo xs : Int))]], []⟩ := by
  intro ys
  induction ys with
  | nil =>
   intro k i h1 h2 h3 h4 h5
   have hi : i = xs.length := by simpa using h1
   subst hi
   rw [DV k, ← h4]
   simp [Eo]
  | cons y ys ih =>
   intro k i h1 h2 h3 h4 h5
   simp only [List.length_cons] at h1
   simp only [Eo] at h4
   have hi : i < xs.length := by omega
   have hy : xs.getD i [] = y := by
    rw [List.getD_eq_getElem?_getD]
    have : xs[i]? = (xs.drop i)[0]? := by rw [List.getElem?_drop]; rfl
    rw [this, ← h2]; rfl
   have hz : (Fa tx xs m).getD i [] = EB tx y k := by
    rw [List.getD_eq_getElem?_getD]
    have : (Fa tx xs m)[i]? = ((Fa tx xs m).drop i)[0]? := by rw [List.getElem?_drop]; rfl
    rw [this, h3, Fa]; rfl
   rw [gU i hi k (by rw [hy]; exact hz) h5 (by rw [hy]; omega), hy]
   refine ih (k + (nR y : Int)) (i + 1) (by omega) (by rw [← List.tail_drop, ← h2]; rfl) ?_ (by omega) (by omega)
   rw [← List.tail_drop, h3, Fa]; rfl
 exact key xs m 0 (by simp) rfl rfl rfl hm
/-- A loop that measures. -/
theorem Kj {l0 : Int → Int → Option aI} {xs : List (List U)} {c : List U → Nat} (DV : ∀ l, l0 l (xs.length : Int) = some ⟨[[.int l]], []⟩)
  (gU : ∀ i, i < xs.length → ∀ l : Int, 0 ≤ l → l ≤ 1048576 → l0 l (i : Int) = if (c (xs.getD i []) : Int) ≤ l then l0 (l - (c (xs.getD i []) : Int)) ((i + 1 : Nat) : Int) else some ⟨[[.int (-1)]], []⟩) :
  ∀ {l : Int}, 0 ≤ l → l ≤ 1048576 → l0 l 0 = some ⟨[[.int (DH ((xs.map c).sum) l)]], []⟩ := by
 have key : ∀ i, i ≤ xs.length → ∀ l : Int, 0 ≤ l → l ≤ 1048576 → l0 l (i : Int) = some ⟨[[.int (DH (((xs.drop i).map c).sum) l)]], []⟩ := by
  refine down xs.length ?_ ?_
  ·intro l h0 h1
   rw [DV l, List.drop_length]
   simp [DH, h0]
  ·intro i hi h l h0 h1
   have e : xs.drop i = xs.getD i [] :: xs.drop (i + 1) := by
    rw [List.drop_eq_getElem_cons hi, List.getD_eq_getElem?_getD, List.getElem?_eq_getElem hi]; rfl
   rw [gU i hi l h0 h1, e, List.map_cons, List.sum_cons]
   by_cases hc : (c (xs.getD i []) : Int) ≤ l
   ·rw [if_pos hc, h _ (by omega) (by omega)]
    unfold DH
    by_cases h2 : (((xs.drop (i + 1)).map c).sum : Int) ≤ l - (c (xs.getD i []) : Int)
    ·have e2 : l - (c (xs.getD i []) : Int) - (((xs.drop (i + 1)).map c).sum : Int) = l - ((c (xs.getD i []) + ((xs.drop (i + 1)).map c).sum : Nat) : Int) := by omega
     rw [if_pos h2, if_pos (by omega), e2]
    ·rw [if_neg h2, if_neg (by omega)]
   ·rw [if_neg hc]
    unfold DH
    rw [if_neg (by omega)]
 intro l h0 h1
 have := key 0 (Nat.zero_le _) l h0 h1
 simpa using this
theorem EU : ∀ xs : List (List U), Da xs = xs.length + (xs.map Dz).sum
 | [] => by simp [Da]
 | x :: xs => by rw [Da, EU xs, List.map_cons, List.sum_cons, List.length_cons]; omega
end Go.Proofs.YtbanfmadialnkaaGreat.Eng
namespace Go.Proofs.YtbanfmadialnkaaGreat.Eng
open Go.RowKit
/-- One measure after the other. -/
theorem Ei {o : Option aI} {a b : Nat} {l : Int} (h0 : 0 ≤ l) (h1 : l ≤ 1048576) (ho : o = some ⟨[[.int (DH a l)]], []⟩) {G : Int → Option aI} (hG : ∀ l', 0 ≤ l' → l' ≤ 1048576 → G l' = some ⟨[[.int (DH b l')]], []⟩) :
  (o.bind fun r => bif decide ((r.u 0 0).toInt < 0) then some ⟨[[.int (-1)]], []⟩ else G ((r.u 0 0).toInt)) = some ⟨[[.int (DH (a + b) l)]], []⟩ := by
 rw [ho]
 show (bif decide (DH a l < 0) then some ⟨[[.int (-1)]], []⟩ else G (DH a l)) = _
 unfold DH
 by_cases h : (a : Int) ≤ l
 ·rw [if_pos h, decide_eq_false (by omega), cond_false, hG _ (by omega) (by omega)]
  unfold DH
  by_cases h2 : (b : Int) ≤ l - (a : Int)
  ·have e2 : l - (a : Int) - (b : Int) = l - ((a + b : Nat) : Int) := by omega
   rw [if_pos h2, if_pos (by omega), e2]
  ·rw [if_neg h2, if_neg (by omega)]
 ·rw [if_neg h, if_neg (by omega)]; rfl
theorem EG {l : Int} (h0 : 0 ≤ l) : (some ⟨[[.int l]], []⟩ : Option aI) = some ⟨[[.int (DH 0 l)]], []⟩ := by
 unfold DH
 rw [if_pos (by omega)]; simp
/-- A step of a loop that measures. -/
theorem Kk {o : Option aI} {a : Nat} {l : Int} (_h0 : 0 ≤ l) (ho : o = some ⟨[[.int (DH a l)]], []⟩) {G : Int → Option aI} :
  (o.bind fun r => bif decide ((r.u 0 0).toInt < 0) then some ⟨[[.int (-1)]], []⟩ else G ((r.u 0 0).toInt)) = if (a : Int) ≤ l then G (l - (a : Int)) else some ⟨[[.int (-1)]], []⟩ := by
 rw [ho]
 show (bif decide (DH a l < 0) then some ⟨[[.int (-1)]], []⟩ else G (DH a l)) = _
 unfold DH
 by_cases h : (a : Int) ≤ l
 ·rw [if_pos h, if_pos h, decide_eq_false (by omega), cond_false]
 ·rw [if_neg h, if_neg h]; rfl
theorem Fg {l0 : Int → Option aI} {n m : Nat} {l : Int} (hn : n ≤ 9223372036854775807) (h0 : 0 ≤ l) (h1 : l ≤ 1048576) (h : (n : Int) ≤ l → l0 (l - (n : Int)) = some ⟨[[.int (DH m (l - (n : Int)))]], []⟩) :
  (bif decide (IntKind.i64.wrap (l - (n : Int)) < 0) then some ⟨[[.int (-1)]], []⟩ else l0 (IntKind.i64.wrap (l - (n : Int)))) = some ⟨[[.int (DH (n + m) l)]], []⟩ := by
 rw [KW (by omega) (by omega)]
 by_cases hl : (n : Int) ≤ l
 ·rw [decide_eq_false (by omega), cond_false, h hl]
  unfold DH
  by_cases h2 : (m : Int) ≤ l - (n : Int)
  ·have e2 : l - (n : Int) - (m : Int) = l - ((n + m : Nat) : Int) := by omega
   rw [if_pos h2, if_pos (by omega), e2]
  ·rw [if_neg h2, if_neg (by omega)]
 ·rw [decide_eq_true (by omega), cond_true]
  unfold DH
  rw [if_neg (by omega)]
theorem Jb {xs : List (List U)} (h : ∀ x ∈ xs, Dz x = 0) : (xs.map Dz).sum = 0 := by
 induction xs with
 | nil => rfl
 | cons x xs ih => rw [List.map_cons, List.sum_cons, h x (by simp), ih fun y hy => h y (by simp [hy])]
/-! ### Types of one shape -/
def CT.bA (ED : List (TypeId × TypeId)) : CT → CT
 | .aq e => .aq ((ED.lookup e).getD e)
 | c => c
def Qx (T : aw) (ED : List (TypeId × TypeId)) : Bool := ED.all fun p => decide ((T.ct p.1).map (CT.bA ED) = T.ct p.2)
theorem TM {ED : List (TypeId × TypeId)} {e e' : TypeId} (h : ED.lookup e = some e') : (e, e') ∈ ED := by
 induction ED with
 | nil => cases h
 | cons p ED ih =>
  obtain ⟨a, b⟩ := p
  rw [List.lookup_cons] at h
  split at h
  ·rename_i he
   obtain rfl : e = a := by simpa using he
   cases h; simp
  ·exact List.mem_cons_of_mem _ (ih h)
theorem WT.Em {T : aw} {ED : List (TypeId × TypeId)} (hp : Qx T ED = true) {ct : CT} {u : U} (h : WT T.ct ct u) : WT T.ct (ct.bA ED) u := by
 induction h with
 | int k n h => exact .int k n h
 | bool b => exact .bool b
 | str s h => exact .str s h
 | aq e xs hm hs h ih =>
  cases hl : ED.lookup e with
  | none =>
   show WT T.ct (.aq ((ED.lookup e).getD e)) _
   rw [hl]
   exact .aq e xs hm hs h
  | some e' =>
   show WT T.ct (.aq ((ED.lookup e).getD e)) _
   rw [hl]
   have h1 := List.all_eq_true.1 hp _ (TM hl)
   have h1 : (T.ct e).map (CT.bA ED) = T.ct e' := by simpa using h1
   refine .aq e' xs hm (fun i x hx => ?_) fun i j x u ct hx hu ah => ?_
   ·show x.length = (T.ct e').length
    rw [← h1, List.length_map]; exact hs i x hx
   ·have ah : (T.ct e')[j]? = some ct := ah
    rw [← h1, List.getElem?_map] at ah
    obtain ⟨c, hc, rfl⟩ := Option.map_eq_some_iff.1 ah
    exact ih i j x u c hx hu hc
theorem xz.Em {T : aw} {ED : List (TypeId × TypeId)} (hp : Qx T ED = true) {ai : List CT} {us : List U} (h : xz T.ct ai us) : xz T.ct (ai.map (CT.bA ED)) us := by
 refine ⟨by rw [List.length_map]; exact h.1, fun j ct u ah hu => ?_⟩
 rw [List.getElem?_map] at ah
 obtain ⟨c, hc, rfl⟩ := Option.map_eq_some_iff.1 ah
 exact (h.2 j c u hc hu).Em hp
theorem WR.Em {T : aw} {ED : List (TypeId × TypeId)} (hp : Qx T ED = true) {e e' : TypeId} (he : ED.lookup e = some e') {xs : List (List U)} (h : WR T.ct e xs) : WR T.ct e' xs := by
 refine ⟨h.1, fun x hx => ?_⟩
 have h1 := List.all_eq_true.1 hp _ (TM he)
 have h1 : (T.ct e).map (CT.bA ED) = T.ct e' := by simpa using h1
 have := (h.2 x hx).Em hp
 rw [h1] at this
 exact this
end Go.Proofs.YtbanfmadialnkaaGreat.Eng
namespace Go.Proofs.YtbanfmadialnkaaGreat.Eng
open Go.RowKit
theorem acr (tx : Int → ByteArray) (k : Int) : EB tx [] k = [] := by simp [EB]
theorem acp (tx : Int → ByteArray) (n : Int) (us : List U) (k : Int) : EB tx (.int n :: us) k = .int k :: EB tx us (k + 1) := by simp [EB, Oh, nU]
theorem aco (tx : Int → ByteArray) (b : Bool) (us : List U) (k : Int) : EB tx (.bool b :: us) k = .bool (decide (k.tmod 3 = 0)) :: EB tx us (k + 1) := by simp [EB, Oh, nU]
theorem acs (tx : Int → ByteArray) (b : ByteArray) (us : List U) (k : Int) : EB tx (.str b :: us) k = .str (tx k) :: EB tx us (k + 1) := by simp [EB, Oh, nU]
theorem acq (tx : Int → ByteArray) (xs : List (List U)) (us : List U) (k : Int) : EB tx (.CY xs :: us) k = .CY (Fa tx xs k) :: EB tx us (k + (Eo xs : Int)) := by simp [EB, Oh, nU]
theorem acu (xs ys : List (List U)) : cq xs [] ys = ys := rfl
theorem aci {xs : List (List U)} {i : Nat} {r : List U} (h : i < xs.length) : (xs.set i r).getD i [] = r := by
 rw [List.getD_eq_getElem?_getD, List.getElem?_set_self h]; rfl
theorem VQ {n : Int} (h : 0 ≤ n) : decide (n < 0) = false := decide_eq_false (by omega)
theorem acv {xs : List (List U)} {i : Nat} {r r' : List U} : (xs.set i r).set i r' = xs.set i r' := List.set_set ..
def tx0 : Int → ByteArray := fun _ => ByteArray.empty
end Go.Proofs.YtbanfmadialnkaaGreat.Eng
namespace Go.Proofs.YtbanfmadialnkaaGreat.Eng
open Go.RowKit
theorem TP : ∀ {x : List U}, (∀ u ∈ x, nU u ≤ 64 * DD u + 1) → nR x ≤ 64 * Dz x + x.length
 | [], _ => by simp [nR]
 | u :: us, h => by
  have h1 := h u (by simp)
  have h2 := TP (x := us) fun v hv => h v (by simp [hv])
  simp only [nR, Dz, List.length_cons]; omega
theorem Se : ∀ {xs : List (List U)}, (∀ x ∈ xs, x.length ≤ 64 ∧ ∀ u ∈ x, nU u ≤ 64 * DD u + 1) → Eo xs ≤ 64 * Da xs
 | [], _ => by simp [Eo]
 | x :: xs, h => by
  have h1 := TP (h x (by simp)).2
  have h0 := (h x (by simp)).1
  have h2 := Se (xs := xs) fun y hy => h y (by simp [hy])
  simp only [Eo, Da]; omega
theorem WT.TQ {T : bg} (hB : ∀ e, (T e).length ≤ 64) {ct : CT} {u : U} (h : WT T ct u) : nU u ≤ 64 * DD u + 1 := by
 induction h with
 | int => simp [nU]
 | bool => simp [nU]
 | str => simp [nU]
 | aq e xs hm hs h ih =>
  have : Eo xs ≤ 64 * Da xs := Se fun x hx => by
   obtain ⟨i, hi⟩ := List.getElem?_of_mem hx
   refine ⟨by rw [hs i x hi]; exact hB e, fun u hu => ?_⟩
   obtain ⟨j, hj⟩ := List.getElem?_of_mem hu
   have ay : j < (T e).length := by rw [← hs i x hi]; exact aA hj
   exact ih i j x u _ hi hj (List.getElem?_eq_getElem ay)
  simp only [nU, DD]; omega
theorem WR.TQ {T : bg} (hB : ∀ e, (T e).length ≤ 64) {e : TypeId} {xs : List (List U)} (h : WR T e xs) : Eo xs ≤ 64 * Da xs := Se fun x hx => by
 have hw := h.2 x hx
 refine ⟨by rw [hw.1]; exact hB e, fun u hu => ?_⟩
 obtain ⟨j, hj⟩ := List.getElem?_of_mem hu
 have ay : j < (T e).length := by rw [← hw.1]; exact aA hj
 exact (hw.2 j _ u (List.getElem?_eq_getElem ay) hj).TQ hB
theorem acw {T : aw} (h : (T.all fun r => decide (r.ai.length ≤ 64)) = true) (e : TypeId) : (T.ct e).length ≤ 64 := by
 unfold aw.ct aw.row
 rw [List.getD_eq_getElem?_getD]
 cases hx : T[e]? with
 | none => simp
 | some r => simpa using List.all_eq_true.1 h r (List.mem_of_getElem? hx)
end Go.Proofs.YtbanfmadialnkaaGreat.Eng
/- half -/
