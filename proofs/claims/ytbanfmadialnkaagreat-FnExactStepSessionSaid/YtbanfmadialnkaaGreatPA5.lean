/- Roles and conditions, as the program has them. -/
import Derived.Test.YtbanfmadialnkaaGreatPA4
namespace Go.Proofs.YtbanfmadialnkaaGreat.Eng
open Go.RowKit
set_option linter.unusedVariables false
set_option linter.unusedSimpArgs false
set_option linter.unusedSectionVars false
set_option maxRecDepth 100000
variable [Sm]
/-! ### Sorted lists -/
theorem SY (x : Int) : ∀ l : List Int, x ∈ fX l ↔ x ∈ l
 | [] => Iff.rfl
 | y :: l => by
  have ih := SY x l
  unfold fX
  split
  ·rename_i h
   rw [h] at ih
   rw [List.mem_cons, List.mem_cons, ← ih]
  ·rename_i z k h
   rw [h] at ih
   split
   ·rename_i hy
    subst hy
    rw [List.mem_cons (l := l), ← ih]
    simp
   ·rw [List.mem_cons, List.mem_cons (l := l), ← ih]
theorem TW : ∀ l : List Int, l.Pairwise (· ≤ ·) → (fX l).Pairwise (· < ·)
 | [], _ => List.Pairwise.nil
 | x :: l, h => by
  obtain ⟨h1, h2⟩ := List.pairwise_cons.1 h
  have ih := TW l h2
  have hm := fun z => SY z l
  unfold fX
  split
  ·exact List.pairwise_singleton ..
  ·rename_i y k hk
   rw [hk] at ih hm
   split
   ·exact ih
   ·rename_i aS
    obtain ⟨h3, h4⟩ := List.pairwise_cons.1 ih
    have hxy : x ≤ y := h1 y ((hm y).1 (by simp))
    refine List.pairwise_cons.2 ⟨fun z hz => ?_, ih⟩
    rcases List.mem_cons.1 hz with rfl | hz
    ·omega
    ·have := h3 z hz; omega
theorem VF : ∀ (a b : List Int), a.Pairwise (· < ·) → b.Pairwise (· < ·) → (∀ x, x ∈ a ↔ x ∈ b) → a = b
 | [], [], _, _, _ => rfl
 | [], y :: b, _, _, h => by have := (h y).2 (by simp); simp at this
 | x :: a, [], _, _, h => by have := (h x).1 (by simp); simp at this
 | x :: a, y :: b, ha, hb, h => by
  obtain ⟨h1, h2⟩ := List.pairwise_cons.1 ha
  obtain ⟨h3, h4⟩ := List.pairwise_cons.1 hb
  obtain rfl : x = y := by
   rcases List.mem_cons.1 ((h x).1 (by simp)) with e | e
   ·exact e
   ·rcases List.mem_cons.1 ((h y).2 (by simp)) with e' | e'
    ·exact e'.symm
    ·have := h3 x e; have := h1 y e'; omega
  congr 1
  refine VF a b h2 h4 fun z => ?_
  have := h z
  simp only [List.mem_cons] at this
  constructor
  ·intro hz
   rcases this.1 (.inr hz) with rfl | e
   ·have := h1 z hz; omega
   ·exact e
  ·intro hz
   rcases this.2 (.inr hz) with rfl | e
   ·have := h3 z hz; omega
   ·exact e
theorem aa8 (l : List Int) : (pw l).Pairwise (· ≤ ·) := by
 have := List.pairwise_mergeSort (le := fun x y : Int => decide (x ≤ y)) (fun a b c h1 h2 => by simp only [decide_eq_true_eq] at *; omega) (fun a b => by simp only [Bool.or_eq_true, decide_eq_true_eq]; omega) l
 exact this.imp fun h => by simpa using h
theorem aa7 (l : List Int) (x : Int) : x ∈ pw l ↔ x ∈ l := List.mem_mergeSort
theorem aam (l : List Int) : cO (fK l) = l := by
 unfold cO fK
 rw [List.map_map]
 conv => rhs; rw [← List.map_id l]
 rfl
/-- Sorted, without repetitions: the numbers that are marked. -/
theorem WX {xs : LL} {f : Mk} (h1 : ∀ x ∈ xs, ∃ k : Nat, k < 6 ∧ x = [U.int (k : Int)]) (h2 : ∀ k : Nat, k < 6 → ([U.int (k : Int)] ∈ xs ↔ f k = true)) : uc (tc xs) = ET f := by
 have e : ET f = fK (((List.range 6).filter f).map fun k : Nat => (k : Int)) := by
  unfold ET fK
  rw [List.map_map]; rfl
 unfold uc tc
 rw [aam, e]
 congr 1
 refine VF _ _ (TW _ (aa8 _)) ?_ fun x => ?_
 ·rw [List.pairwise_map]
  refine (List.Pairwise.filter f (List.pairwise_lt_range (n := 6))).imp fun h => by omega
 ·rw [SY, aa7]
  simp only [cO, List.mem_map, List.mem_filter, List.mem_range]
  constructor
  ·rintro ⟨y, hy, rfl⟩
   obtain ⟨k, hk, rfl⟩ := h1 y hy
   exact ⟨k, ⟨hk, (h2 k hk).1 hy⟩, rfl⟩
  ·rintro ⟨k, ⟨hk, hf⟩, rfl⟩
   exact ⟨_, (h2 k hk).2 hf, rfl⟩
/-! ### Who is under a role -/
open Classical in
noncomputable def Ig (l : LL) (r : Nat) : Mk := fun k => decide (Mr l r k)
theorem Uv (a : Int) : MI.c a = rB (within a 0 5) := by simp only [MI.eq, Hv, q0, qb]
theorem TP (f : Mk) {k : Nat} (h : k < 6) : [f 0, f 1, f 2, f 3, f 4, f 5].getD k false = f k := by
 rcases (by omega : k = 0 ∨ k = 1 ∨ k = 2 ∨ k = 3 ∨ k = 4 ∨ k = 5) with rfl | rfl | rfl | rfl | rfl | rfl <;> rfl
theorem Zd (r : Int) (f : Mk) : Hx.l0 r (f 0) (f 1) (f 2) (f 3) (f 4) (f 5) 0 [] = rL (ET fun k => f k || decide ((k : Int) = r)) := by
 refine LP (l0 := fun i s => Hx.l0 r (f 0) (f 1) (f 2) (f 3) (f 4) (f 5) i s) (n := 6) (p := fun k => f k || decide ((k : Int) = r)) (row := fun k => [U.int (k : Int)]) (R := fun s => rL s) (fun s hs => ?_) fun i hi s hs => ?_
 ·rw [Hx.Da]; rfl
 ·rw [Hx.Da, decide_eq_true (by omega), DE hi, DJ (by omega), Int.toNat_natCast, TP f hi, Dq (by simp; omega) (by simp; omega)]
  cases f i <;> cases decide ((i : Int) = r) <;> rfl
def LH : Prop := ∀ (l : LL) (r : Nat), l.length ≤ 4611686018427387904 → r < 6 → Ez.c l (r : Int) = some ⟨[[.bool (Ig l r 0), .bool (Ig l r 1), .bool (Ig l r 2), .bool (Ig l r 3), .bool (Ig l r 4), .bool (Ig l r 5)]], []⟩
theorem Zi (hB : LH) (l : LL) (hl : l.length ≤ 4611686018427387904) (role : Int) : Hx.c l role = rL (under l role) := by
 rw [Hx.eq, Uv]
 simp only [q0, qb]
 unfold under
 cases h : within role 0 5
 ·rfl
 ·obtain ⟨h1, h2⟩ := En h
  obtain ⟨r, rfl⟩ := Int.eq_ofNat_of_zero_le h1
  rw [hB l r hl (by omega)]
  refine (Zd (r : Int) (Ig l r)).trans ?_
  show rL _ = rL (ET (LB l (Int.toNat (r : Int))))
  congr 2
  funext k
  rw [Int.toNat_natCast, Bool.eq_iff_iff]
  simp only [LB, Ig, Bool.or_eq_true, decide_eq_true_eq]
  rw [Gc.TQ]
  constructor
  ·rintro (h | h)
   ·exact .inr h
   ·exact .inl (by omega)
  ·rintro (h | h)
   ·exact .inr (by omega)
   ·exact .inl h
theorem aco {l : LL} {role : Int} {k : Nat} (hk : k < 6) : [U.int (k : Int)] ∈ under l role ↔ (bif within role 0 5 then (decide (k < 6) && LB l role.toNat k) else false) = true := by
 unfold under
 cases within role 0 5
 ·simp
 ·simp only [cond_true, Bool.and_eq_true, decide_eq_true_eq]
  rw [PK]
  constructor
  ·rintro ⟨j, h1, h2, h3⟩
   simp only [List.cons.injEq, U.int.injEq, and_true] at h3
   obtain rfl : k = j := by omega
   exact ⟨hk, h2⟩
  ·rintro ⟨_, h⟩
   exact ⟨k, hk, h, rfl⟩
theorem acn {l : LL} {role : Int} {x : List U} (h : x ∈ under l role) : ∃ k : Nat, k < 6 ∧ x = [U.int (k : Int)] := by
 unfold under at h
 cases hw : within role 0 5
 ·rw [hw] at h; simp at h
 ·rw [hw] at h
  obtain ⟨k, h1, _, h3⟩ := PK.1 h
  exact ⟨k, h1, h3⟩
theorem abF {s : LL} {i : Nat} (hi : i < s.length) : s.take (i + 1) = s.take i ++ [s.getD i []] := by
 rw [List.take_succ_eq_append_getElem hi, List.getD_eq_getElem?_getD, List.getElem?_eq_getElem hi]; rfl
theorem Zc (hB : LH) (l s : LL) (hl : l.length ≤ 4611686018427387904) (hs : s.length ≤ 1048576) (p now DB : Int) : Hw.c l s p now DB = rL (ET (Tq l s p now DB)) := by
 rw [Hw.eq]
 have := XR (l0 := fun i acc => Hw.l0 l p now DB s (ln s) i acc) (n := s.length) (step := fun (acc : LL) i => bif Mh p now DB (s.getD i []) then acc ++ under l (ui (s.getD i []) 2) else acc) (R := fun acc => rL (uc (tc acc)))
  (I := fun i acc => acc.length ≤ 6 * i ∧ (∀ x ∈ acc, ∃ k : Nat, k < 6 ∧ x = [U.int (k : Int)]) ∧ ∀ k : Nat, k < 6 → ([U.int (k : Int)] ∈ acc ↔ (s.take i).foldl (PO l p now DB) (fun _ => false) k = true)) (s0 := [])
  (fun acc ⟨h1, _, _⟩ => ?_) (fun i hi acc ⟨h1, h2, h3⟩ => ?_) ⟨by simp, fun x hx => by simp at hx, fun k _ => by simp⟩
 ·obtain ⟨q1, q2, q3, q4⟩ := this
  rw [List.take_length] at q4
  exact q1.trans (congrArg rL (WX q3 q4))
 ·have e : (tc acc).length = acc.length := by unfold tc; rw [Aw, BR]; simp [cO]
  rw [Hw.Da, Dj (Nat.le_refl _), e, Dq (by omega) (by omega)]; rfl
 ·refine ⟨⟨?_, ?_, ?_⟩, ?_⟩
  ·cases Mh p now DB (s.getD i [])
   ·show acc.length ≤ _; omega
   ·have := VN l (ui (s.getD i []) 2)
    show (acc ++ _).length ≤ _
    rw [List.length_append]; omega
  ·intro x hx
   cases hr : Mh p now DB (s.getD i [])
   ·rw [hr] at hx; exact h2 x hx
   ·rw [hr] at hx
    rcases List.mem_append.1 hx with hx | hx
    ·exact h2 x hx
    ·exact acn hx
  ·intro k hk
   rw [abF hi, List.foldl_append, List.foldl_cons, List.foldl_nil]
   unfold PO
   cases Mh p now DB (s.getD i [])
   ·exact h3 k hk
   ·show [U.int (k : Int)] ∈ acc ++ _ ↔ ((bif within (ui (s.getD i []) 2) 0 5 then (decide (k < 6) && LB l (ui (s.getD i []) 2).toNat k) else false) || _) = true
    rw [List.mem_append, aco hk, h3 k hk, Bool.or_eq_true, or_comm]; rfl
  ·have hu := VN l (ui (s.getD i []) 2)
   rw [Hw.Da, Di hi, DE hi, DJ (by omega)]
   simp only [SM, Zi hB l hl, q0, qb, ql, Gw, cond_true]
   have er : Mh p now DB (s.getD i []) = (decide (gi s (i : Int) 0 = 1) && (decide (gi s (i : Int) 1 = p) && KD (gi s (i : Int) 0) (gi s (i : Int) 1) (gi s (i : Int) 2) (gi s (i : Int) 3) (gi s (i : Int) 4) (gi s (i : Int) 5) now DB)) := rfl
   rw [er]
   cases decide (gi s (i : Int) 0 = 1)
   ·rfl
   cases decide (gi s (i : Int) 1 = p)
   ·rfl
   cases KD _ _ _ _ _ _ now DB
   ·rfl
   show Cu (room (acc.length + (under l (ui (s.getD i []) 2)).length) 8) _ = _
   rw [Dq (by omega) (by omega)]; rfl
theorem YV (hB : LH) (l s : LL) (hl : l.length ≤ 4611686018427387904) (hs : s.length ≤ 1048576) (o a b : Int) (xs : LL) (p d g ac ob now : Int) : Oq.c l s o a b xs p d g ac ob now = rB (leaf l s p d g now o a b) := by
 have aM : s.length ≤ 4611686018427387904 := by omega
 simp only [Oq.eq, Rz.eq, Zc hB l s hl hs, YM s aM, Yw s aM, q0, ql, qi, qb, YP _ (Nat.le_trans (RU _) (by decide)), cB, UP]
 unfold leaf
 cases decide (o = 6) <;> first | rfl | (rw [← UP]; rfl)
end Go.Proofs.YtbanfmadialnkaaGreat.Eng
/- half -/
