/- Roles and conditions, as the program has them. -/
import Derived.Test.YtbanfmadialnkaaGreatPA4
namespace Go.Proofs.YtbanfmadialnkaaGreat.Eng
open Go.RowKit
set_option linter.unusedVariables false
set_option linter.unusedSimpArgs false
set_option linter.unusedSectionVars false
set_option maxRecDepth 100000
variable [Sm]
/-! ### Sorted lists -/
theorem SJ (x : Int) : ∀ l : List Int, x ∈ fX l ↔ x ∈ l
 | [] => Iff.rfl
 | y :: l => by
  have ih := SJ x l
  unfold fX
  split
  ·rename_i h
   rw [h] at ih
   rw [List.mem_cons, List.mem_cons, ← ih]
  ·rename_i z k h
   rw [h] at ih
   split
   ·rename_i hy
    subst hy
    rw [List.mem_cons (l := l), ← ih]
    simp
   ·rw [List.mem_cons, List.mem_cons (l := l), ← ih]
theorem TL : ∀ l : List Int, l.Pairwise (· ≤ ·) → (fX l).Pairwise (· < ·)
 | [], _ => List.Pairwise.nil
 | x :: l, h => by
  obtain ⟨h1, h2⟩ := List.pairwise_cons.1 h
  have ih := TL l h2
  have hm := fun z => SJ z l
  unfold fX
  split
  ·exact List.pairwise_singleton ..
  ·rename_i y k hk
   rw [hk] at ih hm
   split
   ·exact ih
   ·rename_i aS
    obtain ⟨h3, h4⟩ := List.pairwise_cons.1 ih
    have hxy : x ≤ y := h1 y ((hm y).1 (by simp))
    refine List.pairwise_cons.2 ⟨fun z hz => ?_, ih⟩
    rcases List.mem_cons.1 hz with rfl | hz
    ·omega
    ·have := h3 z hz; omega
theorem Vw : ∀ (a b : List Int), a.Pairwise (· < ·) → b.Pairwise (· < ·) → (∀ x, x ∈ a ↔ x ∈ b) → a = b
 | [], [], _, _, _ => rfl
 | [], y :: b, _, _, h => by have := (h y).2 (by simp); simp at this
 | x :: a, [], _, _, h => by have := (h x).1 (by simp); simp at this
 | x :: a, y :: b, ha, hb, h => by
  obtain ⟨h1, h2⟩ := List.pairwise_cons.1 ha
  obtain ⟨h3, h4⟩ := List.pairwise_cons.1 hb
  obtain rfl : x = y := by
   rcases List.mem_cons.1 ((h x).1 (by simp)) with e | e
   ·exact e
   ·rcases List.mem_cons.1 ((h y).2 (by simp)) with e' | e'
    ·exact e'.symm
    ·have := h3 x e; have := h1 y e'; omega
  congr 1
  refine Vw a b h2 h4 fun z => ?_
  have := h z
  simp only [List.mem_cons] at this
  constructor
  ·intro hz
   rcases this.1 (.inr hz) with rfl | e
   ·have := h1 z hz; omega
   ·exact e
  ·intro hz
   rcases this.2 (.inr hz) with rfl | e
   ·have := h3 z hz; omega
   ·exact e
theorem aa0 (l : List Int) : (pw l).Pairwise (· ≤ ·) := by
 have := List.pairwise_mergeSort (le := fun x y : Int => decide (x ≤ y)) (fun a b c h1 h2 => by simp only [decide_eq_true_eq] at *; omega) (fun a b => by simp only [Bool.or_eq_true, decide_eq_true_eq]; omega) l
 exact this.imp fun h => by simpa using h
theorem aaZ (l : List Int) (x : Int) : x ∈ pw l ↔ x ∈ l := List.mem_mergeSort
theorem aad (l : List Int) : cO (fK l) = l := by
 unfold cO fK
 rw [List.map_map]
 conv => rhs; rw [← List.map_id l]
 rfl
/-- Sorted, without repetitions: the numbers that are marked. -/
theorem WI {xs : LL} {f : Mk} (h1 : ∀ x ∈ xs, ∃ k : Nat, k < 6 ∧ x = [U.int (k : Int)]) (h2 : ∀ k : Nat, k < 6 → ([U.int (k : Int)] ∈ xs ↔ f k = true)) : uc (tc xs) = ES f := by
 have e : ES f = fK (((List.range 6).filter f).map fun k : Nat => (k : Int)) := by
  unfold ES fK
  rw [List.map_map]; rfl
 unfold uc tc
 rw [aad, e]
 congr 1
 refine Vw _ _ (TL _ (aa0 _)) ?_ fun x => ?_
 ·rw [List.pairwise_map]
  refine (List.Pairwise.filter f (List.pairwise_lt_range (n := 6))).imp fun h => by omega
 ·rw [SJ, aaZ]
  simp only [cO, List.mem_map, List.mem_filter, List.mem_range]
  constructor
  ·rintro ⟨y, hy, rfl⟩
   obtain ⟨k, hk, rfl⟩ := h1 y hy
   exact ⟨k, ⟨hk, (h2 k hk).1 hy⟩, rfl⟩
  ·rintro ⟨k, ⟨hk, hf⟩, rfl⟩
   exact ⟨_, (h2 k hk).2 hf, rfl⟩
/-! ### Who is under a role -/
open Classical in
noncomputable def Ia (l : LL) (r : Nat) : Mk := fun k => decide (LY l r k)
theorem Ul (a : Int) : Mq.c a = rB (within a 0 5) := by simp only [Mq.eq, Hr, q0, qb]
theorem TG (f : Mk) {k : Nat} (h : k < 6) : [f 0, f 1, f 2, f 3, f 4, f 5].getD k false = f k := by
 rcases (by omega : k = 0 ∨ k = 1 ∨ k = 2 ∨ k = 3 ∨ k = 4 ∨ k = 5) with rfl | rfl | rfl | rfl | rfl | rfl <;> rfl
theorem YL (r : Int) (f : Mk) : Ht.l0 r (f 0) (f 1) (f 2) (f 3) (f 4) (f 5) 0 [] = rL (ES fun k => f k || decide ((k : Int) = r)) := by
 refine Lw (l0 := fun i s => Ht.l0 r (f 0) (f 1) (f 2) (f 3) (f 4) (f 5) i s) (n := 6) (p := fun k => f k || decide ((k : Int) = r)) (row := fun k => [U.int (k : Int)]) (R := fun s => rL s) (fun s hs => ?_) fun i hi s hs => ?_
 ·rw [Ht.Da]; rfl
 ·rw [Ht.Da, decide_eq_true (by omega), Dw hi, DG (by omega), Int.toNat_natCast, TG f hi, Dr (by simp; omega) (by simp; omega)]
  cases f i <;> cases decide ((i : Int) = r) <;> rfl
def Ls : Prop := ∀ (l : LL) (r : Nat), l.length ≤ 4611686018427387904 → r < 6 → Ex.c l (r : Int) = some ⟨[[.bool (Ia l r 0), .bool (Ia l r 1), .bool (Ia l r 2), .bool (Ia l r 3), .bool (Ia l r 4), .bool (Ia l r 5)]], []⟩
theorem YP (hB : Ls) (l : LL) (hl : l.length ≤ 4611686018427387904) (role : Int) : Ht.c l role = rL (under l role) := by
 rw [Ht.eq, Ul]
 simp only [q0, qb]
 unfold under
 cases h : within role 0 5
 ·rfl
 ·obtain ⟨h1, h2⟩ := EB h
  obtain ⟨r, rfl⟩ := Int.eq_ofNat_of_zero_le h1
  rw [hB l r hl (by omega)]
  refine (YL (r : Int) (Ia l r)).trans ?_
  show rL _ = rL (ES (Lo l (Int.toNat (r : Int))))
  congr 2
  funext k
  rw [Int.toNat_natCast, Bool.eq_iff_iff]
  simp only [Lo, Ia, Bool.or_eq_true, decide_eq_true_eq]
  rw [FX.TH]
  constructor
  ·rintro (h | h)
   ·exact .inr h
   ·exact .inl (by omega)
  ·rintro (h | h)
   ·exact .inr (by omega)
   ·exact .inl h
theorem acd {l : LL} {role : Int} {k : Nat} (hk : k < 6) : [U.int (k : Int)] ∈ under l role ↔ (bif within role 0 5 then (decide (k < 6) && Lo l role.toNat k) else false) = true := by
 unfold under
 cases within role 0 5
 ·simp
 ·simp only [cond_true, Bool.and_eq_true, decide_eq_true_eq]
  rw [Py]
  constructor
  ·rintro ⟨j, h1, h2, h3⟩
   simp only [List.cons.injEq, U.int.injEq, and_true] at h3
   obtain rfl : k = j := by omega
   exact ⟨hk, h2⟩
  ·rintro ⟨_, h⟩
   exact ⟨k, hk, h, rfl⟩
theorem acb {l : LL} {role : Int} {x : List U} (h : x ∈ under l role) : ∃ k : Nat, k < 6 ∧ x = [U.int (k : Int)] := by
 unfold under at h
 cases hw : within role 0 5
 ·rw [hw] at h; simp at h
 ·rw [hw] at h
  obtain ⟨k, h1, _, h3⟩ := Py.1 h
  exact ⟨k, h1, h3⟩
theorem abw {s : LL} {i : Nat} (hi : i < s.length) : s.take (i + 1) = s.take i ++ [s.getD i []] := by
 rw [List.take_succ_eq_append_getElem hi, List.getD_eq_getElem?_getD, List.getElem?_eq_getElem hi]; rfl
theorem YK (hB : Ls) (l s : LL) (hl : l.length ≤ 4611686018427387904) (hs : s.length ≤ 1048576) (p now Dv : Int) : Hs.c l s p now Dv = rL (ES (Te l s p now Dv)) := by
 rw [Hs.eq]
 have := XE (l0 := fun i acc => Hs.l0 l p now Dv s (ln s) i acc) (n := s.length) (step := fun (acc : LL) i => bif LN p now Dv (s.getD i []) then acc ++ under l (ui (s.getD i []) 2) else acc) (R := fun acc => rL (uc (tc acc)))
  (I := fun i acc => acc.length ≤ 6 * i ∧ (∀ x ∈ acc, ∃ k : Nat, k < 6 ∧ x = [U.int (k : Int)]) ∧ ∀ k : Nat, k < 6 → ([U.int (k : Int)] ∈ acc ↔ (s.take i).foldl (Pz l p now Dv) (fun _ => false) k = true)) (s0 := [])
  (fun acc ⟨h1, _, _⟩ => ?_) (fun i hi acc ⟨h1, h2, h3⟩ => ?_) ⟨by simp, fun x hx => by simp at hx, fun k _ => by simp⟩
 ·obtain ⟨q1, q2, q3, q4⟩ := this
  rw [List.take_length] at q4
  exact q1.trans (congrArg rL (WI q3 q4))
 ·have e : (tc acc).length = acc.length := by unfold tc; rw [Aw, BR]; simp [cO]
  rw [Hs.Da, Dj (Nat.le_refl _), e, Dr (by omega) (by omega)]; rfl
 ·refine ⟨⟨?_, ?_, ?_⟩, ?_⟩
  ·cases LN p now Dv (s.getD i [])
   ·show acc.length ≤ _; omega
   ·have := VF l (ui (s.getD i []) 2)
    show (acc ++ _).length ≤ _
    rw [List.length_append]; omega
  ·intro x hx
   cases hr : LN p now Dv (s.getD i [])
   ·rw [hr] at hx; exact h2 x hx
   ·rw [hr] at hx
    rcases List.mem_append.1 hx with hx | hx
    ·exact h2 x hx
    ·exact acb hx
  ·intro k hk
   rw [abw hi, List.foldl_append, List.foldl_cons, List.foldl_nil]
   unfold Pz
   cases LN p now Dv (s.getD i [])
   ·exact h3 k hk
   ·show [U.int (k : Int)] ∈ acc ++ _ ↔ ((bif within (ui (s.getD i []) 2) 0 5 then (decide (k < 6) && Lo l (ui (s.getD i []) 2).toNat k) else false) || _) = true
    rw [List.mem_append, acd hk, h3 k hk, Bool.or_eq_true, or_comm]; rfl
  ·have hu := VF l (ui (s.getD i []) 2)
   rw [Hs.Da, Di hi, Dw hi, DG (by omega)]
   simp only [Ss, YP hB l hl, q0, qb, ql, Gt, cond_true]
   have er : LN p now Dv (s.getD i []) = (decide (gi s (i : Int) 0 = 1) && (decide (gi s (i : Int) 1 = p) && KB (gi s (i : Int) 0) (gi s (i : Int) 1) (gi s (i : Int) 2) (gi s (i : Int) 3) (gi s (i : Int) 4) (gi s (i : Int) 5) now Dv)) := rfl
   rw [er]
   cases decide (gi s (i : Int) 0 = 1)
   ·rfl
   cases decide (gi s (i : Int) 1 = p)
   ·rfl
   cases KB _ _ _ _ _ _ now Dv
   ·rfl
   show Cu (room (acc.length + (under l (ui (s.getD i []) 2)).length) 8) _ = _
   rw [Dr (by omega) (by omega)]; rfl
theorem YB (hB : Ls) (l s : LL) (hl : l.length ≤ 4611686018427387904) (hs : s.length ≤ 1048576) (o a b : Int) (xs : LL) (p d g ac ob now : Int) : NY.c l s o a b xs p d g ac ob now = rB (leaf l s p d g now o a b) := by
 have aM : s.length ≤ 4611686018427387904 := by omega
 simp only [NY.eq, Rf.eq, YK hB l s hl hs, Yr s aM, Yc s aM, q0, ql, qi, qb, Yv _ (Nat.le_trans (Ry _) (by decide)), cB, UF]
 unfold leaf
 cases decide (o = 6) <;> first | rfl | (rw [← UF]; rfl)
end Go.Proofs.YtbanfmadialnkaaGreat.Eng
/- half -/
