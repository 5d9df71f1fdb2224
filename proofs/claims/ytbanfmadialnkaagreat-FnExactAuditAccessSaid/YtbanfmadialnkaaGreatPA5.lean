/- Roles and conditions, as the program has them. -/
import Derived.Test.YtbanfmadialnkaaGreatPA4
namespace Go.Proofs.YtbanfmadialnkaaGreat.Eng
open Go.RowKit
set_option linter.unusedVariables false
set_option linter.unusedSimpArgs false
set_option linter.unusedSectionVars false
set_option maxRecDepth 100000
variable [Sm]
/-! ### Sorted lists -/
theorem Sd (x : Int) : ∀ l : List Int, x ∈ fX l ↔ x ∈ l
 | [] => Iff.rfl
 | y :: l => by
  have ih := Sd x l
  unfold fX
  split
  ·rename_i h
   rw [h] at ih
   rw [List.mem_cons, List.mem_cons, ← ih]
  ·rename_i z k h
   rw [h] at ih
   split
   ·rename_i hy
    subst hy
    rw [List.mem_cons (l := l), ← ih]
    simp
   ·rw [List.mem_cons, List.mem_cons (l := l), ← ih]
theorem Te : ∀ l : List Int, l.Pairwise (· ≤ ·) → (fX l).Pairwise (· < ·)
 | [], _ => List.Pairwise.nil
 | x :: l, h => by
  obtain ⟨h1, h2⟩ := List.pairwise_cons.1 h
  have ih := Te l h2
  have hm := fun z => Sd z l
  unfold fX
  split
  ·exact List.pairwise_singleton ..
  ·rename_i y k hk
   rw [hk] at ih hm
   split
   ·exact ih
   ·rename_i aS
    obtain ⟨h3, h4⟩ := List.pairwise_cons.1 ih
    have hxy : x ≤ y := h1 y ((hm y).1 (by simp))
    refine List.pairwise_cons.2 ⟨fun z hz => ?_, ih⟩
    rcases List.mem_cons.1 hz with rfl | hz
    ·omega
    ·have := h3 z hz; omega
theorem UY : ∀ (a b : List Int), a.Pairwise (· < ·) → b.Pairwise (· < ·) → (∀ x, x ∈ a ↔ x ∈ b) → a = b
 | [], [], _, _, _ => rfl
 | [], y :: b, _, _, h => by have := (h y).2 (by simp); simp at this
 | x :: a, [], _, _, h => by have := (h x).1 (by simp); simp at this
 | x :: a, y :: b, ha, hb, h => by
  obtain ⟨h1, h2⟩ := List.pairwise_cons.1 ha
  obtain ⟨h3, h4⟩ := List.pairwise_cons.1 hb
  obtain rfl : x = y := by
   rcases List.mem_cons.1 ((h x).1 (by simp)) with e | e
   ·exact e
   ·rcases List.mem_cons.1 ((h y).2 (by simp)) with e' | e'
    ·exact e'.symm
    ·have := h3 x e; have := h1 y e'; omega
  congr 1
  refine UY a b h2 h4 fun z => ?_
  have := h z
  simp only [List.mem_cons] at this
  constructor
  ·intro hz
   rcases this.1 (.inr hz) with rfl | e
   ·have := h1 z hz; omega
   ·exact e
  ·intro hz
   rcases this.2 (.inr hz) with rfl | e
   ·have := h3 z hz; omega
   ·exact e
theorem aa1 (l : List Int) : (pw l).Pairwise (· ≤ ·) := by
 have := List.pairwise_mergeSort (le := fun x y : Int => decide (x ≤ y)) (fun a b c h1 h2 => by simp only [decide_eq_true_eq] at *; omega) (fun a b => by simp only [Bool.or_eq_true, decide_eq_true_eq]; omega) l
 exact this.imp fun h => by simpa using h
theorem aa0 (l : List Int) (x : Int) : x ∈ pw l ↔ x ∈ l := List.mem_mergeSort
theorem ZS (l : List Int) : cO (fK l) = l := by
 unfold cO fK
 rw [List.map_map]
 conv => rhs; rw [← List.map_id l]
 rfl
/-- Sorted, without repetitions: the numbers that are marked. -/
theorem VM {xs : LL} {f : Mk} (h1 : ∀ x ∈ xs, ∃ k : Nat, k < 6 ∧ x = [U.int (k : Int)]) (h2 : ∀ k : Nat, k < 6 → ([U.int (k : Int)] ∈ xs ↔ f k = true)) : uc (tc xs) = ET f := by
 have e : ET f = fK (((List.range 6).filter f).map fun k : Nat => (k : Int)) := by
  unfold ET fK
  rw [List.map_map]; rfl
 unfold uc tc
 rw [ZS, e]
 congr 1
 refine UY _ _ (Te _ (aa1 _)) ?_ fun x => ?_
 ·rw [List.pairwise_map]
  refine (List.Pairwise.filter f (List.pairwise_lt_range (n := 6))).imp fun h => by omega
 ·rw [Sd, aa0]
  simp only [cO, List.mem_map, List.mem_filter, List.mem_range]
  constructor
  ·rintro ⟨y, hy, rfl⟩
   obtain ⟨k, hk, rfl⟩ := h1 y hy
   exact ⟨k, ⟨hk, (h2 k hk).1 hy⟩, rfl⟩
  ·rintro ⟨k, ⟨hk, hf⟩, rfl⟩
   exact ⟨_, (h2 k hk).2 hf, rfl⟩
/-! ### Who is under a role -/
open Classical in
noncomputable def En (l : LL) (r : Nat) : Mk := fun k => decide (IK l r k)
theorem PY (a : Int) : JY.c a = rB (within a 0 5) := by simp only [JY.eq, Ez, q0, qb]
theorem Ro (f : Mk) {k : Nat} (h : k < 6) : [f 0, f 1, f 2, f 3, f 4, f 5].getD k false = f k := by
 rcases (by omega : k = 0 ∨ k = 1 ∨ k = 2 ∨ k = 3 ∨ k = 4 ∨ k = 5) with rfl | rfl | rfl | rfl | rfl | rfl <;> rfl
theorem Yi (r : Int) (f : Mk) : GS.l0 r (f 0) (f 1) (f 2) (f 3) (f 4) (f 5) 0 [] = rL (ET fun k => f k || decide ((k : Int) = r)) := by
 refine Ks (l0 := fun i s => GS.l0 r (f 0) (f 1) (f 2) (f 3) (f 4) (f 5) i s) (n := 6) (p := fun k => f k || decide ((k : Int) = r)) (row := fun k => [U.int (k : Int)]) (R := fun s => rL s) (fun s hs => ?_) fun i hi s hs => ?_
 ·rw [GS.CZ]; rfl
 ·rw [GS.CZ, decide_eq_true (by omega), DB hi, DG (by omega), Int.toNat_natCast, Ro f hi, DM (by simp; omega) (by simp; omega)]
  cases f i <;> cases decide ((i : Int) = r) <;> rfl
def Kn : Prop := ∀ (l : LL) (r : Nat), l.length ≤ 4611686018427387904 → r < 6 → El.c l (r : Int) = some ⟨[[.bool (En l r 0), .bool (En l r 1), .bool (En l r 2), .bool (En l r 3), .bool (En l r 4), .bool (En l r 5)]], []⟩
theorem Yo (hB : Kn) (l : LL) (hl : l.length ≤ 4611686018427387904) (role : Int) : GS.c l role = rL (under l role) := by
 rw [GS.eq, PY]
 simp only [q0, qb]
 unfold under
 cases h : within role 0 5
 ·rfl
 ·obtain ⟨h1, h2⟩ := Ey h
  obtain ⟨r, rfl⟩ := Int.eq_ofNat_of_zero_le h1
  rw [hB l r hl (by omega)]
  refine (Yi (r : Int) (En l r)).trans ?_
  show rL _ = rL (ET (Jl l (Int.toNat (r : Int))))
  congr 2
  funext k
  rw [Int.toNat_natCast, Bool.eq_iff_iff]
  simp only [Jl, En, Bool.or_eq_true, decide_eq_true_eq]
  rw [EO.SZ]
  constructor
  ·rintro (h | h)
   ·exact .inr h
   ·exact .inl (by omega)
  ·rintro (h | h)
   ·exact .inr (by omega)
   ·exact .inl h
theorem Vj {l : LL} {role : Int} {k : Nat} (hk : k < 6) : [U.int (k : Int)] ∈ under l role ↔ (bif within role 0 5 then (decide (k < 6) && Jl l role.toNat k) else false) = true := by
 unfold under
 cases within role 0 5
 ·simp
 ·simp only [cond_true, Bool.and_eq_true, decide_eq_true_eq]
  rw [Ow]
  constructor
  ·rintro ⟨j, h1, h2, h3⟩
   simp only [List.cons.injEq, U.int.injEq, and_true] at h3
   obtain rfl : k = j := by omega
   exact ⟨hk, h2⟩
  ·rintro ⟨_, h⟩
   exact ⟨k, hk, h, rfl⟩
theorem Vi {l : LL} {role : Int} {x : List U} (h : x ∈ under l role) : ∃ k : Nat, k < 6 ∧ x = [U.int (k : Int)] := by
 unfold under at h
 cases hw : within role 0 5
 ·rw [hw] at h; simp at h
 ·rw [hw] at h
  obtain ⟨k, h1, _, h3⟩ := Ow.1 h
  exact ⟨k, h1, h3⟩
theorem abx {s : LL} {i : Nat} (hi : i < s.length) : s.take (i + 1) = s.take i ++ [s.getD i []] := by
 rw [List.take_succ_eq_append_getElem hi, List.getD_eq_getElem?_getD, List.getElem?_eq_getElem hi]; rfl
theorem Yh (hB : Kn) (l s : LL) (hl : l.length ≤ 4611686018427387904) (hs : s.length ≤ 1048576) (p now DE : Int) : GR.c l s p now DE = rL (ET (Sy l s p now DE)) := by
 rw [GR.eq]
 have := WH (l0 := fun i acc => GR.l0 l p now DE s (ln s) i acc) (n := s.length) (step := fun (acc : LL) i => bif KN p now DE (s.getD i []) then acc ++ under l (ui (s.getD i []) 2) else acc) (R := fun acc => rL (uc (tc acc)))
  (I := fun i acc => acc.length ≤ 6 * i ∧ (∀ x ∈ acc, ∃ k : Nat, k < 6 ∧ x = [U.int (k : Int)]) ∧ ∀ k : Nat, k < 6 → ([U.int (k : Int)] ∈ acc ↔ (s.take i).foldl (Ox l p now DE) (fun _ => false) k = true)) (s0 := [])
  (fun acc ⟨h1, _, _⟩ => ?_) (fun i hi acc ⟨h1, h2, h3⟩ => ?_) ⟨by simp, fun x hx => by simp at hx, fun k _ => by simp⟩
 ·obtain ⟨q1, q2, q3, q4⟩ := this
  rw [List.take_length] at q4
  exact q1.trans (congrArg rL (VM q3 q4))
 ·have e : (tc acc).length = acc.length := by unfold tc; rw [Aw, BR]; simp [cO]
  rw [GR.CZ, Dq (Nat.le_refl _), e, DM (by omega) (by omega)]; rfl
 ·refine ⟨⟨?_, ?_, ?_⟩, ?_⟩
  ·cases KN p now DE (s.getD i [])
   ·show acc.length ≤ _; omega
   ·have := SL l (ui (s.getD i []) 2)
    show (acc ++ _).length ≤ _
    rw [List.length_append]; omega
  ·intro x hx
   cases hr : KN p now DE (s.getD i [])
   ·rw [hr] at hx; exact h2 x hx
   ·rw [hr] at hx
    rcases List.mem_append.1 hx with hx | hx
    ·exact h2 x hx
    ·exact Vi hx
  ·intro k hk
   rw [abx hi, List.foldl_append, List.foldl_cons, List.foldl_nil]
   unfold Ox
   cases KN p now DE (s.getD i [])
   ·exact h3 k hk
   ·show [U.int (k : Int)] ∈ acc ++ _ ↔ ((bif within (ui (s.getD i []) 2) 0 5 then (decide (k < 6) && Jl l (ui (s.getD i []) 2).toNat k) else false) || _) = true
    rw [List.mem_append, Vj hk, h3 k hk, Bool.or_eq_true, or_comm]; rfl
  ·have hu := SL l (ui (s.getD i []) 2)
   rw [GR.CZ, Dr hi, DB hi, DG (by omega)]
   simp only [RQ, Yo hB l hl, q0, qb, ql, FE, cond_true]
   have er : KN p now DE (s.getD i []) = (decide (gi s (i : Int) 0 = 1) && (decide (gi s (i : Int) 1 = p) && JD (gi s (i : Int) 0) (gi s (i : Int) 1) (gi s (i : Int) 2) (gi s (i : Int) 3) (gi s (i : Int) 4) (gi s (i : Int) 5) now DE)) := rfl
   rw [er]
   cases decide (gi s (i : Int) 0 = 1)
   ·rfl
   cases decide (gi s (i : Int) 1 = p)
   ·rfl
   cases JD _ _ _ _ _ _ now DE
   ·rfl
   show Cu (room (acc.length + (under l (ui (s.getD i []) 2)).length) 8) _ = _
   rw [DM (by omega) (by omega)]; rfl
theorem XW (hB : Kn) (l s : LL) (hl : l.length ≤ 4611686018427387904) (hs : s.length ≤ 1048576) (o a b : Int) (xs : LL) (p d g ac ob now : Int) : MQ.c l s o a b xs p d g ac ob now = rB (leaf l s p d g now o a b) := by
 have aM : s.length ≤ 4611686018427387904 := by omega
 simp only [MQ.eq, Qg.eq, Yh hB l s hl hs, XP s aM, Xy s aM, q0, ql, qi, qb, PX _ (Nat.le_trans (QF _) (by decide)), cB, TZ]
 unfold leaf
 cases decide (o = 6) <;> first | rfl | (rw [← TZ]; rfl)
end Go.Proofs.YtbanfmadialnkaaGreat.Eng
/- half -/
