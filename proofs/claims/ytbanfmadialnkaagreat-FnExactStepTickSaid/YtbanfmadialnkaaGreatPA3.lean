/- Roles: who is under whom, which roles one has. -/
import Derived.Test.YtbanfmadialnkaaGreatPA2
import Derived.Test.YtbanfmadialnkaaGreatPG
namespace Go.Proofs.YtbanfmadialnkaaGreat.Eng
open Go.RowKit
set_option linter.unusedVariables false
set_option linter.unusedSimpArgs false
set_option linter.unusedSectionVars false
set_option maxRecDepth 100000
variable [Sm]
def Ey (f : Mk) : LL := (List.range 6).map fun k => [U.bool (f k)]
theorem PI (f : Mk) : (Ey f).length = 6 := by simp [Ey]
theorem Vf (f : Mk) {i : Nat} (h : i < 6) : (Ey f).getD i [] = [U.bool (f i)] := by
 unfold Ey
 rw [List.getD_eq_getElem?_getD, List.getElem?_map, List.getElem?_range h]; rfl
theorem Tp (f : Mk) {i : Nat} (h : i < 6) : gb (Ey f) (i : Int) 0 = f i := by
 unfold gb
 rw [Int.toNat_natCast, Vf f h]; rfl
theorem Tq (f : Mk) {i : Nat} (h : i < 6) : bR (Ey f) i 0 [U.bool true] = Ey (up f i) := by
 rw [DL, Vf f h]
 apply List.ext_getElem?
 intro k
 show ((Ey f).set i [U.bool true])[k]? = _
 rw [List.getElem?_set, PI]
 unfold Ey
 by_cases hk : i = k
 ·subst hk
  rw [if_pos rfl, if_pos h, List.getElem?_map, List.getElem?_range h]
  simp [up]
 ·rw [if_neg hk, List.getElem?_map, List.getElem?_map]
  by_cases h6 : k < 6
  ·rw [List.getElem?_range h6]
   simp [up, Ne.symm hk]
  ·rw [List.getElem?_eq_none (by simpa using h6)]; rfl
theorem aac {r : Nat} (h : r < 6) : bR (List.replicate (Int.toNat 6) [U.bool false]) r 0 [U.bool true] = Ey (fun k => decide (k = r)) := by
 have e : List.replicate (Int.toNat 6) [U.bool false] = Ey fun _ => false := rfl
 rw [e, Tq _ h]
 congr 1
 funext k
 simp [up]
def ES (f : Mk) : LL := ((List.range 6).filter f).map fun k : Nat => [U.int (k : Int)]
theorem Ry (f : Mk) : (ES f).length ≤ 6 := by
 unfold ES
 rw [List.length_map]; exact Nat.le_trans (List.length_filter_le _ _) (by simp)
theorem Py {f : Mk} {x : List U} : x ∈ ES f ↔ ∃ k : Nat, k < 6 ∧ f k = true ∧ x = [U.int (k : Int)] := by
 simp only [ES, List.mem_map, List.mem_filter, List.mem_range]
 constructor
 ·rintro ⟨k, ⟨h1, h2⟩, rfl⟩; exact ⟨k, h1, h2, rfl⟩
 ·rintro ⟨k, h1, h2, rfl⟩; exact ⟨k, ⟨h1, h2⟩, rfl⟩
open Classical in
noncomputable def Lo (l : LL) (r : Nat) : Mk := fun k => decide (FX l r k)
noncomputable def under (l : LL) (role : Int) : LL := bif within role 0 5 then ES (Lo l role.toNat) else []
theorem VF (l : LL) (role : Int) : (under l role).length ≤ 6 := by
 unfold under
 cases within role 0 5
 ·exact Nat.zero_le _
 ·exact Ry _
theorem ZH (l : LL) {r : Nat} (h : r < 6) : KT l 6 (fun k => decide (k = r)) = Lo l r := by
 funext k
 rw [Bool.eq_iff_iff, ZG l h]
 simp [Lo]
theorem aaP (f : Mk) : Ef.l2 0 [] (Ey f) = rL (ES f) := by
 refine Lw (l0 := fun i s => Ef.l2 i s (Ey f)) (n := 6) (p := f) (row := fun k => [U.int (k : Int)]) (R := fun s => rL s) (fun s hs => ?_) fun i hi s hs => ?_
 ·rw [Ef.Oh]; rfl
 ·rw [Ef.Oh, decide_eq_true (by omega), PI, Dw hi, DG (by omega), Tp f hi, Dr (by simp; omega) (by simp; omega)]; rfl
theorem aaO (l : LL) (hl : l.length ≤ 4611686018427387904) (n : Int) (f : Mk) : Ef.l1 l n 0 [] (Ey f) = Ef.l0 l (CX (n + 1)) [] (Ey (pass l f)) := by
 refine Lv (l0 := fun (f : Mk) i => Ef.l1 l n i [] (Ey f)) (R := fun f => Ef.l0 l (CX (n + 1)) [] (Ey f)) (st := LK) (fun f => ?_) (fun i hi f => ?_) f
 ·rw [Ef.Hw, Dj (Nat.le_refl _)]; rfl
 ·rw [Ef.Hw, Di hi, Dw hi, DG (by omega)]
  simp only [IP, q0, qb, Gt, cond_true, gi, Int.toNat_natCast, PI]
  unfold LK
  have e : LJ (l.getD i []) = (within (((l.getD i []).getD 0 U0).toInt) 0 5 && within (((l.getD i []).getD 1 U0).toInt) 0 5) := rfl
  rw [e]
  generalize ha : ((l.getD i []).getD 0 U0).toInt = a
  generalize hb : ((l.getD i []).getD 1 U0).toInt = b
  have ea : ui (l.getD i []) 0 = a := ha
  have eb : ui (l.getD i []) 1 = b := hb
  cases h1 : within a 0 5
  ·rfl
  cases h2 : within b 0 5
  ·rfl
  obtain ⟨h3, h4⟩ := EB h1
  obtain ⟨h5, h6⟩ := EB h2
  obtain ⟨a, rfl⟩ := Int.eq_ofNat_of_zero_le h3
  obtain ⟨b, rfl⟩ := Int.eq_ofNat_of_zero_le h5
  rw [ea, eb]
  simp only [cond_true, Dw (show a < 6 by omega), Dw (show b < 6 by omega), Gt, Tp f (show a < 6 by omega), Int.toNat_natCast, Tq f (show b < 6 by omega)]
  cases f a <;> rfl
theorem Vq (l : LL) (hl : l.length ≤ 4611686018427387904) : ∀ (k n : Nat) (f : Mk), n + k = 6 → Ef.l0 l (n : Int) [] (Ey f) = rL (ES (KT l k f))
 | 0, n, f, h => by
  obtain rfl : n = 6 := by omega
  rw [Ef.Da]
  show Ef.l2 0 [] (Ey f) = _
  rw [aaP]; rfl
 | k + 1, n, f, h => by
  rw [Ef.Da, decide_eq_true (by omega), cond_true, aaO l hl, DG (by omega), Vq l hl k (n + 1) _ (by omega)]; rfl
theorem aaV (l : LL) (hl : l.length ≤ 4611686018427387904) (role : Int) : Ef.c l role = rL (under l role) := by
 rw [Ef.eq, IP]
 simp only [q0, qb]
 unfold under
 cases h : within role 0 5
 ·rfl
 ·obtain ⟨h1, h2⟩ := EB h
  obtain ⟨r, rfl⟩ := Int.eq_ofNat_of_zero_le h1
  simp only [Bool.not_true, cond_false, cond_true, Int.toNat_natCast, aac (show r < 6 by omega)]
  show Cu (dk (r : Int) 6) _ = _
  rw [Dw (show r < 6 by omega), Gt]
  have := Vq l hl 6 0 (fun k => decide (k = r)) rfl
  rw [ZH l (by omega)] at this
  exact this
/-- The roles that someone has. -/
def LN (p now Dv : Int) (x : List U) : Bool := decide (ui x 0 = 1) && (decide (ui x 1 = p) && Ma x now Dv)
noncomputable def Pz (l : LL) (p now Dv : Int) (f : Mk) (x : List U) : Mk := bif LN p now Dv x then fun k => (bif within (ui x 2) 0 5 then (decide (k < 6) && Lo l (ui x 2).toNat k) else false) || f k else f
noncomputable def Te (l s : LL) (p now Dv : Int) : Mk := s.foldl (Pz l p now Dv) fun _ => false
theorem aaQ (f : Mk) : Ee.l2 0 (Ey f) [] = rL (ES f) := by
 refine Lw (l0 := fun i s => Ee.l2 i (Ey f) s) (n := 6) (p := f) (row := fun k => [U.int (k : Int)]) (R := fun s => rL s) (fun s hs => ?_) fun i hi s hs => ?_
 ·rw [Ee.Oh]; rfl
 ·rw [Ee.Oh, decide_eq_true (by omega), PI, Dw hi, DG (by omega), Tp f hi, Dr (by simp; omega) (by simp; omega)]; rfl
def RK (f : Mk) (xs : LL) : Mk := xs.foldl (fun f x => up f (v0 x).toNat) f
theorem Vr (l s : LL) (p now Dv i : Int) (g : Mk) (f : Mk) : Ee.l1 l s p now Dv i 0 (Ey f) (ES g) = Ee.l0 l s p now Dv (CX (i + 1)) (Ey (RK f (ES g))) := by
 have hl := Ry g
 have hm := fun x => Py (f := g) (x := x)
 generalize ES g = xs at hl hm
 refine Lv (l0 := fun (f : Mk) j => Ee.l1 l s p now Dv i j (Ey f) xs) (R := fun f => Ee.l0 l s p now Dv (CX (i + 1)) (Ey f)) (st := fun f x => up f (v0 x).toNat) (fun f => ?_) (fun j hj f => ?_) f
 ·rw [Ee.Hw, Dj (Nat.le_refl _)]; rfl
 ·obtain ⟨k, h1, h2, h3⟩ := (hm _).1 (Dg hj (z := []))
  have e : gi xs (j : Int) 0 = (k : Int) := by unfold gi; rw [Int.toNat_natCast, h3]; rfl
  rw [Ee.Hw, Di hj, Dw hj, DG (by omega), e, PI, Dw h1, Int.toNat_natCast, Tq f h1, h3]; rfl
theorem ace (f g : Mk) (k : Nat) : RK f (ES g) k = ((decide (k < 6) && g k) || f k) := by
 have key : ∀ (xs : LL) (f : Mk), RK f xs k = (xs.any (fun x => decide (k = (v0 x).toNat)) || f k) := by
  intro xs
  induction xs with
  | nil => intro f; rfl
  | cons x xs ih =>
   intro f
   show RK (up f (v0 x).toNat) xs k = _
   rw [ih, List.any_cons]
   unfold up
   cases xs.any _ <;> cases decide (k = (v0 x).toNat) <;> rfl
 rw [key]
 congr 1
 rw [Bool.eq_iff_iff, List.any_eq_true]
 simp only [Bool.and_eq_true, decide_eq_true_eq]
 constructor
 ·rintro ⟨x, hx, h⟩
  obtain ⟨j, h1, h2, rfl⟩ := Py.1 hx
  have : k = j := h
  subst this; exact ⟨h1, h2⟩
 ·rintro ⟨h1, h2⟩
  exact ⟨_, Py.2 ⟨k, h1, h2, rfl⟩, rfl⟩
theorem aaR (l s : LL) (hl : l.length ≤ 4611686018427387904) (hs : s.length ≤ 4611686018427387904) (p now Dv : Int) : Ee.c l s p now Dv = rL (ES (Te l s p now Dv)) := by
 rw [Ee.eq, show List.replicate (Int.toNat 6) [U.bool false] = Ey fun _ => false from rfl]
 refine Lv (l0 := fun (f : Mk) i => Ee.l0 l s p now Dv i (Ey f)) (R := fun f => rL (ES f)) (st := Pz l p now Dv) (fun f => ?_) (fun i hi f => ?_) _
 ·rw [Ee.Da, Dj (Nat.le_refl _)]; exact aaQ f
 ·rw [Ee.Da, Di hi, Dw hi, DG (by omega)]
  simp only [Ts, aaV l hl, q0, qb, ql, Gt, cond_true]
  unfold Pz LN Ma
  simp only [gi, ui, Int.toNat_natCast]
  cases decide (((s.getD i []).getD 0 U0).toInt = 1)
  ·rfl
  cases decide (((s.getD i []).getD 1 U0).toInt = p)
  ·rfl
  cases KB _ _ _ _ _ _ now Dv
  ·rfl
  show Ee.l1 l s p now Dv i 0 (Ey f) (under l ((s.getD i []).getD 2 U0).toInt) = _
  unfold under
  cases within ((s.getD i []).getD 2 U0).toInt 0 5
  ·rw [cond_false, show ([] : LL) = ES fun _ => false from rfl, Vr, DG (by omega)]; rfl
  ·rw [cond_true, Vr, DG (by omega)]
   congr 2
   funext k
   exact ace ..
end Go.Proofs.YtbanfmadialnkaaGreat.Eng
/- half -/
