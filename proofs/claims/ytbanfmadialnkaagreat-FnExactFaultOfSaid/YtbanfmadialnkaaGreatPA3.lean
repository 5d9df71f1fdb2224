/- Roles: who is under whom, which roles one has. -/
import Derived.Test.YtbanfmadialnkaaGreatPA2
import Derived.Test.YtbanfmadialnkaaGreatPG
namespace Go.Proofs.YtbanfmadialnkaaGreat.Eng
open Go.RowKit
set_option linter.unusedVariables false
set_option linter.unusedSimpArgs false
set_option linter.unusedSectionVars false
set_option maxRecDepth 100000
variable [Sm]
def dL (f : Mk) : LL := (List.range 6).map fun k => [U.bool (f k)]
theorem Ar (f : Mk) : (dL f).length = 6 := by simp [dL]
theorem Lx (f : Mk) {i : Nat} (h : i < 6) : (dL f).getD i [] = [U.bool (f i)] := by
 unfold dL
 rw [List.getD_eq_getElem?_getD, List.getElem?_map, List.getElem?_range h]; rfl
theorem GZ (f : Mk) {i : Nat} (h : i < 6) : gb (dL f) (i : Int) 0 = f i := by
 unfold gb
 rw [Int.toNat_natCast, Lx f h]; rfl
theorem G0 (f : Mk) {i : Nat} (h : i < 6) : bJ (dL f) i 0 [U.bool true] = dL (up f i) := by
 rw [fu, Lx f h]
 apply List.ext_getElem?
 intro k
 show ((dL f).set i [U.bool true])[k]? = _
 rw [List.getElem?_set, Ar]
 unfold dL
 by_cases hk : i = k
 ·subst hk
  rw [if_pos rfl, if_pos h, List.getElem?_map, List.getElem?_range h]
  simp [up]
 ·rw [if_neg hk, List.getElem?_map, List.getElem?_map]
  by_cases h6 : k < 6
  ·rw [List.getElem?_range h6]
   simp [up, Ne.symm hk]
  ·rw [List.getElem?_eq_none (by simpa using h6)]; rfl
theorem TJ {r : Nat} (h : r < 6) : bJ (List.replicate (Int.toNat 6) [U.bool false]) r 0 [U.bool true] = dL (fun k => decide (k = r)) := by
 have e : List.replicate (Int.toNat 6) [U.bool false] = dL fun _ => false := rfl
 rw [e, G0 _ h]
 congr 1
 funext k
 simp [up]
def eZ (f : Mk) : LL := ((List.range 6).filter f).map fun k : Nat => [U.int (k : Int)]
theorem C1 (f : Mk) : (eZ f).length ≤ 6 := by
 unfold eZ
 rw [List.length_map]; exact Nat.le_trans (List.length_filter_le _ _) (by simp)
theorem Ap {f : Mk} {x : List U} : x ∈ eZ f ↔ ∃ k : Nat, k < 6 ∧ f k = true ∧ x = [U.int (k : Int)] := by
 simp only [eZ, List.mem_map, List.mem_filter, List.mem_range]
 constructor
 ·rintro ⟨k, ⟨h1, h2⟩, rfl⟩; exact ⟨k, h1, h2, rfl⟩
 ·rintro ⟨k, h1, h2, rfl⟩; exact ⟨k, ⟨h1, h2⟩, rfl⟩
open Classical in
noncomputable def ny (l : LL) (r : Nat) : Mk := fun k => decide (eY l r k)
noncomputable def under (l : LL) (role : Int) : LL := bif within role 0 5 then eZ (ny l role.toNat) else []
theorem GJ (l : LL) (role : Int) : (under l role).length ≤ 6 := by
 unfold under
 cases within role 0 5
 ·exact Nat.zero_le _
 ·exact C1 _
theorem TK (l : LL) {r : Nat} (h : r < 6) : qZ l 6 (fun k => decide (k = r)) = ny l r := by
 funext k
 rw [Bool.eq_iff_iff, TL l h]
 simp [ny]
theorem TM (f : Mk) : cC.l2 0 [] (dL f) = rL (eZ f) := by
 refine sY (l0 := fun i s => cC.l2 i s (dL f)) (n := 6) (p := f) (row := fun k => [U.int (k : Int)]) (R := fun s => rL s) (fun s hs => ?_) fun i hi s hs => ?_
 ·rw [cC.qU]; rfl
 ·rw [cC.qU, decide_eq_true (by omega), Ar, bo hi, bH (by omega), GZ f hi, cu (by simp; omega) (by simp; omega)]; rfl
theorem TN (l : LL) (hl : l.length ≤ 4611686018427387904) (n : Int) (f : Mk) : cC.l1 l n 0 [] (dL f) = cC.l0 l (ab (n + 1)) [] (dL (pass l f)) := by
 refine ox (l0 := fun (f : Mk) i => cC.l1 l n i [] (dL f)) (R := fun f => cC.l0 l (ab (n + 1)) [] (dL f)) (st := th) (fun f => ?_) (fun i hi f => ?_) f
 ·rw [cC.cH, aQ (Nat.le_refl _)]; rfl
 ·rw [cC.cH, aR hi, bo hi, bH (by omega)]
  simp only [eD, q0, qb, gd, cond_true, gi, Int.toNat_natCast, Ar]
  unfold th
  have e : nx (l.getD i []) = (within (((l.getD i []).getD 0 U0).toInt) 0 5 && within (((l.getD i []).getD 1 U0).toInt) 0 5) := rfl
  rw [e]
  generalize ha : ((l.getD i []).getD 0 U0).toInt = a
  generalize hb : ((l.getD i []).getD 1 U0).toInt = b
  have ea : ui (l.getD i []) 0 = a := ha
  have eb : ui (l.getD i []) 1 = b := hb
  cases h1 : within a 0 5
  ·rfl
  cases h2 : within b 0 5
  ·rfl
  obtain ⟨h3, h4⟩ := dV h1
  obtain ⟨h5, h6⟩ := dV h2
  obtain ⟨a, rfl⟩ := Int.eq_ofNat_of_zero_le h3
  obtain ⟨b, rfl⟩ := Int.eq_ofNat_of_zero_le h5
  rw [ea, eb]
  simp only [cond_true, bo (show a < 6 by omega), bo (show b < 6 by omega), gd, GZ f (show a < 6 by omega), Int.toNat_natCast, G0 f (show b < 6 by omega)]
  cases f a <;> rfl
theorem Ly (l : LL) (hl : l.length ≤ 4611686018427387904) : ∀ (k n : Nat) (f : Mk), n + k = 6 → cC.l0 l (n : Int) [] (dL f) = rL (eZ (qZ l k f))
 | 0, n, f, h => by
  obtain rfl : n = 6 := by omega
  rw [cC.ah]
  show cC.l2 0 [] (dL f) = _
  rw [TM]; rfl
 | k + 1, n, f, h => by
  rw [cC.ah, decide_eq_true (by omega), cond_true, TN l hl, bH (by omega), Ly l hl k (n + 1) _ (by omega)]; rfl
theorem KW (l : LL) (hl : l.length ≤ 4611686018427387904) (role : Int) : cC.c l role = rL (under l role) := by
 rw [cC.eq, eD]
 simp only [q0, qb]
 unfold under
 cases h : within role 0 5
 ·rfl
 ·obtain ⟨h1, h2⟩ := dV h
  obtain ⟨r, rfl⟩ := Int.eq_ofNat_of_zero_le h1
  simp only [Bool.not_true, cond_false, cond_true, Int.toNat_natCast, TJ (show r < 6 by omega)]
  show ae (an (r : Int) 6) _ = _
  rw [bo (show r < 6 by omega), gd]
  have := Ly l hl 6 0 (fun k => decide (k = r)) rfl
  rw [TK l (by omega)] at this
  exact this
/-- The roles that someone has. -/
def tg (p now bD : Int) (x : List U) : Bool := decide (ui x 0 = 1) && (decide (ui x 1 = p) && tH x now bD)
noncomputable def Aq (l : LL) (p now bD : Int) (f : Mk) (x : List U) : Mk := bif tg p now bD x then fun k => (bif within (ui x 2) 0 5 then (decide (k < 6) && ny l (ui x 2).toNat k) else false) || f k else f
noncomputable def GV (l s : LL) (p now bD : Int) : Mk := s.foldl (Aq l p now bD) fun _ => false
theorem TO (f : Mk) : cD.l2 0 (dL f) [] = rL (eZ f) := by
 refine sY (l0 := fun i s => cD.l2 i (dL f) s) (n := 6) (p := f) (row := fun k => [U.int (k : Int)]) (R := fun s => rL s) (fun s hs => ?_) fun i hi s hs => ?_
 ·rw [cD.qU]; rfl
 ·rw [cD.qU, decide_eq_true (by omega), Ar, bo hi, bH (by omega), GZ f hi, cu (by simp; omega) (by simp; omega)]; rfl
def C3 (f : Mk) (xs : LL) : Mk := xs.foldl (fun f x => up f (v0 x).toNat) f
theorem Lz (l s : LL) (p now bD i : Int) (g : Mk) (f : Mk) : cD.l1 l s p now bD i 0 (dL f) (eZ g) = cD.l0 l s p now bD (ab (i + 1)) (dL (C3 f (eZ g))) := by
 have hl := C1 g
 have hm := fun x => Ap (f := g) (x := x)
 generalize eZ g = xs at hl hm
 refine ox (l0 := fun (f : Mk) j => cD.l1 l s p now bD i j (dL f) xs) (R := fun f => cD.l0 l s p now bD (ab (i + 1)) (dL f)) (st := fun f x => up f (v0 x).toNat) (fun f => ?_) (fun j hj f => ?_) f
 ·rw [cD.cH, aQ (Nat.le_refl _)]; rfl
 ·obtain ⟨k, h1, h2, h3⟩ := (hm _).1 (aZ hj (z := []))
  have e : gi xs (j : Int) 0 = (k : Int) := by unfold gi; rw [Int.toNat_natCast, h3]; rfl
  rw [cD.cH, aR hj, bo hj, bH (by omega), e, Ar, bo h1, Int.toNat_natCast, G0 f h1, h3]; rfl
theorem TP (f g : Mk) (k : Nat) : C3 f (eZ g) k = ((decide (k < 6) && g k) || f k) := by
 have key : ∀ (xs : LL) (f : Mk), C3 f xs k = (xs.any (fun x => decide (k = (v0 x).toNat)) || f k) := by
  intro xs
  induction xs with
  | nil => intro f; rfl
  | cons x xs ih =>
   intro f
   show C3 (up f (v0 x).toNat) xs k = _
   rw [ih, List.any_cons]
   unfold up
   cases xs.any _ <;> cases decide (k = (v0 x).toNat) <;> rfl
 rw [key]
 congr 1
 rw [Bool.eq_iff_iff, List.any_eq_true]
 simp only [Bool.and_eq_true, decide_eq_true_eq]
 constructor
 ·rintro ⟨x, hx, h⟩
  obtain ⟨j, h1, h2, rfl⟩ := Ap.1 hx
  have : k = j := h
  subst this; exact ⟨h1, h2⟩
 ·rintro ⟨h1, h2⟩
  exact ⟨_, Ap.2 ⟨k, h1, h2, rfl⟩, rfl⟩
theorem TI (l s : LL) (hl : l.length ≤ 4611686018427387904) (hs : s.length ≤ 4611686018427387904) (p now bD : Int) : cD.c l s p now bD = rL (eZ (GV l s p now bD)) := by
 rw [cD.eq, show List.replicate (Int.toNat 6) [U.bool false] = dL fun _ => false from rfl]
 refine ox (l0 := fun (f : Mk) i => cD.l0 l s p now bD i (dL f)) (R := fun f => rL (eZ f)) (st := Aq l p now bD) (fun f => ?_) (fun i hi f => ?_) _
 ·rw [cD.ah, aQ (Nat.le_refl _)]; exact TO f
 ·rw [cD.ah, aR hi, bo hi, bH (by omega)]
  simp only [DA, KW l hl, q0, qb, ql, gd, cond_true]
  unfold Aq tg tH
  simp only [gi, ui, Int.toNat_natCast]
  cases decide (((s.getD i []).getD 0 U0).toInt = 1)
  ·rfl
  cases decide (((s.getD i []).getD 1 U0).toInt = p)
  ·rfl
  cases oy _ _ _ _ _ _ now bD
  ·rfl
  show cD.l1 l s p now bD i 0 (dL f) (under l ((s.getD i []).getD 2 U0).toInt) = _
  unfold under
  cases within ((s.getD i []).getD 2 U0).toInt 0 5
  ·rw [cond_false, show ([] : LL) = eZ fun _ => false from rfl, Lz, bH (by omega)]; rfl
  ·rw [cond_true, Lz, bH (by omega)]
   congr 2
   funext k
   exact TP ..
end Go.Proofs.YtbanfmadialnkaaGreat.Eng
/- half -/
