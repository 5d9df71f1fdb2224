/- Roles: who is under whom, which roles one has. -/
import Derived.Test.YtbanfmadialnkaaGreatPA2
import Derived.Test.YtbanfmadialnkaaGreatPG
namespace Go.Proofs.YtbanfmadialnkaaGreat.Eng
open Go.RowKit
set_option linter.unusedVariables false
set_option linter.unusedSimpArgs false
set_option linter.unusedSectionVars false
set_option maxRecDepth 100000
variable [Sm]
def Er (f : Mk) : LL := (List.range 6).map fun k => [U.bool (f k)]
theorem Oy (f : Mk) : (Er f).length = 6 := by simp [Er]
theorem Uy (f : Mk) {i : Nat} (h : i < 6) : (Er f).getD i [] = [U.bool (f i)] := by
 unfold Er
 rw [List.getD_eq_getElem?_getD, List.getElem?_map, List.getElem?_range h]; rfl
theorem SD (f : Mk) {i : Nat} (h : i < 6) : gb (Er f) (i : Int) 0 = f i := by
 unfold gb
 rw [Int.toNat_natCast, Uy f h]; rfl
theorem SE (f : Mk) {i : Nat} (h : i < 6) : bR (Er f) i 0 [U.bool true] = Er (up f i) := by
 rw [Fc, Uy f h]
 apply List.ext_getElem?
 intro k
 show ((Er f).set i [U.bool true])[k]? = _
 rw [List.getElem?_set, Oy]
 unfold Er
 by_cases hk : i = k
 ·subst hk
  rw [if_pos rfl, if_pos h, List.getElem?_map, List.getElem?_range h]
  simp [up]
 ·rw [if_neg hk, List.getElem?_map, List.getElem?_map]
  by_cases h6 : k < 6
  ·rw [List.getElem?_range h6]
   simp [up, Ne.symm hk]
  ·rw [List.getElem?_eq_none (by simpa using h6)]; rfl
theorem ZR {r : Nat} (h : r < 6) : bR (List.replicate (Int.toNat 6) [U.bool false]) r 0 [U.bool true] = Er (fun k => decide (k = r)) := by
 have e : List.replicate (Int.toNat 6) [U.bool false] = Er fun _ => false := rfl
 rw [e, SE _ h]
 congr 1
 funext k
 simp [up]
def ET (f : Mk) : LL := ((List.range 6).filter f).map fun k : Nat => [U.int (k : Int)]
theorem QF (f : Mk) : (ET f).length ≤ 6 := by
 unfold ET
 rw [List.length_map]; exact Nat.le_trans (List.length_filter_le _ _) (by simp)
theorem Ow {f : Mk} {x : List U} : x ∈ ET f ↔ ∃ k : Nat, k < 6 ∧ f k = true ∧ x = [U.int (k : Int)] := by
 simp only [ET, List.mem_map, List.mem_filter, List.mem_range]
 constructor
 ·rintro ⟨k, ⟨h1, h2⟩, rfl⟩; exact ⟨k, h1, h2, rfl⟩
 ·rintro ⟨k, h1, h2, rfl⟩; exact ⟨k, ⟨h1, h2⟩, rfl⟩
open Classical in
noncomputable def Jl (l : LL) (r : Nat) : Mk := fun k => decide (EO l r k)
noncomputable def under (l : LL) (role : Int) : LL := bif within role 0 5 then ET (Jl l role.toNat) else []
theorem SL (l : LL) (role : Int) : (under l role).length ≤ 6 := by
 unfold under
 cases within role 0 5
 ·exact Nat.zero_le _
 ·exact QF _
theorem Zf (l : LL) {r : Nat} (h : r < 6) : Kc l 6 (fun k => decide (k = r)) = Jl l r := by
 funext k
 rw [Bool.eq_iff_iff, Ze l h]
 simp [Jl]
theorem aaN (f : Mk) : DP.l2 0 [] (Er f) = rL (ET f) := by
 refine Ks (l0 := fun i s => DP.l2 i s (Er f)) (n := 6) (p := f) (row := fun k => [U.int (k : Int)]) (R := fun s => rL s) (fun s hs => ?_) fun i hi s hs => ?_
 ·rw [DP.Ka]; rfl
 ·rw [DP.Ka, decide_eq_true (by omega), Oy, DB hi, DG (by omega), SD f hi, DM (by simp; omega) (by simp; omega)]; rfl
theorem aaM (l : LL) (hl : l.length ≤ 4611686018427387904) (n : Int) (f : Mk) : DP.l1 l n 0 [] (Er f) = DP.l0 l (CX (n + 1)) [] (Er (pass l f)) := by
 refine JC (l0 := fun (f : Mk) i => DP.l1 l n i [] (Er f)) (R := fun f => DP.l0 l (CX (n + 1)) [] (Er f)) (st := KL) (fun f => ?_) (fun i hi f => ?_) f
 ·rw [DP.DS, Dq (Nat.le_refl _)]; rfl
 ·rw [DP.DS, Dr hi, DB hi, DG (by omega)]
  simp only [EI, q0, qb, FE, cond_true, gi, Int.toNat_natCast, Oy]
  unfold KL
  have e : Jk (l.getD i []) = (within (((l.getD i []).getD 0 U0).toInt) 0 5 && within (((l.getD i []).getD 1 U0).toInt) 0 5) := rfl
  rw [e]
  generalize ha : ((l.getD i []).getD 0 U0).toInt = a
  generalize hb : ((l.getD i []).getD 1 U0).toInt = b
  have ea : ui (l.getD i []) 0 = a := ha
  have eb : ui (l.getD i []) 1 = b := hb
  cases h1 : within a 0 5
  ·rfl
  cases h2 : within b 0 5
  ·rfl
  obtain ⟨h3, h4⟩ := Ey h1
  obtain ⟨h5, h6⟩ := Ey h2
  obtain ⟨a, rfl⟩ := Int.eq_ofNat_of_zero_le h3
  obtain ⟨b, rfl⟩ := Int.eq_ofNat_of_zero_le h5
  rw [ea, eb]
  simp only [cond_true, DB (show a < 6 by omega), DB (show b < 6 by omega), FE, SD f (show a < 6 by omega), Int.toNat_natCast, SE f (show b < 6 by omega)]
  cases f a <;> rfl
theorem UN (l : LL) (hl : l.length ≤ 4611686018427387904) : ∀ (k n : Nat) (f : Mk), n + k = 6 → DP.l0 l (n : Int) [] (Er f) = rL (ET (Kc l k f))
 | 0, n, f, h => by
  obtain rfl : n = 6 := by omega
  rw [DP.CZ]
  show DP.l2 0 [] (Er f) = _
  rw [aaN]; rfl
 | k + 1, n, f, h => by
  rw [DP.CZ, decide_eq_true (by omega), cond_true, aaM l hl, DG (by omega), UN l hl k (n + 1) _ (by omega)]; rfl
theorem UU (l : LL) (hl : l.length ≤ 4611686018427387904) (role : Int) : DP.c l role = rL (under l role) := by
 rw [DP.eq, EI]
 simp only [q0, qb]
 unfold under
 cases h : within role 0 5
 ·rfl
 ·obtain ⟨h1, h2⟩ := Ey h
  obtain ⟨r, rfl⟩ := Int.eq_ofNat_of_zero_le h1
  simp only [Bool.not_true, cond_false, cond_true, Int.toNat_natCast, ZR (show r < 6 by omega)]
  show Cu (dk (r : Int) 6) _ = _
  rw [DB (show r < 6 by omega), FE]
  have := UN l hl 6 0 (fun k => decide (k = r)) rfl
  rw [Zf l (by omega)] at this
  exact this
/-- The roles that someone has. -/
def KN (p now DE : Int) (x : List U) : Bool := decide (ui x 0 = 1) && (decide (ui x 1 = p) && Lc x now DE)
noncomputable def Ox (l : LL) (p now DE : Int) (f : Mk) (x : List U) : Mk := bif KN p now DE x then fun k => (bif within (ui x 2) 0 5 then (decide (k < 6) && Jl l (ui x 2).toNat k) else false) || f k else f
noncomputable def Sy (l s : LL) (p now DE : Int) : Mk := s.foldl (Ox l p now DE) fun _ => false
theorem aaO (f : Mk) : DQ.l2 0 (Er f) [] = rL (ET f) := by
 refine Ks (l0 := fun i s => DQ.l2 i (Er f) s) (n := 6) (p := f) (row := fun k => [U.int (k : Int)]) (R := fun s => rL s) (fun s hs => ?_) fun i hi s hs => ?_
 ·rw [DQ.Ka]; rfl
 ·rw [DQ.Ka, decide_eq_true (by omega), Oy, DB hi, DG (by omega), SD f hi, DM (by simp; omega) (by simp; omega)]; rfl
def QS (f : Mk) (xs : LL) : Mk := xs.foldl (fun f x => up f (v0 x).toNat) f
theorem UO (l s : LL) (p now DE i : Int) (g : Mk) (f : Mk) : DQ.l1 l s p now DE i 0 (Er f) (ET g) = DQ.l0 l s p now DE (CX (i + 1)) (Er (QS f (ET g))) := by
 have hl := QF g
 have hm := fun x => Ow (f := g) (x := x)
 generalize ET g = xs at hl hm
 refine JC (l0 := fun (f : Mk) j => DQ.l1 l s p now DE i j (Er f) xs) (R := fun f => DQ.l0 l s p now DE (CX (i + 1)) (Er f)) (st := fun f x => up f (v0 x).toNat) (fun f => ?_) (fun j hj f => ?_) f
 ·rw [DQ.DS, Dq (Nat.le_refl _)]; rfl
 ·obtain ⟨k, h1, h2, h3⟩ := (hm _).1 (Du hj (z := []))
  have e : gi xs (j : Int) 0 = (k : Int) := by unfold gi; rw [Int.toNat_natCast, h3]; rfl
  rw [DQ.DS, Dr hj, DB hj, DG (by omega), e, Oy, DB h1, Int.toNat_natCast, SE f h1, h3]; rfl
theorem acd (f g : Mk) (k : Nat) : QS f (ET g) k = ((decide (k < 6) && g k) || f k) := by
 have key : ∀ (xs : LL) (f : Mk), QS f xs k = (xs.any (fun x => decide (k = (v0 x).toNat)) || f k) := by
  intro xs
  induction xs with
  | nil => intro f; rfl
  | cons x xs ih =>
   intro f
   show QS (up f (v0 x).toNat) xs k = _
   rw [ih, List.any_cons]
   unfold up
   cases xs.any _ <;> cases decide (k = (v0 x).toNat) <;> rfl
 rw [key]
 congr 1
 rw [Bool.eq_iff_iff, List.any_eq_true]
 simp only [Bool.and_eq_true, decide_eq_true_eq]
 constructor
 ·rintro ⟨x, hx, h⟩
  obtain ⟨j, h1, h2, rfl⟩ := Ow.1 hx
  have : k = j := h
  subst this; exact ⟨h1, h2⟩
 ·rintro ⟨h1, h2⟩
  exact ⟨_, Ow.2 ⟨k, h1, h2, rfl⟩, rfl⟩
theorem aaP (l s : LL) (hl : l.length ≤ 4611686018427387904) (hs : s.length ≤ 4611686018427387904) (p now DE : Int) : DQ.c l s p now DE = rL (ET (Sy l s p now DE)) := by
 rw [DQ.eq, show List.replicate (Int.toNat 6) [U.bool false] = Er fun _ => false from rfl]
 refine JC (l0 := fun (f : Mk) i => DQ.l0 l s p now DE i (Er f)) (R := fun f => rL (ET f)) (st := Ox l p now DE) (fun f => ?_) (fun i hi f => ?_) _
 ·rw [DQ.CZ, Dq (Nat.le_refl _)]; exact aaO f
 ·rw [DQ.CZ, Dr hi, DB hi, DG (by omega)]
  simp only [SF, UU l hl, q0, qb, ql, FE, cond_true]
  unfold Ox KN Lc
  simp only [gi, ui, Int.toNat_natCast]
  cases decide (((s.getD i []).getD 0 U0).toInt = 1)
  ·rfl
  cases decide (((s.getD i []).getD 1 U0).toInt = p)
  ·rfl
  cases JD _ _ _ _ _ _ now DE
  ·rfl
  show DQ.l1 l s p now DE i 0 (Er f) (under l ((s.getD i []).getD 2 U0).toInt) = _
  unfold under
  cases within ((s.getD i []).getD 2 U0).toInt 0 5
  ·rw [cond_false, show ([] : LL) = ET fun _ => false from rfl, UO, DG (by omega)]; rfl
  ·rw [cond_true, UO, DG (by omega)]
   congr 2
   funext k
   exact acd ..
end Go.Proofs.YtbanfmadialnkaaGreat.Eng
/- half -/
