/- Roles: who is under whom, which roles one has. -/
import Derived.Test.YtbanfmadialnkaaGreatPA2
import Derived.Test.YtbanfmadialnkaaGreatPG
namespace Go.Proofs.YtbanfmadialnkaaGreat.Eng
open Go.RowKit
set_option linter.unusedVariables false
set_option linter.unusedSimpArgs false
set_option linter.unusedSectionVars false
set_option maxRecDepth 100000
variable [Sm]
def EB (f : Mk) : LL := (List.range 6).map fun k => [U.bool (f k)]
theorem Qa (f : Mk) : (EB f).length = 6 := by simp [EB]
theorem Vo (f : Mk) {i : Nat} (h : i < 6) : (EB f).getD i [] = [U.bool (f i)] := by
 unfold EB
 rw [List.getD_eq_getElem?_getD, List.getElem?_map, List.getElem?_range h]; rfl
theorem Ty (f : Mk) {i : Nat} (h : i < 6) : gb (EB f) (i : Int) 0 = f i := by
 unfold gb
 rw [Int.toNat_natCast, Vo f h]; rfl
theorem Tz (f : Mk) {i : Nat} (h : i < 6) : bR (EB f) i 0 [U.bool true] = EB (up f i) := by
 rw [DS, Vo f h]
 apply List.ext_getElem?
 intro k
 show ((EB f).set i [U.bool true])[k]? = _
 rw [List.getElem?_set, Qa]
 unfold EB
 by_cases hk : i = k
 ·subst hk
  rw [if_pos rfl, if_pos h, List.getElem?_map, List.getElem?_range h]
  simp [up]
 ·rw [if_neg hk, List.getElem?_map, List.getElem?_map]
  by_cases h6 : k < 6
  ·rw [List.getElem?_range h6]
   simp [up, Ne.symm hk]
  ·rw [List.getElem?_eq_none (by simpa using h6)]; rfl
theorem aal {r : Nat} (h : r < 6) : bR (List.replicate (Int.toNat 6) [U.bool false]) r 0 [U.bool true] = EB (fun k => decide (k = r)) := by
 have e : List.replicate (Int.toNat 6) [U.bool false] = EB fun _ => false := rfl
 rw [e, Tz _ h]
 congr 1
 funext k
 simp [up]
def ET (f : Mk) : LL := ((List.range 6).filter f).map fun k : Nat => [U.int (k : Int)]
theorem RU (f : Mk) : (ET f).length ≤ 6 := by
 unfold ET
 rw [List.length_map]; exact Nat.le_trans (List.length_filter_le _ _) (by simp)
theorem PK {f : Mk} {x : List U} : x ∈ ET f ↔ ∃ k : Nat, k < 6 ∧ f k = true ∧ x = [U.int (k : Int)] := by
 simp only [ET, List.mem_map, List.mem_filter, List.mem_range]
 constructor
 ·rintro ⟨k, ⟨h1, h2⟩, rfl⟩; exact ⟨k, h1, h2, rfl⟩
 ·rintro ⟨k, h1, h2, rfl⟩; exact ⟨k, ⟨h1, h2⟩, rfl⟩
open Classical in
noncomputable def LB (l : LL) (r : Nat) : Mk := fun k => decide (Gc l r k)
noncomputable def under (l : LL) (role : Int) : LL := bif within role 0 5 then ET (LB l role.toNat) else []
theorem VN (l : LL) (role : Int) : (under l role).length ≤ 6 := by
 unfold under
 cases within role 0 5
 ·exact Nat.zero_le _
 ·exact RU _
theorem aac (l : LL) {r : Nat} (h : r < 6) : Li l 6 (fun k => decide (k = r)) = LB l r := by
 funext k
 rw [Bool.eq_iff_iff, aab l h]
 simp [LB]
theorem aaX (f : Mk) : Eh.l2 0 [] (EB f) = rL (ET f) := by
 refine LP (l0 := fun i s => Eh.l2 i s (EB f)) (n := 6) (p := f) (row := fun k => [U.int (k : Int)]) (R := fun s => rL s) (fun s hs => ?_) fun i hi s hs => ?_
 ·rw [Eh.Oz]; rfl
 ·rw [Eh.Oz, decide_eq_true (by omega), Qa, DE hi, DJ (by omega), Ty f hi, Dq (by simp; omega) (by simp; omega)]; rfl
theorem aaW (l : LL) (hl : l.length ≤ 4611686018427387904) (n : Int) (f : Mk) : Eh.l1 l n 0 [] (EB f) = Eh.l0 l (CX (n + 1)) [] (EB (pass l f)) := by
 refine LO (l0 := fun (f : Mk) i => Eh.l1 l n i [] (EB f)) (R := fun f => Eh.l0 l (CX (n + 1)) [] (EB f)) (st := Me) (fun f => ?_) (fun i hi f => ?_) f
 ·rw [Eh.HA, Dj (Nat.le_refl _)]; rfl
 ·rw [Eh.HA, Di hi, DE hi, DJ (by omega)]
  simp only [IU, q0, qb, Gw, cond_true, gi, Int.toNat_natCast, Qa]
  unfold Me
  have e : Mb (l.getD i []) = (within (((l.getD i []).getD 0 U0).toInt) 0 5 && within (((l.getD i []).getD 1 U0).toInt) 0 5) := rfl
  rw [e]
  generalize ha : ((l.getD i []).getD 0 U0).toInt = a
  generalize hb : ((l.getD i []).getD 1 U0).toInt = b
  have ea : ui (l.getD i []) 0 = a := ha
  have eb : ui (l.getD i []) 1 = b := hb
  cases h1 : within a 0 5
  ·rfl
  cases h2 : within b 0 5
  ·rfl
  obtain ⟨h3, h4⟩ := En h1
  obtain ⟨h5, h6⟩ := En h2
  obtain ⟨a, rfl⟩ := Int.eq_ofNat_of_zero_le h3
  obtain ⟨b, rfl⟩ := Int.eq_ofNat_of_zero_le h5
  rw [ea, eb]
  simp only [cond_true, DE (show a < 6 by omega), DE (show b < 6 by omega), Gw, Ty f (show a < 6 by omega), Int.toNat_natCast, Tz f (show b < 6 by omega)]
  cases f a <;> rfl
theorem Vy (l : LL) (hl : l.length ≤ 4611686018427387904) : ∀ (k n : Nat) (f : Mk), n + k = 6 → Eh.l0 l (n : Int) [] (EB f) = rL (ET (Li l k f))
 | 0, n, f, h => by
  obtain rfl : n = 6 := by omega
  rw [Eh.Da]
  show Eh.l2 0 [] (EB f) = _
  rw [aaX]; rfl
 | k + 1, n, f, h => by
  rw [Eh.Da, decide_eq_true (by omega), cond_true, aaW l hl, DJ (by omega), Vy l hl k (n + 1) _ (by omega)]; rfl
theorem aa4 (l : LL) (hl : l.length ≤ 4611686018427387904) (role : Int) : Eh.c l role = rL (under l role) := by
 rw [Eh.eq, IU]
 simp only [q0, qb]
 unfold under
 cases h : within role 0 5
 ·rfl
 ·obtain ⟨h1, h2⟩ := En h
  obtain ⟨r, rfl⟩ := Int.eq_ofNat_of_zero_le h1
  simp only [Bool.not_true, cond_false, cond_true, Int.toNat_natCast, aal (show r < 6 by omega)]
  show Cu (dk (r : Int) 6) _ = _
  rw [DE (show r < 6 by omega), Gw]
  have := Vy l hl 6 0 (fun k => decide (k = r)) rfl
  rw [aac l (by omega)] at this
  exact this
/-- The roles that someone has. -/
def Mh (p now DB : Int) (x : List U) : Bool := decide (ui x 0 = 1) && (decide (ui x 1 = p) && Mu x now DB)
noncomputable def PO (l : LL) (p now DB : Int) (f : Mk) (x : List U) : Mk := bif Mh p now DB x then fun k => (bif within (ui x 2) 0 5 then (decide (k < 6) && LB l (ui x 2).toNat k) else false) || f k else f
noncomputable def Tq (l s : LL) (p now DB : Int) : Mk := s.foldl (PO l p now DB) fun _ => false
theorem aaY (f : Mk) : Eg.l2 0 (EB f) [] = rL (ET f) := by
 refine LP (l0 := fun i s => Eg.l2 i (EB f) s) (n := 6) (p := f) (row := fun k => [U.int (k : Int)]) (R := fun s => rL s) (fun s hs => ?_) fun i hi s hs => ?_
 ·rw [Eg.Oz]; rfl
 ·rw [Eg.Oz, decide_eq_true (by omega), Qa, DE hi, DJ (by omega), Ty f hi, Dq (by simp; omega) (by simp; omega)]; rfl
def Sg (f : Mk) (xs : LL) : Mk := xs.foldl (fun f x => up f (v0 x).toNat) f
theorem Vz (l s : LL) (p now DB i : Int) (g : Mk) (f : Mk) : Eg.l1 l s p now DB i 0 (EB f) (ET g) = Eg.l0 l s p now DB (CX (i + 1)) (EB (Sg f (ET g))) := by
 have hl := RU g
 have hm := fun x => PK (f := g) (x := x)
 generalize ET g = xs at hl hm
 refine LO (l0 := fun (f : Mk) j => Eg.l1 l s p now DB i j (EB f) xs) (R := fun f => Eg.l0 l s p now DB (CX (i + 1)) (EB f)) (st := fun f x => up f (v0 x).toNat) (fun f => ?_) (fun j hj f => ?_) f
 ·rw [Eg.HA, Dj (Nat.le_refl _)]; rfl
 ·obtain ⟨k, h1, h2, h3⟩ := (hm _).1 (De hj (z := []))
  have e : gi xs (j : Int) 0 = (k : Int) := by unfold gi; rw [Int.toNat_natCast, h3]; rfl
  rw [Eg.HA, Di hj, DE hj, DJ (by omega), e, Qa, DE h1, Int.toNat_natCast, Tz f h1, h3]; rfl
theorem acq (f g : Mk) (k : Nat) : Sg f (ET g) k = ((decide (k < 6) && g k) || f k) := by
 have key : ∀ (xs : LL) (f : Mk), Sg f xs k = (xs.any (fun x => decide (k = (v0 x).toNat)) || f k) := by
  intro xs
  induction xs with
  | nil => intro f; rfl
  | cons x xs ih =>
   intro f
   show Sg (up f (v0 x).toNat) xs k = _
   rw [ih, List.any_cons]
   unfold up
   cases xs.any _ <;> cases decide (k = (v0 x).toNat) <;> rfl
 rw [key]
 congr 1
 rw [Bool.eq_iff_iff, List.any_eq_true]
 simp only [Bool.and_eq_true, decide_eq_true_eq]
 constructor
 ·rintro ⟨x, hx, h⟩
  obtain ⟨j, h1, h2, rfl⟩ := PK.1 hx
  have : k = j := h
  subst this; exact ⟨h1, h2⟩
 ·rintro ⟨h1, h2⟩
  exact ⟨_, PK.2 ⟨k, h1, h2, rfl⟩, rfl⟩
theorem aaZ (l s : LL) (hl : l.length ≤ 4611686018427387904) (hs : s.length ≤ 4611686018427387904) (p now DB : Int) : Eg.c l s p now DB = rL (ET (Tq l s p now DB)) := by
 rw [Eg.eq, show List.replicate (Int.toNat 6) [U.bool false] = EB fun _ => false from rfl]
 refine LO (l0 := fun (f : Mk) i => Eg.l0 l s p now DB i (EB f)) (R := fun f => rL (ET f)) (st := PO l p now DB) (fun f => ?_) (fun i hi f => ?_) _
 ·rw [Eg.Da, Dj (Nat.le_refl _)]; exact aaY f
 ·rw [Eg.Da, Di hi, DE hi, DJ (by omega)]
  simp only [TC, aa4 l hl, q0, qb, ql, Gw, cond_true]
  unfold PO Mh Mu
  simp only [gi, ui, Int.toNat_natCast]
  cases decide (((s.getD i []).getD 0 U0).toInt = 1)
  ·rfl
  cases decide (((s.getD i []).getD 1 U0).toInt = p)
  ·rfl
  cases KD _ _ _ _ _ _ now DB
  ·rfl
  show Eg.l1 l s p now DB i 0 (EB f) (under l ((s.getD i []).getD 2 U0).toInt) = _
  unfold under
  cases within ((s.getD i []).getD 2 U0).toInt 0 5
  ·rw [cond_false, show ([] : LL) = ET fun _ => false from rfl, Vz, DJ (by omega)]; rfl
  ·rw [cond_true, Vz, DJ (by omega)]
   congr 2
   funext k
   exact acq ..
end Go.Proofs.YtbanfmadialnkaaGreat.Eng
/- half -/
