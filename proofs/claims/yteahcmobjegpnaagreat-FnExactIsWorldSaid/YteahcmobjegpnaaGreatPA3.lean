/- Roles: who is under whom, which roles one has. -/
import Derived.Test.YteahcmobjegpnaaGreatPA2
import Derived.Test.YteahcmobjegpnaaGreatPG
namespace Go.Proofs.YteahcmobjegpnaaGreat.Eng
open Go.RowKit
set_option linter.unusedVariables false
set_option linter.unusedSimpArgs false
set_option linter.unusedSectionVars false
set_option maxRecDepth 100000
variable [Sm]
def rowB (f : Mk) : LL := (List.range 6).map fun k => [U.bool (f k)]
theorem rowB_len (f : Mk) : (rowB f).length = 6 := by simp [rowB]
theorem rowB_get (f : Mk) {i : Nat} (h : i < 6) : (rowB f).getD i [] = [U.bool (f i)] := by
  unfold rowB
  rw [List.getD_eq_getElem?_getD, List.getElem?_map, List.getElem?_range h]; rfl
theorem rowB_gb (f : Mk) {i : Nat} (h : i < 6) : gb (rowB f) (i : Int) 0 = f i := by
  unfold gb
  rw [Int.toNat_natCast, rowB_get f h]; rfl
theorem rowB_set (f : Mk) {i : Nat} (h : i < 6) : setEl (rowB f) i 0 [U.bool true] = rowB (up f i) := by
  rw [setEl_eq, rowB_get f h]
  apply List.ext_getElem?
  intro k
  show ((rowB f).set i [U.bool true])[k]? = _
  rw [List.getElem?_set, rowB_len]
  unfold rowB
  by_cases hk : i = k
  · subst hk
    rw [if_pos rfl, if_pos h, List.getElem?_map, List.getElem?_range h]
    simp [up]
  · rw [if_neg hk, List.getElem?_map, List.getElem?_map]
    by_cases h6 : k < 6
    · rw [List.getElem?_range h6]
      simp [up, Ne.symm hk]
    · rw [List.getElem?_eq_none (by simpa using h6)]; rfl
theorem rowB_one {r : Nat} (h : r < 6) : setEl (List.replicate (Int.toNat 6) [U.bool false]) r 0 [U.bool true] = rowB (fun k => decide (k = r)) := by
  have e : List.replicate (Int.toNat 6) [U.bool false] = rowB fun _ => false := rfl
  rw [e, rowB_set _ h]
  congr 1
  funext k
  simp [up]
def rolesL (f : Mk) : LL := ((List.range 6).filter f).map fun k : Nat => [U.int (k : Int)]
theorem rolesL_len (f : Mk) : (rolesL f).length ≤ 6 := by
  unfold rolesL
  rw [List.length_map]; exact Nat.le_trans (List.length_filter_le _ _) (by simp)
theorem rolesL_mem {f : Mk} {x : List U} : x ∈ rolesL f ↔ ∃ k : Nat, k < 6 ∧ f k = true ∧ x = [U.int (k : Int)] := by
  simp only [rolesL, List.mem_map, List.mem_filter, List.mem_range]
  constructor
  · rintro ⟨k, ⟨h1, h2⟩, rfl⟩; exact ⟨k, h1, h2, rfl⟩
  · rintro ⟨k, h1, h2, rfl⟩; exact ⟨k, ⟨h1, h2⟩, rfl⟩
open Classical in
noncomputable def rch (l : LL) (r : Nat) : Mk := fun k => decide (Rch l r k)
noncomputable def under (l : LL) (role : Int) : LL := bif within role 0 5 then rolesL (rch l role.toNat) else []
theorem under_len (l : LL) (role : Int) : (under l role).length ≤ 6 := by
  unfold under
  cases within role 0 5
  · exact Nat.zero_le _
  · exact rolesL_len _
theorem passes_rch (l : LL) {r : Nat} (h : r < 6) : passes l 6 (fun k => decide (k = r)) = rch l r := by
  funext k
  rw [Bool.eq_iff_iff, passes_iff l h]
  simp [rch]
theorem s_rl2 (f : Mk) : spec_RolesUnder.l2 0 [] (rowB f) = rL (rolesL f) := by
  refine gather_loop (l0 := fun i s => spec_RolesUnder.l2 i s (rowB f)) (n := 6) (p := f) (row := fun k => [U.int (k : Int)]) (R := fun s => rL s) (fun s hs => ?_) fun i hi s hs => ?_
  · rw [spec_RolesUnder.l2_eq]; rfl
  · rw [spec_RolesUnder.l2_eq, decide_eq_true (by omega), rowB_len, in_nat hi, w64_nat (by omega), rowB_gb f hi, room_true (by simp; omega) (by simp; omega)]; rfl
theorem s_rl1 (l : LL) (hl : l.length ≤ 4611686018427387904) (n : Int) (f : Mk) : spec_RolesUnder.l1 l n 0 [] (rowB f) = spec_RolesUnder.l0 l (w64 (n + 1)) [] (rowB (pass l f)) := by
  refine foldL (l0 := fun (f : Mk) i => spec_RolesUnder.l1 l n i [] (rowB f)) (R := fun f => spec_RolesUnder.l0 l (w64 (n + 1)) [] (rowB f)) (st := ps1) (fun f => ?_) (fun i hi f => ?_) f
  · rw [spec_RolesUnder.l1_eq, not_lt_nat (Nat.le_refl _)]; rfl
  · rw [spec_RolesUnder.l1_eq, lt_nat hi, in_nat hi, w64_nat (by omega)]
    simp only [s_in, q0, qb, gt_, cond_true, gi, Int.toNat_natCast, rowB_len]
    unfold ps1
    have e : okP (l.getD i []) = (within (((l.getD i []).getD 0 U0).toInt) 0 5 && within (((l.getD i []).getD 1 U0).toInt) 0 5) := rfl
    rw [e]
    generalize ha : ((l.getD i []).getD 0 U0).toInt = a
    generalize hb : ((l.getD i []).getD 1 U0).toInt = b
    have ea : ui (l.getD i []) 0 = a := ha
    have eb : ui (l.getD i []) 1 = b := hb
    cases h1 : within a 0 5
    · rfl
    cases h2 : within b 0 5
    · rfl
    obtain ⟨h3, h4⟩ := within_inv h1
    obtain ⟨h5, h6⟩ := within_inv h2
    obtain ⟨a, rfl⟩ := Int.eq_ofNat_of_zero_le h3
    obtain ⟨b, rfl⟩ := Int.eq_ofNat_of_zero_le h5
    rw [ea, eb]
    simp only [cond_true, in_nat (show a < 6 by omega), in_nat (show b < 6 by omega), gt_, rowB_gb f (show a < 6 by omega), Int.toNat_natCast, rowB_set f (show b < 6 by omega)]
    cases f a <;> rfl
theorem s_rl0 (l : LL) (hl : l.length ≤ 4611686018427387904) : ∀ (k n : Nat) (f : Mk), n + k = 6 → spec_RolesUnder.l0 l (n : Int) [] (rowB f) = rL (rolesL (passes l k f))
  | 0, n, f, h => by
    obtain rfl : n = 6 := by omega
    rw [spec_RolesUnder.l0_eq]
    show spec_RolesUnder.l2 0 [] (rowB f) = _
    rw [s_rl2]; rfl
  | k + 1, n, f, h => by
    rw [spec_RolesUnder.l0_eq, decide_eq_true (by omega), cond_true, s_rl1 l hl, w64_nat (by omega), s_rl0 l hl k (n + 1) _ (by omega)]; rfl
theorem s_under (l : LL) (hl : l.length ≤ 4611686018427387904) (role : Int) : spec_RolesUnder.c l role = rL (under l role) := by
  rw [spec_RolesUnder.eq, s_in]
  simp only [q0, qb]
  unfold under
  cases h : within role 0 5
  · rfl
  · obtain ⟨h1, h2⟩ := within_inv h
    obtain ⟨r, rfl⟩ := Int.eq_ofNat_of_zero_le h1
    simp only [Bool.not_true, cond_false, cond_true, Int.toNat_natCast, rowB_one (show r < 6 by omega)]
    show grd (inRange (r : Int) 6) _ = _
    rw [in_nat (show r < 6 by omega), gt_]
    have := s_rl0 l hl 6 0 (fun k => decide (k = r)) rfl
    rw [passes_rch l (by omega)] at this
    exact this
/-- The roles that someone has. -/
def roleFact (p now age : Int) (x : List U) : Bool := decide (ui x 0 = 1) && (decide (ui x 1 = p) && factAt x now age)
noncomputable def rolesSt (l : LL) (p now age : Int) (f : Mk) (x : List U) : Mk := bif roleFact p now age x then fun k => (bif within (ui x 2) 0 5 then (decide (k < 6) && rch l (ui x 2).toNat k) else false) || f k else f
noncomputable def rolesMk (l s : LL) (p now age : Int) : Mk := s.foldl (rolesSt l p now age) fun _ => false
theorem s_ro2 (f : Mk) : spec_RolesOf.l2 0 (rowB f) [] = rL (rolesL f) := by
  refine gather_loop (l0 := fun i s => spec_RolesOf.l2 i (rowB f) s) (n := 6) (p := f) (row := fun k => [U.int (k : Int)]) (R := fun s => rL s) (fun s hs => ?_) fun i hi s hs => ?_
  · rw [spec_RolesOf.l2_eq]; rfl
  · rw [spec_RolesOf.l2_eq, decide_eq_true (by omega), rowB_len, in_nat hi, w64_nat (by omega), rowB_gb f hi, room_true (by simp; omega) (by simp; omega)]; rfl
def ups (f : Mk) (xs : LL) : Mk := xs.foldl (fun f x => up f (v0 x).toNat) f
theorem s_ro1 (l s : LL) (p now age i : Int) (g : Mk) (f : Mk) : spec_RolesOf.l1 l s p now age i 0 (rowB f) (rolesL g) = spec_RolesOf.l0 l s p now age (w64 (i + 1)) (rowB (ups f (rolesL g))) := by
  have hl := rolesL_len g
  have hm := fun x => rolesL_mem (f := g) (x := x)
  generalize rolesL g = xs at hl hm
  refine foldL (l0 := fun (f : Mk) j => spec_RolesOf.l1 l s p now age i j (rowB f) xs) (R := fun f => spec_RolesOf.l0 l s p now age (w64 (i + 1)) (rowB f)) (st := fun f x => up f (v0 x).toNat) (fun f => ?_) (fun j hj f => ?_) f
  · rw [spec_RolesOf.l1_eq, not_lt_nat (Nat.le_refl _)]; rfl
  · obtain ⟨k, h1, h2, h3⟩ := (hm _).1 (getD_mem hj (z := []))
    have e : gi xs (j : Int) 0 = (k : Int) := by unfold gi; rw [Int.toNat_natCast, h3]; rfl
    rw [spec_RolesOf.l1_eq, lt_nat hj, in_nat hj, w64_nat (by omega), e, rowB_len, in_nat h1, Int.toNat_natCast, rowB_set f h1, h3]; rfl
theorem ups_rolesL (f g : Mk) (k : Nat) : ups f (rolesL g) k = ((decide (k < 6) && g k) || f k) := by
  have key : ∀ (xs : LL) (f : Mk), ups f xs k = (xs.any (fun x => decide (k = (v0 x).toNat)) || f k) := by
    intro xs
    induction xs with
    | nil => intro f; rfl
    | cons x xs ih =>
      intro f
      show ups (up f (v0 x).toNat) xs k = _
      rw [ih, List.any_cons]
      unfold up
      cases xs.any _ <;> cases decide (k = (v0 x).toNat) <;> rfl
  rw [key]
  congr 1
  rw [Bool.eq_iff_iff, List.any_eq_true]
  simp only [Bool.and_eq_true, decide_eq_true_eq]
  constructor
  · rintro ⟨x, hx, h⟩
    obtain ⟨j, h1, h2, rfl⟩ := rolesL_mem.1 hx
    have : k = j := h
    subst this; exact ⟨h1, h2⟩
  · rintro ⟨h1, h2⟩
    exact ⟨_, rolesL_mem.2 ⟨k, h1, h2, rfl⟩, rfl⟩
theorem s_rolesOf (l s : LL) (hl : l.length ≤ 4611686018427387904) (hs : s.length ≤ 4611686018427387904) (p now age : Int) : spec_RolesOf.c l s p now age = rL (rolesL (rolesMk l s p now age)) := by
  rw [spec_RolesOf.eq, show List.replicate (Int.toNat 6) [U.bool false] = rowB fun _ => false from rfl]
  refine foldL (l0 := fun (f : Mk) i => spec_RolesOf.l0 l s p now age i (rowB f)) (R := fun f => rL (rolesL f)) (st := rolesSt l p now age) (fun f => ?_) (fun i hi f => ?_) _
  · rw [spec_RolesOf.l0_eq, not_lt_nat (Nat.le_refl _)]; exact s_ro2 f
  · rw [spec_RolesOf.l0_eq, lt_nat hi, in_nat hi, w64_nat (by omega)]
    simp only [s_holds, s_under l hl, q0, qb, ql, gt_, cond_true]
    unfold rolesSt roleFact factAt
    simp only [gi, ui, Int.toNat_natCast]
    cases decide (((s.getD i []).getD 0 U0).toInt = 1)
    · rfl
    cases decide (((s.getD i []).getD 1 U0).toInt = p)
    · rfl
    cases holdsAt _ _ _ _ _ _ now age
    · rfl
    show spec_RolesOf.l1 l s p now age i 0 (rowB f) (under l ((s.getD i []).getD 2 U0).toInt) = _
    unfold under
    cases within ((s.getD i []).getD 2 U0).toInt 0 5
    · rw [cond_false, show ([] : LL) = rolesL fun _ => false from rfl, s_ro1, w64_nat (by omega)]; rfl
    · rw [cond_true, s_ro1, w64_nat (by omega)]
      congr 2
      funext k
      exact ups_rolesL ..
end Go.Proofs.YteahcmobjegpnaaGreat.Eng
