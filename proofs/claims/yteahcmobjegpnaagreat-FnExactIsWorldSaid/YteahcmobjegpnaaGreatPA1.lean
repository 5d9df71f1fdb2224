/- What small functions compute: ranges, times, names, keys, facts, certificates, hashes. -/
import Derived.Test.YteahcmobjegpnaaGreatPN
import Derived.Test.YteahcmobjegpnaaGreatFAll
namespace Go.Proofs.YteahcmobjegpnaaGreat.Eng
open Go.RowKit
set_option linter.unusedVariables false
set_option linter.unusedSimpArgs false
set_option linter.unusedSectionVars false
set_option maxRecDepth 100000
variable [Sm]
abbrev v0 (x : List U) : Int := ui x 0
def within (a lo hi : Int) : Bool := decide (lo ≤ a) && decide (a ≤ hi)
theorem within_inv {a lo hi : Int} (h : within a lo hi = true) : lo ≤ a ∧ a ≤ hi := by simpa [within] using h
theorem within_of {a lo hi : Int} (h : lo ≤ a) (h' : a ≤ hi) : within a lo hi = true := by simp [within, h, h']
theorem s_in (a lo hi : Int) : spec_l1In.c a lo hi = rB (within a lo hi) := by simp only [spec_l1In.eq, cB, ctf]; rfl
theorem i_in (a lo hi : Int) : impl_InRange.c a lo hi = rB (within a lo hi) := by simp only [impl_InRange.eq, cB, ctf]; rfl
theorem s_time (a : Int) : spec_IsTime.c a = rB (within a 0 10000) := by simp only [spec_IsTime.eq, s_in, q0, qb]
theorem i_time (a : Int) : impl_IsTime.c a = rB (within a 0 10000) := by simp only [impl_IsTime.eq, i_in, q0, qb]
theorem s_name (a : Int) : spec_IsName.c a = rB (within a 10 49) := by simp only [spec_IsName.eq, s_in, q0, qb]
theorem i_name (a : Int) : impl_IsName.c a = rB (within a 10 49) := by simp only [impl_IsName.eq, i_in, q0, qb]
theorem s_key (a : Int) : spec_IsValidKey.c a = rB (within a 1 2147483646) := by simp only [spec_IsValidKey.eq, s_in, q0, qb]
theorem i_key (a : Int) : impl_IsValidKey.c a = rB (within a 1 2147483646) := by simp only [impl_IsValidKey.eq, i_in, q0, qb]
def hasKind (a k : Int) : Bool := within a 10 49 && decide (a.tdiv 10 = k)
theorem wrap_tdiv {a : Int} (h : within a 10 49 = true) : w64 (a.tdiv 10) = a.tdiv 10 := by
  obtain ⟨h1, h2⟩ := within_inv h
  rw [Int.tdiv_eq_ediv_of_nonneg (by omega), w64_id (by omega) (by omega)]
theorem s_kind (a k : Int) : spec_HasKind.c a k = rB (hasKind a k) := by
  simp only [spec_HasKind.eq, s_name, q0, qb, cB, ctf]
  unfold hasKind
  cases h : within a 10 49
  · rfl
  · rw [wrap_tdiv h]
theorem i_kind (a k : Int) : impl_HasKind.c a k = rB (hasKind a k) := by
  simp only [impl_HasKind.eq, impl_KindOf.eq, i_name, q0, qb]
  unfold hasKind
  cases h : within a 10 49
  · rfl
  · simp only [wrap_tdiv h]; rfl
def isWithin (a b t : Int) : Bool := within a 0 10000 && (within b 0 10000 && (within t 0 10000 && within t a b))
theorem s_within (a b t : Int) : spec_IsWithin.c a b t = rB (isWithin a b t) := by simp only [spec_IsWithin.eq, s_time, q0, qb, cB, ctf]; rfl
theorem i_within (a b t : Int) : impl_IsWithin.c a b t = rB (isWithin a b t) := by simp only [impl_IsWithin.eq, i_time, i_in, q0, qb, cB, ctf]; rfl
def ageOf (a b : Int) : Int := bif within a 0 10000 then (bif within b 0 10000 then (bif decide (a > b) then -1 else w64 (b - a)) else -1) else -1
theorem s_age (a b : Int) : spec_AgeOf.c a b = rI (ageOf a b) := by simp only [spec_AgeOf.eq, s_time, q0, qb, cnot, cI]; rfl
theorem i_age (a b : Int) : impl_AgeOf.c a b = rI (ageOf a b) := by simp only [impl_AgeOf.eq, i_time, q0, qb, cnot, cI]; rfl
theorem age_of {a b : Int} (h1 : within a 0 10000 = true) (h2 : within b 0 10000 = true) (h : a ≤ b) : ageOf a b = b - a := by
  unfold ageOf
  obtain ⟨h3, h4⟩ := within_inv h1
  obtain ⟨h5, h6⟩ := within_inv h2
  rw [h1, h2, decide_eq_false (by omega)]
  exact w64_id (by omega) (by omega)
def youngAt (a b m : Int) : Bool := decide (0 ≤ ageOf a b) && decide (ageOf a b ≤ m)
theorem s_fresh (a b m : Int) : spec_IsFresh.c a b m = rB (youngAt a b m) := by simp only [spec_IsFresh.eq, s_age, q0, qi, cB, ctf]; rfl
def claim (k s v : Int) : Bool := bif decide (k = 1) then (hasKind s 1 && within v 0 5) else bif decide (k = 2) then (hasKind s 1 && hasKind v 2) else bif decide (k = 3) then (hasKind s 2 && within v 0 3) else (decide (k = 4) && (hasKind s 3 && within v 0 3))
def isFact (k s v i a u : Int) : Bool := claim k s v && (within i 0 9 && (within a 0 10000 && (within u 0 10000 && decide (a ≤ u))))
theorem i_fact (k s v i a u : Int) : impl_IsFact.c k s v i a u = rB (isFact k s v i a u) := by
  simp only [impl_IsFact.eq, impl_isClaim.eq, i_kind, i_in, i_time, q0, qb, cB, ctf]; rfl
theorem s_fact (k s v i a u : Int) : spec_IsFact.c k s v i a u = rB (isFact k s v i a u) := by
  simp only [spec_IsFact.eq, s_kind, s_in, s_time, q0, qb, cB, ctf]
  unfold isFact claim
  cases decide (k = 1) <;> cases decide (k = 2) <;> cases decide (k = 3) <;> cases decide (k = 4) <;> simp only [cond_true, cond_false, Bool.and_assoc, Bool.false_and, Bool.true_and]
def holdsAt (k s v i a u now age : Int) : Bool := isFact k s v i a u && (isWithin a u now && youngAt a now age)
theorem s_holds (k s v i a u now age : Int) : spec_HoldsAt.c k s v i a u now age = rB (holdsAt k s v i a u now age) := by
  simp only [spec_HoldsAt.eq, s_fact, s_within, s_fresh, q0, qb, cB, ctf]; rfl
theorem i_holds (k s v i a u now age : Int) : impl_HoldsAt.c k s v i a u now age = rB (holdsAt k s v i a u now age) := by
  simp only [impl_HoldsAt.eq, i_fact, i_within, i_age, q0, qb, qi, cB, ctf]
  unfold holdsAt
  cases hw : isWithin a u now
  · rfl
  · unfold isWithin at hw
    simp only [Bool.and_eq_true] at hw
    obtain ⟨h1, h2, h3, h4⟩ := hw
    obtain ⟨h5, h6⟩ := within_inv h4
    unfold youngAt
    rw [age_of h1 h3 h5, decide_eq_true (show 0 ≤ now - a by omega)]; rfl
/-- The fact of a row. -/
def factAt (x : List U) (now age : Int) : Bool := holdsAt (ui x 0) (ui x 1) (ui x 2) (ui x 3) (ui x 4) (ui x 5) now age
def isCert (s b k f u : Int) : Bool := within s 1 9999 && (within b 10 49 && (within k 1 2147483646 && (within f 0 10000 && (within u 0 10000 && within (w64 (u - f)) 0 50))))
theorem i_cert (s b k f u m : Int) : impl_IsCert.c s b k f u m = rB (isCert s b k f u) := by
  simp only [impl_IsCert.eq, i_in, i_name, i_key, i_time, q0, qb, cB, ctf]; rfl
theorem s_cert (s b k f u m : Int) : spec_IsCert.c s b k f u m = rB (isCert s b k f u) := by
  simp only [spec_IsCert.eq, s_in, s_name, s_key, s_time, q0, qb, cB, ctf]
  unfold isCert
  cases h1 : within f 0 10000
  · simp
  cases h2 : within u 0 10000
  · simp
  obtain ⟨h3, h4⟩ := within_inv h1
  obtain ⟨h5, h6⟩ := within_inv h2
  have e : w64 (u - f) = u - f := w64_id (by omega) (by omega)
  have e2 : (decide (f ≤ u) && decide (w64 (u - f) ≤ 50)) = within (w64 (u - f)) 0 50 := by
    rw [e]; unfold within
    rw [show decide (f ≤ u) = decide (0 ≤ u - f) from by rw [decide_eq_decide]; omega]
  rw [e2]
/-! ### Hashes -/
def md (n : Int) : Int := (w64 (n.tmod 2147483647 + 2147483647)).tmod 2147483647
theorem s_mod (n : Int) : spec_Mod.c n 2147483647 = rI (md n) := by simp only [spec_Mod.eq, s_in, q0, qb]; rfl
theorem i_mod (n : Int) : impl_Mod.c n 2147483647 = rI (md n) := by simp only [impl_Mod.eq, i_in, q0, qb]; rfl
def hst (d : Int) (x : List U) : Int := (w64 (w64 (w64 (d * 1000003) + md (v0 x)) + 13)).tmod 2147483647
def hashL (xs : LL) : Int := xs.foldl hst 11
theorem s_hash (xs : LL) (hx : xs.length ≤ 4611686018427387904) : spec_Hash.c xs = rI (hashL xs) := by
  rw [spec_Hash.eq]
  refine foldL (l0 := fun s i => spec_Hash.l0 xs s i) (R := rI) (st := hst) (fun s => ?_) (fun i hi s => ?_) 11
  · rw [spec_Hash.l0_eq, not_lt_nat (Nat.le_refl _)]; rfl
  · show _ = _
    rw [spec_Hash.l0_eq, lt_nat hi, in_nat hi, s_mod, w64_nat (by omega)]; rfl
theorem i_hash (xs : LL) (hx : xs.length ≤ 4611686018427387904) : impl_Hash.c xs = rI (hashL xs) := by
  rw [impl_Hash.eq]
  refine foldL (l0 := fun s i => impl_Hash.l0 s xs _ i) (R := rI) (st := hst) (fun s => ?_) (fun i hi s => ?_) 11
  · rw [impl_Hash.l0_eq, not_lt_nat (Nat.le_refl _)]; rfl
  · show _ = _
    rw [impl_Hash.l0_eq, lt_nat hi, in_nat hi, i_mod, w64_nat (by omega)]; rfl
def khash (k : Int) (xs : LL) : Int := hashL ([[U.int k]] ++ xs ++ [[U.int k]])
theorem s_khash (k : Int) (xs : LL) (hx : xs.length ≤ 1048576) : spec_KeyedHash.c k xs = rI (khash k xs) := by
  rw [spec_KeyedHash.eq, grd_true (room_true (by simp; omega) (by simp; omega)), grd_true (room_true (by simp; omega) (by simp; omega)), s_hash _ (by simp; omega)]; rfl
theorem i_khash (k : Int) (xs : LL) (hx : xs.length ≤ 1048576) : impl_KeyedHash.c k xs = rI (khash k xs) := by
  have h : slices_Concat_int.c [[U.lst [[U.int k]]], [U.lst xs], [U.lst [[U.int k]]]] = rL ([[U.int k]] ++ xs ++ [[U.int k]]) := by
    have e1 : w64 (0 + 1) = 1 := by decide
    have e2 : w64 (1 + 1) = 2 := by decide
    have e3 : w64 (2 + 1) = 3 := by decide
    have f1 : w64 (1 + (xs.length : Int)) = ((xs.length + 1 : Nat) : Int) := by rw [show w64 (1 + (xs.length : Int)) = 1 + (xs.length : Int) from w64_id (by omega) (by omega)]; omega
    have f2 : w64 (((xs.length + 1 : Nat) : Int) + 1) = ((xs.length + 2 : Nat) : Int) := w64_nat (by omega)
    have d1 : decide ((1 : Int) < 0) = false := by decide
    have d2 : decide ((((xs.length + 1 : Nat) : Int)) < 0) = false := decide_eq_false (by omega)
    have d3 : decide ((((xs.length + 2 : Nat) : Int)) < 0) = false := decide_eq_false (by omega)
    have l1 : slices_Concat_int.l1 [[U.lst [[U.int k]]], [U.lst xs], [U.lst [[U.int k]]]] 3 0 [] = rL ([[U.int k]] ++ xs ++ [[U.int k]]) := by
      rw [slices_Concat_int.l1_eq]
      show grd (room (0 + 1) 8) (slices_Concat_int.l1 _ 3 (w64 (0 + 1)) ([] ++ [[U.int k]])) = _
      rw [grd_true (by decide), e1, slices_Concat_int.l1_eq]
      show grd (room (1 + xs.length) 8) (slices_Concat_int.l1 _ 3 (w64 (1 + 1)) ([] ++ [[U.int k]] ++ xs)) = _
      rw [grd_true (room_true (by omega) (by omega)), e2, slices_Concat_int.l1_eq]
      show grd (room (([] ++ [[U.int k]] ++ xs).length + 1) 8) (slices_Concat_int.l1 _ 3 (w64 (2 + 1)) ([] ++ [[U.int k]] ++ xs ++ [[U.int k]])) = _
      rw [grd_true (room_true (by simp; omega) (by simp; omega)), e3, slices_Concat_int.l1_eq]
      rfl
    rw [slices_Concat_int.eq, slices_Concat_int.l0_eq]
    show (bif decide (w64 (0 + 1) < 0) then none else slices_Concat_int.l0 _ (w64 (0 + 1)) _ 3 (w64 (0 + 1))) = _
    rw [e1, d1, cond_false, slices_Concat_int.l0_eq]
    show (bif decide (w64 (1 + (xs.length : Int)) < 0) then none else slices_Concat_int.l0 _ (w64 (1 + (xs.length : Int))) _ 3 (w64 (1 + 1))) = _
    rw [f1, d2, cond_false, e2, slices_Concat_int.l0_eq]
    show (bif decide (w64 (((xs.length + 1 : Nat) : Int) + 1) < 0) then none else slices_Concat_int.l0 _ (w64 (((xs.length + 1 : Nat) : Int) + 1)) _ 3 (w64 (2 + 1))) = _
    rw [f2, d3, cond_false, e3, slices_Concat_int.l0_eq]
    show grd (decide ((0 : Int) ≤ ((xs.length + 2 : Nat) : Int)) && room (((xs.length + 2 : Nat) : Int)).toNat 8) (slices_Concat_int.l1 _ 3 0 []) = _
    rw [Int.toNat_natCast, grd_true (by rw [room_true (by omega) (by omega), decide_eq_true (by omega)]; rfl), l1]
  rw [impl_KeyedHash.eq, h]
  simp only [q0, ql]
  rw [i_hash _ (by simp; omega)]; rfl
/-- A certificate is what it was marked as. -/
def certMark (k s b y f u : Int) : Int := khash k [[U.int s], [U.int b], [U.int y], [U.int f], [U.int u]]
theorem s_mark (k s b y f u m : Int) : spec_MarkCert.c k s b y f u m = some ⟨[[.int s, .int b, .int y, .int f, .int u, .int (certMark k s b y f u)]], []⟩ := by
  rw [spec_MarkCert.eq, s_khash _ _ (by simp)]; rfl
theorem i_mark (k s b y f u m : Int) : impl_MarkCert.c k s b y f u m = some ⟨[[.int s, .int b, .int y, .int f, .int u, .int (certMark k s b y f u)]], []⟩ := by
  rw [impl_MarkCert.eq, i_khash _ _ (by simp)]; rfl
end Go.Proofs.YteahcmobjegpnaaGreat.Eng
