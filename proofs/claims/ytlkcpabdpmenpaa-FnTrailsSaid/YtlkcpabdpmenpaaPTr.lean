/- Ranges, times, hashes, trails. -/
import Derived.Test.YtlkcpabdpmenpaaPN
import Derived.Test.YtlkcpabdpmenpaaFAll
namespace Go.Proofs.Ytlkcpabdpmenpaa.Eng
open Go.RowKit
set_option linter.unusedVariables false
set_option linter.unusedSimpArgs false
set_option linter.unusedSectionVars false
set_option maxRecDepth 100000
variable [Sm]
abbrev v0 (x : List U) : Int := ui x 0
def within (a lo hi : Int) : Bool := decide (lo ≤ a) && decide (a ≤ hi)
theorem within_inv {a lo hi : Int} (h : within a lo hi = true) : lo ≤ a ∧ a ≤ hi := by simpa [within] using h
theorem within_of {a lo hi : Int} (h : lo ≤ a) (h' : a ≤ hi) : within a lo hi = true := by simp [within, h, h']
theorem s_in (a lo hi : Int) : spec_l1In.c a lo hi = rB (within a lo hi) := by simp only [spec_l1In.eq, cB, ctf]; rfl
theorem i_in (a lo hi : Int) : impl_InRange.c a lo hi = rB (within a lo hi) := by simp only [impl_InRange.eq, cB, ctf]; rfl
theorem s_time (a : Int) : spec_IsTime.c a = rB (within a 0 10000) := by simp only [spec_IsTime.eq, s_in, q0, qb]
theorem i_time (a : Int) : impl_IsTime.c a = rB (within a 0 10000) := by simp only [impl_IsTime.eq, i_in, q0, qb]
def md (n : Int) : Int := (w64 (n.tmod 2147483647 + 2147483647)).tmod 2147483647
theorem s_mod (n : Int) : spec_Mod.c n 2147483647 = rI (md n) := by simp only [spec_Mod.eq, s_in, q0, qb]; rfl
theorem i_mod (n : Int) : impl_Mod.c n 2147483647 = rI (md n) := by simp only [impl_Mod.eq, i_in, q0, qb]; rfl
def hst (d : Int) (x : List U) : Int := (w64 (w64 (w64 (d * 1000003) + md (v0 x)) + 13)).tmod 2147483647
def hashL (xs : LL) : Int := xs.foldl hst 11
theorem s_hash (xs : LL) (hx : xs.length ≤ 4611686018427387904) : spec_Hash.c xs = rI (hashL xs) := by
  rw [spec_Hash.eq]
  refine foldL (l0 := fun s i => spec_Hash.l0 xs s i) (R := rI) (st := hst) (fun s => ?_) (fun i hi s => ?_) 11
  · rw [spec_Hash.l0_eq, not_lt_nat (Nat.le_refl _)]; rfl
  · show _ = _
    rw [spec_Hash.l0_eq, lt_nat hi, in_nat hi, s_mod, w64_nat (by omega)]; rfl
theorem i_hash (xs : LL) (hx : xs.length ≤ 4611686018427387904) : impl_Hash.c xs = rI (hashL xs) := by
  rw [impl_Hash.eq]
  refine foldL (l0 := fun s i => impl_Hash.l0 s xs _ i) (R := rI) (st := hst) (fun s => ?_) (fun i hi s => ?_) 11
  · rw [impl_Hash.l0_eq, not_lt_nat (Nat.le_refl _)]; rfl
  · show _ = _
    rw [impl_Hash.l0_eq, lt_nat hi, in_nat hi, i_mod, w64_nat (by omega)]; rfl
theorem cand {α : Type} {a b : Bool} {x y : α} : (bif a && b then x else y) = bif a then (bif b then x else y) else y := by cases a <;> rfl
/-! ### Grants -/
/-! ### Trails -/
def markL0 (xs : LL) : Int := bif decide (ln xs = 0) then 0 else ui (xs.getD (xs.length - 1) []) 8
def lastOk (xs : LL) (a : Int) : Bool := bif decide (ln xs > 0) then !decide (a < ui (xs.getD (xs.length - 1) []) 1) else true
def entOk (xs : LL) (k a : Int) : Bool := !decide (ln xs ≥ 60) && (within k 1 3 && (within a 0 10000 && lastOk xs a))
def entRow (xs : LL) (i0 i1 i2 i3 i4 i5 i6 i7 : Int) : List U := [U.int i0, U.int i1, U.int i2, U.int i3, U.int i4, U.int i5, U.int i6, U.int i7, U.int (hashL ([[U.int (markL0 xs)]] ++ [[U.int i0], [U.int i1], [U.int i2], [U.int i3], [U.int i4], [U.int i5], [U.int i6], [U.int i7]]))]
theorem last_ix {xs : LL} (hx : xs.length ≤ 1048576) (h : decide (ln xs = 0) = false) : w64 (ln xs - 1) = ((xs.length - 1 : Nat) : Int) ∧ xs.length - 1 < xs.length := by
  have h : ¬ ln xs = 0 := of_decide_eq_false h
  have e : ln xs = (xs.length : Int) := rfl
  rw [e] at h ⊢
  refine ⟨?_, by omega⟩
  rw [w64_id (by omega) (by omega)]; omega
theorem s_mark0 (xs : LL) (hx : xs.length ≤ 1048576) : spec_LastMark.c xs = rI (markL0 xs) := by
  rw [spec_LastMark.eq]
  unfold markL0
  cases h : decide (ln xs = 0)
  · obtain ⟨h1, h2⟩ := last_ix hx h
    rw [h1, in_nat h2]; rfl
  · rfl
theorem i_mark0 (xs : LL) (hx : xs.length ≤ 1048576) : impl_LastMark.c xs = rI (markL0 xs) := by
  rw [impl_LastMark.eq]
  unfold markL0
  cases h : decide (ln xs = 0)
  · obtain ⟨h1, h2⟩ := last_ix hx h
    rw [h1, in_nat h2]; rfl
  · rfl
theorem pos_of {xs : LL} (h : decide (ln xs > 0) = true) : decide (ln xs = 0) = false := by
  have h : ln xs > 0 := of_decide_eq_true h
  exact decide_eq_false (by omega)
theorem s_append (xs : LL) (hx : xs.length ≤ 1048576) (i0 i1 i2 i3 i4 i5 i6 i7 i8 : Int) : spec_AppendEntry.c xs i0 i1 i2 i3 i4 i5 i6 i7 i8 = bif entOk xs i0 i1 then some ⟨[[.lst (xs ++ [entRow xs i0 i1 i2 i3 i4 i5 i6 i7])], [.bool true]], []⟩ else some ⟨[[.lst xs], [.bool false]], []⟩ := by
  rw [spec_AppendEntry.eq, s_in, s_time, s_mark0 xs hx, spec_EntryInts.eq, room_true (by omega) (by omega)]
  have hh : spec_Hash.c ([[U.int (markL0 xs)]] ++ [[U.int i0], [U.int i1], [U.int i2], [U.int i3], [U.int i4], [U.int i5], [U.int i6], [U.int i7]]) = rI (hashL ([[U.int (markL0 xs)]] ++ [[U.int i0], [U.int i1], [U.int i2], [U.int i3], [U.int i4], [U.int i5], [U.int i6], [U.int i7]])) := s_hash _ (by simp)
  unfold entOk lastOk
  simp only [q0, qb, qi, ql, gt_, cand, cnot, hh]
  cases decide (ln xs ≥ 60)
  · cases within i0 1 3
    · rfl
    cases within i1 0 10000
    · rfl
    rw [room_true (n := xs.length + [_].length) (by simp; omega) (by simp; omega)]
    cases h : decide (ln xs > 0)
    · rfl
    · obtain ⟨h1, h2⟩ := last_ix hx (pos_of h)
      rw [h1, in_nat h2]
      show (bif decide (i1 < ui (xs.getD (xs.length - 1) []) 1) then _ else _) = _
      cases decide (i1 < ui (xs.getD (xs.length - 1) []) 1) <;> rfl
  · rfl
theorem i_append (xs : LL) (hx : xs.length ≤ 1048576) (i0 i1 i2 i3 i4 i5 i6 i7 i8 : Int) : impl_AppendEntry.c xs i0 i1 i2 i3 i4 i5 i6 i7 i8 = bif entOk xs i0 i1 then some ⟨[[.lst (xs ++ [entRow xs i0 i1 i2 i3 i4 i5 i6 i7])], [.bool true]], []⟩ else some ⟨[[.lst xs], [.bool false]], []⟩ := by
  rw [impl_AppendEntry.eq, i_in, i_time, i_mark0 xs hx, impl_EntryInts.eq, room_true (by omega) (by omega)]
  have hh : impl_Hash.c ([[U.int (markL0 xs)]] ++ [[U.int i0], [U.int i1], [U.int i2], [U.int i3], [U.int i4], [U.int i5], [U.int i6], [U.int i7]]) = rI (hashL ([[U.int (markL0 xs)]] ++ [[U.int i0], [U.int i1], [U.int i2], [U.int i3], [U.int i4], [U.int i5], [U.int i6], [U.int i7]])) := i_hash _ (by simp)
  unfold entOk lastOk
  simp only [q0, qb, qi, ql, gt_, cand, cnot, hh]
  cases decide (ln xs ≥ 60)
  · cases within i0 1 3
    · rfl
    cases within i1 0 10000
    · rfl
    rw [room_true (n := xs.length + [_].length) (by simp; omega) (by simp; omega)]
    cases h : decide (ln xs > 0)
    · rfl
    · obtain ⟨h1, h2⟩ := last_ix hx (pos_of h)
      rw [h1, in_nat h2]
      show (bif decide (ui (xs.getD (xs.length - 1) []) 1 > i1) then _ else _) = _
      rw [show decide (ui (xs.getD (xs.length - 1) []) 1 > i1) = decide (i1 < ui (xs.getD (xs.length - 1) []) 1) from rfl]
      cases decide (i1 < ui (xs.getD (xs.length - 1) []) 1) <;> rfl
  · rfl
/-- Two entries are the same. -/
def ent9 (x y : List U) : Bool := decide (ui x 0 = ui y 0) && (decide (ui x 1 = ui y 1) && (decide (ui x 2 = ui y 2) && (decide (ui x 3 = ui y 3) && (decide (ui x 4 = ui y 4) && (decide (ui x 5 = ui y 5) && (decide (ui x 6 = ui y 6) && (decide (ui x 7 = ui y 7) && (decide (ui x 8 = ui y 8) && true))))))))
def rowFor (s : LL) (x : List U) : List U := entRow s (ui x 0) (ui x 1) (ui x 2) (ui x 3) (ui x 4) (ui x 5) (ui x 6) (ui x 7)
def trailL : LL → LL → Bool
  | [], _ => true
  | x :: xs, s => entOk s (ui x 0) (ui x 1) && (ent9 (rowFor s x) x && trailL xs (s ++ [rowFor s x]))
theorem trail_len : ∀ (xs s : LL), trailL xs s = true → xs = [] ∨ xs.length + s.length ≤ 60
  | [], _, _ => .inl rfl
  | x :: xs, s, h => by
    simp only [trailL, Bool.and_eq_true] at h
    obtain ⟨h1, h2, h3⟩ := h
    right
    have h4 := trail_len xs _ h3
    unfold entOk at h1
    simp only [Bool.and_eq_true, Bool.not_eq_true', decide_eq_false_iff_not] at h1
    have h5 := h1.1
    have e : ln s = (s.length : Int) := rfl
    rw [e] at h5
    rcases h4 with rfl | h4
    · simp; omega
    · simp at h4 ⊢; omega
theorem app_get (s : LL) (x : List U) : (s ++ [x]).getD s.length [] = x := by
  rw [List.getD_eq_getElem?_getD, List.getElem?_append_right (Nat.le_refl _), Nat.sub_self]; rfl
theorem w_pred {i : Nat} (h : i ≤ 4611686018427387904) : w64 (((i + 1 : Nat) : Int) - 1) = (i : Int) := by rw [w64_id (by omega) (by omega)]; omega
theorem s_tr (xs : LL) (hx : xs.length ≤ 1048576) : ∀ (k i : Nat) (s : LL), i + k = xs.length → s.length = i → spec_IsTrail.l0 xs (i : Int) s = rB (trailL (xs.drop i) s)
  | 0, i, s, hk, hs => by
    rw [spec_IsTrail.l0_eq, not_lt_nat (by omega), List.drop_eq_nil_of_le (by omega)]; rfl
  | k + 1, i, s, hk, hs => by
    have hi : i < xs.length := by omega
    have ih := s_tr xs hx k (i + 1) (s ++ [rowFor s (xs.getD i [])]) (by omega) (by simp; omega)
    rw [spec_IsTrail.l0_eq, lt_nat hi, in_nat hi, w64_nat (by omega), s_append s (by omega), drop_get hi]
    unfold trailL
    show ((bif entOk s (ui (xs.getD i []) 0) (ui (xs.getD i []) 1) then (some ⟨[[.lst (s ++ [rowFor s (xs.getD i [])])], [.bool true]], []⟩ : O) else (some ⟨[[.lst s], [.bool false]], []⟩ : O)).bind _) = _
    cases entOk s (ui (xs.getD i []) 0) (ui (xs.getD i []) 1)
    · rfl
    show grd (inRange (i : Int) (s ++ [rowFor s (xs.getD i [])]).length) _ = _
    rw [in_nat (show i < (s ++ [rowFor s (xs.getD i [])]).length by simp; omega)]
    have hg : ∀ j, gi (s ++ [rowFor s (xs.getD i [])]) (i : Int) j = ui (rowFor s (xs.getD i [])) j := fun j => by
      show (((s ++ [rowFor s (xs.getD i [])]).getD i []).getD j U0).toInt = _
      rw [← hs, app_get]
    show (bif !(decide (gi (s ++ [rowFor s (xs.getD i [])]) (i : Int) 0 = _) && (decide (gi (s ++ [rowFor s (xs.getD i [])]) (i : Int) 1 = _) && (decide (gi (s ++ [rowFor s (xs.getD i [])]) (i : Int) 2 = _) && (decide (gi (s ++ [rowFor s (xs.getD i [])]) (i : Int) 3 = _) && (decide (gi (s ++ [rowFor s (xs.getD i [])]) (i : Int) 4 = _) && (decide (gi (s ++ [rowFor s (xs.getD i [])]) (i : Int) 5 = _) && (decide (gi (s ++ [rowFor s (xs.getD i [])]) (i : Int) 6 = _) && (decide (gi (s ++ [rowFor s (xs.getD i [])]) (i : Int) 7 = _) && (decide (gi (s ++ [rowFor s (xs.getD i [])]) (i : Int) 8 = _) && true))))))))) then rB false else spec_IsTrail.l0 xs ((i + 1 : Nat) : Int) (s ++ [rowFor s (xs.getD i [])])) = _
    rw [ih]
    simp only [hg]
    show (bif !ent9 (rowFor s (xs.getD i [])) (xs.getD i []) then _ else _) = rB (ent9 (rowFor s (xs.getD i [])) (xs.getD i []) && _)
    cases ent9 (rowFor s (xs.getD i [])) (xs.getD i []) <;> rfl
theorem i_tr (xs : LL) (hx : xs.length ≤ 1048576) : ∀ (k i : Nat) (s : LL), i + k = xs.length → s.length = i → impl_IsTrail.l0 xs (ln xs) (i : Int) s = rB (trailL (xs.drop i) s)
  | 0, i, s, hk, hs => by
    rw [impl_IsTrail.l0_eq, not_lt_nat (by omega), List.drop_eq_nil_of_le (by omega)]; rfl
  | k + 1, i, s, hk, hs => by
    have hi : i < xs.length := by omega
    have ih := i_tr xs hx k (i + 1) (s ++ [rowFor s (xs.getD i [])]) (by omega) (by simp; omega)
    rw [impl_IsTrail.l0_eq, lt_nat hi, in_nat hi, w64_nat (by omega), i_append s (by omega), drop_get hi]
    unfold trailL
    show ((bif entOk s (ui (xs.getD i []) 0) (ui (xs.getD i []) 1) then (some ⟨[[.lst (s ++ [rowFor s (xs.getD i [])])], [.bool true]], []⟩ : O) else (some ⟨[[.lst s], [.bool false]], []⟩ : O)).bind _) = _
    cases entOk s (ui (xs.getD i []) 0) (ui (xs.getD i []) 1)
    · rfl
    have e1 : w64 (ln (s ++ [rowFor s (xs.getD i [])]) - 1) = (i : Int) := by
      have : ln (s ++ [rowFor s (xs.getD i [])]) = ((i + 1 : Nat) : Int) := by
        show (((s ++ [rowFor s (xs.getD i [])]).length : Nat) : Int) = _
        rw [List.length_append, hs]; rfl
      rw [this, w_pred (by omega)]
    show grd (inRange (w64 (ln (s ++ [rowFor s (xs.getD i [])]) - 1)) (s ++ [rowFor s (xs.getD i [])]).length) (bif !(decide (gi (s ++ [rowFor s (xs.getD i [])]) (w64 (ln (s ++ [rowFor s (xs.getD i [])]) - 1)) 0 = _) && (decide (gi (s ++ [rowFor s (xs.getD i [])]) (w64 (ln (s ++ [rowFor s (xs.getD i [])]) - 1)) 1 = _) && (decide (gi (s ++ [rowFor s (xs.getD i [])]) (w64 (ln (s ++ [rowFor s (xs.getD i [])]) - 1)) 2 = _) && (decide (gi (s ++ [rowFor s (xs.getD i [])]) (w64 (ln (s ++ [rowFor s (xs.getD i [])]) - 1)) 3 = _) && (decide (gi (s ++ [rowFor s (xs.getD i [])]) (w64 (ln (s ++ [rowFor s (xs.getD i [])]) - 1)) 4 = _) && (decide (gi (s ++ [rowFor s (xs.getD i [])]) (w64 (ln (s ++ [rowFor s (xs.getD i [])]) - 1)) 5 = _) && (decide (gi (s ++ [rowFor s (xs.getD i [])]) (w64 (ln (s ++ [rowFor s (xs.getD i [])]) - 1)) 6 = _) && (decide (gi (s ++ [rowFor s (xs.getD i [])]) (w64 (ln (s ++ [rowFor s (xs.getD i [])]) - 1)) 7 = _) && (decide (gi (s ++ [rowFor s (xs.getD i [])]) (w64 (ln (s ++ [rowFor s (xs.getD i [])]) - 1)) 8 = _) && true))))))))) then rB false else impl_IsTrail.l0 xs (ln xs) ((i + 1 : Nat) : Int) (s ++ [rowFor s (xs.getD i [])])) = _
    rw [e1, in_nat (show i < (s ++ [rowFor s (xs.getD i [])]).length by simp; omega), gt_]
    have hg : ∀ j, gi (s ++ [rowFor s (xs.getD i [])]) (i : Int) j = ui (rowFor s (xs.getD i [])) j := fun j => by
      show (((s ++ [rowFor s (xs.getD i [])]).getD i []).getD j U0).toInt = _
      rw [← hs, app_get]
    rw [ih]
    simp only [hg]
    show (bif !ent9 (rowFor s (xs.getD i [])) (xs.getD i []) then _ else _) = rB (ent9 (rowFor s (xs.getD i [])) (xs.getD i []) && _)
    cases ent9 (rowFor s (xs.getD i [])) (xs.getD i []) <;> rfl
def isTrail (xs : LL) : Bool := trailL xs []
theorem s_trail (xs : LL) (hx : xs.length ≤ 1048576) : spec_IsTrail.c xs = rB (isTrail xs) := by
  rw [spec_IsTrail.eq]
  have h := s_tr xs hx xs.length 0 [] (by omega) rfl
  rw [List.drop_zero] at h
  have h : spec_IsTrail.l0 xs 0 [] = rB (isTrail xs) := h
  rw [h]
  have e : ln xs = (xs.length : Int) := rfl
  cases hc : decide (ln xs > 60)
  · rfl
  · have hc := of_decide_eq_true hc
    show rB false = rB (isTrail xs)
    congr 1
    cases ht : isTrail xs
    · rfl
    · rcases trail_len xs [] ht with rfl | h1
      · exact absurd hc (by decide)
      · simp at h1; omega
theorem i_trail (xs : LL) (hx : xs.length ≤ 1048576) : impl_IsTrail.c xs = rB (isTrail xs) := by
  rw [impl_IsTrail.eq]
  have h := i_tr xs hx xs.length 0 [] (by omega) rfl
  rw [List.drop_zero] at h
  exact h
end Go.Proofs.Ytlkcpabdpmenpaa.Eng
