/- Entries, revocations, uses of a world. -/
import Derived.Test.YtpkhifegfpehpaaGreatPW1
namespace Go.Proofs.YtpkhifegfpehpaaGreat.Eng
open Go.RowKit
set_option linter.unusedVariables false
set_option linter.unusedSimpArgs false
set_option maxRecDepth 100000
def has (xs : List (List U)) (v : Int) : Bool := xs.any fun x => decide (v0 x = v)
theorem s_has (xs : List (List U)) (hx : xs.length ≤ 4611686018427387904) (v : Int) : spec_l13Has.c dn xs v = rB (has xs v) := by
  rw [spec_l13Has.eq fix]
  refine (any_loop (l0 := fun i => spec_l13Has.l0 dn iterJ xs v i) (n := xs.length) (p := fun i => decide (v0 (xs.getD i []) = v)) ?_ fun i hi => ?_).trans (congrArg rB (range_any xs [] fun x => decide (v0 x = v)))
  · rw [spec_l13Has.l0_eq fix, not_lt_nat (Nat.le_refl _)]; rfl
  · rw [spec_l13Has.l0_eq fix, lt_nat hi, inRange_nat, decide_eq_true hi, wrap_nat (by omega)]; rfl
theorem i_index (xs : List (List U)) (hx : xs.length ≤ 4611686018427387904) (v : Int) : slices_Index.c dn xs v = rI (pos (fun i => decide (v = v0 (xs.getD i []))) xs.length 0) := by
  rw [slices_Index.eq fix]
  refine find_loop (l0 := fun i => slices_Index.l0 dn iterJ xs v _ i) (n := xs.length) (p := fun i => decide (v = v0 (xs.getD i []))) ?_ fun i hi => ?_
  · rw [slices_Index.l0_eq fix, not_lt_nat (Nat.le_refl _)]; rfl
  · rw [slices_Index.l0_eq fix, lt_nat hi, inRange_nat, decide_eq_true hi, wrap_nat (by omega)]; rfl
theorem any_pos {xs : List (List U)} (q : List U → Bool) : decide (pos (fun i => q (xs.getD i [])) xs.length 0 ≥ 0) = xs.any q := by
  rw [pos_any, ← List.range_eq_range', range_any xs [] q]
theorem i_has (xs : List (List U)) (hx : xs.length ≤ 4611686018427387904) (v : Int) : slices_Contains.c dn xs v = rB (has xs v) := by
  rw [slices_Contains.eq fix, i_index xs hx]
  show rB (decide (pos _ _ _ ≥ 0)) = _
  rw [any_pos fun x => decide (v = v0 x)]
  simp only [has, eq_comm]
def within (a lo hi : Int) : Bool := decide (lo ≤ a) && decide (a ≤ hi)
theorem within_inv {a lo hi : Int} (h : within a lo hi = true) : lo ≤ a ∧ a ≤ hi := by simpa [within] using h
theorem s_in (a lo hi : Int) : spec_l1In.c dn a lo hi = rB (within a lo hi) := by
  rw [spec_l1In.eq fix]; unfold within; show (bif decide (lo ≤ a) then _ else _) = _; cases decide (lo ≤ a) <;> rfl
theorem i_in (a lo hi : Int) : impl_InRange.c dn a lo hi = rB (within a lo hi) := by
  rw [impl_InRange.eq fix]; unfold within; cases decide (lo ≤ a) <;> rfl
theorem s_time (a : Int) : spec_IsTime.c dn a = rB (within a 0 10000) := by rw [spec_IsTime.eq fix, s_in]; rfl
theorem i_time (a : Int) : impl_IsTime.c dn a = rB (within a 0 10000) := by rw [impl_IsTime.eq fix, i_in]; rfl
def isWithin (a b t : Int) : Bool := within a 0 10000 && (within b 0 10000 && (within t 0 10000 && within t a b))
theorem s_within (a b t : Int) : spec_IsWithin.c dn a b t = rB (isWithin a b t) := by
  rw [spec_IsWithin.eq fix, s_time, s_time, s_time]
  show (bif within a 0 10000 then bif within b 0 10000 then bif within t 0 10000 then bif decide (a ≤ t) then _ else _ else _ else _ else _) = _
  unfold isWithin
  have e : within t a b = (decide (a ≤ t) && decide (t ≤ b)) := rfl
  rw [e]
  cases within a 0 10000
  · rfl
  cases within b 0 10000
  · rfl
  cases within t 0 10000
  · rfl
  cases decide (a ≤ t) <;> rfl
theorem i_within (a b t : Int) : impl_IsWithin.c dn a b t = rB (isWithin a b t) := by
  rw [impl_IsWithin.eq fix, i_time, i_time, i_time, i_in]
  show (bif within a 0 10000 then bif within b 0 10000 then bif within t 0 10000 then _ else _ else _ else _) = _
  unfold isWithin
  cases within a 0 10000
  · rfl
  cases within b 0 10000
  · rfl
  cases within t 0 10000 <;> rfl
/-- When a serial was revoked. -/
def revAt (xs : List (List U)) (v : Int) : Int := match xs.find? fun x => decide (v0 x = v) with
  | some x => (x.getD 1 U0).toInt
  | none => -1
theorem find_pos (xs : List (List U)) (q : List U → Bool) : (pos (fun i => q (xs.getD i [])) xs.length 0 = -1 ∧ xs.find? q = none) ∨ ∃ j : Nat, pos (fun i => q (xs.getD i [])) xs.length 0 = (j : Int) ∧ j < xs.length ∧ xs.find? q = some (xs.getD j []) := by
  have key : ∀ k i, i + k = xs.length → (pos (fun i => q (xs.getD i [])) k i = -1 ∧ (xs.drop i).find? q = none) ∨ ∃ j : Nat, pos (fun i => q (xs.getD i [])) k i = (j : Int) ∧ j < xs.length ∧ (xs.drop i).find? q = some (xs.getD j []) := by
    intro k
    induction k with
    | zero => intro i h; left; exact ⟨rfl, by rw [List.drop_eq_nil_of_le (by omega)]; rfl⟩
    | succ k ih =>
      intro i h
      have hi : i < xs.length := by omega
      have e : xs.drop i = xs.getD i [] :: xs.drop (i + 1) := by
        rw [List.drop_eq_getElem_cons hi, List.getD_eq_getElem?_getD, List.getElem?_eq_getElem hi]; rfl
      rw [e, List.find?_cons]
      unfold pos
      cases hq : q (xs.getD i [])
      · simp only [Bool.false_eq_true, if_false]
        exact ih (i + 1) (by omega)
      · right
        exact ⟨i, by simp, hi, rfl⟩
  simpa using key xs.length 0 (by omega)
theorem s_rev (xs : List (List U)) (hx : xs.length ≤ 1048576) (v : Int) : spec_RevokedAt.c dn xs v = rI (revAt xs v) := by
  rw [spec_RevokedAt.eq fix]
  have key : ∀ i, i ≤ xs.length → spec_RevokedAt.l0 dn iterJ xs v (i : Int) = rI (revAt (xs.drop i) v) := by
    refine down xs.length ?_ ?_
    · rw [spec_RevokedAt.l0_eq fix, not_lt_nat (Nat.le_refl _), List.drop_length]; rfl
    · intro i hi h
      have e : xs.drop i = xs.getD i [] :: xs.drop (i + 1) := by
        rw [List.drop_eq_getElem_cons hi, List.getD_eq_getElem?_getD, List.getElem?_eq_getElem hi]; rfl
      rw [spec_RevokedAt.l0_eq fix, lt_nat hi, inRange_nat, decide_eq_true hi, wrap_nat (by omega), Int.toNat_natCast, e, h]
      unfold revAt
      rw [List.find?_cons]
      show (bif decide (v0 (xs.getD i []) = v) then _ else _) = _
      cases decide (v0 (xs.getD i []) = v) <;> rfl
  have := key 0 (Nat.zero_le _)
  rwa [List.drop_zero] at this
theorem i_rev (xs : List (List U)) (hx : xs.length ≤ 1048576) (v : Int) : impl_RevokedAt.c dn xs v = rI (revAt xs v) := by
  have : slices_IndexFunc_4.c dn xs v = rI (pos (fun i => decide (v0 (xs.getD i []) = v)) xs.length 0) := by
    rw [slices_IndexFunc_4.eq fix]
    refine find_loop (l0 := fun i => slices_IndexFunc_4.l0 dn iterJ xs v _ i) (n := xs.length) (p := fun i => decide (v0 (xs.getD i []) = v)) ?_ fun i hi => ?_
    · rw [slices_IndexFunc_4.l0_eq fix, not_lt_nat (Nat.le_refl _)]; rfl
    · rw [slices_IndexFunc_4.l0_eq fix, lt_nat hi, inRange_nat, decide_eq_true hi, wrap_nat (by omega), impl_RevokedAt_1.eq fix]; rfl
  rw [impl_RevokedAt.eq fix, this]
  unfold revAt
  simp only [Option.bind_some, Ret.u_mk, List.getD_cons_zero, U.toInt_int]
  rcases find_pos xs fun x => decide (v0 x = v) with ⟨h1, h2⟩ | ⟨j, h1, h2, h3⟩
  · rw [h1, h2]; rfl
  · rw [h1, h3, decide_eq_false (by omega : ¬ ((j : Int) < 0)), inRange_nat, decide_eq_true h2]; rfl
theorem row112_eq {x : List U} (h : WTs tabs.ct (tabs.ct 112) x) : [U.int (x.getD 0 U0).toInt, U.int (x.getD 1 U0).toInt, U.int (x.getD 2 U0).toInt, U.int (x.getD 3 U0).toInt, U.int (x.getD 4 U0).toInt, U.int (x.getD 5 U0).toInt, U.int (x.getD 6 U0).toInt, U.int (x.getD 7 U0).toInt, U.int (x.getD 8 U0).toInt] = x := by
  obtain ⟨c0, c1, c2, c3, c4, c5, c6, c7, c8, rfl⟩ := row112 h
  rfl
/-- The entries of a kind. -/
def entries (ts : List (List U)) (k : Int) : List (List U) := (flat ts).filter fun e => decide (v0 e = k)
theorem i_entries (a0 : Int) (a1 a2 a3 a4 : List (List U)) (a5 : Int) (a6 a7 a8 a9 : List (List U)) (a10 : Int) (a11 a12 a13 a14 a15 a16 : List (List U)) (a17 : Int) (a18 a19 : List (List U)) (k : Int) (h : WR tabs.ct 109 a9) (hc : cntRs a9 ≤ 1048576) : impl_entriesOf.c dn a0 a1 a2 a3 a4 a5 a6 a7 a8 a9 a10 a11 a12 a13 a14 a15 a16 a17 a18 a19 k = some ⟨[[.lst (entries a9 k)]], []⟩ := by
  have hl := cntRs_length a9
  rw [impl_entriesOf.eq fix]
  have := gather_out (l0 := fun i s => impl_entriesOf.l0 dn iterJ k a9 (a9.length : Int) i s) (R := fun s => some ⟨[[.lst s]], []⟩) (ts := a9) (f := fun x => (x.getD 0 U0).toLst.filter fun e => decide (v0 e = k)) (g := fun x => (x.getD 0 U0).toLst) (M := 1048576) (fun x => List.length_filter_le _ _) (fun s hs => ?_) (fun i hi s hs => ?_) [] (by have := flat_le a9; unfold flat at this; simp only [List.length_nil]; omega)
  · refine this.trans ?_
    unfold entries flat
    rw [List.filter_flatMap]; rfl
  · rw [impl_entriesOf.l0_eq fix, not_lt_nat (Nat.le_refl _)]; rfl
  · obtain ⟨l, hr, hw⟩ := row109 (h.2 _ (getD_mem hi (z := [])))
    have h1 := trail_le hi hr
    have h2 := cntRs_length l
    rw [impl_entriesOf.l0_eq fix, lt_nat hi, inRange_nat, decide_eq_true hi, Int.toNat_natCast, hr]
    rw [hr] at hs
    refine gather_in (l1 := fun j s => impl_entriesOf.l1 dn iterJ k a9 (a9.length : Int) i l (l.length : Int) j s) (K := fun s => impl_entriesOf.l0 dn iterJ k a9 (a9.length : Int) ((i + 1 : Nat) : Int) s) (l := l) (p := fun e => decide (v0 e = k)) (M := 1048576) (fun s hs => ?_) (fun j hj s hs => ?_) s hs
    · rw [impl_entriesOf.l1_eq fix, not_lt_nat (Nat.le_refl _), wrap_nat (n := i) (by omega)]; rfl
    · rw [impl_entriesOf.l1_eq fix, lt_nat hj, inRange_nat, decide_eq_true hj, Int.toNat_natCast, row112_eq (hw.2 _ (getD_mem hj (z := []))), room_true (by simp; omega) (by simp; omega), wrap_nat (n := j) (by omega)]; rfl
/-- What bounds a permit. -/
def late (rv : List (List U)) (e : List U) : Bool := decide ((e.getD 6 U0).toInt = 1) && (decide (revAt rv (e.getD 3 U0).toInt ≥ 0) && decide (IntKind.i64.wrap ((e.getD 1 U0).toInt - 10) > revAt rv (e.getD 3 U0).toInt))
def bounded (ts rv : List (List U)) : Bool := (entries ts 1).all fun e => !late rv e
theorem all_flat (ts : List (List U)) (q : List U → Bool) : ((List.range ts.length).all fun i => ((ts.getD i []).getD 0 U0).toLst.all q) = (flat ts).all q := by
  rw [range_all ts [] fun x => (x.getD 0 U0).toLst.all q, flat, List.all_flatMap]
theorem s_bounded (a0 : Int) (a1 a2 a3 a4 : List (List U)) (a5 : Int) (a6 a7 a8 a9 : List (List U)) (a10 : Int) (a11 a12 a13 a14 a15 a16 : List (List U)) (a17 : Int) (a18 a19 : List (List U)) (h : WR tabs.ct 109 a9) (hc : cntRs a9 ≤ 1048576) (hr : a4.length ≤ 1048576) : spec_PermitsBounded.c dn a0 a1 a2 a3 a4 a5 a6 a7 a8 a9 a10 a11 a12 a13 a14 a15 a16 a17 a18 a19 = rB (bounded a9 a4) := by
  have hl := cntRs_length a9
  rw [spec_PermitsBounded.eq fix]
  refine (all_loop3 (l0 := fun i => spec_PermitsBounded.l0 dn iterJ i a0 a1 a2 a3 a4 a5 a6 a7 a8 a9 a10 a11 a12 a13 a14 a15 a16 a17 a18 a19) (n := a9.length) (p := fun i => ((a9.getD i []).getD 0 U0).toLst.all fun e => !(decide (v0 e = 1) && late a4 e)) (R := rB true) (F := rB false) ?_ fun i hi => ?_).trans ?_
  · rw [spec_PermitsBounded.l0_eq fix, not_lt_nat (Nat.le_refl _)]; rfl
  · obtain ⟨l, hrow, hw⟩ := row109 (h.2 _ (getD_mem hi (z := [])))
    have h1 := trail_le hi hrow
    have h2 := cntRs_length l
    rw [spec_PermitsBounded.l0_eq fix, lt_nat hi, hrow]
    refine (all_loop3 (l0 := fun j => spec_PermitsBounded.l1 dn iterJ i j a0 a1 a2 a3 a4 a5 a6 a7 a8 a9 a10 a11 a12 a13 a14 a15 a16 a17 a18 a19) (n := l.length) (p := fun j => !(decide (v0 (l.getD j []) = 1) && late a4 (l.getD j []))) (R := spec_PermitsBounded.l0 dn iterJ ((i + 1 : Nat) : Int) a0 a1 a2 a3 a4 a5 a6 a7 a8 a9 a10 a11 a12 a13 a14 a15 a16 a17 a18 a19) (F := rB false) ?_ fun j hj => ?_).trans ?_
    · rw [spec_PermitsBounded.l1_eq fix, inRange_nat, decide_eq_true hi, Int.toNat_natCast, hrow]
      show (bif decide ((l.length : Int) < (l.length : Int)) then _ else _) = _
      rw [not_lt_nat (Nat.le_refl _), wrap_nat (n := i) (by omega)]; rfl
    · rw [spec_PermitsBounded.l1_eq fix, inRange_nat, decide_eq_true hi, Int.toNat_natCast, hrow]
      show (bif decide ((j : Int) < (l.length : Int)) then bif inRange (j : Int) l.length then _ else _ else _) = _
      rw [lt_nat hj, inRange_nat, decide_eq_true hj, wrap_nat (n := j) (by omega)]
      show ((spec_RevokedAt.c dn a4 (((l.getD j []).getD 3 U0).toInt)).bind _) = _
      rw [s_rev _ hr]
      show (bif decide (v0 (l.getD j []) = 1) then bif decide (((l.getD j []).getD 6 U0).toInt = 1) then bif decide (revAt a4 ((l.getD j []).getD 3 U0).toInt ≥ 0) then bif decide (IntKind.i64.wrap (((l.getD j []).getD 1 U0).toInt - 10) > revAt a4 ((l.getD j []).getD 3 U0).toInt) then _ else _ else _ else _ else _) = _
      unfold late
      cases decide (v0 (l.getD j []) = 1)
      · rfl
      cases decide (((l.getD j []).getD 6 U0).toInt = 1)
      · rfl
      cases decide (revAt a4 ((l.getD j []).getD 3 U0).toInt ≥ 0)
      · rfl
      cases decide (IntKind.i64.wrap (((l.getD j []).getD 1 U0).toInt - 10) > revAt a4 ((l.getD j []).getD 3 U0).toInt) <;> rfl
    · rw [range_all l [] fun e => !(decide (v0 e = 1) && late a4 e)]; rfl
  · rw [all_flat]
    unfold bounded entries
    rw [List.all_filter]
    have e : (fun e : List U => !(decide (v0 e = 1) && late a4 e)) = fun e => !decide (v0 e = 1) || !late a4 e := by funext e; rw [Bool.not_and]
    rw [e]
    cases (flat a9).all _ <;> rfl
theorem i_bounded (a0 : Int) (a1 a2 a3 a4 : List (List U)) (a5 : Int) (a6 a7 a8 a9 : List (List U)) (a10 : Int) (a11 a12 a13 a14 a15 a16 : List (List U)) (a17 : Int) (a18 a19 : List (List U)) (h : WR tabs.ct 109 a9) (hc : cntRs a9 ≤ 1048576) (hr : a4.length ≤ 1048576) : impl_PermitsBounded.c dn a0 a1 a2 a3 a4 a5 a6 a7 a8 a9 a10 a11 a12 a13 a14 a15 a16 a17 a18 a19 = rB (bounded a9 a4) := by
  have hfl := flat_le a9
  have hel : (entries a9 1).length ≤ 1048576 := by unfold entries; have := List.length_filter_le (fun e => decide (v0 e = 1)) (flat a9); omega
  rw [impl_PermitsBounded.eq fix, i_entries _ _ _ _ _ _ _ _ _ _ _ _ _ _ _ _ _ _ _ _ _ h hc]
  show ((slices_ContainsFunc.c dn (entries a9 1) a0 a1 a2 a3 a4 a5 a6 a7 a8 a9 a10 a11 a12 a13 a14 a15 a16 a17 a18 a19).bind _) = _
  have : slices_IndexFunc_1.c dn (entries a9 1) a0 a1 a2 a3 a4 a5 a6 a7 a8 a9 a10 a11 a12 a13 a14 a15 a16 a17 a18 a19 = rI (pos (fun i => late a4 ((entries a9 1).getD i [])) (entries a9 1).length 0) := by
    rw [slices_IndexFunc_1.eq fix]
    generalize entries a9 1 = es at hel
    refine find_loop (l0 := fun i => slices_IndexFunc_1.l0 dn iterJ es a0 a1 a2 a3 a4 a5 a6 a7 a8 a9 a10 a11 a12 a13 a14 a15 a16 a17 a18 a19 _ i) (n := es.length) (p := fun i => late a4 (es.getD i [])) ?_ fun i hi => ?_
    · rw [slices_IndexFunc_1.l0_eq fix, not_lt_nat (Nat.le_refl _)]; rfl
    · rw [slices_IndexFunc_1.l0_eq fix, lt_nat hi, inRange_nat, decide_eq_true hi, wrap_nat (by omega), impl_PermitsBounded_1.eq fix, i_rev _ hr]
      show (Option.bind (bif decide (((es.getD i []).getD 6 U0).toInt = 1) then bif decide (revAt a4 ((es.getD i []).getD 3 U0).toInt ≥ 0) then _ else _ else _) _) = _
      unfold late
      cases h1 : decide (((es.getD i []).getD 6 U0).toInt = 1)
      · rfl
      cases h2 : decide (revAt a4 ((es.getD i []).getD 3 U0).toInt ≥ 0) <;> rfl
  rw [slices_ContainsFunc.eq fix, this]
  show rB (!decide (pos _ _ _ ≥ 0)) = _
  rw [any_pos (late a4)]
  unfold bounded
  rw [List.all_eq_not_any_not]
  simp only [Bool.not_not]
/-- Whether two actions are kept apart. -/
def apart (l : List (List U)) (a b o : Int) : Bool := l.any fun x => decide ((x.getD 2 U0).toInt = o) && (decide (v0 x = a) && decide ((x.getD 1 U0).toInt = b) || decide (v0 x = b) && decide ((x.getD 1 U0).toInt = a))
theorem s_apart (l : List (List U)) (hl : l.length ≤ 1048576) (a b o : Int) : spec_AreApart.c dn l a b o = rB (apart l a b o) := by
  rw [spec_AreApart.eq fix]
  refine (any_loop (l0 := fun i => spec_AreApart.l0 dn iterJ l a b o i) (n := l.length) (p := fun i => decide (((l.getD i []).getD 2 U0).toInt = o) && (decide (v0 (l.getD i []) = a) && decide (((l.getD i []).getD 1 U0).toInt = b) || decide (v0 (l.getD i []) = b) && decide (((l.getD i []).getD 1 U0).toInt = a))) ?_ fun i hi => ?_).trans (congrArg rB (range_any l [] fun x => decide ((x.getD 2 U0).toInt = o) && (decide (v0 x = a) && decide ((x.getD 1 U0).toInt = b) || decide (v0 x = b) && decide ((x.getD 1 U0).toInt = a))))
  · rw [spec_AreApart.l0_eq fix, not_lt_nat (Nat.le_refl _)]; rfl
  · rw [spec_AreApart.l0_eq fix, lt_nat hi, inRange_nat, decide_eq_true hi, wrap_nat (by omega), Int.toNat_natCast]
    cases decide (((l.getD i []).getD 2 U0).toInt = o)
    · rfl
    cases decide (((l.getD i []).getD 0 U0).toInt = a) <;> cases decide (((l.getD i []).getD 1 U0).toInt = b) <;> cases decide (((l.getD i []).getD 0 U0).toInt = b) <;> cases decide (((l.getD i []).getD 1 U0).toInt = a) <;> rfl
theorem i_has3 (l : List (List U)) (hl : l.length ≤ 1048576) (a b o : Int) : slices_Contains_1.c dn l a b o = rB (l.any fun x => decide (a = v0 x) && (decide (b = (x.getD 1 U0).toInt) && (decide (o = (x.getD 2 U0).toInt) && true))) := by
  have : slices_Index_1.c dn l a b o = rI (pos (fun i => decide (a = v0 (l.getD i [])) && (decide (b = ((l.getD i []).getD 1 U0).toInt) && (decide (o = ((l.getD i []).getD 2 U0).toInt) && true))) l.length 0) := by
    rw [slices_Index_1.eq fix]
    refine find_loop (l0 := fun i => slices_Index_1.l0 dn iterJ l _ i a b o) (n := l.length) (p := fun i => decide (a = v0 (l.getD i [])) && (decide (b = ((l.getD i []).getD 1 U0).toInt) && (decide (o = ((l.getD i []).getD 2 U0).toInt) && true))) ?_ fun i hi => ?_
    · rw [slices_Index_1.l0_eq fix, not_lt_nat (Nat.le_refl _)]; rfl
    · rw [slices_Index_1.l0_eq fix, lt_nat hi, inRange_nat, decide_eq_true hi, wrap_nat (by omega)]; rfl
  rw [slices_Contains_1.eq fix, this]
  show rB (decide (pos _ _ _ ≥ 0)) = _
  rw [any_pos fun x => decide (a = v0 x) && (decide (b = (x.getD 1 U0).toInt) && (decide (o = (x.getD 2 U0).toInt) && true))]
theorem i_apart (l : List (List U)) (hl : l.length ≤ 1048576) (a b o : Int) : impl_AreApart.c dn l a b o = rB (apart l b a o) := by
  rw [impl_AreApart.eq fix, i_has3 _ hl, i_has3 _ hl]
  have e : apart l b a o = ((l.any fun x => decide (a = v0 x) && (decide (b = (x.getD 1 U0).toInt) && (decide (o = (x.getD 2 U0).toInt) && true))) || (l.any fun x => decide (b = v0 x) && (decide (a = (x.getD 1 U0).toInt) && (decide (o = (x.getD 2 U0).toInt) && true)))) := by
    unfold apart
    induction l with
    | nil => rfl
    | cons x xs ih =>
      rw [List.any_cons, List.any_cons, List.any_cons, ih (by simp at hl; omega)]
      simp only [eq_comm (a := a), eq_comm (a := b), eq_comm (a := o), Bool.and_true]
      generalize (xs.any _) = A
      generalize (xs.any _) = B
      cases decide ((x.getD 2 U0).toInt = o) <;> cases decide (v0 x = a) <;> cases decide ((x.getD 1 U0).toInt = b) <;> cases decide (v0 x = b) <;> cases decide ((x.getD 1 U0).toInt = a) <;> cases A <;> cases B <;> rfl
  rw [e]
  cases (l.any fun x => decide (a = v0 x) && (decide (b = (x.getD 1 U0).toInt) && (decide (o = (x.getD 2 U0).toInt) && true))) <;> rfl
/-- Whether a use clashes with one before. -/
def clash (l : List (List U)) (u x : List U) : Bool := decide (v0 u = v0 x) && (decide ((u.getD 2 U0).toInt = (x.getD 2 U0).toInt) && apart l (u.getD 1 U0).toInt (x.getD 1 U0).toInt (u.getD 2 U0).toInt)
def separate (l us : List (List U)) : Bool := (List.range us.length).all fun i => !((us.take i).any fun x => clash l (us.getD i []) x)
theorem s_separate (l us : List (List U)) (hl : l.length ≤ 1048576) (hu : us.length ≤ 1048576) : spec_IsSeparate.c dn l us = rB (separate l us) := by
  rw [spec_IsSeparate.eq fix]
  refine (all_loop2 (l0 := fun i => spec_IsSeparate.l0 dn iterJ l us i) (n := us.length) (p := fun i => !((us.take i).any fun x => clash l (us.getD i []) x)) (b := true) ?_ fun i hi => ?_).trans (by rw [Bool.and_true]; rfl)
  · rw [spec_IsSeparate.l0_eq fix, not_lt_nat (Nat.le_refl _)]; rfl
  · rw [spec_IsSeparate.l0_eq fix, lt_nat hi]
    have htl : (us.take i).length = i := by rw [List.length_take]; omega
    refine (any_loop3 (l0 := fun k => spec_IsSeparate.l1 dn iterJ l us i k) (n := (us.take i).length) (p := fun k => clash l (us.getD i []) ((us.take i).getD k [])) (R := spec_IsSeparate.l0 dn iterJ l us ((i + 1 : Nat) : Int)) (F := rB false) ?_ fun k hk => ?_).trans ?_
    · rw [spec_IsSeparate.l1_eq fix, htl, not_lt_nat (Nat.le_refl _), wrap_nat (n := i) (by omega)]; rfl
    · have e1 : (us.take i).getD k [] = us.getD k [] := by
        rw [List.getD_eq_getElem?_getD, List.getD_eq_getElem?_getD, List.getElem?_take, if_pos (by omega)]
      rw [spec_IsSeparate.l1_eq fix, lt_nat (by omega : k < i), inRange_nat, inRange_nat, decide_eq_true hi, decide_eq_true (by omega), wrap_nat (n := k) (by omega), e1, s_apart _ hl]
      unfold clash
      simp only [Int.toNat_natCast, cond_true, Option.bind_some, Ret.u_mk, List.getD_cons_zero, U.toBool_bool]
      cases decide (v0 (us.getD i []) = v0 (us.getD k []))
      · rfl
      cases decide (((us.getD i []).getD 2 U0).toInt = ((us.getD k []).getD 2 U0).toInt) <;> rfl
    · rw [range_any (us.take i) [] fun x => clash l (us.getD i []) x]
      cases (us.take i).any _ <;> rfl
theorem i_mayDo (l us : List (List U)) (hl : l.length ≤ 1048576) (hu : us.length ≤ 1048576) (u : List U) : impl_MayDo.c dn l us (v0 u) (u.getD 1 U0).toInt (u.getD 2 U0).toInt = rB (!(us.any fun x => clash l u x)) := by
  have : slices_IndexFunc_3.c dn us (v0 u) (u.getD 2 U0).toInt l (u.getD 1 U0).toInt = rI (pos (fun i => clash l u (us.getD i [])) us.length 0) := by
    rw [slices_IndexFunc_3.eq fix]
    refine find_loop (l0 := fun i => slices_IndexFunc_3.l0 dn iterJ us (v0 u) (u.getD 2 U0).toInt l (u.getD 1 U0).toInt _ i) (n := us.length) (p := fun i => clash l u (us.getD i [])) ?_ fun i hi => ?_
    · rw [slices_IndexFunc_3.l0_eq fix, not_lt_nat (Nat.le_refl _)]; rfl
    · rw [slices_IndexFunc_3.l0_eq fix, lt_nat hi, inRange_nat, decide_eq_true hi, wrap_nat (by omega), impl_MayDo_1.eq fix, i_apart _ hl, Int.toNat_natCast]
      unfold clash
      simp only [eq_comm (a := v0 u), eq_comm (a := (u.getD 2 U0).toInt)]
      cases decide (v0 (us.getD i []) = v0 u)
      · rfl
      cases decide (((us.getD i []).getD 2 U0).toInt = (u.getD 2 U0).toInt) <;> rfl
  rw [impl_MayDo.eq fix, slices_ContainsFunc_2.eq fix, this]
  show rB (!decide (pos _ _ _ ≥ 0)) = _
  rw [any_pos (clash l u)]
theorem i_separate (l us : List (List U)) (hl : l.length ≤ 1048576) (hu : us.length ≤ 1048576) : impl_IsSeparate.c dn l us = rB (separate l us) := by
  rw [impl_IsSeparate.eq fix]
  refine (all_loop2 (l0 := fun i => impl_IsSeparate.l0 dn iterJ l us us _ i) (n := us.length) (p := fun i => !((us.take i).any fun x => clash l (us.getD i []) x)) (b := true) ?_ fun i hi => ?_).trans (by rw [Bool.and_true]; rfl)
  · rw [impl_IsSeparate.l0_eq fix, not_lt_nat (Nat.le_refl _)]; rfl
  · have htl : (us.take i).length = i := by rw [List.length_take]; omega
    have e0 : Int.toNat ((i : Int) - 0) = i := by omega
    rw [impl_IsSeparate.l0_eq fix, lt_nat hi, inRange_nat, decide_eq_true hi, wrap_nat (by omega), decide_eq_true (by omega), e0, Int.toNat_natCast]
    show ((impl_MayDo.c dn l (us.take i) (v0 (us.getD i [])) ((us.getD i []).getD 1 U0).toInt ((us.getD i []).getD 2 U0).toInt).bind _) = _
    rw [i_mayDo l _ hl (by omega)]
    cases (us.take i).any _ <;> rfl
end Go.Proofs.YtpkhifegfpehpaaGreat.Eng
